/- Printed by program: functions of the seat as the abstract machine runs them, and tables of their calls. -/
import Derived.Test.YtfdokiknemihpaaGreatDoorTa
set_option maxRecDepth 100000
namespace Go.Ab
open Go.Proofs
theorem e19_1_ok : EntryOK (gx ss8 tree) 19 e19_1 := .exec (gx_fits _ _) 100000 [114, 134, 170, 247, 283, 340] (by kernel_rfl)
theorem e19_2_ok : EntryOK (gx ss8 tree) 19 e19_2 := .exec (gx_fits _ _) 100000 [151, 179] (by kernel_rfl)
theorem e41_0_ok : EntryOK (gx ss9 tree) 41 e41_0 := .exec (gx_fits _ _) 100000 [14] (by kernel_rfl)
theorem e41_1_ok : EntryOK (gx ss9 tree) 41 e41_1 := .exec (gx_fits _ _) 100000 [14] (by kernel_rfl)
theorem e41_2_ok : EntryOK (gx ss9 tree) 41 e41_2 := .exec (gx_fits _ _) 100000 [14] (by kernel_rfl)
theorem e41_3_ok : EntryOK (gx ss9 tree) 41 e41_3 := .exec (gx_fits _ _) 100000 [14] (by kernel_rfl)
theorem e23_0_ok : EntryOK (gx ss10 tree) 23 e23_0 := .exec (gx_fits _ _) 100000 [1998] (by kernel_rfl)
theorem e23_1_ok : EntryOK (gx ss10 tree) 23 e23_1 := .exec (gx_fits _ _) 100000 [7503] (by kernel_rfl)
end Go.Ab
