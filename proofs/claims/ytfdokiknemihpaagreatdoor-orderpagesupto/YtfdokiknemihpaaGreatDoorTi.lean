/- Printed by program: functions of the seat as the abstract machine runs them, and tables of their calls. -/
import Derived.Test.YtfdokiknemihpaaGreatDoorTa
set_option maxRecDepth 100000
namespace Go.Ab
open Go.Proofs
theorem e34_0_ok : EntryOK (gx ss7 tree) 34 e34_0 := .exec (gx_fits _ _) 100000 [5772, 5657] (by kernel_rfl)
theorem e34_1_ok : EntryOK (gx ss7 tree) 34 e34_1 := .exec (gx_fits _ _) 100000 [5314, 5199, 7429, 7358] (by kernel_rfl)
theorem e34_2_ok : EntryOK (gx ss7 tree) 34 e34_2 := .exec (gx_fits _ _) 100000 [722] (by kernel_rfl)
theorem e19_0_ok : EntryOK (gx ss8 tree) 19 e19_0 := .exec (gx_fits _ _) 100000 [112, 132, 168, 285] (by kernel_rfl)
end Go.Ab
