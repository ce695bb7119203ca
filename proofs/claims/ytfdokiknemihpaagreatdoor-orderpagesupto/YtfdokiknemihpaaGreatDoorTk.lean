/- Printed by program: functions of the seat as the abstract machine runs them, and tables of their calls. -/
import Derived.Test.YtfdokiknemihpaaGreatDoorTa
set_option maxRecDepth 100000
namespace Go.Ab
open Go.Proofs
theorem e23_2_ok : EntryOK (gx ss10 tree) 23 e23_2 := .exec (gx_fits _ _) 100000 [2869] (by kernel_rfl)
theorem e23_3_ok : EntryOK (gx ss10 tree) 23 e23_3 := .exec (gx_fits _ _) 100000 [1838] (by kernel_rfl)
theorem e7_0_ok : EntryOK (gx ss11 tree) 7 e7_0 := .exec (gx_fits _ _) 100000 [] (by kernel_rfl)
end Go.Ab
