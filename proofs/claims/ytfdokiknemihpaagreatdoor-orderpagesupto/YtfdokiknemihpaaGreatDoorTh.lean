/- Printed by program: functions of the seat as the abstract machine runs them, and tables of their calls. -/
import Derived.Test.YtfdokiknemihpaaGreatDoorTa
set_option maxRecDepth 100000
namespace Go.Ab
open Go.Proofs
theorem e25_2_ok : EntryOK (gx ss4 tree) 25 e25_2 := .exec (gx_fits _ _) 100000 [86] (by kernel_rfl)
theorem e9_0_ok : EntryOK (gx ss5 tree) 9 e9_0 := .exec (gx_fits _ _) 100000 [849, 653] (by kernel_rfl)
theorem e9_1_ok : EntryOK (gx ss5 tree) 9 e9_1 := .exec (gx_fits _ _) 100000 [1306, 852] (by kernel_rfl)
theorem e9_2_ok : EntryOK (gx ss5 tree) 9 e9_2 := .exec (gx_fits _ _) 100000 [414] (by kernel_rfl)
theorem e55_0_ok : EntryOK (gx ss6 tree) 55 e55_0 := .exec (gx_fits _ _) 100000 [] (by kernel_rfl)
theorem e55_1_ok : EntryOK (gx ss6 tree) 55 e55_1 := .exec (gx_fits _ _) 100000 [] (by kernel_rfl)
theorem e55_2_ok : EntryOK (gx ss6 tree) 55 e55_2 := .exec (gx_fits _ _) 100000 [] (by kernel_rfl)
theorem e55_3_ok : EntryOK (gx ss6 tree) 55 e55_3 := .exec (gx_fits _ _) 100000 [] (by kernel_rfl)
end Go.Ab
