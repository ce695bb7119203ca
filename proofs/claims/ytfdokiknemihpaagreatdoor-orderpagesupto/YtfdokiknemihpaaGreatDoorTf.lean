/- Printed by program: functions of the seat as the abstract machine runs them, and tables of their calls. -/
import Derived.Test.YtfdokiknemihpaaGreatDoorTa
set_option maxRecDepth 100000
namespace Go.Ab
open Go.Proofs
theorem b115_192 : bytesOK (xx ss1 tree) 100000 115 classG 192 64 = true := by kernel_rfl
theorem e137_0_ok : EntryOK (gx ss2 tree) 137 e137_0 := .bwp (gx_fits _ _) 100000 [5] (by kernel_rfl) (by kernel_rfl)
theorem e137_1_ok : EntryOK (gx ss2 tree) 137 e137_1 := .bwp (gx_fits _ _) 100000 [5] (by kernel_rfl) (by kernel_rfl)
theorem e137_2_ok : EntryOK (gx ss2 tree) 137 e137_2 := .bwp (gx_fits _ _) 100000 [5] (by kernel_rfl) (by kernel_rfl)
theorem e60_0_ok : EntryOK (gx ss3 tree) 60 e60_0 := .exec (gx_fits _ _) 100000 [] (by kernel_rfl)
end Go.Ab
