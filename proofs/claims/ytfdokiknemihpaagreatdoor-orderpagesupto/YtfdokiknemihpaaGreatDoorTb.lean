/- Printed by program: functions of the seat as the abstract machine runs them, and tables of their calls. -/
import Derived.Test.YtfdokiknemihpaaGreatDoorTa
set_option maxRecDepth 100000
namespace Go.Ab
open Go.Proofs
theorem e187_0_ok : EntryOK (gx ss0 tree) 187 e187_0 := .exec (gx_fits _ _) 100000 [] (by kernel_rfl)
theorem b165_0 : bytesOK (xx ss1 tree) 100000 165 classG 0 64 = true := by kernel_rfl
end Go.Ab
