/- Printed by program: functions of the seat as the abstract machine runs them, and tables of their calls. -/
import Derived.Test.YtfdokiknemihpaaGreatDoorTa
set_option maxRecDepth 100000
namespace Go.Ab
open Go.Proofs
theorem b165_192 : bytesOK (xx ss1 tree) 100000 165 classG 192 64 = true := by kernel_rfl
theorem b115_0 : bytesOK (xx ss1 tree) 100000 115 classG 0 64 = true := by kernel_rfl
end Go.Ab
