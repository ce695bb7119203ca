/- Printed by program: functions of the seat as the abstract machine runs them, and tables of their calls. -/
import Derived.Test.YtfdokiknemihpaaGreatDoorTa
set_option maxRecDepth 100000
namespace Go.Ab
open Go.Proofs
theorem b165_64 : bytesOK (xx ss1 tree) 100000 165 classG 64 64 = true := by kernel_rfl
theorem b165_128 : bytesOK (xx ss1 tree) 100000 165 classG 128 64 = true := by kernel_rfl
end Go.Ab
