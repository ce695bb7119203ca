/- Printed by program: functions of the seat as the abstract machine runs them, and tables of their calls. -/
import Derived.Test.YtfdokiknemihpaaGreatDoorTa
set_option maxRecDepth 100000
namespace Go.Ab
open Go.Proofs
theorem e25_0_ok : EntryOK (gx ss4 tree) 25 e25_0 := .exec (gx_fits _ _) 100000 [137] (by kernel_rfl)
theorem e25_1_ok : EntryOK (gx ss4 tree) 25 e25_1 := .exec (gx_fits _ _) 100000 [462] (by kernel_rfl)
end Go.Ab
