/- Printed by program: functions of the seat as the abstract machine runs them, and tables of their calls. -/
import Derived.Test.YtfdokiknemihpaaGreatDoorTb
import Derived.Test.YtfdokiknemihpaaGreatDoorTc
import Derived.Test.YtfdokiknemihpaaGreatDoorTd
import Derived.Test.YtfdokiknemihpaaGreatDoorTe
import Derived.Test.YtfdokiknemihpaaGreatDoorTf
import Derived.Test.YtfdokiknemihpaaGreatDoorTg
import Derived.Test.YtfdokiknemihpaaGreatDoorTh
import Derived.Test.YtfdokiknemihpaaGreatDoorTi
import Derived.Test.YtfdokiknemihpaaGreatDoorTj
import Derived.Test.YtfdokiknemihpaaGreatDoorTk
set_option maxRecDepth 100000
namespace Go.Ab
open Go.Proofs
theorem sk0 {c : Ctx} : ∀ p ∈ ss0, SumOK c Tryz.prog p.1 p.2.S := fun _ h => nomatch h
theorem ck0 : CtxOK (gx ss0 tree).c Tryz.prog := ctxOK_of anyOK treeOK sk0 (fun _ h => nomatch h)
theorem s187 {c : Ctx} : SumOK c Tryz.prog 187 (tableS t187) := sumOK_table ck0 ok187.body (List.forall_mem_cons.2 ⟨e187_0_ok, (fun _ h => nomatch h)⟩)
theorem sk1 {c : Ctx} : ∀ p ∈ ss1, SumOK c Tryz.prog p.1 p.2.S := List.forall_mem_cons.2 ⟨s187, (fun _ h => nomatch h)⟩
theorem ck1 : CtxOK (gx ss1 tree).c Tryz.prog := ctxOK_of anyOK treeOK sk1 (fun _ h => nomatch h)
theorem s165 {c : Ctx} : SumOK c Tryz.prog 165 (Sm.fn (ofG classG)).S := by
  show SumOK c Tryz.prog 165 (funSpec (ofG classG))
  rw [funSpec_ofG]
  exact sumOK_bytes ck1 (gx_fits ss1 tree) ok165.body classG_bytes 100000 b165_0 b165_64 b165_128 b165_192
theorem s115 {c : Ctx} : SumOK c Tryz.prog 115 (Sm.fn (ofG classG)).S := by
  show SumOK c Tryz.prog 115 (funSpec (ofG classG))
  rw [funSpec_ofG]
  exact sumOK_bytes ck1 (gx_fits ss1 tree) ok115.body classG_bytes 100000 b115_0 b115_64 b115_128 b115_192
theorem sk2 {c : Ctx} : ∀ p ∈ ss2, SumOK c Tryz.prog p.1 p.2.S := List.forall_mem_cons.2 ⟨s165, List.forall_mem_cons.2 ⟨s115, (fun _ h => nomatch h)⟩⟩
theorem ck2 : CtxOK (gx ss2 tree).c Tryz.prog := ctxOK_of anyOK treeOK sk2 (fun _ h => nomatch h)
theorem s137 {c : Ctx} : SumOK c Tryz.prog 137 (tableS t137) := sumOK_table ck2 ok137.body (List.forall_mem_cons.2 ⟨e137_0_ok, List.forall_mem_cons.2 ⟨e137_1_ok, List.forall_mem_cons.2 ⟨e137_2_ok, (fun _ h => nomatch h)⟩⟩⟩)
theorem sk3 {c : Ctx} : ∀ p ∈ ss3, SumOK c Tryz.prog p.1 p.2.S := List.forall_mem_cons.2 ⟨s137, sk2⟩
theorem ck3 : CtxOK (gx ss3 tree).c Tryz.prog := ctxOK_of anyOK treeOK sk3 (fun _ h => nomatch h)
theorem s60 {c : Ctx} : SumOK c Tryz.prog 60 (tableS t60) := sumOK_table ck3 ok60.body (List.forall_mem_cons.2 ⟨e60_0_ok, (fun _ h => nomatch h)⟩)
theorem sk4 {c : Ctx} : ∀ p ∈ ss4, SumOK c Tryz.prog p.1 p.2.S := List.forall_mem_cons.2 ⟨s60, sk3⟩
theorem ck4 : CtxOK (gx ss4 tree).c Tryz.prog := ctxOK_of anyOK treeOK sk4 (fun _ h => nomatch h)
theorem s25 {c : Ctx} : SumOK c Tryz.prog 25 (tableS t25) := sumOK_table ck4 ok25.body (List.forall_mem_cons.2 ⟨e25_0_ok, List.forall_mem_cons.2 ⟨e25_1_ok, List.forall_mem_cons.2 ⟨e25_2_ok, (fun _ h => nomatch h)⟩⟩⟩)
theorem sk5 {c : Ctx} : ∀ p ∈ ss5, SumOK c Tryz.prog p.1 p.2.S := List.forall_mem_cons.2 ⟨s25, sk4⟩
theorem ck5 : CtxOK (gx ss5 tree).c Tryz.prog := ctxOK_of anyOK treeOK sk5 (fun _ h => nomatch h)
theorem s9 {c : Ctx} : SumOK c Tryz.prog 9 (tableS t9) := sumOK_table ck5 ok9.body (List.forall_mem_cons.2 ⟨e9_0_ok, List.forall_mem_cons.2 ⟨e9_1_ok, List.forall_mem_cons.2 ⟨e9_2_ok, (fun _ h => nomatch h)⟩⟩⟩)
theorem sk6 {c : Ctx} : ∀ p ∈ ss6, SumOK c Tryz.prog p.1 p.2.S := List.forall_mem_cons.2 ⟨s9, sk5⟩
theorem ck6 : CtxOK (gx ss6 tree).c Tryz.prog := ctxOK_of anyOK treeOK sk6 (fun _ h => nomatch h)
theorem s55 {c : Ctx} : SumOK c Tryz.prog 55 (tableS t55) := sumOK_table ck6 ok55.body (List.forall_mem_cons.2 ⟨e55_0_ok, List.forall_mem_cons.2 ⟨e55_1_ok, List.forall_mem_cons.2 ⟨e55_2_ok, List.forall_mem_cons.2 ⟨e55_3_ok, (fun _ h => nomatch h)⟩⟩⟩⟩)
theorem sk7 {c : Ctx} : ∀ p ∈ ss7, SumOK c Tryz.prog p.1 p.2.S := List.forall_mem_cons.2 ⟨s55, sk6⟩
theorem ck7 : CtxOK (gx ss7 tree).c Tryz.prog := ctxOK_of anyOK treeOK sk7 (fun _ h => nomatch h)
theorem s34 {c : Ctx} : SumOK c Tryz.prog 34 (tableS t34) := sumOK_table ck7 ok34.body (List.forall_mem_cons.2 ⟨e34_0_ok, List.forall_mem_cons.2 ⟨e34_1_ok, List.forall_mem_cons.2 ⟨e34_2_ok, (fun _ h => nomatch h)⟩⟩⟩)
theorem sk8 {c : Ctx} : ∀ p ∈ ss8, SumOK c Tryz.prog p.1 p.2.S := List.forall_mem_cons.2 ⟨s34, sk7⟩
theorem ck8 : CtxOK (gx ss8 tree).c Tryz.prog := ctxOK_of anyOK treeOK sk8 (fun _ h => nomatch h)
theorem s19 {c : Ctx} : SumOK c Tryz.prog 19 (tableS t19) := sumOK_table ck8 ok19.body (List.forall_mem_cons.2 ⟨e19_0_ok, List.forall_mem_cons.2 ⟨e19_1_ok, List.forall_mem_cons.2 ⟨e19_2_ok, (fun _ h => nomatch h)⟩⟩⟩)
theorem sk9 {c : Ctx} : ∀ p ∈ ss9, SumOK c Tryz.prog p.1 p.2.S := List.forall_mem_cons.2 ⟨s19, sk8⟩
theorem ck9 : CtxOK (gx ss9 tree).c Tryz.prog := ctxOK_of anyOK treeOK sk9 (fun _ h => nomatch h)
theorem s41 {c : Ctx} : SumOK c Tryz.prog 41 (tableS t41) := sumOK_table ck9 ok41.body (List.forall_mem_cons.2 ⟨e41_0_ok, List.forall_mem_cons.2 ⟨e41_1_ok, List.forall_mem_cons.2 ⟨e41_2_ok, List.forall_mem_cons.2 ⟨e41_3_ok, (fun _ h => nomatch h)⟩⟩⟩⟩)
theorem sk10 {c : Ctx} : ∀ p ∈ ss10, SumOK c Tryz.prog p.1 p.2.S := List.forall_mem_cons.2 ⟨s41, sk9⟩
theorem ck10 : CtxOK (gx ss10 tree).c Tryz.prog := ctxOK_of anyOK treeOK sk10 (fun _ h => nomatch h)
theorem s23 {c : Ctx} : SumOK c Tryz.prog 23 (tableS t23) := sumOK_table ck10 ok23.body (List.forall_mem_cons.2 ⟨e23_0_ok, List.forall_mem_cons.2 ⟨e23_1_ok, List.forall_mem_cons.2 ⟨e23_2_ok, List.forall_mem_cons.2 ⟨e23_3_ok, (fun _ h => nomatch h)⟩⟩⟩⟩)
theorem sk11 {c : Ctx} : ∀ p ∈ ss11, SumOK c Tryz.prog p.1 p.2.S := List.forall_mem_cons.2 ⟨s23, sk10⟩
theorem ck11 : CtxOK (gx ss11 tree).c Tryz.prog := ctxOK_of anyOK treeOK sk11 (fun _ h => nomatch h)
theorem s7 {c : Ctx} : SumOK c Tryz.prog 7 (tableS t7) := sumOK_table ck11 ok7.body (List.forall_mem_cons.2 ⟨e7_0_ok, (fun _ h => nomatch h)⟩)
theorem sk12 {c : Ctx} : ∀ p ∈ ss12, SumOK c Tryz.prog p.1 p.2.S := List.forall_mem_cons.2 ⟨s7, sk11⟩
theorem ck12 : CtxOK (gx ss12 tree).c Tryz.prog := ctxOK_of anyOK treeOK sk12 (fun _ h => nomatch h)
end Go.Ab
