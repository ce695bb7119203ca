/- OrderPages answers true at every input of bulk at most 1048576, and its arguments read as they did: the card. -/
import Derived.Test.YtfdokiknemihpaaGreatDoorCards
import Derived.Test.YtfdokiknemihpaaGreatDoorTie
import Derived.WalkKit
import Derived.ProofKit
import Derived.OpenShut
import Derived.Deep.DeepHandedRow
import Derived.Lib.LaidTab
import Derived.Test.YtfdokiknemihpaaGreatDoorOp
namespace Go.Proofs.YtfdokiknemihpaaGreatDoor.orderPages
open Go.ChangeShapes Go.WideShapes Go.ChangeAt Go.RowKit

theorem bulk {H : Type} : Go.Ab.Bulk (Rows.uptoBulk (H := H)) := by
  have all : ∀ (l : List (DataW H)), l.length ≤ Rows.uptoBulkAll l ∧ ∀ e ∈ l, Rows.uptoBulk e ≤ Rows.uptoBulkAll l := by
    have one : ∀ d : DataW H, 1 ≤ Rows.uptoBulk d := fun d => by
      cases d with
      | lit l => cases l <;> simp [Rows.uptoBulk]
      | _ => simp [Rows.uptoBulk]
    intro l
    induction l with
    | nil => exact ⟨by simp [Rows.uptoBulkAll], fun e he => by cases he⟩
    | cons x r ih =>
      refine ⟨by have := one x; simp only [Rows.uptoBulkAll, List.length_cons]; omega, fun e he => ?_⟩
      simp only [Rows.uptoBulkAll]
      rcases List.mem_cons.1 he with rfl | he
      · omega
      · have := ih.2 e he; omega
  refine ⟨fun l => by simp [Rows.uptoBulk], fun es sp => ?_, fun es sp e he => ?_, fun ps p hp => ?_⟩
  · have := (all es).1; simp only [Rows.uptoBulk]; omega
  · have := (all es).2 e he; simp only [Rows.uptoBulk]; omega
  · have := (all ps).2 p hp; simp only [Rows.uptoBulk]; omega

theorem small {H : Type} {l : List (DataW H)} (h : Rows.uptoSmall H l = true) : ∀ d ∈ l, Rows.uptoBulk d ≤ 1048576 := by
  intro d hd
  have h1 : Rows.uptoBulkAll l ≤ 1048576 := of_decide_eq_true h
  have h2 : Rows.uptoBulk d ≤ Rows.uptoBulkAll l := by
    clear h h1
    induction l with
    | nil => cases hd
    | cons x r ih =>
      simp only [Rows.uptoBulkAll]
      rcases List.mem_cons.1 hd with rfl | hd
      · omega
      · have := ih hd; omega
  omega

theorem own : ownKnob Tryz.prog.godebug = none := by kernel_rfl

set_option maxRecDepth 100000 in
/-- What the call gives, at every argument. -/
theorem contract (H : Type) (enc : TypeId × Value → H) (W : World) (base : Nat) (args : Array Value) (ds gs : List (DataW H)) (before : List MemPlace)
    (hval : ∀ (j : Nat) t v, Tryz.f4.params[j]? = some t → args[j]? = some v → Value.okWide Tryz.prog W .any base t v)
    (hW : DataW.Whole enc Tryz.prog Tryz.f4.params.toList Rows.orderPagesSpec.vars false W args.toList ds gs before) (hS : Rows.uptoSmall H (ds ++ gs) = true) :
    Calls Tryz.prog 4 args W fun e W' => ∃ v, e = .returned v ∧ Rows.orderPagesSpec.post enc Tryz.prog Tryz.f4 false true false false W args v W' := by
  refine Go.Ab.law_calls (x := Go.Ab.X4) (bk := Rows.uptoBulk) (B := 1048576) (ss := Go.Ab.sh4) (tb := 4) Go.Ab.ck12 bulk rfl (fun j t v hj hv => ⟨_, _, hval j t v hj hv⟩) hW (fun d hd => small hS d (List.mem_append_left _ hd)) (by kernel_rfl) ?_ (by kernel_rfl) (by kernel_rfl) ?_ (by kernel_rfl) Go.Ab.law4
  · intro t ht
    have : ∀ t ∈ Tryz.f4.params.toList, (Tryz.prog.readableRec t && decide (t < Tryz.prog.types.size)) = true := List.all_eq_true.1 (by kernel_rfl)
    have := this t ht
    simp only [Bool.and_eq_true, decide_eq_true_eq] at this
    exact this
  · obtain ⟨p, q, hA0, hV, _⟩ := hW
    have hA : DataW.TrodAll enc Tryz.prog W 0 (fun _ => true) true Tryz.f4.params.toList args.toList ds p := hA0
    rw [Tryz.params4] at hA
    obtain ⟨v0, vs0, d0, ds0, p0, q0, _, rfl, rfl, _, r0⟩ := trodAll_cons hA
    obtain ⟨v1, vs1, d1, ds1, p1, q1, _, rfl, rfl, _, r1⟩ := trodAll_cons r0
    obtain ⟨v2, vs2, d2, ds2, p2, q2, _, rfl, rfl, _, r2⟩ := trodAll_cons r1
    obtain ⟨v3, vs3, d3, ds3, p3, q3, _, rfl, rfl, _, r3⟩ := trodAll_cons r2
    obtain ⟨_, rfl, rfl⟩ := trodAll_nil r3
    obtain ⟨rfl, rfl⟩ := trodVars_none hV
    exact ⟨rfl, rfl, rfl⟩

/-- A world for the witness: the tables hold what their initialisers lay. -/
noncomputable def heap1 (os : Os) := (World.holding Tryz.prog os ⟨#[], #[], []⟩).heap.modify 0 fun
  | .cells _ t frozen => .cells (Go.Pinned.utf8FirstZ.map fun (n : Nat) => Value.int .u8 (n : Int)).toArray t frozen
  | o => o
noncomputable def heap2 (os : Os) := (heap1 os).modify 1 fun
  | .cells _ t frozen => .cells (([128, 191, 160, 191, 128, 159, 144, 191, 128, 143, 0, 0, 0, 0, 0, 0, 0, 0, 0, 0, 0, 0, 0, 0, 0, 0, 0, 0, 0, 0, 0, 0] : List Nat).map fun (n : Nat) => Value.int .u8 (n : Int)).toArray t frozen
  | o => o
noncomputable def laidWorld (os : Os) : World := { World.holding Tryz.prog os ⟨#[], #[], []⟩ with heap := heap2 os }
noncomputable def wit : Array Value := #[.slice none 0 0, .slice none 0 0, .int .i64 0, .agg #[.slice none 0 0, .slice none 0 0]]
theorem laid_met (os : Os) : laidMet Tryz.prog Rows.orderPagesRow.laid ((laidWorld os).forCall (fun _ _ => 0) ⟨#[], wit, []⟩).memory :=
  laidMet_of_run' 8 (by kernel_rfl) (by kernel_rfl)
theorem reads (os : Os) {H : Type} (enc : TypeId × Value → H) : ∃ places, DataW.whole enc Tryz.prog ((laidWorld os).forCall (fun _ _ => 0) ⟨#[], wit, []⟩).memory Tryz.f4.params.toList Rows.orderPagesSpec.vars false wit.toList 8 = some ([.nil, .nil, .lit (.int .i64 0), .agg [.nil, .nil]], [], places) :=
  ⟨[], by kernel_rfl⟩

set_option maxRecDepth 100000 in
theorem liftedUpto (os : Os) (started : os.Started) (H : Type) (enc : TypeId × Value → H) (F : Stop.Interp) :
    ReturnsInHanded {} Tryz.checked os 4 .any ((Rows.OpenSpec.upto Rows.orderPagesSpec).preRow enc Tryz.prog Tryz.f4 Rows.orderPagesUptoRow.domain false Rows.orderPagesUptoRow.laid) (((Rows.OpenSpec.upto Rows.orderPagesSpec).at F).post enc Tryz.prog Tryz.f4 false true false false) := by
  obtain ⟨places, hx⟩ := reads os enc
  refine returnsInHanded_of_row (C := Tryz.checked) (s := Rows.OpenSpec.upto Rows.orderPagesSpec) own started (by kernel_rfl) Tryz.func4
    (witness_row_at (enc := enc) (C := Tryz.checked) false (laidWorld os) wit rfl (by kernel_rfl) (by kernel_rfl) (by kernel_rfl)
      (OpenSpec.preRow_of_cond 8 hx (by kernel_rfl) (fun k hk => by cases hk; kernel_rfl) (by kernel_rfl) (laid_met os))) ?_
  intro W base args ds gs before hval hW _ hcond _ _ _ _
  exact contract H enc W base args ds gs before hval hW (hcond _ rfl)

theorem saidUpto : Rows.OrderPagesUptoSaid :=
  OpenClaim.holds_of_cond 4 Tryz.f4 rfl rfl rfl rfl rfl rfl rfl ⟨rfl, rfl, rfl, rfl, rfl⟩ rfl rfl rfl rfl rfl (by kernel_rfl) Tryz.func4 (by kernel_rfl)
    (of_decide_eq_true (by kernel_rfl)) (by unfold Func.isWrapper; first | (rw [if_pos (by decide +kernel)]; kernel_rfl) | (rw [if_neg (by decide +kernel)]; exact ⟨rfl, rfl⟩))
    (fun os started H enc _ F => by rw [OpenClaim.pre_eq_preRow]; exact liftedUpto os started H enc F)

theorem plain (f : FuncId) (fn : Func) (hf : Tryz.pinned.checked.prog.funcNamed "stylus/styluslaw23.OrderPages" = some f) (hfn : Tryz.pinned.checked.prog.funcs[f]? = some fn) :
    false = Tryz.pinned.checked.prog.looks [] ∧ ∀ (j : Nat) t, fn.params[j]? = some t → Tryz.pinned.checked.prog.wantsStandIn t = false := by
  obtain rfl : f = 4 := Option.some.inj ((show Tryz.prog.funcNamed "stylus/styluslaw23.OrderPages" = some 4 by kernel_rfl).symm.trans hf) |>.symm
  obtain rfl : fn = Tryz.f4 := (Option.some.inj (Tryz.func4.symm.trans hfn)).symm
  refine ⟨by kernel_rfl, fun j t ht => ?_⟩
  have : ∀ t ∈ Tryz.f4.params.toList, (!Tryz.prog.wantsStandIn t) = true := List.all_eq_true.1 (by kernel_rfl)
  have := this t (by simpa using Array.mem_of_getElem? ht)
  have h2 : Tryz.prog.wantsStandIn t = false := by simpa using this
  exact h2

/-- The card. -/
theorem cardUpto : Rows.OrderPagesUptoCardSaid :=
  Claim7.holds_tied_plain_at .later [] _ _ _ _ saidUpto (fun _ h => by cases h) (by kernel_rfl) (fun _ h => by cases h) orderPagesUpto_row_tie rfl ⟨rfl, rfl⟩ (by kernel_rfl) rfl plain (by kernel_rfl)
end Go.Proofs.YtfdokiknemihpaaGreatDoor.orderPages
