/- Summaries, proved in a context of their own; a context's functions as a tree. -/
import Derived.Test.YtfdokiknemihpaaGreatDoorAbU
import Derived.Test.YtfdokiknemihpaaGreatDoorAbV
import Derived.Test.YtfdokiknemihpaaGreatDoorAbBx
namespace Go.Ab

/-! ### What lies elsewhere -/
/-- Values that name no block. -/
def AV.flat : AV → Bool
  | .bool _ | .int _ _ | .str _ | .nilptr | .nilslice | .nilmap | .nilfunc | .nilIface => true
  | _ => false

theorem VRel.flat {E E' : Emb} {v : AV} {x : Value} (h : VRel E v x) (hf : v.flat = true) : VRel E' v x := by
  cases h <;> simp only [AV.flat] at hf <;> first | (cases hf; done) | skip
  · exact .bool _
  · exact .int _ _
  · exact .str _ _ ‹_›
  · exact .nilptr
  · exact .nilslice
  · exact .nilmap
  · exact .nilfunc
  · exact .nilIface

theorem VsRel.flat {E E' : Emb} : ∀ {vs : List AV} {xs : List Value}, VsRel E vs xs → vs.all AV.flat = true → VsRel E' vs xs
  | _, _, .nil, _ => .nil
  | _, _, .cons v x vs xs h hs, hf => by
    simp only [List.all_cons, Bool.and_eq_true] at hf
    exact .cons _ _ _ _ (h.flat hf.1) (hs.flat hf.2)

section
variable {R R' : CodeRel} {P : Program} {Old : Nat → Prop} {w0 w w' : World} {E : Emb} {h : Heap}

/-- The world has grown, and all that lay there lies as it lay. -/
theorem HRel.later (H : HRel R Old w0 E h w) (hs : w.heap.size ≤ w'.heap.size) (ho : ∀ r, r < w.heap.size → w'.heap[r]? = w.heap[r]?) (hsd : Side w w') : HRel R Old w0 { E with M := w'.heap.size } h w' := by
  have hM := H.M
  have hle : E.Le { E with M := w'.heap.size } := ⟨by simp only; omega, fun b hb => ⟨hb, rfl⟩, fun r _ => rfl⟩
  refine ⟨rfl, H.next, fun b o hb => ?_, H.sep, H.fit, fun r hr => ?_, H.away, fun b o hb => (H.tidy b o hb).mono hle, H.side.trans hsd⟩
  · obtain ⟨h1, h2, h3⟩ := H.objs b o hb
    exact ⟨h1, by simp only; omega, (h3.congr (w' := w') (ho _ (by omega))).mono hle h1 h2⟩
  · obtain ⟨h1, h2⟩ := H.old r hr
    exact ⟨by simp only; omega, by rw [ho r (by omega), h2]⟩

/-- The same world, of which all is old, seen as an empty heap. -/
theorem HRel.none (R : CodeRel) (w : World) (sz : Nat → Nat) (ρ : Nat → Nat × Nat) : HRel R (fun r => r < w.heap.size) w { ρ := ρ, here := fun _ => False, sz := sz, M := w.heap.size } Heap.empty w :=
  ⟨rfl, fun _ hb => hb.elim, fun b o hb => by simp at hb, fun b b' o o' _ hb => by simp at hb, fun b b' ps vs vs' hb => by simp at hb, fun r hr => ⟨hr, rfl⟩, fun b o hb => by simp at hb, fun b o hb => by simp at hb, .refl _⟩

end

def ofG (g : List AV → Option AV) : Fun := fun args h => match g args with
  | some v => some (v, h)
  | none => none
theorem funSpec_ofG (g : List AV → Option AV) : funSpec (ofG g) = pureSpec g := by
  funext args h K
  unfold funSpec pureSpec ofG
  cases g args <;> rfl

/-- A pure function's summary, by its body in another context. -/
theorem sumOK_pure {c : Ctx} {P : Program} {x1 : GCtx} (hc1 : CtxOK x1.c P) {f : Nat} (hb : HasBody P f) {g : List AV → Option AV}
    (hg : ∀ args v, g args = some v → args.all AV.flat = true ∧ v.flat = true ∧ callW x1 (.func (.fn f) [] []) args Heap.empty (fun v' _ => v' = v)) : SumOK c P f (pureSpec g) := by
  refine ⟨fun args h K K' hk hh => ?_, pureSpec_away g, fun args h K hh => ?_, hb, fun args h K hh Old w0 w E xs H hxs => ?_⟩
  · unfold pureSpec at hh ⊢
    split at hh
    · exact hk _ _ hh
    · exact hh.elim
  · unfold pureSpec at hh
    split at hh
    · exact ⟨_, _, hh⟩
    · exact hh.elim
  · unfold pureSpec at hh
    split at hh
    · rename_i v hv
      obtain ⟨h1, h2, n, h3⟩ := hg args v hv
      have H1 := HRel.none (CR x1.c P) w E.sz E.ρ
      have hxs1 : VsRel { ρ := E.ρ, here := fun _ => False, sz := E.sz, M := w.heap.size } args xs := hxs.flat h1
      rcases acall_sound hc1 n _ _ _ _ h3 _ _ _ _ _ _ H1 (.func f [] [] [] [] .nil .nil) hxs1 with ⟨f', first, cap, e1, _, hcall⟩ | ⟨l, L, e1, _⟩
      · have e1' : f = f' ∧ #[] = first ∧ #[] = cap := by cases e1; exact ⟨rfl, rfl, rfl⟩
        obtain ⟨rfl, rfl, rfl⟩ := e1'
        simp only [Array.empty_append, Array.append_empty] at hcall
        refine CallsIn.mono hcall fun en w' hr => ?_
        cases en with
        | panicked ch => exact hr.elim
        | outgrown => exact hr.elim
        | returned y =>
          obtain ⟨v', h', E', rfl, g1, g2, g3, _, _⟩ := hr
          have hsz : w.heap.size ≤ w'.heap.size := by have := g1.M; have := g2.M; simp only at *; omega
          have hM := H.M
          refine ⟨v', h, { E with M := w'.heap.size }, hh, ⟨by simp only; omega, fun b hb => ⟨hb, rfl⟩, fun r _ => rfl⟩, H.later hsz (fun r hr => (g2.old r hr).2) g2.side, g3.flat h2, fun b hb => .inl hb, Nat.le_refl _⟩
      · cases e1
    · exact hh.elim

/-! ### A context -/
/-- A summary, as a function and as what it asks. -/
structure Sm where
  F : Fun
  S : Spec
  fits : ∀ args h r (K : AV → Heap → Prop), F args h = some r → K r.1 r.2 → S args h K
  mono : S.Mono
  cont : ∀ args h (K : Nat → AV → Heap → Prop), (∀ m m' v h, m ≤ m' → K m v h → K m' v h) → S args h (fun v h' => ∃ m, K m v h') → ∃ m, S args h (K m)

/-- A summary that is a function. -/
def Sm.fn (g : Fun) : Sm where
  F := g
  S := funSpec g
  fits := fun args h r K hr hk => by unfold funSpec; rw [hr]; exact hk
  mono := fun args h K K' hk hh => by
    unfold funSpec at hh ⊢
    split at hh
    · exact hk _ _ hh
    · exact hh.elim
  cont := fun args h K _ hh => by
    unfold funSpec at hh ⊢
    split at hh
    · exact hh
    · exact hh.elim

/-- Summaries by number. -/
def smOf : List (Nat × Sm) → Nat → Option Sm
  | [], _ => none
  | p :: ps, i => match Nat.beq i p.1 with
    | true => some p.2
    | false => smOf ps i

theorem smOf_mem : ∀ {ps : List (Nat × Sm)} {i : Nat} {g : Sm}, smOf ps i = some g → (i, g) ∈ ps
  | [], _, _, h => by cases h
  | p :: ps, i, g, h => by
    simp only [smOf] at h
    split at h
    · rename_i hb
      cases h
      rw [Nat.eq_of_beq_eq_true hb]
      exact List.mem_cons_self
    · exact List.mem_cons_of_mem _ (smOf_mem h)

/-- The context of a tree of functions and a list of summaries. -/
def gx (ss : List (Nat × Sm)) (t : FT) : GCtx where
  c := { sums := fun f => match smOf ss f with | some m => some m.S | none => none, funcs := t.get }
  mono := fun f s hs => by
    simp only at hs
    split at hs
    · rename_i m _; cases hs; exact m.mono
    · cases hs
  cont := fun f s hs => by
    simp only at hs
    split at hs
    · rename_i m _; cases hs; exact m.cont
    · cases hs
/-- The same for the kernel. -/
def xx (ss : List (Nat × Sm)) (t : FT) : XCtx where
  sums := fun f => match smOf ss f with | some m => some m.F | none => none
  funcs := t.get
theorem gx_fits (ss : List (Nat × Sm)) (t : FT) : CtxFits (gx ss t).c (xx ss t) where
  sums := fun f g hg => by
    simp only [xx] at hg
    split at hg
    · rename_i m hm; cases hg; exact ⟨m.S, by simp [gx, hm], m.fits⟩
    · cases hg
  none := fun f hf => by
    simp only [xx] at hf
    split at hf
    · cases hf
    · rename_i hm; simp [gx, hm]
  funcs := fun _ _ hf => hf

theorem ctxOK_of {P : Program} {t : FT} {ss : List (Nat × Sm)} {pure : List Nat} (hany : P.follows .mixedOrders = true) (hf : t.All (FnOK P pure))
    (hs : ∀ p ∈ ss, SumOK (gx ss t).c P p.1 p.2.S) (hp : ∀ f ∈ pure, ∃ g, smOf ss f = some (Sm.fn (ofG g))) : CtxOK (gx ss t).c P where
  any := hany
  sums := fun f s hfs => by
    simp only [gx] at hfs
    split at hfs
    · rename_i m hm; cases hfs; exact hs _ (smOf_mem hm)
    · cases hfs
  funcs := fun f F hF => by
    obtain ⟨fn, kr, kl, h1, h2⟩ := FT.all_get hf (show t.get f = some F from hF)
    refine ⟨fn, pure, kr, kl, h1, h2, fun q hq => ?_⟩
    obtain ⟨g, hg⟩ := hp q hq
    refine ⟨g, ?_⟩
    simp only [gx, hg, Sm.fn]
    rw [funSpec_ofG]

end Go.Ab
