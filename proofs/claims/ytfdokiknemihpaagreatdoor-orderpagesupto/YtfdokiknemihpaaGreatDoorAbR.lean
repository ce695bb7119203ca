/- What code leaves behind: marks, records of loops, results. -/
import Derived.Test.YtfdokiknemihpaaGreatDoorAbQ
import Derived.RangeFuncIn
namespace Go.Ab

section
variable {F : Fence} {n : Nat} {P : Program} {Q : Exit → Act → World → Prop} {a : Act} {w : World}

theorem stepR_scope {b : Frame} {k : List Item} {cs : List Frame} {c : Code} : step P (lone (b.atR a (.code (.scope c) :: k)) cs w) = .next (lone (b.atR a (.code c :: .inScope c :: k)) cs w) :=
  step_lone_go (by simp [stepG, stepG.exec, Frame.atR])
theorem stepR_inScope {b : Frame} {k : List Item} {cs : List Frame} {c : Code} : step P (lone (b.atR a (.inScope c :: k)) cs w) = .next (lone (b.atR a k) cs w) :=
  step_lone_go (by simp [stepG, stepG.exec, Frame.atR])

/-- A scope whose code jumps to no label. -/
theorem wpIn_scope {c : Code} (h : c.wpIn F n P (fun x a w => (∀ l, x ≠ .goto l) ∧ Q x a w) a w) : (Code.scope c).wpIn F n P Q a w := by
  intro b k cs hro hb hr
  have h0 : (lone (b.atR a (.code (.scope c) :: k)) cs w).fenced P F := fenced_calm hb hr rfl
  obtain ⟨e, a₁, w₁, hq, harr⟩ := h b (.inScope c :: k) cs hro hb hr
  cases e with
  | normal => exact ⟨.normal, a₁, w₁, hq.2, .head h0 stepR_scope (StepsIn.trans harr (.one (fenced_calm hb hr rfl) stepR_inScope))⟩
  | exit id' =>
    have hx : exitTo id' (.inScope c :: k) = exitTo id' k := by simp [exitTo]
    exact ⟨.exit id', a₁, w₁, hq.2, fun k' hk => .head h0 stepR_scope (harr.1 k' (by rw [hx]; exact hk)),
      fun hr' hk => let ⟨k₁, h1, h2⟩ := harr.2 hr' (by rw [hx]; exact hk); ⟨k₁, h1, .head h0 stepR_scope h2⟩⟩
  | goto l => exact absurd rfl (hq.1 l)
  | ret => exact ⟨_, a₁, w₁, hq.2, .of_steps (.one h0 stepR_scope) harr⟩
  | panic ch => exact ⟨_, a₁, w₁, hq.2, .of_steps (.one h0 stepR_scope) harr⟩
  | outgrown => exact ⟨_, a₁, w₁, hq.2, .of_steps (.one h0 stepR_scope) harr⟩
end

section
variable {R : CodeRel} {P : Program} {Old Old' : Nat → Prop} {w0 w0' w : World} {E : Emb} {h : Heap} {a : Act} {e : Env}

theorem HRel.oldLess (H : HRel R Old' w0' E h w) (ho : ∀ k, Old k → Old' k ∧ w0'.heap[k]? = w0.heap[k]?) (hsd : Side w0 w0') : HRel R Old w0 E h w :=
  ⟨H.M, H.next, H.objs, H.sep, H.fit, fun r hr => ⟨(H.old r (ho r hr).1).1, by rw [(H.old r (ho r hr).1).2, (ho r hr).2]⟩, fun b o hb hw hold => H.away b o hb hw (ho _ hold).1, H.tidy, hsd.trans H.side⟩

def mark (B : Nat) : Deferred := { target := .collected B, args := #[] }

/-- A block for the rounds' deferred calls is laid. -/
theorem HRel.laid (H : HRel R Old w0 E h w) : HRel R (fun r => Old r ∨ r = w.heap.size) (w.alloc (.deferred (some []))) { E with M := w.heap.size + 1 } h (w.alloc (.deferred (some []))) := by
  have hM := H.M
  have hle : E.Le { E with M := w.heap.size + 1 } := ⟨by simp; omega, fun b hb => ⟨hb, rfl⟩, fun r _ => rfl⟩
  refine ⟨by simp [World.size_alloc], H.next, fun b o hb => ?_, H.sep, H.fit, fun r hr => ⟨?_, rfl⟩, fun b o hb hw hold => ?_, fun b o hb => (H.tidy b o hb).mono hle, .refl _⟩
  · obtain ⟨h1, h2, h3⟩ := H.objs b o hb
    refine ⟨h1, by simp only; omega, ?_⟩
    exact (h3.congr (w' := w.alloc (.deferred (some []))) (heap_push_lt (by omega))).mono hle h1 h2
  · rcases hr with hr | hr
    · have := (H.old r hr).1; simp only; omega
    · simp only; omega
  · rcases hold with hold | hold
    · exact H.away b o hb hw hold
    · have := (H.objs b o hb).2.1
      simp only at hold
      omega

/-- Such a block is shut. -/
theorem HRel.shut (H : HRel R Old w0 E h w) {B : Nat} {x : Option (List Deferred)} (hB : w.heap[B]? = some (.deferred x)) (hno : ¬ Old B) : HRel R Old w0 E h (w.putObj B (.deferred none)) := by
  refine ⟨by simp [H.M], H.next, fun b o hb => ?_, H.sep, H.fit, fun r hr => ?_, H.away, H.tidy, H.side.trans ⟨rfl, rfl, rfl⟩⟩
  · obtain ⟨h1, h2, h3⟩ := H.objs b o hb
    refine ⟨h1, h2, ?_⟩
    refine h3.congr (World.putObj_heap_other fun hh => ?_)
    cases o <;> simp only [ORel] at h3 <;> rw [hh, hB] at h3 <;> simp at h3
  · obtain ⟨h1, h2⟩ := H.old r hr
    exact ⟨h1, by rw [World.putObj_heap_other (fun (hh : r = B) => hno (by rw [← hh]; exact hr)), h2]⟩

/-- What an activation has laid by and by. -/
structure Grown (Old : Nat → Prop) (w0 : World) (M : Nat) (ds : List Deferred) (Old' : Nat → Prop) (w0' : World) (M' : Nat) (ds' : List Deferred) : Prop where
  mle : M ≤ M'
  old : ∀ k, Old k → Old' k ∧ w0'.heap[k]? = w0.heap[k]?
  new : ∃ bs : List Nat, ds' = bs.map mark ++ ds ∧ bs.Nodup ∧ ∀ B ∈ bs, M ≤ B ∧ B < M' ∧ Old' B ∧ w0'.heap[B]? = some (.deferred (some []))
  side : Side w0 w0'

theorem Grown.refl (Old : Nat → Prop) (w0 : World) {M M' : Nat} (hM : M ≤ M') (ds : List Deferred) : Grown Old w0 M ds Old w0 M' ds :=
  ⟨hM, fun _ h => ⟨h, rfl⟩, ⟨[], rfl, List.nodup_nil, fun B hB => (by cases hB)⟩, .refl _⟩

theorem Grown.trans {O1 O2 O3 : Nat → Prop} {w1 w2 w3 : World} {M1 M2 M3 : Nat} {d1 d2 d3 : List Deferred} (g : Grown O1 w1 M1 d1 O2 w2 M2 d2) (k : Grown O2 w2 M2 d2 O3 w3 M3 d3) : Grown O1 w1 M1 d1 O3 w3 M3 d3 := by
  obtain ⟨b1, e1, n1, p1⟩ := g.new
  obtain ⟨b2, e2, n2, p2⟩ := k.new
  refine ⟨Nat.le_trans g.mle k.mle, fun x hx => ⟨(k.old x (g.old x hx).1).1, by rw [(k.old x (g.old x hx).1).2, (g.old x hx).2]⟩, ⟨b2 ++ b1, by rw [e2, e1]; simp, ?_, fun B hB => ?_⟩, g.side.trans k.side⟩
  · rw [List.nodup_append]
    refine ⟨n2, n1, fun x hx y hy hxy => ?_⟩
    have := (p2 x hx).1
    have := (p1 y hy).2.1
    omega
  · rcases List.mem_append.1 hB with hB | hB
    · obtain ⟨q1, q2, q3, q4⟩ := p2 B hB
      exact ⟨Nat.le_trans g.mle q1, q2, q3, q4⟩
    · obtain ⟨q1, q2, q3, q4⟩ := p1 B hB
      exact ⟨q1, Nat.lt_of_lt_of_le q2 k.mle, (k.old B q3).1, by rw [(k.old B q3).2, q4]⟩

/-- What code leaves. -/
structure CPost (R : CodeRel) (Old : Nat → Prop) (w0 : World) (E : Emb) (h : Heap) (nt : Nat) (ds : List Deferred) (Old' : Nat → Prop) (w0' : World) (E' : Emb) (h' : Heap) (w' : World) (e' : Env) (a' : Act) : Prop where
  grown : Grown Old w0 E.M ds Old' w0' E'.M a'.defers
  le : E.Le E'
  rel : HRel R Old' w0' E' h' w'
  env : EnvRel E' e' a'.tmps
  size : nt ≤ a'.tmps.size
  fresh : ∀ b, E'.here b → E.here b ∨ h.next ≤ b
  next : h.next ≤ h'.next

theorem CPost.refl {nt : Nat} (H : HRel R Old w0 E h w) (hE : EnvRel E e a.tmps) (hs : nt ≤ a.tmps.size) : CPost R Old w0 E h nt a.defers Old w0 E h w e a :=
  ⟨.refl _ _ (Nat.le_refl _) _, .refl _, H, hE, hs, fun _ hb => .inl hb, Nat.le_refl _⟩

theorem CPost.trans {O2 O3 : Nat → Prop} {w2 w3 : World} {E2 E3 : Emb} {h2 h3 : Heap} {W2 W3 : World} {e2 e3 : Env} {a2 a3 : Act} {nt : Nat} {ds : List Deferred}
    (g : CPost R Old w0 E h nt ds O2 w2 E2 h2 W2 e2 a2) (k : CPost R O2 w2 E2 h2 nt a2.defers O3 w3 E3 h3 W3 e3 a3) : CPost R Old w0 E h nt ds O3 w3 E3 h3 W3 e3 a3 :=
  ⟨g.grown.trans k.grown, g.le.trans k.le, k.rel, k.env, k.size, fun b hb => (k.fresh b hb).elim (fun h => g.fresh b h) (fun h => .inr (Nat.le_trans g.next h)), Nat.le_trans g.next k.next⟩

theorem CPost.keep {O2 : Nat → Prop} {w2 : World} {E2 : Emb} {h2 : Heap} {W2 : World} {e2 : Env} {a2 : Act} {nt : Nat} {ds : List Deferred}
    (g : CPost R Old w0 E h nt ds O2 w2 E2 h2 W2 e2 a2) (l : List Nat) : CPost R Old w0 E h nt ds O2 w2 E2 h2 W2 (e2.keep l) a2 :=
  ⟨g.grown, g.le, g.rel, g.env.keep l, g.size, g.fresh, g.next⟩

/-- The round that an activation is in. -/
def RdRel (E : Emb) : Option Nat → Option Nat → Prop
  | none, none => True
  | some l, some k => E.here l ∧ (E.ρ l).1 = k
  | _, _ => False
theorem RdRel.mono {E E' : Emb} (hle : E.Le E') {rd r : Option Nat} (hr : RdRel E rd r) : RdRel E' rd r := by
  cases rd <;> cases r <;> simp only [RdRel] at hr ⊢
  obtain ⟨h1, h2⟩ := hr
  exact ⟨(hle.here _ h1).1, by rw [(hle.here _ h1).2]; exact h2⟩

def exOf : Ex → Exit
  | .normal => .normal
  | .exit i => .exit i
  | .ret => .ret

theorem exOf_goto (x : Ex) (l : Nat) : exOf x ≠ .goto l := by cases x <;> intro h <;> cases h

/-! ### Results -/
def resV (tmps : Array Value) : ResultVar → Sem Value
  | .tmp t => pure (tmps.getD t undef)
  | .cell a t => do loadVar t (← asAddr (tmps.getD a undef))
theorem res_rel (H : HRel R Old w0 E h w) {tmps : Array Value} (hE : EnvRel E e tmps) {rv : ResultVar} {r : ARes} (hr : cRes P rv = some r) {v : AV} (hv : resA e h r = some v) :
    ∃ x, (resV tmps rv).run P w = .ok x w ∧ VRel E v x := by
  have getD_of : ∀ (t : Nat) (x : Value), tmps[t]? = some x → tmps.getD t undef = x := fun t x hx => by simp [Array.getD_eq_getD_getElem?, hx]
  cases rv with
  | tmp t =>
    simp only [cRes, Option.some.injEq] at hr
    subst hr
    obtain ⟨x, hx, hr⟩ := hE t v hv
    exact ⟨x, by simp only [resV, getD_of t x hx, Sem.run_pure], hr⟩
  | cell t ty =>
    simp only [cRes] at hr
    split at hr
    · rename_i n hag hn
      simp only [Option.some.injEq] at hr
      subst hr
      simp only [resA] at hv
      split at hv
      · rename_i b off hg
        obtain ⟨x, hx, hr⟩ := hE t _ hg
        cases hr with
        | ptr _ _ hb =>
          split at hv
          · rename_i vs hrow
            simp only [Option.some.injEq] at hv
            subst hv
            obtain ⟨_, xs, h1, h2⟩ := load_row (P := P) H hrow
            exact ⟨_, by simp [resV, getD_of t _ hx, asAddr, loadVar, run_isAgg hag, run_sizeOf hn, h1], .agg _ _ h2⟩
          · cases hv
      · cases hv
    · rename_i hag hn
      simp only [Option.some.injEq] at hr
      subst hr
      simp only [resA] at hv
      split at hv
      · rename_i b off hg
        obtain ⟨x, hx, hr⟩ := hE t _ hg
        cases hr with
        | ptr _ _ hb =>
          obtain ⟨y, hy, hr⟩ := load_cell H hv
          exact ⟨y, by simp [resV, getD_of t _ hx, asAddr, loadVar, run_isAgg hag, hy], hr⟩
      · cases hv
    · cases hr

theorem ress_rel (H : HRel R Old w0 E h w) {tmps : Array Value} (hE : EnvRel E e tmps) : ∀ {rvs : List ResultVar} {rs : List ARes} {vs : List AV}, cRess P rvs = some rs → ressA e h rs = some vs →
    ∃ xs : List Value, (rvs.mapM (resV tmps)).run P w = .ok xs w ∧ VsRel E vs xs
  | [], rs, vs, hc, hv => by
    simp only [cRess, Option.some.injEq] at hc
    subst hc
    simp only [ressA, Option.some.injEq] at hv
    subst hv
    exact ⟨[], by simp, .nil⟩
  | rv :: rvs, rs, vs, hc, hv => by
    simp only [cRess] at hc
    split at hc
    · rename_i r rs' h1 h2
      simp only [Option.some.injEq] at hc
      subst hc
      simp only [ressA] at hv
      split at hv
      · cases hv
      · rename_i v hv1
        split at hv
        · cases hv
        · rename_i vs' hv2
          simp only [Option.some.injEq] at hv
          subst hv
          obtain ⟨x, e1, r1⟩ := res_rel (P := P) H hE h1 hv1
          obtain ⟨xs, e2, r2⟩ := ress_rel H hE h2 hv2
          refine ⟨x :: xs, ?_, .cons _ _ _ _ r1 r2⟩
          simp only [List.mapM_cons, Sem.run_bind, e1, e2, Result.andThen_ok, Sem.run_pure]
    · cases hc

theorem results_rel (H : HRel R Old w0 E h w) {tmps : Array Value} (hE : EnvRel E e tmps) {fn : Func} {rs : List ARes} {vs : List AV} (hc : cRess P fn.results.toList = some rs) (hv : ressA e h rs = some vs) :
    ∃ x, (results fn tmps).run P w = .ok x w ∧ VRel E (packRes vs) x := by
  obtain ⟨xs, h1, h2⟩ := ress_rel (P := P) H hE hc hv
  have h1' : (fn.results.mapM (resV tmps)).run P w = .ok xs.toArray w := by
    rw [Array.mapM_eq_mapM_toList, Sem.run_map, h1]
    rfl
  have hun : results fn tmps = (do let vs ← fn.results.mapM (resV tmps); pure (if h : vs.size = 1 then vs[0] else .tuple vs)) := by
    unfold results
    congr 1
  rw [hun, Sem.run_bind, h1']
  refine ⟨_, rfl, ?_⟩
  cases h2 with
  | nil => exact .tuple _ _ .nil
  | cons v x vs xs hx hxs =>
    cases hxs with
    | nil => exact hx
    | cons v' x' vs' xs' hx' hxs' => exact .tuple _ _ (.cons _ _ _ _ hx (.cons _ _ _ _ hx' hxs'))
end
end Go.Ab
