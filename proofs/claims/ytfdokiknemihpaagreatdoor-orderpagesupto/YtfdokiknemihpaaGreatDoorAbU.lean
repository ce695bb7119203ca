/- The abstract machine is sound: code. -/
import Derived.Test.YtfdokiknemihpaaGreatDoorAbS
namespace Go.Ab

section
variable {c : Ctx} {P : Program} {Old : Nat → Prop} {w0 w : World} {E : Emb} {h : Heap} {a : Act} {e : Env}

theorem awp_pos {c : Ctx} {n : Nat} {rd : Option Nat} {ac : AC} {e : Env} {h : Heap} {Q : Ex → Env → Heap → Prop} (hh : awp c n rd ac e h Q) : ∃ m, n = m + 1 ∧ awpStep c (awp c m) rd ac e h Q := by
  cases n with
  | zero => exact hh.elim
  | succ m => exact ⟨m, rfl, hh⟩

theorem opOf_of {nt : Nat} {ops : Array Oper} {as : List AOp} (hc : cOps P nt ops ops.toList = some as) : as.length = ops.size ∧ ∀ (i : Nat) (o : Oper), ops[i]? = some o → ∃ ao : AOp, as[i]? = some ao ∧ OpOf P nt ops o ao := by
  obtain ⟨h1, h2⟩ := cOps_get hc
  refine ⟨by simpa using h1, fun i o hi => ?_⟩
  obtain ⟨ao, g1, g2, g3, g4, g5⟩ := h2 i o (by simpa using hi)
  exact ⟨ao, g1, g2, g3, g4, _, g5, .inl rfl⟩

/-- The operations in their canonical order. -/
theorem inOrder_of {nt : Nat} {ops : Array Oper} {as : List AOp} {pure : List Nat} {cl : List (List Nat)} {σ : List Nat} (has : cOps P nt ops ops.toList = some as) (hσ : Perm ops.size σ) :
    (inOrder pure cl σ as).length = ops.size ∧ (∀ k, k < (inOrder pure cl σ as).length → (opAt (inOrder pure cl σ as) k).chk = []) ∧
      ∀ (k : Nat) (o : Oper), k < ops.size → ops[σ.getD k 0]? = some o → OpOf P nt ops o (opAt (inOrder pure cl σ as) k) := by
  obtain ⟨h1, h2⟩ := opOf_of has
  have hl : (inOrder pure cl σ as).length = ops.size := by simp [inOrder, xify, hσ.len]
  have key : ∀ k, k < ops.size → opAt (inOrder pure cl σ as) k = opAt as (σ.getD k 0) ∨ ∃ n s x, (opAt as (σ.getD k 0)).k = .append n s x ∧ opAt (inOrder pure cl σ as) k = { opAt as (σ.getD k 0) with k := .appendX n s x } := fun k hk => by
    have hk' : k < σ.length := by rw [hσ.len]; exact hk
    have hz : (σ.map (opAt as)).zipIdx[k]? = some (opAt as (σ.getD k 0), k) := by
      rw [List.getElem?_zipIdx, List.getElem?_map, List.getD_eq_getElem?_getD, List.getElem?_eq_getElem hk']
      simp
    have hx : ∃ ao', (inOrder pure cl σ as)[k]? = some ao' ∧ (ao' = opAt as (σ.getD k 0) ∨ ∃ n s x, (opAt as (σ.getD k 0)).k = .append n s x ∧ ao' = { opAt as (σ.getD k 0) with k := .appendX n s x }) := by
      unfold inOrder xify
      rw [List.getElem?_map, hz]
      refine ⟨_, rfl, ?_⟩
      simp only
      split
      · rename_i n s x hk
        split
        · exact .inr ⟨n, s, x, hk, rfl⟩
        · exact .inl rfl
      · exact .inl rfl
    obtain ⟨ao', g1, g2⟩ := hx
    have he : opAt (inOrder pure cl σ as) k = ao' := by unfold opAt at g1 ⊢; rw [g1]; rfl
    rw [he]
    exact g2
  have hchk : ∀ j, j < ops.size → (opAt as j).chk = [] := fun j hj => by
    have := cOps_chk has
    unfold opAt
    rw [List.getElem?_eq_getElem (by omega)]
    exact this _ (List.getElem_mem _)
  refine ⟨hl, fun k hk => ?_, fun k o hk ho => ?_⟩
  · have hk : k < ops.size := by omega
    rcases key k hk with h3 | ⟨n, s, x, _, h3⟩
    · rw [h3]; exact hchk _ (hσ.lt k hk)
    · rw [h3]; exact hchk _ (hσ.lt k hk)
  · obtain ⟨ao, g1, g2⟩ := h2 _ o ho
    have hao : opAt as (σ.getD k 0) = ao := by unfold opAt; rw [g1]; rfl
    rcases key k hk with h3 | ⟨n, s, x, h4, h3⟩
    · rw [h3, hao]; exact g2
    · rw [h3]
      rw [hao] at h4 ⊢
      obtain ⟨kk, k1, k2⟩ := g2.k
      refine ⟨g2.dst, g2.dstOK, g2.guard, kk, k1, .inr ⟨n, s, x, ?_, rfl⟩⟩
      rcases k2 with k2 | ⟨n', s', x', k2, k3⟩
      · rw [← k2]; exact h4
      · rw [h4] at k3; cases k3

theorem opOf_chk {nt : Nat} {ops : Array Oper} {o : Oper} {x : AOp} (h : OpOf P nt ops o x) (cs : List Chk) : OpOf P nt ops o { x with chk := cs } := ⟨h.dst, h.dstOK, h.guard, h.k⟩

theorem FW_inRound (r : Option Nat) (l : Nat) : (FW r).inRound l = FW (some l) := rfl

/-- A region that keeps its text's order. -/
theorem region_text (hc : CtxOK c P) {m : Nat} (ih : Sound c P m) {rd r : Option Nat} {nt id : Nat} {ops : Array Oper} {as : List AOp} (has : cOps P nt ops ops.toList = some as) {Q : Ex → Env → Heap → Prop} (hh : awpStep c (awp c m) rd (.ops none as) e h Q)
    (H : HRel (CR c P) Old w0 E h w) (hE : EnvRel E e a.tmps) (hs : nt ≤ a.tmps.size) {QC : Exit → Act → World → Prop}
    (hq : ∀ E' h' w' e' a', CPost (CR c P) Old w0 E h nt a.defers Old w0 E' h' w' e' a' → Q .normal e' h' → QC .normal a' w') : (Code.region id ops false).wpIn (FW r) 0 P QC a w := by
  obtain ⟨h1, h2⟩ := opOf_of has
  refine wpIn_region ?_
  have hcs := callSound hc ih
  have key := ops_wp (r := r) (Q := QC) hcs (fun _ _ _ _ _ hh => hh) (nt := nt) (ops := ops) ops.toList 0 as h.next (E := E) (h := h.bump as.length) (w := w) (a := a) (e := e) (fun i => by simp) (by simp) (by rw [h1]; simp)
    (fun i o hi => h2 i o (by simpa using hi)) (H.bump _) hE hs (fun j hj _ hje => by have := H.next j hje; omega) (by simp) hh ?_
  · rw [List.range_eq_range']; simpa using key
  · intro E' h' w' e' a' g1 g2 g3 g4 g5 g6 g7 g8
    refine hq E' h' w' e' a' ⟨?_, g1, g2, g3, g4, g6, Nat.le_trans (by simp) g7⟩ g8
    rw [g5]; exact .refl _ _ g1.M _

/-- A region that draws its order. -/
theorem region_draw (hc : CtxOK c P) {m : Nat} (ih : Sound c P m) {rd r : Option Nat} {nt id : Nat} {ops : Array Oper} {as : List AOp} {pure : List Nat} (hp : PureOK c pure) (has : cOps P nt ops ops.toList = some as) {s : List Nat} {cl : List (List Nat)} {σ : List Nat}
    (hps : precsOK (precs ops.toList) cl = true) (hperm : permOK as.length σ = true) (hdr : drawOK pure cl σ (inOrder pure cl σ as) (withChk pure cl σ (inOrder pure cl σ as)) = true)
    {Q : Ex → Env → Heap → Prop} (hh : awpStep c (awp c m) rd (.ops (some s) (withChk pure cl σ (inOrder pure cl σ as))) e h Q)
    (H : HRel (CR c P) Old w0 E h w) (hE : EnvRel E e a.tmps) (hs : nt ≤ a.tmps.size) {QC : Exit → Act → World → Prop}
    (hq : ∀ E' h' w' e' a', CPost (CR c P) Old w0 E h nt a.defers Old w0 E' h' w' e' a' → Q .normal e' h' → QC .normal a' w') : (Code.region id ops true).wpIn (FW r) 0 P QC a w := by
  have hal := (opOf_of has).1
  rw [hal] at hperm
  have hσ := perm_of hperm
  obtain ⟨h1, _, h2⟩ := inOrder_of (pure := pure) (cl := cl) has hσ
  generalize inOrder pure cl σ as = as1 at *
  have hlen : (withChk pure cl σ as1).length = ops.size := by simp [withChk, h1]
  have h3 : ∀ (k : Nat) (o : Oper), k < ops.size → ops[σ.getD k 0]? = some o → OpOf P nt ops o (opAt (withChk pure cl σ as1) k) := fun k o hk ho => by
    rw [withChk_at (by omega)]
    exact opOf_chk (h2 k o hk ho) _
  refine wpIn_region_any hc.any ?_
  have hcs := callSound hc ih
  have hrep : ∀ q, (Array.replicate ops.size false).getD q false = true → False := fun q hq => by
    rw [Array.getD_eq_getD_getElem?, Array.getElem?_replicate] at hq
    split at hq <;> simp at hq
  have hunl : unl σ (Array.replicate ops.size false) ops.size = List.range ops.size := by
    unfold unl
    refine List.filter_eq_self.2 fun j hj => ?_
    have := hσ.lt j (List.mem_range.1 hj)
    rw [Array.getD_eq_getD_getElem?, Array.getElem?_replicate, if_pos this]
    rfl
  have hK : KEq (fun e' h' => Q .normal (e'.keep s) h') := fun e1 e2 h' he hk => by
    show Q .normal (e2.keep s) h'
    rw [← he.keep s]; exact hk
  refine draw_wp (r := r) (Q := QC) hcs (fun _ _ _ _ _ hh => hh) (acall_mono hc.mono m) (callA_live hc.live (awp_live hc.live m)) (callA_away hc.away (awp_mono hc.mono m) (awp_away hc.mono hc.away m)) (pureCall hp (awp c m)) (nt := nt) (id0 := h.next) (ops := ops) (as0 := as1) (as := withChk pure cl σ as1) hps hσ rfl hdr h1 h3 hK ops.size (Array.replicate ops.size false)
    (E := E) (h := h.bump (withChk pure cl σ as1).length) (e := e) (a := a) (Old := Old) (w0 := w0) (by simp) (by rw [hunl]; simp) (fun q hq => (hrep q hq).elim) ((H.bump _).of_heap rfl) hE hs (fun j _ hje => by have := H.next _ hje; omega) (by simp [hlen]) ?_ ?_
  · rw [hunl, remL, ← hlen, ← named_range, ← aOps_named]
    exact hh
  · intro E' h' w' e' a' g1 g2 g3 g4 g5 g6 g7 g8
    refine hq E' h' w' (e'.keep s) a' ⟨?_, g1, g2, g3.keep s, g4, g6, Nat.le_trans (by simp) g7⟩ g8
    rw [g5]; exact .refl _ _ g1.M _

/-- A loop. -/
theorem loop_sound {n : Nat} {rd r : Option Nat} {nt : Nat} {body : Code} {p : AC}
    (hbody : ∀ m, m ≤ n → ∀ (e : Env) (h : Heap) (Q : Ex → Env → Heap → Prop), awp c m rd p e h Q → ∀ (Old : Nat → Prop) (w0 w : World) (E : Emb) (a : Act), HRel (CR c P) Old w0 E h w → EnvRel E e a.tmps → nt ≤ a.tmps.size → RdRel E rd r →
      ∀ (QC : Exit → Act → World → Prop), (∀ Old' w0' x E' h' w' e' a', CPost (CR c P) Old w0 E h nt a.defers Old' w0' E' h' w' e' a' → Q x e' h' → QC (exOf x) a' w') → body.wpIn (FW r) 0 P QC a w)
    {Q : Ex → Env → Heap → Prop} (hh : awp c (n + 1) rd (.loop p) e h Q) (H : HRel (CR c P) Old w0 E h w) (hE : EnvRel E e a.tmps) (hs : nt ≤ a.tmps.size) (hr : RdRel E rd r) {QC : Exit → Act → World → Prop}
    (hq : ∀ Old' w0' x E' h' w' e' a', CPost (CR c P) Old w0 E h nt a.defers Old' w0' E' h' w' e' a' → Q x e' h' → QC (exOf x) a' w') : (Code.loop body).wpIn (FW r) 0 P QC a w := by
  let Pm : Act → World → Nat → Prop := fun a' w' m => m ≤ n + 1 ∧ ∃ Old' w0' E' h' e', CPost (CR c P) Old w0 E h nt a.defers Old' w0' E' h' w' e' a' ∧ awp c m rd (.loop p) e' h' Q
  have hd : ∀ a' w', ∃ k : Nat, (∃ m, Pm a' w' m) → Pm a' w' k ∧ ∀ m, Pm a' w' m → k ≤ m := fun a' w' => by
    by_cases hx : ∃ m, Pm a' w' m
    · obtain ⟨k, h1, h2⟩ := least hx; exact ⟨k, fun _ => ⟨h1, h2⟩⟩
    · exact ⟨0, fun h => absurd h hx⟩
  let μ : Act → World → Nat := fun a' w' => Classical.choose (hd a' w')
  have hμ : ∀ a' w', (∃ m, Pm a' w' m) → Pm a' w' (μ a' w') ∧ ∀ m, Pm a' w' m → μ a' w' ≤ m := fun a' w' => Classical.choose_spec (hd a' w')
  refine wpIn_loop (fun a' w' => ∃ m, Pm a' w' m) μ ⟨n + 1, Nat.le_refl _, Old, w0, E, h, e, .refl H hE hs, hh⟩ ?_
  intro a1 w1 hI
  obtain ⟨⟨hle, O1, w01, E1, h1, e1, hp1, hw1⟩, hmin⟩ := hμ a1 w1 hI
  obtain ⟨m, hm, hw1⟩ := awp_pos hw1
  refine hbody m (by omega) e1 h1 _ hw1 O1 w01 w1 E1 a1 hp1.rel hp1.env hp1.size (hr.mono hp1.le) _ ?_
  intro O2 w02 x E2 h2 w2 e2 a2 hp2 hx
  cases x with
  | normal =>
    have hP : Pm a2 w2 m := ⟨by omega, O2, w02, E2, h2, e2, hp1.trans hp2, hx⟩
    refine ⟨⟨m, hP⟩, ?_⟩
    have := (hμ a2 w2 ⟨m, hP⟩).2 m hP
    omega
  | exit i => exact hq _ _ (.exit i) _ _ _ _ _ (hp1.trans hp2) hx
  | ret => exact hq _ _ .ret _ _ _ _ _ (hp1.trans hp2) hx

/-- A range over a function. -/
theorem rangeFunc_sound (hc : CtxOK c P) {n : Nat} (ih : Sound c P n) {rd r : Option Nat} {nt : Nat} {g : Operand} {s : Src} {ps : Array Tmp} {asgC bodyC : Code} {asg body : AC} (hg : cSrc g = some s) (hasg : CR c P nt asgC asg) (hbody : CR c P nt bodyC body) (hps : ps.toList.all (Nat.blt · nt) = true)
    {Q : Ex → Env → Heap → Prop} (hh : awpStep c (awp c n) rd (.rangeFunc s ps.toList asg body) e h Q) (H : HRel (CR c P) Old w0 E h w) (hE : EnvRel E e a.tmps) (hs : nt ≤ a.tmps.size) (hr : RdRel E rd r) {QC : Exit → Act → World → Prop}
    (hq : ∀ Old' w0' x E' h' w' e' a', CPost (CR c P) Old w0 E h nt a.defers Old' w0' E' h' w' e' a' → Q x e' h' → QC (exOf x) a' w') : (Code.rangeFunc g ps asgC bodyC).wpIn (FW r) 0 P QC a w := by
  refine wpIn_rangeFunc fun fn _ => ?_
  simp only [awpStep] at hh
  split at hh
  · rename_i f first cap hsv
    obtain ⟨hround, hh⟩ := hh
    have hfx := src_rel hE hg hsv
    -- the record is laid; at an outermost loop the block for the deferred calls ahead of it
    have enter : ∃ (Old1 : Nat → Prop) (w01 w1 : World) (E1 : Emb) (L : Loop) (l : Nat) (mk : List Deferred), (Instr.enterLoop fn a.tmps ps asgC bodyC r).run P w = .ok (l, mk) w1 ∧ w1.heap[l]? = some (.loop L) ∧ L.state = .ready ∧ L.pending = none ∧
        Grown Old w0 E.M a.defers Old1 w01 E1.M (mk ++ a.defers) ∧ E.Le E1 ∧ E1.here h.next ∧ (E1.ρ h.next).1 = l ∧ (∀ b, E1.here b → E.here b ∨ b = h.next) ∧ HRel (CR c P) Old1 w01 E1 ((h.set h.next (some (.loop .ready none e ps.toList asg body))).bump 1) w1 := by
      have hnot : ¬ E.here h.next := fun hx => by have := H.next _ hx; omega
      have hM := H.M
      cases r with
      | none =>
        have H1 := (H.bump 1).laid
        have hle1 : E.Le { E with M := w.heap.size + 1 } := ⟨by simp only; omega, fun b hb => ⟨hb, rfl⟩, fun r _ => rfl⟩
        have hle2 : ({ E with M := w.heap.size + 1 } : Emb).Le (({ E with M := w.heap.size + 1 } : Emb).add h.next ((w.alloc (.deferred (some []))).heap.size, 0) 0 ((w.alloc (.deferred (some []))).heap.size + 1)) :=
          Emb.le_add hnot (by simp [World.size_alloc])
        have hnew := H1.new (id := h.next) (o := .loop .ready none e ps.toList asg body) (obj := .loop { state := .ready, pending := none, fn := fn, tmps := a.tmps, params := ps, assign := asgC, body := bodyC, defers := w.heap.size }) (size := 0) hnot (by simp)
          ⟨{ state := .ready, pending := none, fn := fn, tmps := a.tmps, params := ps, assign := asgC, body := bodyC, defers := w.heap.size }, nt, by simp only [Emb.add, if_true]; exact World.alloc_heap_new _ _, rfl, trivial, (hE.mono hle1).mono hle2, hs, rfl, hps, hasg, hbody⟩
        refine ⟨_, _, _, _, _, _, _, run_enterLoop_outer fn a.tmps ps asgC bodyC, by have := World.alloc_heap_new (w.alloc (.deferred (some []))) (.loop { state := .ready, pending := none, fn := fn, tmps := a.tmps, params := ps, assign := asgC, body := bodyC, defers := w.heap.size }); rw [World.size_alloc] at this; exact this,
          rfl, rfl, ⟨?_, fun k hk => ⟨.inl hk, ?_⟩, ⟨[w.heap.size], rfl, by simp, fun B hB => ?_⟩, (show Side w0 (w.alloc (.deferred (some []))) from ⟨H.side.os, H.side.tape, H.side.output⟩)⟩, ?_, ?_, ?_, ?_, hnew⟩
        · simp [Emb.add, World.size_alloc]; omega
        · obtain ⟨q1, q2⟩ := H.old k hk
          rw [heap_push_lt (by omega), q2]
        · rw [List.mem_singleton] at hB
          subst hB
          exact ⟨by omega, by simp [Emb.add, World.size_alloc]; omega, .inr rfl, World.alloc_heap_new w _⟩
        · exact hle1.trans hle2
        · exact .inr rfl
        · simp [Emb.add, World.size_alloc]
        · intro b hb; exact hb
      | some l0 =>
        cases rd with
        | none => exact hr.elim
        | some k =>
          obtain ⟨st, pend, env, ps0, asg0, body0, hgk⟩ := hround
          obtain ⟨hk1, hk2⟩ := hr
          obtain ⟨_, _, L0, _, o1, _⟩ := H.objs _ _ hgk
          rw [hk2] at o1
          have hle2 : E.Le (E.add h.next (w.heap.size, 0) 0 (w.heap.size + 1)) := Emb.le_add hnot (by omega)
          have hnew := (H.bump 1).new (id := h.next) (o := .loop .ready none e ps.toList asg body) (obj := .loop { state := .ready, pending := none, fn := fn, tmps := a.tmps, params := ps, assign := asgC, body := bodyC, defers := L0.defers }) (size := 0) hnot (by simp)
            ⟨{ state := .ready, pending := none, fn := fn, tmps := a.tmps, params := ps, assign := asgC, body := bodyC, defers := L0.defers }, nt, by simp only [Emb.add, if_true]; exact World.alloc_heap_new _ _, rfl, trivial, hE.mono hle2, hs, rfl, hps, hasg, hbody⟩
          refine ⟨_, _, _, _, _, _, _, run_enterLoop_inner o1 fn a.tmps ps asgC bodyC, World.alloc_heap_new w _, rfl, rfl, .refl _ _ (by simp [Emb.add]; omega) _, Emb.le_add hnot (by omega), .inr rfl, by simp [Emb.add], fun b hb => hb, hnew⟩
    obtain ⟨Old1, w01, w1, E1, L, l, mk, he, hL, hLs, hLp, hgrown, hle, hhere, hρ, hfr, H1⟩ := enter
    generalize hfv : a.eval g = fx at hfx
    have hfx1 := hfx.mono hle
    have hcs := callSound hc ih
    rcases hcs _ _ _ _ hh Old1 w01 w1 E1 fx [.func (.yield (E1.ρ h.next).1) #[] #[]] H1 hfx1 (.cons _ _ _ _ (.yield _ hhere) .nil) with ⟨f', first', cap', rfl, hb, hcall⟩ | ⟨l', L', rfl, _⟩
    · refine ⟨l, mk, w1, { target := .fn (.func f') cap', args := first' ++ #[.func (.yield l) #[] #[]] }, w1, f', first' ++ #[.func (.yield l) #[] #[]] ++ cap', w1, he, ?_, fun f _ => FW_fn r f, ?_, fun hf => by simp [FW, Fence.wide] at hf, ?_⟩
      · simp only [resolve, hfv]
        simp [Deferred.ofValue, Act.eval]
      · simp only [invoke]
        exact run_callFunc hb _ _
      · rw [hρ] at hcall
        refine CallsIn.mono (show CallsIn (FW r) (0 - 1) P f' _ w1 _ from hcall) ?_
        intro en w3 hret
        cases en with
        | panicked ch => exact hret.elim
        | outgrown => exact hret.elim
        | returned x =>
          obtain ⟨v, h3, E3, hk, g1, g2, g3, g4, g5⟩ := hret
          split at hk
          · rename_i st pend env ps' asg' body' hg3
            obtain ⟨hst, hk⟩ := hk
            obtain ⟨_, m3, L3, nt3, q1, q2, q3, q4, q5, q6, q7, q8, q9⟩ := g2.objs _ _ hg3
            have hρ3 : (E3.ρ h.next).1 = l := by rw [(g1.here _ hhere).2, hρ]
            have hlt : (E3.ρ h.next).1 < w3.heap.size := by rw [← g2.M]; exact m3
            have hend := run_endLoop (P := P) q1 (by rw [q2]; exact hst)
            have H4 := g2.write (ps := []) (o' := .loop .exhausted pend env ps' asg' body') (w' := w3.putObj (E3.ρ h.next).1 (.loop { L3 with state := .exhausted })) hg3 rfl rfl (fun _ _ hx => by cases hx) (by simp)
              (fun k hk => World.putObj_heap_other hk) ⟨{ L3 with state := .exhausted }, nt3, World.putObj_heap_same hlt, rfl, q3, q4, q5, q6, q7, q8, q9⟩
            have post : CPost (CR c P) Old w0 E h nt a.defers Old1 w01 E3 (h3.set h.next (some (.loop .exhausted pend env ps' asg' body'))) (w3.putObj (E3.ρ h.next).1 (.loop { L3 with state := .exhausted })) e { a with defers := mk ++ a.defers } := by
              refine ⟨hgrown.trans (.refl _ _ g1.M _), hle.trans g1, H4, (hE.mono hle).mono g1, hs, fun b hb => ?_, ?_⟩
              · rcases g4 b hb with h5 | h5
                · rcases hfr b h5 with h6 | h6
                  · exact .inl h6
                  · exact .inr (by omega)
                · exact .inr (Nat.le_trans (by simp) h5)
              · exact Nat.le_trans (by simp) g5
            generalize w3.putObj (E3.ρ h.next).1 (.loop { L3 with state := .exhausted }) = w4 at post hend
            rw [hρ3] at hend
            refine ⟨L3.pending, w4, hend, ?_⟩
            cases pend with
            | none =>
              cases hp3 : L3.pending with
              | none => exact hq _ _ .normal _ _ _ _ _ post hk
              | some jc => rw [hp3] at q3; exact q3.elim
            | some x3 =>
              obtain ⟨hx3, hk⟩ := hk
              cases x3 with
              | normal => exact absurd rfl hx3
              | exit i =>
                cases hp3 : L3.pending with
                | none => rw [hp3] at q3; exact q3.elim
                | some jc =>
                  rw [hp3] at q3
                  cases jc <;> first | exact q3.elim | skip
                  rename_i j
                  have hij : i = j := q3
                  subst hij
                  exact wpIn_exit (hq _ _ (.exit i) _ _ _ _ _ post hk)
              | ret =>
                cases hp3 : L3.pending with
                | none => rw [hp3] at q3; exact q3.elim
                | some jc =>
                  rw [hp3] at q3
                  cases jc <;> first | exact q3.elim | skip
                  exact wpIn_ret (hq _ _ .ret _ _ _ _ _ post hk)
          · exact hk.elim
    · cases hfx
  · exact hh.elim

theorem awp_stuck {n : Nat} {rd : Option Nat} {e : Env} {h : Heap} {Q : Ex → Env → Heap → Prop} (hh : awp c n rd stuck e h Q) : False := by
  obtain ⟨m, rfl, hw⟩ := awp_pos hh
  clear hh
  simp [stuck, awpStep, aOps, aOp, guardA, aeval, op_nilCheck, Env.src] at hw

/-- Code of every depth. -/
theorem sound (hc : CtxOK c P) : ∀ n, Sound c P n := by
  intro n
  induction n using Nat.strongRecOn with
  | _ n ih =>
    intro rd code
    induction code with
    | goto l => intro ac nt e h Q ⟨_, _, _, _, hcomp, _⟩ hh; cases hcomp; exact (awp_stuck hh).elim
    | refuse s => intro ac nt e h Q ⟨_, _, _, _, hcomp, _⟩ hh; cases hcomp; exact (awp_stuck hh).elim
    | scope body ihb =>
      intro ac nt e h Q ⟨pure, kr, kl, b, hcomp, hp⟩ hh Old w0 w E r a H hE hs hr QC hq
      refine wpIn_scope (ihb ac nt e h Q ⟨pure, kr, kl, b, hcomp, hp⟩ hh Old w0 w E r a H hE hs hr _ fun Old' w0' x E' h' w' e' a' hpost hx => ?_)
      exact ⟨exOf_goto x, hq _ _ x _ _ _ _ _ hpost hx⟩
    | skip =>
      intro ac nt e h Q ⟨pure, kr, kl, b, hcomp, hp⟩ hh Old w0 w E r a H hE hs hr QC hq
      cases hcomp
      obtain ⟨m, rfl, hh⟩ := awp_pos hh
      exact wpIn_skip (hq _ _ .normal _ _ _ _ _ (.refl H hE hs) hh)
    | label l =>
      intro ac nt e h Q ⟨pure, kr, kl, b, hcomp, hp⟩ hh Old w0 w E r a H hE hs hr QC hq
      cases hcomp
      obtain ⟨m, rfl, hh⟩ := awp_pos hh
      exact wpIn_label (hq _ _ .normal _ _ _ _ _ (.refl H hE hs) hh)
    | ret =>
      intro ac nt e h Q ⟨pure, kr, kl, b, hcomp, hp⟩ hh Old w0 w E r a H hE hs hr QC hq
      cases hcomp
      obtain ⟨m, rfl, hh⟩ := awp_pos hh
      exact wpIn_ret (hq _ _ .ret _ _ _ _ _ (.refl H hE hs) hh)
    | exit id =>
      intro ac nt e h Q ⟨pure, kr, kl, b, hcomp, hp⟩ hh Old w0 w E r a H hE hs hr QC hq
      cases hcomp
      obtain ⟨m, rfl, hh⟩ := awp_pos hh
      exact wpIn_exit (hq _ _ (.exit id) _ _ _ _ _ (.refl H hE hs) hh)
    | seq x y ihx ihy =>
      intro ac nt e h Q ⟨pure, kr, kl, b, hcomp, hp⟩ hh Old w0 w E r a H hE hs hr QC hq
      simp only [comp] at hcomp
      cases hcomp
      obtain ⟨m, rfl, hh⟩ := awp_pos hh
      refine wpIn_seq (ih m (Nat.lt_succ_self _) rd x _ nt e h _ ⟨pure, kr, kl, b, rfl, hp⟩ hh Old w0 w E r a H hE hs hr _ fun O1 w1 x1 E1 h1' W1 e1 a1 hp1 hx1 => ?_)
      cases x1 with
      | normal => exact ih m (Nat.lt_succ_self _) rd y _ nt e1 h1' Q ⟨pure, kr, kl, b, rfl, hp⟩ hx1 O1 w1 W1 E1 r a1 hp1.rel hp1.env hp1.size (hr.mono hp1.le) QC fun O2 w2 x2 E2 h2' W2 e2 a2 hp2 hx2 => hq _ _ x2 _ _ _ _ _ (hp1.trans hp2) hx2
      | exit i => exact hq _ _ (.exit i) _ _ _ _ _ hp1 hx1
      | ret => exact hq _ _ .ret _ _ _ _ _ hp1 hx1
    | cond cd x y ihx ihy =>
      intro ac nt e h Q ⟨pure, kr, kl, b, hcomp, hp⟩ hh Old w0 w E r a H hE hs hr QC hq
      simp only [comp] at hcomp
      split at hcomp
      · rename_i s h0
        cases hcomp
        obtain ⟨m, rfl, hw⟩ := awp_pos hh
        clear hh
        have hh := hw
        unfold awpStep at hh
        simp only at hh
        split at hh
        · rename_i bb hbb
          have hv := src_rel hE h0 hbb
          generalize hcv : a.eval cd = cv at hv
          cases hv
          refine wpIn_cond hcv ?_
          cases bb with
          | true => exact ih m (Nat.lt_succ_self _) rd x _ nt e h Q ⟨pure, kr, kl, b, rfl, hp⟩ hh Old w0 w E r a H hE hs hr QC hq
          | false => exact ih m (Nat.lt_succ_self _) rd y _ nt e h Q ⟨pure, kr, kl, b, rfl, hp⟩ hh Old w0 w E r a H hE hs hr QC hq
        · exact hh.elim
      · cases hcomp; exact (awp_stuck hh).elim
    | block id body ihb =>
      intro ac nt e h Q ⟨pure, kr, kl, b, hcomp, hp⟩ hh Old w0 w E r a H hE hs hr QC hq
      simp only [comp] at hcomp
      cases hcomp
      obtain ⟨m, rfl, hh⟩ := awp_pos hh
      refine wpIn_block (ih m (Nat.lt_succ_self _) rd body _ nt e h _ ⟨pure, kr, kl, id, rfl, hp⟩ hh Old w0 w E r a H hE hs hr _ fun O1 w1 x1 E1 h1' W1 e1 a1 hp1 hx1 => ?_)
      cases x1 with
      | normal => simp only [reduceCtorEq, if_false] at hx1; exact hq _ _ .normal _ _ _ _ _ hp1 hx1
      | ret => simp only [reduceCtorEq, if_false] at hx1; exact hq _ _ .ret _ _ _ _ _ hp1 hx1
      | exit i =>
        show (if i = id then QC .normal a1 W1 else QC (.exit i) a1 W1)
        by_cases hi : i = id
        · subst hi
          simp only [if_true] at hx1 ⊢
          exact hq _ _ .normal _ _ _ _ _ hp1 hx1
        · rw [if_neg (by intro hh; exact hi (by cases hh; rfl))] at hx1
          rw [if_neg hi]
          exact hq _ _ (.exit i) _ _ _ _ _ hp1 hx1
    | loop body ihb =>
      intro ac nt e h Q ⟨pure, kr, kl, b, hcomp, hp⟩ hh Old w0 w E r a H hE hs hr QC hq
      simp only [comp] at hcomp
      split at hcomp
      · rename_i s hs'
        cases hcomp
        obtain ⟨m, rfl, _⟩ := awp_pos hh
        refine loop_sound (n := m) (fun k hk e h Q hw Old w0 w E a H hE hs hr QC hq => ?_) hh H hE hs hr hq
        obtain ⟨k1, rfl, hw⟩ := awp_pos hw
        obtain ⟨k2, rfl, hw⟩ := awp_pos (show awp c k1 rd (.keep s) e h _ from hw)
        exact ih (k2 + 1) (by omega) rd body _ nt (e.keep s) h Q ⟨pure, kr, kl, b, rfl, hp⟩ hw Old w0 w E r a H (hE.keep s) hs hr QC hq
      · cases hcomp
        obtain ⟨m, rfl, _⟩ := awp_pos hh
        refine loop_sound (n := m) (fun k hk e h Q hw Old w0 w E a H hE hs hr QC hq => ?_) hh H hE hs hr hq
        exact ih k (by omega) rd body _ nt e h Q ⟨pure, kr, kl, b, rfl, hp⟩ hw Old w0 w E r a H hE hs hr QC hq
    | rangeFunc f ps asg body iha ihb =>
      intro ac nt e h Q ⟨pure, kr, kl, b, hcomp, hp⟩ hh Old w0 w E r a H hE hs hr QC hq
      simp only [comp] at hcomp
      split at hcomp
      · rename_i s h0
        split at hcomp
        · rename_i hps
          cases hcomp
          obtain ⟨m, rfl, hh⟩ := awp_pos hh
          exact rangeFunc_sound hc (ih m (Nat.lt_succ_self _)) h0 ⟨pure, kr, kl, b, rfl, hp⟩ ⟨pure, kr, kl, b, rfl, hp⟩ hps hh H hE hs hr hq
        · cases hcomp; exact (awp_stuck hh).elim
      · cases hcomp; exact (awp_stuck hh).elim
    | region id ops draw =>
      intro ac nt e h Q ⟨pure, kr, kl, b, hcomp, hp⟩ hh Old w0 w E r a H hE hs hr QC hq
      simp only [comp] at hcomp
      split at hcomp
      · cases hcomp; exact (awp_stuck hh).elim
      · rename_i as has
        cases draw with
        | false =>
          simp only at hcomp
          unfold withKeep at hcomp
          split at hcomp
          · rename_i s hs'
            subst hcomp
            obtain ⟨m, rfl, hh⟩ := awp_pos hh
            obtain ⟨k, rfl, hh⟩ := awp_pos (show awp c m rd (.ops none as) e h _ from hh)
            refine region_text hc (ih k (by omega)) has hh H hE hs fun E1 h1 W1 e1 a1 hp1 hx1 => ?_
            exact hq _ _ .normal _ _ _ _ _ (hp1.keep s) hx1
          · subst hcomp
            obtain ⟨m, rfl, hh⟩ := awp_pos hh
            exact region_text hc (ih m (by omega)) has hh H hE hs fun E1 h1 W1 e1 a1 hp1 hx1 => hq _ _ .normal _ _ _ _ _ hp1 hx1
        | true =>
          simp only at hcomp
          split at hcomp
          · cases hcomp; exact (awp_stuck hh).elim
          · rename_i s hs'
            unfold drawn at hcomp
            split at hcomp
            · rename_i hd
              subst hcomp
              rw [Bool.and_eq_true, Bool.and_eq_true] at hd
              obtain ⟨m, rfl, hh⟩ := awp_pos hh
              exact region_draw hc (ih m (by omega)) hp has hd.1.1 hd.1.2 hd.2 hh H hE hs fun E1 h1 W1 e1 a1 hp1 hx1 => hq _ _ .normal _ _ _ _ _ hp1 hx1
            · cases hcomp; exact (awp_stuck hh).elim

/-- A function's contract. -/
theorem acall_sound (hc : CtxOK c P) (n : Nat) : CallSound c P (acall c n) := callSound hc (sound hc n)

end
end Go.Ab
