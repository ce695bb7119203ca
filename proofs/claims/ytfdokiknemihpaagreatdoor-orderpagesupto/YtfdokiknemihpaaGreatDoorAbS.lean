/- The abstract machine is sound. -/
import Derived.Test.YtfdokiknemihpaaGreatDoorAbR
namespace Go.Ab

/-- A summary's promise. -/
structure SumOK (c : Ctx) (P : Program) (f : Nat) (s : Spec) : Prop where
  mono : s.Mono
  away : SpecAway s
  live : ∀ args h K, s args h K → ∃ v h', K v h'
  body : HasBody P f
  meets : ∀ args h K, s args h K → ∀ (Old : Nat → Prop) (w0 w : World) (E : Emb) (xs : List Value), HRel (CR c P) Old w0 E h w → VsRel E args xs → CallsIn (FW none) 0 P f xs.toArray w (RetPost (CR c P) Old w0 E h K)

structure CtxOK (c : Ctx) (P : Program) : Prop where
  any : P.follows .mixedOrders = true
  sums : ∀ f s, c.sums f = some s → SumOK c P f s
  funcs : ∀ f F, c.funcs f = some F → ∃ fn pure kr kl, P.funcs[f]? = some fn ∧ compF P pure kr kl fn = some F ∧ PureOK c pure

/-! ### Something comes of it -/
def WP.Live (rec : WP) : Prop := ∀ rd code e h Q, rec rd code e h Q → ∃ x e' h', Q x e' h'

theorem callA_live {c : Ctx} (hs : ∀ f s, c.sums f = some s → ∀ args h K, s args h K → ∃ v h', K v h') {rec : WP} (hl : rec.Live) : (callA c rec).Live := by
  intro fv args h K hh
  unfold callA at hh
  split at hh
  · unfold nextP at hh
    split at hh
    · split at hh
      · split at hh
        · rename_i es _
          by_cases hall : ∀ i, i < es.length → i ∈ ‹List Nat›
          · exact ⟨_, _, hh.2.2 (fun i hi => hall i (by omega))⟩
          · simp only [Classical.not_forall] at hall
            obtain ⟨i, hi, hn⟩ := hall
            exact ⟨_, _, hh.2.1 i _ _ (by rw [List.getElem?_eq_getElem hi]) hn⟩
        · exact hh.elim
      · exact hh.elim
    · exact hh.elim
  · split at hh
    · rename_i s hf; exact hs _ _ hf _ _ _ hh
    · split at hh
      · exact hh.elim
      · obtain ⟨x, e', h', hx⟩ := hl _ _ _ _ _ hh
        split at hx
        · exact hx.elim
        · split at hx
          · exact ⟨_, _, hx⟩
          · exact hx.elim
  · split at hh
    · obtain ⟨_, hh⟩ := hh
      obtain ⟨x, e', h', hx⟩ := hl _ _ _ _ _ hh
      split at hx
      · split at hx
        · obtain ⟨x2, e2, h2, hx⟩ := hl _ _ _ _ _ hx
          split at hx
          · exact ⟨_, _, hx⟩
          · exact hx.elim
        · exact hx.elim
      · exact hx.elim
    · exact hh.elim
  · exact hh.elim

theorem aOps_live {call : CallP} (hl : call.Live) : ∀ (os : List AOp) (id : Nat) (e : Env) (h : Heap) (K : Env → Heap → Prop), aOps call id os e h K → ∃ e' h', K e' h'
  | [], _, e, h, _, hh => ⟨e, h, hh⟩
  | o :: os, id, e, h, K, hh => by
    simp only [aOps, aOp_V] at hh
    obtain ⟨v, h', hv⟩ := aOpV_live hl hh
    exact aOps_live hl os _ _ _ _ hv.2

theorem awp_live {c : Ctx} (hs : ∀ f s, c.sums f = some s → ∀ args h K, s args h K → ∃ v h', K v h') : ∀ n, (awp c n).Live
  | 0 => fun _ _ _ _ _ hh => hh.elim
  | n + 1 => by
    have ih := awp_live hs n
    intro rd code e h Q hh
    rw [awp_succ] at hh
    unfold awpStep at hh
    have seqL : ∀ {R' : Env → Heap → Prop} {x : Ex} {e' : Env} {h' : Heap}, (match x with | .normal => R' e' h' | x => Q x e' h') → (R' e' h' → ∃ x e' h', Q x e' h') → ∃ x e' h', Q x e' h' := by
      intro R' x e' h' hm hr
      cases x with
      | normal => exact hr hm
      | exit i => exact ⟨_, _, _, hm⟩
      | ret => exact ⟨_, _, _, hm⟩
    cases code with
    | skip => exact ⟨_, _, _, hh⟩
    | ops kp os =>
      cases kp with
      | none => obtain ⟨e', h', hk⟩ := aOps_live (callA_live hs ih) _ _ _ _ _ hh; exact ⟨_, _, _, hk⟩
      | some kp => obtain ⟨e', h', hk⟩ := aOps_live (callA_live hs ih) _ _ _ _ _ hh; exact ⟨_, _, _, hk⟩
    | seq a b =>
      obtain ⟨x, e', h', hx⟩ := ih _ _ _ _ _ hh
      exact seqL (R' := fun e' h' => awp c n rd b e' h' Q) hx (fun hr => ih _ _ _ _ _ hr)
    | cond s t f =>
      simp only at hh
      split at hh
      · exact ih _ _ _ _ _ hh
      · exact hh.elim
    | block id b =>
      obtain ⟨x, e', h', hx⟩ := ih _ _ _ _ _ hh
      split at hx
      · exact ⟨_, _, _, hx⟩
      · exact ⟨_, _, _, hx⟩
    | loop b =>
      obtain ⟨x, e', h', hx⟩ := ih _ _ _ _ _ hh
      exact seqL (R' := fun e' h' => awp c n rd (.loop b) e' h' Q) hx (fun hr => ih _ _ _ _ _ hr)
    | exit id => exact ⟨_, _, _, hh⟩
    | ret => exact ⟨_, _, _, hh⟩
    | keep s => exact ⟨_, _, _, hh⟩
    | rangeFunc f ps asg body =>
      simp only at hh
      split at hh
      · obtain ⟨_, hh⟩ := hh
        obtain ⟨v, h', hx⟩ := callA_live hs ih _ _ _ _ hh
        split at hx
        · obtain ⟨_, hx⟩ := hx
          split at hx
          · exact ⟨_, _, _, hx⟩
          · exact ⟨_, _, _, hx.2⟩
        · exact hx.elim
      · exact hh.elim

theorem CtxOK.away {c : Ctx} {P : Program} (hc : CtxOK c P) : CtxAway c := fun f s hs => (hc.sums f s hs).away
theorem CtxOK.mono {c : Ctx} {P : Program} (hc : CtxOK c P) : CtxMono c := fun f s hs => (hc.sums f s hs).mono
theorem CtxOK.live {c : Ctx} {P : Program} (hc : CtxOK c P) : ∀ f s, c.sums f = some s → ∀ args h K, s args h K → ∃ v h', K v h' := fun f s hs => (hc.sums f s hs).live

open Classical in
/-- What the pure functions mean. -/
noncomputable def pureG (c : Ctx) (f : Nat) (vs : List AV) : Option AV :=
  if h : ∃ g, c.sums f = some (pureSpec g) then Classical.choose h vs else none

theorem pureCall {c : Ctx} {pure : List Nat} (hp : PureOK c pure) (rec : WP) : PureCall (callA c rec) pure (pureG c) := by
  intro f hf vs h K
  have hx := hp f hf
  have hg : c.sums f = some (pureSpec (Classical.choose hx)) := Classical.choose_spec hx
  have e2 : pureG c f vs = Classical.choose hx vs := by unfold pureG; rw [dif_pos hx]
  rw [e2]
  generalize Classical.choose hx = g at hg
  have e1 : callA c rec (.func (.fn f) [] []) vs h K = pureSpec g vs h K := by
    simp only [callA, hg, List.nil_append, List.append_nil]
  rw [e1]
  unfold pureSpec
  split
  · rename_i v hv; simp [hv]
  · rename_i hv; simp [hv]

/-- Code, so deep, is what the abstract machine says. -/
def Sound (c : Ctx) (P : Program) (n : Nat) : Prop :=
  ∀ (rd : Option Nat) (code : Code) (ac : AC) (nt : Nat) (e : Env) (h : Heap) (Q : Ex → Env → Heap → Prop), CR c P nt code ac → awp c n rd ac e h Q →
    ∀ (Old : Nat → Prop) (w0 w : World) (E : Emb) (r : Option Nat) (a : Act), HRel (CR c P) Old w0 E h w → EnvRel E e a.tmps → nt ≤ a.tmps.size → RdRel E rd r →
      ∀ (QC : Exit → Act → World → Prop), (∀ Old' w0' x E' h' w' e' a', CPost (CR c P) Old w0 E h nt a.defers Old' w0' E' h' w' e' a' → Q x e' h' → QC (exOf x) a' w') → code.wpIn (FW r) 0 P QC a w

theorem least {p : Nat → Prop} (h : ∃ n, p n) : ∃ n, p n ∧ ∀ m, p m → n ≤ m := by
  obtain ⟨n, hn⟩ := h
  induction n using Nat.strongRecOn with
  | _ n ih =>
    by_cases hx : ∃ m, m < n ∧ p m
    · obtain ⟨m, hm, hp⟩ := hx; exact ih m hm hp
    · exact ⟨n, hn, fun m hm => Nat.le_of_not_lt fun hlt => hx ⟨m, hlt, hm⟩⟩

section
variable {c : Ctx} {P : Program} {Old : Nat → Prop} {w0 w : World} {E : Emb} {h : Heap} {a : Act} {e : Env}

theorem initEnv_get : ∀ (vs : List AV) (i t : Nat) (v : AV), (initEnv i vs).get t = some v → ∃ j, t = i + j ∧ vs[j]? = some v
  | [], _, _, _, h => by cases h
  | u :: vs, i, t, v, h => by
    have h' : Env.get ((i, u) :: initEnv (i + 1) vs) t = some v := h
    rw [Env.get_cons] at h'
    split at h'
    · rename_i hit; cases h'; exact ⟨0, by omega, rfl⟩
    · obtain ⟨j, h1, h2⟩ := initEnv_get vs (i + 1) t v h'
      exact ⟨j + 1, by omega, by simpa using h2⟩

theorem initEnv_rel {vs : List AV} {xs : List Value} (hv : VsRel E vs xs) (m : Nat) : EnvRel E (initEnv 0 vs) (xs.toArray ++ Array.replicate m undef) := by
  intro t v ht
  obtain ⟨j, h1, h2⟩ := initEnv_get _ _ _ _ ht
  obtain ⟨x, h3, h4⟩ := hv.get j v h2
  refine ⟨x, ?_, h4⟩
  have hlt : j < xs.length := (List.getElem?_eq_some_iff.1 h3).1
  rw [h1, Nat.zero_add, Array.getElem?_append_left (by simpa using hlt)]
  simpa using h3

theorem putAll_rel : ∀ {ps : List Nat} {vs : List AV} {xs : List Value} {env : Env} {tmps : Array Value} {nt : Nat}, VsRel E vs xs → EnvRel E env tmps → nt ≤ tmps.size → ps.all (Nat.blt · nt) = true →
    EnvRel E (env.putAll ps vs) ((ps.zip xs).foldl (fun tmps (t, a) => tmps.setIfInBounds t a) tmps) ∧ nt ≤ ((ps.zip xs).foldl (fun tmps (t, a) => tmps.setIfInBounds t a) tmps).size
  | [], vs, xs, env, tmps, nt, _, hE, hs, _ => ⟨by cases vs <;> exact hE, hs⟩
  | p :: ps, [], xs, env, tmps, nt, hv, hE, hs, _ => by cases hv; exact ⟨hE, hs⟩
  | p :: ps, v :: vs, xs, env, tmps, nt, hv, hE, hs, hp => by
    cases hv with
    | cons _ x _ xs hx hxs =>
      simp only [List.all_cons, Bool.and_eq_true] at hp
      have hput := hE.put (a := { tmps := tmps, defers := [] }) (nt := nt) (d := some p) hs hp.1 hx
      have hr := putAll_rel hxs hput.1 hput.2 hp.2
      exact hr

/-- The frame is left: its marks are taken. -/
theorem leaves_marks {F : Fence} {n : Nat} {fn : Func} {tmps : Array Value} {R : Ending → World → Prop} {CRel : CodeRel} : ∀ (bs : List Nat) {w : World}, bs.Nodup → (∀ B ∈ bs, w.heap[B]? = some (.deferred (some []))  ∧ ¬ Old B) → HRel CRel Old w0 E h w →
    (∀ w', HRel CRel Old w0 E h w' → ∃ v, (results fn tmps).run P w' = .ok v w' ∧ R (.returned v) w') → LeavesInM F n P fn tmps R (bs.map mark) .returning w
  | [], w, _, _, H, hr => hr w H
  | B :: bs, w, hn, hb, H, hr => by
    rw [List.nodup_cons] at hn
    obtain ⟨h1, h2⟩ := hb B List.mem_cons_self
    refine ⟨by simp, .inl ⟨B, w.putObj B (.deferred none), rfl, run_takeDeferred h1, ?_⟩⟩
    refine leaves_marks bs hn.2 (fun B' hB' => ?_) (H.shut h1 h2) hr
    obtain ⟨h3, h4⟩ := hb B' (List.mem_cons_of_mem _ hB')
    exact ⟨by rw [World.putObj_heap_other (fun (hh : B' = B) => hn.1 (by rw [← hh]; exact hB')), h3], h4⟩

theorem RetPost.of {R : CodeRel} {K : AV → Heap → Prop} {v : AV} {x : Value} {h' : Heap} {E' : Emb} {w' : World} (hk : K v h') (hle : E.Le E') (H : HRel R Old w0 E' h' w') (hv : VRel E' v x) (hf : ∀ b, E'.here b → E.here b ∨ h.next ≤ b) (hn : h.next ≤ h'.next) :
    RetPost R Old w0 E h K (.returned x) w' := ⟨v, h', E', hk, hle, H, hv, hf, hn⟩

/-- Calls are what the abstract machine says. -/
theorem callSound (hc : CtxOK c P) {n : Nat} (ih : Sound c P n) : CallSound c P (callA c (awp c n)) := by
  intro fv args h K hh Old w0 w E fx xs H hfv hargs
  unfold callA at hh
  split at hh
  · cases hfv
  · rename_i f first cap
    cases hfv with
    | func _ _ _ first' cap' h1 h2 =>
      left
      have hall : VsRel E (first ++ args ++ cap) (first' ++ xs ++ cap') := (h1.append hargs).append h2
      have harr : first'.toArray ++ xs.toArray ++ cap'.toArray = (first' ++ xs ++ cap').toArray := by simp
      split at hh
      · rename_i s hs
        have hso := hc.sums f s hs
        refine ⟨f, _, _, rfl, hso.body, ?_⟩
        rw [harr]
        exact hso.meets _ _ _ hh Old w0 w E _ H hall
      · split at hh
        · exact hh.elim
        · rename_i F hF
          obtain ⟨fn, pure, kr, kl, hfn, hcomp, hpure⟩ := hc.funcs f F hF
          unfold compF at hcomp
          split at hcomp
          · cases hcomp
          · rename_i code hbody
            split at hcomp
            · rename_i rs hrs
              split at hcomp
              · cases hcomp
              · rename_i hname
                simp only [Option.some.injEq] at hcomp
                subst hcomp
                refine ⟨f, _, _, rfl, ⟨fn, code, hfn, hbody, by simpa using hname⟩, ?_⟩
                rw [harr]
                refine callsIn_of_wp_marks hfn hbody trivial ?_
                refine ih none code _ fn.ntmps _ _ _ ⟨pure, kr, kl, 0, rfl, hpure⟩ hh Old w0 w E none _ H (initEnv_rel hall _) (by simp; omega) trivial _ ?_
                intro Old' w0' x E' h' w' e' a' hp hq
                have hfin : LeavesInM (FW none) 0 P fn a'.tmps (RetPost (CR c P) Old w0 E h K) a'.defers .returning w' ↔ LeavesInM (FW none) 0 P fn a'.tmps (RetPost (CR c P) Old w0 E h K) a'.defers .returning w' := Iff.rfl
                have main : ∀ vs, ressA e' h' rs = some vs → K (packRes vs) h' → LeavesInM (FW none) 0 P fn a'.tmps (RetPost (CR c P) Old w0 E h K) a'.defers .returning w' := fun vs hv hk => by
                  obtain ⟨bs, d1, d2, d3⟩ := hp.grown.new
                  rw [d1, List.append_nil]
                  refine leaves_marks bs d2 (fun B hB => ?_) (hp.rel.oldLess hp.grown.old hp.grown.side) (fun w'' H'' => ?_)
                  · obtain ⟨q1, q2, q3, q4⟩ := d3 B hB
                    refine ⟨by rw [(hp.rel.old B q3).2, q4], fun hold => ?_⟩
                    have := (H.old B hold).1
                    omega
                  · obtain ⟨v, hv1, hv2⟩ := results_rel (P := P) H'' hp.env hrs hv
                    exact ⟨v, hv1, .of hk hp.le H'' hv2 hp.fresh hp.next⟩
                cases x with
                | exit i => exact hq.elim
                | normal =>
                  simp only at hq
                  split at hq
                  · rename_i vs hv; exact main vs hv hq
                  · exact hq.elim
                | ret =>
                  simp only at hq
                  split at hq
                  · rename_i vs hv; exact main vs hv hq
                  · exact hq.elim
            · cases hcomp
  · rename_i l first cap
    cases hfv with
    | yield _ hl =>
      right
      simp only [List.nil_append] at hh
      split at hh
      · rename_i st pend env ps asg body hg
        obtain ⟨hlen, hh⟩ := hh
        obtain ⟨_, _, L, nt, o1, o2, o3, o4, o5, o6, o7, o8, o9⟩ := H.objs _ _ hg
        refine ⟨(E.ρ l).1, L, rfl, o1, ?_, ?_⟩
        · rw [← hargs.length, hlen, ← o6]; simp
        · refine roundIn_of_wpIn trivial ?_
          have htm : roundTmps L xs.toArray = (ps.zip xs).foldl (fun tmps (t, a) => tmps.setIfInBounds t a) L.tmps := by
            unfold roundTmps
            rw [← o6]
            rw [← Array.foldl_toList]
            simp
          rw [htm]
          have hput := putAll_rel hargs o4 o5 o7
          refine ih (some l) L.assign asg nt _ _ _ o8 hh Old w0 w E (some (E.ρ l).1) _ H hput.1 hput.2 ⟨hl, rfl⟩ _ ?_
          intro Old1 w01 x E1 h1 w1 e1 a1 hp hq
          cases x with
          | exit i => exact hq.elim
          | ret => exact hq.elim
          | normal =>
            simp only at hq
            split at hq
            · rename_i pend1 env1 ps1 asg1 body1 hg1
              obtain ⟨_, m1, L1, nt1, q1, q2, q3, q4, q5, q6, q7, q8, q9⟩ := hp.rel.objs _ _ hg1
              have hρ := (hp.le.here l hl).2
              have hlt : (E1.ρ l).1 < w1.heap.size := by rw [← hp.rel.M]; exact m1
              have hbegin := run_beginRound (P := P) q1 q2
              have H2 := hp.rel.write (ps := []) (o' := .loop .busy pend1 env1 ps1 asg1 body1) (w' := w1.putObj (E1.ρ l).1 (.loop { L1 with state := .busy })) hg1 rfl rfl (fun _ _ hx => by cases hx) (by simp)
                (fun k hk => World.putObj_heap_other hk) ⟨{ L1 with state := .busy }, nt1, World.putObj_heap_same hlt, rfl, q3, q4, q5, q6, q7, q8, q9⟩
              refine ⟨_, by rw [← hρ]; exact hbegin, ?_⟩
              refine ih (some l) L.body body nt _ _ _ o9 hq Old1 w01 _ E1 (some (E.ρ l).1) a1 H2 hp.env hp.size ⟨(hp.le.here l hl).1, by rw [hρ]⟩ _ ?_
              intro Old2 w02 x2 E2 h2 w2 e2 a2 hp2 hq2
              split at hq2
              · rename_i st2 pend2 env2 ps2 asg2 body2 hg2
                obtain ⟨_, m2, L2, nt2, r1, r2, r3, r4, r5, r6, r7, r8, r9⟩ := hp2.rel.objs _ _ hg2
                have hρ2 : (E2.ρ l).1 = (E.ρ l).1 := by rw [(hp2.le.here l (hp.le.here l hl).1).2, hρ]
                have hlt2 : (E2.ρ l).1 < w2.heap.size := by rw [← hp2.rel.M]; exact m2
                have hgr := (hp.grown.trans hp2.grown)
                have fin : ∀ (jump : Option Code) (st' : LoopState) (pd : Option Ex), exRel pd jump → (if jump.isNone then LoopState.ready else .done) = st' → K (.bool jump.isNone) (h2.set l (some (.loop st' pd env2 ps2 asg2 body2))) →
                    ∃ v w', (Instr.endRound (E.ρ l).1 jump).run P w2 = .ok v w' ∧ RetPost (CR c P) Old w0 E h K (.returned v) w' := fun jump st' pd hx hst hk => by
                  have H3 := hp2.rel.write (ps := []) (o' := .loop st' pd env2 ps2 asg2 body2) (w' := w2.putObj (E2.ρ l).1 (.loop { L2 with state := st', pending := jump })) hg2 rfl rfl (fun _ _ hx => by cases hx) (by simp)
                    (fun k hk => World.putObj_heap_other hk) ⟨{ L2 with state := st', pending := jump }, nt2, World.putObj_heap_same hlt2, rfl, hx, r4, r5, r6, r7, r8, r9⟩
                  refine ⟨_, _, by rw [← hρ2]; exact run_endRound jump r1, ?_⟩
                  refine .of hk (hp.le.trans hp2.le) ?_ (.bool _) (fun b hb => ?_) (Nat.le_trans hp.next hp2.next)
                  · rw [hst]; exact H3.oldLess hgr.old hgr.side
                  · rcases hp2.fresh b hb with h3 | h3
                    · exact hp.fresh b h3
                    · exact .inr (Nat.le_trans hp.next h3)
                cases x2 with
                | normal => exact fin none .ready none trivial rfl hq2
                | exit i => exact fin (some (.exit i)) .done (some (.exit i)) rfl rfl hq2
                | ret => exact fin (some .ret) .done (some .ret) trivial rfl hq2
              · exact hq2.elim
            · exact hq.elim
      · exact hh.elim
  · exact hh.elim

end
end Go.Ab
