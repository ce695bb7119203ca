/- Reasoning over the abstract machine's code where every function has one answer: the fuel out of sight. -/
import Derived.Test.YtfdokiknemihpaaGreatDoorAbS
namespace Go.Ab

/-- A summary that is a function. -/
def funSpec (g : Fun) : Spec := fun args h K => match g args h with
  | some r => K r.1 r.2
  | none => False

/-- The context of functions with one answer each. -/
def cx (x : XCtx) : Ctx where
  sums := fun f => match x.sums f with
    | some g => some (funSpec g)
    | none => none
  funcs := x.funcs

theorem cx_sums {x : XCtx} {f : Nat} {s : Spec} (h : (cx x).sums f = some s) : ∃ g, x.sums f = some g ∧ s = funSpec g := by
  simp only [cx] at h
  split at h
  · rename_i g hg; cases h; exact ⟨g, hg, rfl⟩
  · cases h

theorem cx_mono (x : XCtx) : CtxMono (cx x) := fun f s hs => by
  obtain ⟨g, _, rfl⟩ := cx_sums hs
  intro args h K K' hk hh
  unfold funSpec at hh ⊢
  split at hh
  · exact hk _ _ hh
  · exact hh.elim

theorem cx_fits (x : XCtx) : CtxFits (cx x) x where
  sums := fun f g hg => ⟨funSpec g, by simp [cx, hg], fun args h r K hr hk => by unfold funSpec; rw [hr]; exact hk⟩
  none := fun f hf => by simp [cx, hf]
  funcs := fun _ _ hf => hf

/-! ### What holds for some fuel behind every step holds for one fuel behind all -/
def Up {α : Type} (P : Nat → α → Prop) : Prop := ∀ m m' x, m ≤ m' → P m x → P m' x
def CallCont (call : CallP) : Prop := ∀ fv args h (K : Nat → AV → Heap → Prop), (∀ m m' v h, m ≤ m' → K m v h → K m' v h) → call fv args h (fun v h' => ∃ m, K m v h') → ∃ m, call fv args h (K m)
def WPCont (rec : WP) : Prop := ∀ rd code e h (Q : Nat → Ex → Env → Heap → Prop), (∀ m m' x e h, m ≤ m' → Q m x e h → Q m' x e h) → rec rd code e h (fun x e' h' => ∃ m, Q m x e' h') → ∃ m, rec rd code e h (Q m)
def CtxCont (c : Ctx) : Prop := ∀ f s, c.sums f = some s → ∀ args h (K : Nat → AV → Heap → Prop), (∀ m m' v h, m ≤ m' → K m v h → K m' v h) → s args h (fun v h' => ∃ m, K m v h') → ∃ m, s args h (K m)

theorem nextP_cont {args : List AV} {h : Heap} {K : Nat → AV → Heap → Prop} (hu : ∀ m m' v h, m ≤ m' → K m v h → K m' v h) (hh : nextP args h (fun v h' => ∃ m, K m v h')) : ∃ m, nextP args h (K m) := by
  unfold nextP at hh ⊢
  split at hh
  · rename_i r
    split at hh
    · rename_i m n seen hm
      split at hh
      · rename_i es hes
        obtain ⟨hn, h1, h2⟩ := hh
        have key : ∀ j, ∃ q, ∀ i k v, i < j → es[i]? = some (k, v) → i ∉ seen → K q (.tuple [.bool true, k, v]) (h.set r (some (.mapIter m n (i :: seen)))) := by
          intro j
          induction j with
          | zero => exact ⟨0, fun i k v hi => absurd hi (Nat.not_lt_zero _)⟩
          | succ j ih =>
            obtain ⟨q, hq⟩ := ih
            by_cases hj : ∃ k v, es[j]? = some (k, v) ∧ j ∉ seen
            · obtain ⟨k, v, e1, e2⟩ := hj
              obtain ⟨q2, hq2⟩ := h1 j k v e1 e2
              refine ⟨max q q2, fun i k' v' hi e3 e4 => ?_⟩
              by_cases hij : i = j
              · subst hij
                rw [e1] at e3
                cases e3
                exact hu _ _ _ _ (Nat.le_max_right _ _) hq2
              · exact hu _ _ _ _ (Nat.le_max_left _ _) (hq i k' v' (by omega) e3 e4)
            · refine ⟨q, fun i k' v' hi e3 e4 => ?_⟩
              by_cases hij : i = j
              · subst hij; exact absurd ⟨k', v', e3, e4⟩ hj
              · exact hq i k' v' (by omega) e3 e4
        obtain ⟨q, hq⟩ := key es.length
        by_cases hall : ∀ i, i < n → i ∈ seen
        · obtain ⟨q2, hq2⟩ := h2 hall
          exact ⟨max q q2, hn, fun i k v e3 e4 => hu _ _ _ _ (Nat.le_max_left _ _) (hq i k v (List.getElem?_eq_some_iff.1 e3).1 e3 e4), fun _ => hu _ _ _ _ (Nat.le_max_right _ _) hq2⟩
        · exact ⟨q, hn, fun i k v e3 e4 => hq i k v (List.getElem?_eq_some_iff.1 e3).1 e3 e4, fun hh => absurd hh hall⟩
      · exact hh.elim
    · exact hh.elim
  · exact hh.elim

theorem aOp_cont {call : CallP} (hc : CallCont call) {id : Nat} {o : AOp} {e : Env} {h : Heap} {K : Nat → Env → Heap → Prop} (hu : ∀ m m' e h, m ≤ m' → K m e h → K m' e h) (hh : aOp call id o e h (fun e' h' => ∃ m, K m e' h')) : ∃ m, aOp call id o e h (K m) := by
  unfold aOp at hh ⊢
  split at hh
  · exact hh.elim
  · exact hh
  · split at hh
    · split at hh
      · exact hc _ _ _ (fun m v h' => K m (e.putD o.dst v) h') (fun m m' v h hm hk => hu _ _ _ _ hm hk) hh
      · exact hh.elim
    · split at hh
      · exact hc _ _ _ (fun m v h' => K m (e.putD o.dst v) h') (fun m m' v h hm hk => hu _ _ _ _ hm hk) hh
      · exact hh.elim
    · split at hh
      · exact hh
      · exact hh.elim

theorem aOps_cont {call : CallP} (hm : call.Mono) (hc : CallCont call) : ∀ (os : List AOp) {id : Nat} {e : Env} {h : Heap} {K : Nat → Env → Heap → Prop}, (∀ m m' e h, m ≤ m' → K m e h → K m' e h) →
    aOps call id os e h (fun e' h' => ∃ m, K m e' h') → ∃ m, aOps call id os e h (K m)
  | [], _, _, _, _, _, hh => hh
  | o :: os, id, _, _, K, hu, hh => by
    refine aOp_cont hc (K := fun m e' h' => chksA o.chk e' h' ∧ aOps call (id + 1) os e' h' (K m)) (fun m m' e h hmm hk => ⟨hk.1, aOps_mono hm (.refl _) os (fun e h hk' => hu _ _ _ _ hmm hk') hk.2⟩) ?_
    refine aOp_mono hm (.refl _) (fun e h hk => ?_) hh
    obtain ⟨m, hm'⟩ := aOps_cont hm hc os hu hk.2
    exact ⟨m, hk.1, hm'⟩

theorem callA_cont {c : Ctx} (hcc : CtxCont c) {rec : WP} (hr : rec.Mono) (hf : WPCont rec) : CallCont (callA c rec) := by
  intro fv args h K hu hh
  unfold callA at hh ⊢
  split at hh
  · exact nextP_cont hu hh
  · rename_i f first cap
    split at hh
    · rename_i s hs
      exact hcc _ _ hs _ _ K hu hh
    · split at hh
      · exact hh.elim
      · rename_i F hF
        refine hf _ _ _ _ (fun m x e' h' => match x with | .exit _ => False | _ => match ressA e' h' F.results with | some vs => K m (packRes vs) h' | none => False) (fun m m' x e h hm hk => ?_) (hr _ _ _ _ _ _ (fun x e' h' hx => ?_) hh)
        · cases x with
          | exit i => exact hk
          | normal => simp only at hk ⊢; split at hk; · exact hu _ _ _ _ hm hk
                      · exact hk
          | ret => simp only at hk ⊢; split at hk; · exact hu _ _ _ _ hm hk
                   · exact hk
        · cases x with
          | exit i => exact hx.elim
          | normal =>
            simp only at hx ⊢
            split at hx
            · rename_i hv; simp only [hv]; exact hx
            · exact hx.elim
          | ret =>
            simp only at hx ⊢
            split at hx
            · rename_i hv; simp only [hv]; exact hx
            · exact hx.elim
  · rename_i l first cap
    split at hh
    · rename_i st pend env ps asg body hg
      obtain ⟨hlen, hh⟩ := hh
      have : ∃ m, rec (some l) asg (env.putAll ps (first ++ args)) h fun x e1 h1 =>
          match x with
          | .normal => (match h1.get l with
            | some (.loop .ready pend1 env1 ps1 asg1 body1) =>
              rec (some l) body e1 (h1.set l (some (.loop .busy pend1 env1 ps1 asg1 body1))) fun x2 _ h2 =>
                match h2.get l with
                | some (.loop _ _ env2 ps2 asg2 body2) =>
                  K m (.bool (endRoundA x2).2.2) (h2.set l (some (.loop (endRoundA x2).1 (endRoundA x2).2.1 env2 ps2 asg2 body2)))
                | _ => False
            | _ => False)
          | _ => False := by
        refine hf _ _ _ _ (fun m x e1 h1 => match x with
          | .normal => (match h1.get l with
            | some (.loop .ready pend1 env1 ps1 asg1 body1) =>
              rec (some l) body e1 (h1.set l (some (.loop .busy pend1 env1 ps1 asg1 body1))) fun x2 _ h2 =>
                match h2.get l with
                | some (.loop _ _ env2 ps2 asg2 body2) =>
                  K m (.bool (endRoundA x2).2.2) (h2.set l (some (.loop (endRoundA x2).1 (endRoundA x2).2.1 env2 ps2 asg2 body2)))
                | _ => False
            | _ => False)
          | _ => False) (fun m m' x e h hm hk => ?_) (hr _ _ _ _ _ _ (fun x e' h' hx => ?_) hh)
        · cases x with
          | exit i => exact hk
          | ret => exact hk
          | normal =>
            simp only at hk ⊢
            split at hk
            · refine hr _ _ _ _ _ _ (fun x2 e2 h2 hk2 => ?_) hk
              split at hk2
              · exact hu _ _ _ _ hm hk2
              · exact hk2
            · exact hk
        · cases x with
          | exit i => exact hx.elim
          | ret => exact hx.elim
          | normal =>
            simp only at hx ⊢
            split at hx
            · rename_i pend1 env1 ps1 asg1 body1 hg1
              simp only [hg1]
              refine hf _ _ _ _ (fun m x2 e2 h2 => match h2.get l with
                | some (.loop _ _ env2 ps2 asg2 body2) =>
                  K m (.bool (endRoundA x2).2.2) (h2.set l (some (.loop (endRoundA x2).1 (endRoundA x2).2.1 env2 ps2 asg2 body2)))
                | _ => False) (fun m m' x e h hm hk => ?_) (hr _ _ _ _ _ _ (fun x2 e2 h2 hk2 => ?_) hx)
              · split at hk
                · exact hu _ _ _ _ hm hk
                · exact hk
              · split at hk2
                · rename_i hg2; simp only [hg2]; exact hk2
                · exact hk2.elim
            · exact hx.elim
      obtain ⟨m, hm⟩ := this
      exact ⟨m, hlen, hm⟩
    · exact hh.elim
  · exact hh.elim

theorem awpStep_cont {c : Ctx} (hcm : CtxMono c) (hcc : CtxCont c) {rec : WP} (hm : rec.Mono) (hf : WPCont rec) : WPCont (awpStep c rec) := by
  intro rd code e h Q hu hh
  have hcmono := callA_mono hcm hm
  have hcd := callA_cont hcc hm hf
  have seqB : ∀ (a b : AC), (rec rd a e h fun x e' h' => match x with | .normal => rec rd b e' h' (fun x e' h' => ∃ m, Q m x e' h') | x => ∃ m, Q m x e' h') →
      ∃ m, rec rd a e h fun x e' h' => match x with | .normal => rec rd b e' h' (Q m) | x => Q m x e' h' := fun a b hh => by
    refine hf _ _ _ _ (fun m x e' h' => match x with | .normal => rec rd b e' h' (Q m) | x => Q m x e' h') (fun m m' x e h hmm hk => ?_) (hm _ _ _ _ _ _ (fun x e' h' hx => ?_) hh)
    · cases x with
      | normal => exact hm _ _ _ _ _ _ (fun x e h hk' => hu _ _ _ _ _ hmm hk') hk
      | exit i => exact hu _ _ _ _ _ hmm hk
      | ret => exact hu _ _ _ _ _ hmm hk
    · cases x with
      | normal => exact hf _ _ _ _ Q hu hx
      | exit i => exact hx
      | ret => exact hx
  cases code with
  | skip => exact hh
  | ops kp os =>
    cases kp with
    | none => exact aOps_cont hcmono hcd os (K := fun m e' h' => Q m .normal e' h') (fun m m' e h hmm hk => hu _ _ _ _ _ hmm hk) hh
    | some kp => exact aOps_cont hcmono hcd os (K := fun m e' h' => Q m .normal (e'.keep kp) h') (fun m m' e h hmm hk => hu _ _ _ _ _ hmm hk) hh
  | seq a b => exact seqB a b hh
  | loop b => exact seqB b (.loop b) hh
  | cond s t g =>
    simp only [awpStep] at hh ⊢
    split at hh
    · exact hf _ _ _ _ Q hu hh
    · exact hh.elim
  | block id b =>
    simp only [awpStep] at hh ⊢
    refine hf _ _ _ _ (fun m x e' h' => if x = .exit id then Q m .normal e' h' else Q m x e' h') (fun m m' x e h hmm hk => ?_) (hm _ _ _ _ _ _ (fun x e' h' hx => ?_) hh)
    · split at hk
      · rename_i hy; rw [if_pos hy]; exact hu _ _ _ _ _ hmm hk
      · rename_i hy; rw [if_neg hy]; exact hu _ _ _ _ _ hmm hk
    · split at hx
      · rename_i hy; obtain ⟨m, hx⟩ := hx; exact ⟨m, by rw [if_pos hy]; exact hx⟩
      · rename_i hy; obtain ⟨m, hx⟩ := hx; exact ⟨m, by rw [if_neg hy]; exact hx⟩
  | exit id => exact hh
  | ret => exact hh
  | keep s => exact hh
  | rangeFunc s ps asg body =>
    simp only [awpStep] at hh ⊢
    split at hh
    · rename_i g first cap hs
      obtain ⟨hround, hh⟩ := hh
      have : ∃ m, callA c rec (.func (.fn g) first cap) [.func (.yield h.next) [] []] ((h.set h.next (some (.loop .ready none e ps asg body))).bump 1) fun _ h2 =>
          match h2.get h.next with
          | some (.loop st pend env ps' asg' body') =>
            st ≠ .busy ∧ (match pend with
              | none => Q m .normal e (h2.set h.next (some (.loop .exhausted pend env ps' asg' body')))
              | some x => x ≠ .normal ∧ Q m x e (h2.set h.next (some (.loop .exhausted pend env ps' asg' body'))))
          | _ => False := by
        refine hcd _ _ _ (fun m _ h2 => match h2.get h.next with
          | some (.loop st pend env ps' asg' body') =>
            st ≠ .busy ∧ (match pend with
              | none => Q m .normal e (h2.set h.next (some (.loop .exhausted pend env ps' asg' body')))
              | some x => x ≠ .normal ∧ Q m x e (h2.set h.next (some (.loop .exhausted pend env ps' asg' body'))))
          | _ => False) (fun m m' v h2 hmm hk => ?_) (hcmono _ _ _ _ _ (fun v h2 hk => ?_) hh)
        · split at hk
          · refine ⟨hk.1, ?_⟩
            have hk2 := hk.2
            split at hk2
            · exact hu _ _ _ _ _ hmm hk2
            · exact ⟨hk2.1, hu _ _ _ _ _ hmm hk2.2⟩
          · exact hk
        · split at hk
          · rename_i hg
            obtain ⟨h1, hk2⟩ := hk
            simp only [hg]
            split at hk2
            · obtain ⟨m, hk2⟩ := hk2; exact ⟨m, h1, hk2⟩
            · obtain ⟨h3, m, hk2⟩ := hk2; exact ⟨m, h1, h3, hk2⟩
          · exact hk.elim
      obtain ⟨m, hm'⟩ := this
      exact ⟨m, hround, hm'⟩
    · exact hh.elim

theorem awp_cont {c : Ctx} (hcm : CtxMono c) (hcc : CtxCont c) : ∀ n, WPCont (awp c n)
  | 0 => fun _ _ _ _ _ _ hh => hh.elim
  | n + 1 => awpStep_cont hcm hcc (awp_mono hcm n) (awp_cont hcm hcc n)

theorem cx_cont (x : XCtx) : CtxCont (cx x) := fun f s hs => by
  obtain ⟨g, _, rfl⟩ := cx_sums hs
  intro args h K hu hh
  unfold funSpec at hh ⊢
  split at hh
  · exact hh
  · exact hh.elim

/-! ### The fuel out of sight -/
/-- A context, with what its summaries keep to. -/
structure GCtx where
  c : Ctx
  mono : CtxMono c
  cont : CtxCont c
/-- Code comes to an end, and Q holds there. -/
def W (x : GCtx) : WP := fun rd code e h Q => ∃ n, awp x.c n rd code e h Q
/-- A call comes to an end, and K holds there. -/
def callW (x : GCtx) : CallP := fun fv args h K => ∃ n, acall x.c n fv args h K

section
variable {x : GCtx} {rd : Option Nat} {e : Env} {h : Heap} {Q : Ex → Env → Heap → Prop}

theorem W_mono {code : AC} {Q' : Ex → Env → Heap → Prop} (hq : ∀ y e h, Q y e h → Q' y e h) (hh : W x rd code e h Q) : W x rd code e h Q' := by
  obtain ⟨n, hn⟩ := hh; exact ⟨n, awp_mono x.mono n _ _ _ _ _ _ hq hn⟩
theorem callW_mono {fv : AV} {args : List AV} {K K' : AV → Heap → Prop} (hk : ∀ v h, K v h → K' v h) (hh : callW x fv args h K) : callW x fv args h K' := by
  obtain ⟨n, hn⟩ := hh; exact ⟨n, acall_mono x.mono n _ _ _ _ _ hk hn⟩

theorem W_skip (hq : Q .normal e h) : W x rd .skip e h Q := ⟨1, hq⟩
theorem W_exit {id : Nat} (hq : Q (.exit id) e h) : W x rd (.exit id) e h Q := ⟨1, hq⟩
theorem W_ret (hq : Q .ret e h) : W x rd .ret e h Q := ⟨1, hq⟩
theorem W_keep {s : List Nat} (hq : Q .normal (e.keep s) h) : W x rd (.keep s) e h Q := ⟨1, hq⟩

/-- Code, and what holds behind it for some fuel. -/
theorem W.take {code : AC} {P : Nat → Ex → Env → Heap → Prop} (hu : ∀ m m' y e h, m ≤ m' → P m y e h → P m' y e h) (hh : W x rd code e h fun y e' h' => ∃ m, P m y e' h') : ∃ n, ∀ k, n ≤ k → awp x.c k rd code e h (P k) := by
  obtain ⟨n, hn⟩ := hh
  obtain ⟨m, hm⟩ := awp_cont x.mono x.cont n _ _ _ _ P hu hn
  exact ⟨max n m, fun k hk => awp_mono x.mono k _ _ _ _ _ _ (fun y e h hp => hu m k y e h (by omega) hp) (awp_fuel x.mono (by omega : n ≤ k) _ _ _ _ _ hm)⟩
theorem callW.take {fv : AV} {args : List AV} {P : Nat → AV → Heap → Prop} (hu : ∀ m m' v h, m ≤ m' → P m v h → P m' v h) (hh : callW x fv args h fun v h' => ∃ m, P m v h') : ∃ n, ∀ k, n ≤ k → acall x.c k fv args h (P k) := by
  obtain ⟨n, hn⟩ := hh
  obtain ⟨m, hm⟩ := callA_cont x.cont (awp_mono x.mono n) (awp_cont x.mono x.cont n) _ _ _ P hu hn
  exact ⟨max n m, fun k hk => acall_mono x.mono k _ _ _ _ _ (fun v h hp => hu m k v h (by omega) hp) (acall_fuel x.mono (by omega : n ≤ k) _ _ _ _ hm)⟩

theorem W_seq {a b : AC} (hh : W x rd a e h fun y e' h' => match y with | .normal => W x rd b e' h' Q | y => Q y e' h') : W x rd (.seq a b) e h Q := by
  obtain ⟨n, hn⟩ := W.take (P := fun m y e' h' => match y with | .normal => awp x.c m rd b e' h' Q | y => Q y e' h') (fun m m' y e h hmm hk => by
      cases y with
      | normal => exact awp_fuel x.mono hmm _ _ _ _ _ hk
      | exit i => exact hk
      | ret => exact hk) (W_mono (fun y e h hy => by
      cases y with
      | normal => exact hy
      | exit i => exact ⟨0, hy⟩
      | ret => exact ⟨0, hy⟩) hh)
  exact ⟨n + 1, hn n (Nat.le_refl _)⟩

theorem W_cond {s : Src} {b : Bool} {t f : AC} (hs : e.src s = some (.bool b)) (hh : W x rd (if b then t else f) e h Q) : W x rd (.cond s t f) e h Q := by
  obtain ⟨n, hn⟩ := hh
  refine ⟨n + 1, ?_⟩
  rw [awp_succ]
  simp only [awpStep, hs]
  cases b <;> exact hn

theorem W_block {id : Nat} {b : AC} (hh : W x rd b e h fun y e' h' => if y = .exit id then Q .normal e' h' else Q y e' h') : W x rd (.block id b) e h Q := by
  obtain ⟨n, hn⟩ := hh; exact ⟨n + 1, hn⟩

theorem W_loop {b : AC} (hh : W x rd b e h fun y e' h' => match y with | .normal => W x rd (.loop b) e' h' Q | y => Q y e' h') : W x rd (.loop b) e h Q := by
  obtain ⟨n, hn⟩ := W.take (P := fun m y e' h' => match y with | .normal => awp x.c m rd (.loop b) e' h' Q | y => Q y e' h') (fun m m' y e h hmm hk => by
      cases y with
      | normal => exact awp_fuel x.mono hmm _ _ _ _ _ hk
      | exit i => exact hk
      | ret => exact hk) (W_mono (fun y e h hy => by
      cases y with
      | normal => exact hy
      | exit i => exact ⟨0, hy⟩
      | ret => exact ⟨0, hy⟩) hh)
  exact ⟨n + 1, hn n (Nat.le_refl _)⟩

/-- A loop by an invariant that counts down. -/
theorem W_loop_inv {b : AC} (I : Nat → Env → Heap → Prop) (step : ∀ k e h, I k e h → W x rd b e h fun y e' h' => match y with | .normal => ∃ k', k' < k ∧ I k' e' h' | y => Q y e' h') :
    ∀ (k : Nat) (e : Env) (h : Heap), I k e h → W x rd (.loop b) e h Q := by
  intro k
  induction k using Nat.strongRecOn with
  | _ k ih =>
    intro e h hI
    refine W_loop (W_mono (fun y e' h' hy => ?_) (step k e h hI))
    cases y with
    | normal => obtain ⟨k', hk, hI'⟩ := hy; exact ih k' hk e' h' hI'
    | exit i => exact hy
    | ret => exact hy

theorem callW_Mono : CallP.Mono (callW x) := fun _ _ _ _ _ hk hh => callW_mono hk hh

theorem aOp_n {id : Nat} {o : AOp} {K : Nat → Env → Heap → Prop} (hu : ∀ m m' e h, m ≤ m' → K m e h → K m' e h) (hh : aOp (callW x) id o e h (fun e' h' => ∃ m, K m e' h')) : ∃ n, ∀ k, n ≤ k → aOp (acall x.c k) id o e h (K k) := by
  unfold aOp at hh ⊢
  split at hh
  · exact hh.elim
  · obtain ⟨m, hm⟩ := hh; exact ⟨m, fun k hk => hu _ _ _ _ hk hm⟩
  · split at hh
    · split at hh
      · exact callW.take (P := fun m v h' => K m (e.putD o.dst v) h') (fun m m' v h hmm hk => hu _ _ _ _ hmm hk) hh
      · exact hh.elim
    · split at hh
      · exact callW.take (P := fun m v h' => K m (e.putD o.dst v) h') (fun m m' v h hmm hk => hu _ _ _ _ hmm hk) hh
      · exact hh.elim
    · split at hh
      · obtain ⟨m, hm⟩ := hh; exact ⟨m, fun k hk => hu _ _ _ _ hk hm⟩
      · exact hh.elim

theorem aOps_n : ∀ (os : List AOp) {id : Nat} {e : Env} {h : Heap} {K : Env → Heap → Prop}, aOps (callW x) id os e h K → ∃ n, ∀ m, n ≤ m → aOps (acall x.c m) id os e h K
  | [], _, _, _, _, hh => ⟨0, fun _ _ => hh⟩
  | o :: os, id, _, _, K, hh => by
    refine aOp_n (K := fun m e' h' => chksA o.chk e' h' ∧ aOps (acall x.c m) (id + 1) os e' h' K) (fun m m' e h hmm hk => ⟨hk.1, aOps_mono (acall_mono x.mono m) (acall_fuel x.mono hmm) os (fun _ _ g => g) hk.2⟩) ?_
    refine aOp_mono callW_Mono (.refl _) (fun e h hk => ?_) hh
    obtain ⟨m, hm⟩ := aOps_n os hk.2
    exact ⟨m, hk.1, hm m (Nat.le_refl _)⟩

theorem W_ops {os : List AOp} (hh : aOps (callW x) h.next os e (h.bump os.length) (fun e' h' => Q .normal e' h')) : W x rd (.ops none os) e h Q := by
  obtain ⟨n, hn⟩ := aOps_n os hh
  exact ⟨n + 1, hn n (Nat.le_refl _)⟩
theorem W_opsK {kp : List Nat} {os : List AOp} (hh : aOps (callW x) h.next os e (h.bump os.length) (fun e' h' => Q .normal (e'.keep kp) h')) : W x rd (.ops (some kp) os) e h Q := by
  obtain ⟨n, hn⟩ := aOps_n os hh
  exact ⟨n + 1, hn n (Nat.le_refl _)⟩

/-- A function by its body. -/
theorem callW_fn {f : Nat} {first args cap : List AV} {F : AFunc} {K : AV → Heap → Prop} (hs : x.c.sums f = none) (hF : x.c.funcs f = some F)
    (hh : W x none F.body (initEnv 0 (first ++ args ++ cap)) h fun y e' h' => match y with | .exit _ => False | _ => match ressA e' h' F.results with | some vs => K (packRes vs) h' | none => False) :
    callW x (.func (.fn f) first cap) args h K := by
  obtain ⟨n, hn⟩ := hh
  refine ⟨n, ?_⟩
  simp only [acall, callA, hs, hF]
  exact hn

theorem callW_sum {f : Nat} {first args cap : List AV} {s : Spec} {K : AV → Heap → Prop} (hs : x.c.sums f = some s) (hk : s (first ++ args ++ cap) h K) : callW x (.func (.fn f) first cap) args h K := by
  refine ⟨0, ?_⟩
  simp only [acall, callA, hs]
  exact hk

theorem callW_next {first cap args : List AV} {K : AV → Heap → Prop} (hk : nextP args h K) : callW x (.func .next first cap) args h K := ⟨0, hk⟩

/-- A closed call, by the kernel. -/
theorem callW_exec {y : XCtx} (hx : CtxFits x.c y) {fv : AV} {args : List AV} {r : AV × Heap} {K : AV → Heap → Prop} (n : Nat) (hr : callX y (exec y n) fv args h = some r) (hk : K r.1 r.2) : callW x fv args h K :=
  ⟨n, callX_awp hx n _ _ _ _ _ hr hk⟩

end
end Go.Ab
