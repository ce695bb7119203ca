/- A run that takes every order of a map's entries, as a function for the kernel. -/
import Derived.Test.YtfdokiknemihpaaGreatDoorAbCl
import Derived.Test.YtfdokiknemihpaaGreatDoorAbSq
namespace Go.Ab

abbrev CallB := AV → List AV → Heap → (AV → Heap → Bool) → Bool
abbrev BW := Option Nat → AC → Env → Heap → (Ex → Env → Heap → Bool) → Bool

def bOp (call : CallB) (id : Nat) (o : AOp) (e : Env) (h : Heap) (K : Env → Heap → Bool) : Bool :=
  match guardA o.guard e with
  | none => false
  | some false => K (e.putD o.dst .undef) h
  | some true => match o.k with
    | .call f args => (match e.srcs args with
      | some vs => call (.func (.fn f) [] []) vs h (fun v h' => K (e.putD o.dst v) h')
      | none => false)
    | .callv f args => (match e.src f, e.srcs args with
      | some fv, some vs => call fv vs h (fun v h' => K (e.putD o.dst v) h')
      | _, _ => false)
    | k => match aeval k e h id with
      | some (v, h') => K (e.putD o.dst v) h'
      | none => false

def bOps (call : CallB) : Nat → List AOp → Env → Heap → (Env → Heap → Bool) → Bool
  | _, [], e, h, K => K e h
  | id, o :: os, e, h, K => bOp call id o e h (fun e' h' => match chksX o.chk e' h' with
    | true => bOps call (id + 1) os e' h' K
    | false => false)

/-- Every entry that is left. -/
def bEntries (K : AV → Heap → Bool) (h : Heap) (r m n : Nat) (seen : List Nat) : Nat → List (AV × AV) → Bool
  | _, [] => true
  | i, (k, v) :: es => match seen.contains i with
    | true => bEntries K h r m n seen (i + 1) es
    | false => match K (.tuple [.bool true, k, v]) (h.set r (some (.mapIter m n (i :: seen)))) with
      | true => bEntries K h r m n seen (i + 1) es
      | false => false
def bAll (seen : List Nat) : Nat → Bool
  | 0 => true
  | n + 1 => seen.contains n && bAll seen n

def bNext (args : List AV) (h : Heap) (K : AV → Heap → Bool) : Bool :=
  match args with
  | [.ptr r 0] => match h.get r with
    | some (.mapIter m n seen) => match h.get m with
      | some (.map es) => match Nat.beq es.length n with
        | true => (match bAll seen n with
          | true => K (.tuple [.bool false]) h
          | false => bEntries K h r m n seen 0 es)
        | false => false
      | _ => false
    | _ => false
  | _ => false

def bCall (c : XCtx) (rec : BW) : CallB := fun fv args h K =>
  match fv with
  | .func .next _ _ => bNext args h K
  | .func (.fn f) first cap =>
    (match c.sums f with
     | some s => (match s (first ++ args ++ cap) h with
       | some r => K r.1 r.2
       | none => false)
     | none => match c.funcs f with
       | none => false
       | some F => rec none F.body (initEnv 0 (first ++ args ++ cap)) h fun x e' h' =>
           match x with
           | .exit _ => false
           | _ => match ressA e' h' F.results with
             | some vs => K (packRes vs) h'
             | none => false)
  | _ => false

def bwpStep (c : XCtx) (rec : BW) : BW := fun rd code e h Q =>
  match code with
  | .skip => Q .normal e h
  | .ops none os => bOps (bCall c rec) h.next os e (h.bump os.length) (fun e' h' => Q .normal e' h')
  | .ops (some kp) os => bOps (bCall c rec) h.next os e (h.bump os.length) (fun e' h' => Q .normal (e'.keep kp) h')
  | .seq a b => rec rd a e h fun x e' h' => match x with
    | .normal => rec rd b e' h' Q
    | x => Q x e' h'
  | .cond s t f => match e.src s with
    | some (.bool b) => rec rd (match b with | true => t | false => f) e h Q
    | _ => false
  | .block id body => rec rd body e h fun x e' h' => match decide (x = .exit id) with
    | true => Q .normal e' h'
    | false => Q x e' h'
  | .loop body => rec rd body e h fun x e' h' => match x with
    | .normal => rec rd (.loop body) e' h' Q
    | x => Q x e' h'
  | .exit id => Q (.exit id) e h
  | .ret => Q .ret e h
  | .keep s => Q .normal (e.keep s) h
  | .rangeFunc _ _ _ _ => false

def bwp (c : XCtx) : Nat → BW
  | 0 => fun _ _ _ _ _ => false
  | n + 1 => bwpStep c (bwp c n)

/-! ### It tells the truth -/
def CallTrue (call : CallP) (b : CallB) : Prop := ∀ fv args h K, b fv args h K = true → call fv args h (fun v h => K v h = true)
def WPTrue (rec : WP) (b : BW) : Prop := ∀ rd code e h Q, b rd code e h Q = true → rec rd code e h (fun x e h => Q x e h = true)

theorem bOp_true {call : CallP} {b : CallB} (hb : CallTrue call b) {id : Nat} {o : AOp} {e : Env} {h : Heap} {K : Env → Heap → Bool} (hx : bOp b id o e h K = true) : aOp call id o e h (fun e h => K e h = true) := by
  unfold bOp at hx
  unfold aOp
  cases hg : guardA o.guard e with
  | none => rw [hg] at hx; cases hx
  | some b1 =>
    rw [hg] at hx
    cases b1 with
    | false => exact hx
    | true =>
      dsimp only at hx ⊢
      generalize o.k = k at hx ⊢
      cases k
      case call f args =>
        dsimp only at hx ⊢
        cases h2 : e.srcs args with
        | none => rw [h2] at hx; cases hx
        | some vs => rw [h2] at hx; exact hb _ _ _ _ hx
      case callv f args =>
        dsimp only at hx ⊢
        cases h1 : e.src f with
        | none => rw [h1] at hx; cases hx
        | some fv =>
          cases h2 : e.srcs args with
          | none => rw [h1, h2] at hx; cases hx
          | some vs => rw [h1, h2] at hx; exact hb _ _ _ _ hx
      all_goals
        dsimp only at hx ⊢
        split at hx
        · rename_i hr; rw [hr]; exact hx
        · cases hx

theorem bOps_true {call : CallP} {b : CallB} (hm : call.Mono) (hb : CallTrue call b) : ∀ (os : List AOp) {id : Nat} {e : Env} {h : Heap} {K : Env → Heap → Bool}, bOps b id os e h K = true → aOps call id os e h (fun e h => K e h = true)
  | [], _, _, _, _, hx => hx
  | o :: os, id, e, h, K, hx => by
    refine aOp_mono hm (fun _ _ _ _ g => g) (fun e' h' hh => ?_) (bOp_true hb hx)
    split at hh
    · rename_i hc; exact ⟨chksX_A hc, bOps_true hm hb os hh⟩
    · cases hh

theorem bAll_true {seen : List Nat} : ∀ {n : Nat}, bAll seen n = true → ∀ i, i < n → i ∈ seen
  | 0, _, i, hi => by omega
  | n + 1, hx, i, hi => by
    simp only [bAll, Bool.and_eq_true, List.contains_eq_mem, decide_eq_true_eq] at hx
    by_cases h : i = n
    · subst h; exact hx.1
    · exact bAll_true hx.2 i (by omega)
theorem bAll_false {seen : List Nat} : ∀ {n : Nat}, bAll seen n = false → ∃ i, i < n ∧ i ∉ seen
  | 0, hx => by cases hx
  | n + 1, hx => by
    simp only [bAll, Bool.and_eq_false_iff] at hx
    rcases hx with hx | hx
    · exact ⟨n, by omega, by simpa using hx⟩
    · obtain ⟨i, h1, h2⟩ := bAll_false hx; exact ⟨i, by omega, h2⟩

theorem bEntries_true {K : AV → Heap → Bool} {h : Heap} {r m n : Nat} {seen : List Nat} : ∀ {es : List (AV × AV)} {i : Nat}, bEntries K h r m n seen i es = true →
    ∀ j k v, es[j]? = some (k, v) → i + j ∉ seen → K (.tuple [.bool true, k, v]) (h.set r (some (.mapIter m n ((i + j) :: seen)))) = true
  | [], _, _, j, k, v, hj, _ => by simp at hj
  | (k0, v0) :: es, i, hx, j, k, v, hj, hs => by
    simp only [bEntries] at hx
    cases j with
    | zero =>
      simp only [List.getElem?_cons_zero, Option.some.injEq, Prod.mk.injEq] at hj
      obtain ⟨rfl, rfl⟩ := hj
      rw [Nat.add_zero] at hs ⊢
      split at hx
      · rename_i hc; exact absurd (by simpa using hc) hs
      · split at hx
        · assumption
        · cases hx
    | succ j =>
      have e1 : i + (j + 1) = (i + 1) + j := by omega
      rw [e1] at hs ⊢
      refine bEntries_true ?_ j k v (by simpa using hj) hs
      split at hx
      · exact hx
      · split at hx
        · exact hx
        · cases hx

theorem bNext_true {args : List AV} {h : Heap} {K : AV → Heap → Bool} (hx : bNext args h K = true) : nextP args h (fun v h => K v h = true) := by
  unfold bNext at hx
  unfold nextP
  split at hx
  · split at hx
    · rename_i hr
      simp only [hr]
      split at hx
      · rename_i hm
        simp only [hm]
        split at hx
        · rename_i hn
          have hn := Nat.eq_of_beq_eq_true hn
          refine ⟨hn, ?_⟩
          split at hx
          · rename_i ha
            refine ⟨fun i k v hi hs => ?_, fun _ => hx⟩
            exact absurd (bAll_true ha i (by have := (List.getElem?_eq_some_iff.1 hi).1; omega)) hs
          · rename_i ha
            refine ⟨fun i k v hi hs => ?_, fun hall => ?_⟩
            · have := bEntries_true hx i k v hi (by rw [Nat.zero_add]; exact hs)
              rwa [Nat.zero_add] at this
            · obtain ⟨i, h1, h2⟩ := bAll_false ha
              exact absurd (hall i h1) h2
        · cases hx
      · cases hx
    · cases hx
  · cases hx

theorem bCall_true {c : Ctx} {x : XCtx} (hc : CtxFits c x) {rec : WP} {b : BW} (hm : rec.Mono) (hb : WPTrue rec b) : CallTrue (callA c rec) (bCall x b) := by
  intro fv args h K hx
  unfold bCall at hx
  unfold callA
  split at hx
  · exact bNext_true hx
  · split at hx
    · rename_i g hg
      obtain ⟨s, hs, hs2⟩ := hc.sums _ _ hg
      simp only [hs]
      split at hx
      · rename_i hr; exact hs2 _ _ _ _ hr hx
      · cases hx
    · rename_i hg
      simp only [hc.none _ hg]
      split at hx
      · cases hx
      · rename_i F hF
        simp only [hc.funcs _ _ hF]
        refine hm _ _ _ _ _ _ (fun xx e' h' hq => ?_) (hb _ _ _ _ _ hx)
        split at hq
        · cases hq
        · split at hq
          · rename_i vs hvs; simp only [hvs]; exact hq
          · cases hq
  · cases hx

theorem bwpStep_true {c : Ctx} {x : XCtx} (hcm : CtxMono c) (hc : CtxFits c x) {rec : WP} {b : BW} (hm : rec.Mono) (hb : WPTrue rec b) : WPTrue (awpStep c rec) (bwpStep x b) := by
  intro rd code e h Q hx
  cases code with
  | skip => exact hx
  | ops kp os => cases kp <;> exact bOps_true (callA_mono hcm hm) (bCall_true hc hm hb) os hx
  | seq a b' =>
    refine hm _ _ _ _ _ _ (fun xx e' h' hq => ?_) (hb _ _ _ _ _ hx)
    cases xx with
    | normal => exact hb _ _ _ _ _ hq
    | _ => exact hq
  | cond s t f =>
    simp only [bwpStep] at hx
    simp only [awpStep]
    split at hx
    · rename_i hs; rw [hs]; exact hb _ _ _ _ _ hx
    · cases hx
  | block id body =>
    refine hm _ _ _ _ _ _ (fun xx e' h' hq => ?_) (hb _ _ _ _ _ hx)
    split at hq
    · rename_i hd; rw [if_pos (of_decide_eq_true hd)]; exact hq
    · rename_i hd; rw [if_neg (of_decide_eq_false hd)]; exact hq
  | loop body =>
    refine hm _ _ _ _ _ _ (fun xx e' h' hq => ?_) (hb _ _ _ _ _ hx)
    cases xx with
    | normal => exact hb _ _ _ _ _ hq
    | _ => exact hq
  | exit id => exact hx
  | ret => exact hx
  | keep s => exact hx
  | rangeFunc f ps asg body => cases hx

theorem bwp_true {c : Ctx} {x : XCtx} (hcm : CtxMono c) (hc : CtxFits c x) : ∀ n, WPTrue (awp c n) (bwp x n)
  | 0 => fun _ _ _ _ _ hx => by cases hx
  | n + 1 => bwpStep_true hcm hc (awp_mono hcm n) (bwp_true hcm hc n)

theorem EntryOK.bwp {x1 : GCtx} {y1 : XCtx} (hy : CtxFits x1.c y1) {f : Nat} {T : Entry} (n : Nat) (ids : List Nat) (hok : T.ok = true)
    (h : bCall y1 (Ab.bwp y1 n) (.func (.fn f) [] []) (AV.rens (List.range T.na) T.args) T.heap (fun v h1 => T.cert ids (some (v, h1))) = true) : EntryOK x1 f T :=
  ⟨hok, n, ids, bCall_true hy (awp_mono x1.mono n) (bwp_true x1.mono hy n) _ _ _ _ h⟩

/-! ### Functions of one byte -/
def bytesOK (y : XCtx) (n f : Nat) (g : List AV → Option AV) : Nat → Nat → Bool
  | _, 0 => true
  | lo, k + 1 => match g [.int .u8 (.ofNat lo)] with
    | none => bytesOK y n f g (lo + 1) k
    | some v => match callX y (execF y n) (.func (.fn f) [] []) [.int .u8 (.ofNat lo)] Heap.empty with
      | none => false
      | some r => match AV.sameF 4 r.1 v with
        | true => bytesOK y n f g (lo + 1) k
        | false => false

theorem bytesOK_get {x1 : GCtx} {y : XCtx} (hy : CtxFits x1.c y) {n f : Nat} {g : List AV → Option AV} : ∀ {k lo : Nat}, bytesOK y n f g lo k = true → ∀ c, lo ≤ c → c < lo + k → ∀ v, g [.int .u8 (.ofNat c)] = some v →
    callW x1 (.func (.fn f) [] []) [.int .u8 (.ofNat c)] Heap.empty (fun v' _ => v' = v)
  | 0, lo, _, c, h1, h2, _, _ => by omega
  | k + 1, lo, h, c, h1, h2, v, hv => by
    simp only [bytesOK] at h
    split at h
    · rename_i hg
      rcases Nat.eq_or_lt_of_le h1 with rfl | h3
      · rw [hg] at hv; cases hv
      · exact bytesOK_get hy h c h3 (by omega) v hv
    · rename_i v0 hg
      split at h
      · cases h
      · rename_i r hr
        split at h
        · rename_i hs
          rcases Nat.eq_or_lt_of_le h1 with rfl | h3
          · rw [hg] at hv; cases hv
            rw [execF_eq] at hr
            exact callW_exec hy n hr (sameF_eq _ _ _ hs)
          · exact bytesOK_get hy h c h3 (by omega) v hv
        · cases h

theorem sumOK_bytes {c : Ctx} {P : Program} {x1 : GCtx} {y : XCtx} (hc1 : CtxOK x1.c P) (hy : CtxFits x1.c y) {f : Nat} (hb : HasBody P f) {g : List AV → Option AV}
    (hg : ∀ args v, g args = some v → (∃ b, b < 256 ∧ args = [.int .u8 (.ofNat b)]) ∧ v.flat = true) (n : Nat)
    (h0 : bytesOK y n f g 0 64 = true) (h1 : bytesOK y n f g 64 64 = true) (h2 : bytesOK y n f g 128 64 = true) (h3 : bytesOK y n f g 192 64 = true) : SumOK c P f (pureSpec g) := by
  refine sumOK_pure hc1 hb fun args v hv => ?_
  obtain ⟨⟨b, hb1, rfl⟩, hf⟩ := hg args v hv
  refine ⟨rfl, hf, ?_⟩
  by_cases c1 : b < 64
  · exact bytesOK_get hy h0 b (by omega) (by omega) v hv
  by_cases c2 : b < 128
  · exact bytesOK_get hy h1 b (by omega) (by omega) v hv
  by_cases c3 : b < 192
  · exact bytesOK_get hy h2 b (by omega) (by omega) v hv
  · exact bytesOK_get hy h3 b (by omega) (by omega) v hv

theorem classG_bytes : ∀ args v, classG args = some v → (∃ b, b < 256 ∧ args = [.int .u8 (.ofNat b)]) ∧ v.flat = true := by
  intro args v h
  unfold classG at h
  split at h
  · rename_i c
    split at h
    · rename_i hc
      cases h
      exact ⟨⟨c, Nat.le_of_ble_eq_true hc, rfl⟩, rfl⟩
    · cases h
  · cases h
end Go.Ab
