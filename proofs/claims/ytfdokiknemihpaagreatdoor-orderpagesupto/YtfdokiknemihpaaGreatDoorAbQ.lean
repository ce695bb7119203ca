/- Regions that draw their order. -/
import Derived.Test.YtfdokiknemihpaaGreatDoorAbT
namespace Go.Ab

theorem named_range : ∀ (as : List AOp) (id : Nat), named id as = (List.range as.length).map fun j => (id + j, opAt as j)
  | [], _ => rfl
  | o :: os, id => by
    simp only [named, List.length_cons]
    rw [List.range_succ_eq_map, List.map_cons, List.map_map, named_range os (id + 1)]
    congr 1
    refine List.map_congr_left fun j _ => ?_
    simp only [Function.comp_apply, opAt, List.getElem?_cons_succ, Prod.mk.injEq, and_true]
    omega

/-- An order of the operations: position and number. -/
structure Perm (n : Nat) (σ : List Nat) : Prop where
  len : σ.length = n
  lt : ∀ k, k < n → σ.getD k 0 < n
  onto : ∀ i, i < n → ∃ k, k < n ∧ σ.getD k 0 = i
  inj : ∀ j k, j < n → k < n → σ.getD j 0 = σ.getD k 0 → j = k

theorem perm_of {n : Nat} {σ : List Nat} (h : permOK n σ = true) : Perm n σ := by
  unfold permOK at h
  simp only [Bool.and_eq_true, List.all_eq_true, List.mem_range, Nat.blt_eq, List.contains_eq_mem, decide_eq_true_eq, Bool.not_eq_true', beq_eq_false_iff_ne, ne_eq] at h
  obtain ⟨⟨⟨h1, h2⟩, h3⟩, h4⟩ := h
  have h1 : σ.length = n := Nat.eq_of_beq_eq_true h1
  refine ⟨h1, fun k hk => ?_, fun i hi => ?_, fun j k hj hk he => ?_⟩
  · rw [List.getD_eq_getElem?_getD, List.getElem?_eq_getElem (by omega)]
    exact h3 _ (List.getElem_mem _)
  · obtain ⟨k, hk, he⟩ := List.getElem_of_mem (h2 i hi)
    exact ⟨k, by omega, by rw [List.getD_eq_getElem?_getD, List.getElem?_eq_getElem hk]; exact he⟩
  · rcases Nat.lt_trichotomy j k with h5 | h5 | h5
    · exact absurd he (h4 k hk j h5)
    · exact h5
    · exact absurd he.symm (h4 j hj k h5)

def unl (σ : List Nat) (listed : Array Bool) (n : Nat) : List Nat := (List.range n).filter fun k => !listed.getD (σ.getD k 0) true

theorem unl_mem {σ : List Nat} {listed : Array Bool} {n k : Nat} : k ∈ unl σ listed n ↔ k < n ∧ listed.getD (σ.getD k 0) true = false := by
  simp [unl, List.mem_filter]

theorem getD_set {listed : Array Bool} {i j : Nat} (hi : i < listed.size) (d : Bool) : (listed.setIfInBounds i true).getD j d = if j = i then true else listed.getD j d := by
  simp only [Array.getD_eq_getD_getElem?, Array.getElem?_setIfInBounds]
  by_cases h : i = j
  · subst h; simp [hi]
  · have h' : ¬ j = i := fun hh => h hh.symm
    simp [h, h']

theorem unl_split {σ : List Nat} {listed : Array Bool} {n k : Nat} (hσ : Perm n σ) (hsz : listed.size = n) (hi : k ∈ unl σ listed n) :
    ∃ pre post, unl σ listed n = pre ++ k :: post ∧ unl σ (listed.setIfInBounds (σ.getD k 0) true) n = pre ++ post ∧ (∀ j ∈ pre, j < k) ∧ pre.Pairwise (· < ·) := by
  obtain ⟨pre, post, he⟩ := List.append_of_mem hi
  have hpw : (unl σ listed n).Pairwise (· < ·) := List.Pairwise.filter _ List.pairwise_lt_range
  rw [he, List.pairwise_append] at hpw
  obtain ⟨h1, h2, h3⟩ := hpw
  rw [List.pairwise_cons] at h2
  have hin := (unl_mem.1 hi).1
  have key : unl σ (listed.setIfInBounds (σ.getD k 0) true) n = (unl σ listed n).filter (fun j => !(j == k)) := by
    unfold unl
    rw [List.filter_filter]
    refine List.filter_congr fun j hj => ?_
    have hjn := List.mem_range.1 hj
    rw [getD_set (by have := hσ.lt k hin; omega)]
    by_cases hj : j = k
    · simp [hj]
    · have : ¬ σ.getD j 0 = σ.getD k 0 := fun hh => hj (hσ.inj j k hjn hin hh)
      simp only [List.getD_eq_getElem?_getD] at this ⊢
      simp [hj, this]
  refine ⟨pre, post, he, ?_, fun j hj => h3 j hj k List.mem_cons_self, h1⟩
  rw [key, he, List.filter_append, List.filter_cons]
  simp only [beq_self_eq_true, Bool.not_true, Bool.false_eq_true, if_false]
  congr 1
  · refine List.filter_eq_self.2 fun j hj => ?_
    have := h3 j hj k List.mem_cons_self
    simp; omega
  · refine List.filter_eq_self.2 fun j hj => ?_
    have := h2.1 j hj
    simp; omega

/-! ### What the checks of drawn regions say -/
theorem withChk_at {pure : List Nat} {c : List (List Nat)} {σ : List Nat} {as : List AOp} {k : Nat} (hk : k < as.length) :
    opAt (withChk pure c σ as) k = { opAt as k with chk := (List.range k).filterMap fun j => if needs pure c σ as j k then entry (opAt as j) else none } := by
  unfold opAt withChk
  rw [List.getElem?_map, List.getElem?_zipIdx, List.getElem?_eq_getElem hk]
  simp [opAt]

theorem withChk_low {pure : List Nat} {c : List (List Nat)} {σ : List Nat} {as : List AOp} {k : Nat} (hk : k < as.length) (hc : clsP pure (opAt as k) ≤ 2) : opAt (withChk pure c σ as) k = opAt as k := by
  rw [withChk_at hk]
  have : (List.range k).filterMap (fun j => if needs pure c σ as j k then entry (opAt as j) else none) = [] := by
    refine List.filterMap_eq_nil_iff.2 fun j _ => ?_
    have : needs pure c σ as j k = false := by
      unfold needs
      have : (clsP pure (opAt as k) == 3) = false := by simp; omega
      simp [this]
    rw [this]; rfl
  rw [this]
  have h2 := chk_of hc
  revert h2
  generalize opAt as k = o
  intro h2
  cases o
  simp only at h2
  subst h2
  rfl

structure DrawAt (pure : List Nat) (as : List AOp) (j k : Nat) : Prop where
  keeps : clsP pure (opAt as j) = 1 → dstOff (opAt as k).dst (opAt as j).own = true ∧ ∀ a b, (opAt as j).dst = some a → (opAt as k).dst = some b → a ≠ b
theorem dst_ne {x y : Option Nat} (h : (match x, y with | some a, some b => a != b | _, _ => true) = true) : ∀ a b, x = some a → y = some b → a ≠ b := fun a b ha hb => by
  rw [ha, hb] at h; simpa using h

theorem drawOK_at {pure : List Nat} {c : List (List Nat)} {σ : List Nat} {as0 as : List AOp} (h : drawOK pure c σ as0 as = true) {j k : Nat} (hk : k < as.length) (hj : j < k) :
    DrawAt pure as j k ∧ (bound c σ j k = true ∨ swapOK pure (needs pure c σ as0 j k) (opAt as j) (opAt as k) = true) := by
  unfold drawOK at h
  have h1 := List.all_eq_true.1 h k (List.mem_range.2 hk)
  have h1 := List.all_eq_true.1 h1 j (List.mem_range.2 hj)
  simp only [Bool.and_eq_true, Bool.or_eq_true] at h1
  refine ⟨⟨fun hc => ?_⟩, h1.2⟩
  rcases h1.1 with h2 | h2
  · rw [hc] at h2; simp at h2
  · exact ⟨h2.1, dst_ne h2.2⟩

/-- What lets one operation come ahead of another one. -/
theorem draw_pair {pure : List Nat} {c : List (List Nat)} {σ : List Nat} {as : List AOp} (h : drawOK pure c σ as (withChk pure c σ as) = true) {j k : Nat} (hk : k < as.length) (hj : j < k) (hb : bound c σ j k = false) :
    Swap (opAt (withChk pure c σ as) j) (opAt (withChk pure c σ as) k) ∧
      ((clsP pure (opAt (withChk pure c σ as) j) = 1 ∧ ¬ clsP pure (opAt (withChk pure c σ as) k) ≤ 2 ∧ ∃ e ∈ (opAt (withChk pure c σ as) k).chk, entry (opAt (withChk pure c σ as) j) = some e ∧ dstOff (opAt (withChk pure c σ as) j).dst (opAt (withChk pure c σ as) j).own = true) ∨
        clsP pure (opAt (withChk pure c σ as) j) = 0 ∨ clsP pure (opAt (withChk pure c σ as) k) = 0 ∨ (clsP pure (opAt (withChk pure c σ as) j) ≤ 2 ∧ clsP pure (opAt (withChk pure c σ as) k) ≤ 2) ∨ ((opAt (withChk pure c σ as) k).k.fresh = true ∧ (opAt (withChk pure c σ as) k).guard = none)) := by
  have hlen : (withChk pure c σ as).length = as.length := by simp [withChk]
  obtain ⟨_, h1⟩ := drawOK_at h (by omega : k < (withChk pure c σ as).length) hj
  rw [hb] at h1
  simp only [Bool.false_eq_true, false_or] at h1
  obtain ⟨s1, s2⟩ := swapOK_spec h1
  refine ⟨s1, ?_⟩
  rcases s2 with s2 | s2 | s2 | s2 | s2
  · left
    have hn := s2
    unfold needs at hn
    simp only [Bool.and_eq_true, beq_iff_eq] at hn
    obtain ⟨⟨⟨⟨n1, n2⟩, n3⟩, n4⟩, n5⟩ := hn
    have hj1 : opAt (withChk pure c σ as) j = opAt as j := withChk_low (by omega) (by omega)
    rw [hj1]
    obtain ⟨d, hd⟩ := Option.isSome_iff_exists.1 n4
    have hent : entry (opAt as j) = some ⟨d, (opAt as j).guard, (opAt as j).k⟩ := by unfold entry; rw [hd]
    have hmem : (⟨d, (opAt as j).guard, (opAt as j).k⟩ : Chk) ∈ (opAt (withChk pure c σ as) k).chk := by
      rw [withChk_at hk]
      refine List.mem_filterMap.2 ⟨j, List.mem_range.2 hj, ?_⟩
      rw [s2, if_pos rfl, hent]
    refine ⟨n2, fun hh => ?_, _, hmem, hent, n5⟩
    rw [chk_of hh] at hmem
    cases hmem
  · exact .inr (.inl s2)
  · exact .inr (.inr (.inl s2))
  · exact .inr (.inr (.inr (.inl s2)))
  · exact .inr (.inr (.inr (.inr s2)))

theorem vrel_top {E : Emb} {v : AV} {x : Value} (h : VRel E v x) {b : Nat} (hb : b ∈ topB v) : E.here b := by
  cases h <;> simp only [topB, List.not_mem_nil, List.mem_singleton] at hb <;> first | (subst hb; assumption) | cases hb

section
variable {c : Ctx} {P : Program} {Old : Nat → Prop} {w0 : World}

def remL (id0 : Nat) (as : List AOp) (is : List Nat) : List (Nat × AOp) := is.map fun j => (id0 + j, opAt as j)

theorem deps_here {pure : List Nat} {o : AOp} (hc : clsP pure o ≤ 2) {E : Emb} {e : Env} {tmps : Array Value} (hE : EnvRel E e tmps) {b : Nat} (hb : b ∈ depsO o e) : E.here b := by
  unfold depsO at hb
  split at hb
  · rcases cls_of hc with ⟨f, args, hk, _⟩ | ⟨_, _, _, hl⟩
    · rw [hk] at hb; cases hb
    · unfold OpK.deps at hb
      obtain ⟨s, hs, hb⟩ := List.mem_flatMap.1 hb
      unfold topS at hb
      split at hb
      · rename_i v hv
        cases s with
        | t t => obtain ⟨x, _, hx⟩ := hE t v hv; exact vrel_top hx hb
        | k u =>
          cases hv
          have := List.all_eq_true.1 hl _ hs
          simp only [srcLow, List.isEmpty_iff] at this
          rw [this] at hb
          cases hb
      · cases hb
  · cases hb

theorem HRel.awayId {R : CodeRel} {E : Emb} {h : Heap} {w : World} (H : HRel R Old w0 E h w) {id : Nat} (hid : ¬ E.here id) (hnx : id < h.next) : Away id h := by
  refine ⟨?_, hnx, fun b ps vs hg hp => hid (H.tidy _ _ hg ps vs rfl id hp)⟩
  cases hg : h.get id with
  | none => rfl
  | some ob => exact absurd (H.objs _ _ hg).1 hid

theorem draw_wp {call : CallP} (hcs : CallSound c P call) (hnl : NextLike call) (hm : call.Mono) (hl : call.Live) (hca : CallAway call) {pure : List Nat} {g : Nat → List AV → Option AV} (hp : PureCall call pure g) {nt id0 : Nat} {ops : Array Oper} {as0 as : List AOp} {cl : List (List Nat)} {σ : List Nat} {r : Option Nat} {Q : Exit → Act → World → Prop}
    (hps : precsOK (precs ops.toList) cl = true) (hσ : Perm ops.size σ) (has : as = withChk pure cl σ as0) (hdr : drawOK pure cl σ as0 as = true) (hlen : as0.length = ops.size)
    (hof : ∀ (k : Nat) (o : Oper), k < ops.size → ops[σ.getD k 0]? = some o → OpOf P nt ops o (opAt as k)) {K : Env → Heap → Prop} (hK : KEq K) :
    ∀ (fuel : Nat) (listed : Array Bool) {E : Emb} {h : Heap} {w : World} {a : Act} {e : Env}, listed.size = ops.size → (unl σ listed ops.size).length ≤ fuel → (∀ q, listed.getD q false = true → ∀ p ∈ cl.getD q [], listed.getD p false = true) →
      HRel (CR c P) Old w0 E h w → EnvRel E e a.tmps → nt ≤ a.tmps.size → (∀ j ∈ unl σ listed ops.size, ¬ E.here (id0 + j)) → id0 + ops.size ≤ h.next →
      aOpsL call (remL id0 as (unl σ listed ops.size)) e h K →
      (∀ E' h' w' e' a', E.Le E' → HRel (CR c P) Old w0 E' h' w' → EnvRel E' e' a'.tmps → nt ≤ a'.tmps.size → a'.defers = a.defers → (∀ b, E'.here b → E.here b ∨ id0 ≤ b) → h.next ≤ h'.next → K e' h' → Q .normal a' w') →
      wpAnyIn (FW r) 0 P .any ops Q fuel listed a w := by
  intro fuel
  have hlen' : as.length = ops.size := by rw [has]; simp [withChk, hlen]
  have precs_get : ∀ (i : Nat) (o : Oper), ops[i]? = some o → (precs ops.toList).getD i [] = (o.after.toList.filter fun e => Region.binds .any e).map (·.on) := fun i o ho => by
    unfold precs
    rw [List.getD_eq_getElem?_getD, List.getElem?_map, Array.getElem?_toList, ho]
    rfl
  have psl : (precs ops.toList).length = ops.size := by simp [precs]
  have prec_lt : ∀ (i : Nat), i < ops.size → ∀ p ∈ (precs ops.toList).getD i [], p < i := fun i hi p hp => by
    have := List.all_eq_true.1 hps i (by rw [psl]; exact List.mem_range.2 hi)
    simp only [Bool.and_eq_true] at this
    have := List.all_eq_true.1 this.1 p hp
    exact Nat.le_of_ble_eq_true this
  have cl_of : ∀ (i : Nat), i < ops.size → ∀ p ∈ cl.getD i [], p ∈ (precs ops.toList).getD i [] ∨ ∃ q ∈ (precs ops.toList).getD i [], p ∈ cl.getD q [] := fun i hi p hp => by
    have := List.all_eq_true.1 hps i (by rw [psl]; exact List.mem_range.2 hi)
    simp only [Bool.and_eq_true] at this
    have := List.all_eq_true.1 this.2 p hp
    simp only [Bool.or_eq_true, List.contains_eq_mem, decide_eq_true_eq, List.any_eq_true] at this
    exact this
  -- nothing ready: all listed
  have done : ∀ (listed : Array Bool), listed.size = ops.size → Region.ready .any ops listed = [] → unl σ listed ops.size = [] := fun listed hsz hr => by
    have : ∀ (k : Nat), ∀ i, i < k → i < ops.size → listed.getD i true = true := by
      intro k
      induction k with
      | zero => intro i hi; omega
      | succ k ih =>
        intro i hik hi
        by_cases hi' : i < k
        · exact ih i hi' hi
        · have hik' : i = k := by omega
          cases hg : listed.getD i true with
          | true => rfl
          | false =>
            have : i ∈ Region.ready .any ops listed := mem_ready.2 ⟨hg, ops[i], Array.getElem?_eq_getElem hi, fun ed hed hb => by
              have hlt := prec_lt i hi ed.on (by
                rw [precs_get i ops[i] (Array.getElem?_eq_getElem hi)]
                exact List.mem_map.2 ⟨ed, List.mem_filter.2 ⟨Array.mem_toList_iff.2 hed, hb⟩, rfl⟩)
              have h1 := ih ed.on (by omega) (by omega)
              rw [Array.getD_eq_getD_getElem?, Array.getElem?_eq_getElem (by omega)] at h1 ⊢
              exact h1⟩
            rw [hr] at this
            cases this
    refine List.eq_nil_iff_forall_not_mem.2 fun j hj => ?_
    obtain ⟨h1, h2⟩ := unl_mem.1 hj
    rw [this (σ.getD j 0 + 1) (σ.getD j 0) (by omega) (hσ.lt j h1)] at h2
    cases h2
  induction fuel with
  | zero =>
    intro listed E h w a e hsz hfu _ H hE hs hfree hnx hh hq
    have hnil : unl σ listed ops.size = [] := List.eq_nil_of_length_eq_zero (by omega)
    rw [hnil] at hh
    refine ⟨?_, hq E h w e a (.refl _) H hE hs rfl (fun b hb => .inl hb) (Nat.le_refl _) hh⟩
    refine List.eq_nil_iff_forall_not_mem.2 fun j hj => ?_
    obtain ⟨h1, o, ho, _⟩ := mem_ready.1 hj
    have hlt : j < ops.size := (Array.getElem?_eq_some_iff.1 ho).1
    obtain ⟨k, hk, hkj⟩ := hσ.onto j hlt
    have : k ∈ unl σ listed ops.size := unl_mem.2 ⟨hk, by rw [hkj]; exact h1⟩
    rw [hnil] at this
    cases this
  | succ fuel ih =>
    intro listed E h w a e hsz hfu hdown H hE hs hfree hnx hh hq
    refine ⟨fun hr => ?_, fun i hi => ?_⟩
    · rw [done listed hsz hr] at hh
      exact hq E h w e a (.refl _) H hE hs rfl (fun b hb => .inl hb) (Nat.le_refl _) hh
    · obtain ⟨hun, o, ho, hall⟩ := mem_ready.1 hi
      have hin : i < ops.size := (Array.getElem?_eq_some_iff.1 ho).1
      obtain ⟨k, hkn, hki⟩ := hσ.onto i hin
      have hmem : k ∈ unl σ listed ops.size := unl_mem.2 ⟨hkn, by rw [hki]; exact hun⟩
      obtain ⟨pre, post, he1, he2, hpre, hpw⟩ := unl_split hσ hsz hmem
      rw [hki] at he2
      have hop := hof k o hkn (by rw [hki]; exact ho)
      have clListed : ∀ p ∈ cl.getD i [], listed.getD p false = true := fun p hpc => by
        have onListed : ∀ q ∈ (precs ops.toList).getD i [], listed.getD q false = true := fun q hq' => by
          rw [precs_get i o ho] at hq'
          obtain ⟨ed, hed, rfl⟩ := List.mem_map.1 hq'
          obtain ⟨h1, h2⟩ := List.mem_filter.1 hed
          exact hall ed (Array.mem_toList_iff.1 h1) h2
        rcases cl_of i hin p hpc with h1 | ⟨q, h1, h2⟩
        · exact onListed p h1
        · exact hdown q (onListed q h1) p h2
      have preUn : ∀ j ∈ pre, j < ops.size ∧ listed.getD (σ.getD j 0) true = false := fun j hj => unl_mem.1 (by rw [he1]; exact List.mem_append_left _ hj)
      rw [he1] at hh
      unfold remL at hh
      rw [List.map_append, List.map_cons] at hh
      have hfr := front hm hl hca hp hK (i := (id0 + k, opAt as k)) (fun p hp' => by
          obtain ⟨j, hj, rfl⟩ := List.mem_map.1 hp'
          have hjk := hpre j hj
          obtain ⟨hjn, hju⟩ := preUn j hj
          have hb : bound cl σ j k = false := by
            cases hbb : bound cl σ j k with
            | false => rfl
            | true =>
              unfold bound at hbb
              rw [hki, List.contains_eq_mem, decide_eq_true_eq] at hbb
              have := clListed _ hbb
              have hlt := hσ.lt j hjn
              rw [Array.getD_eq_getD_getElem?, Array.getElem?_eq_getElem (by omega)] at this hju
              simp only [Option.getD_some] at this hju
              rw [this] at hju
              cases hju
          subst has
          obtain ⟨g1, g2⟩ := draw_pair hdr (by omega : k < as0.length) hjk hb
          exact ⟨g1, by simp only; omega, g2⟩)
        (by
          rw [List.pairwise_map]
          refine hpw.imp_of_mem fun {x y} hx hy hxy hc => ?_
          have hyn := (preUn y hy).1
          exact (drawOK_at hdr (by omega : y < as.length) hxy).1.keeps hc)
        (fun hc p hp' hpd => by
          obtain ⟨j, hj, rfl⟩ := List.mem_map.1 hp'
          exact hfree j (by rw [he1]; exact List.mem_append_left _ hj) (deps_here hc hE hpd))
        (H.awayId (hfree k hmem) (by omega)) hh
      refine oper_wp hcs hnl hop ho H hE hs (hfree k hmem) (by omega) hfr ?_
      intro E1 h1 w1 e1 a1 hp1 hh1
      refine ih (listed.setIfInBounds i true) (by simpa using hsz) (by rw [he2]; rw [he1] at hfu; simp only [List.length_append, List.length_cons] at hfu ⊢; omega) ?_ hp1.rel hp1.env hp1.size (fun j hj hje => ?_) (Nat.le_trans hnx hp1.next) ?_ ?_
      · intro q hq' p hpq
        rw [getD_set (by omega)] at hq' ⊢
        split
        · rfl
        · split at hq'
          · rename_i hqi; rw [hqi] at hpq; exact clListed p hpq
          · exact hdown q hq' p hpq
      · have hjn := (unl_mem.1 hj).1
        have hjk : j ≠ k := fun hh => by
          have := (unl_mem.1 hj).2
          rw [getD_set (by omega), if_pos (by rw [hh]; exact hki)] at this
          cases this
        rw [he2] at hj
        have hjm : j ∈ unl σ listed ops.size := by
          rw [he1]
          rcases List.mem_append.1 hj with h3 | h3
          · exact List.mem_append_left _ h3
          · exact List.mem_append_right _ (List.mem_cons_of_mem _ h3)
        rcases hp1.fresh _ hje with h3 | h3 | h3
        · exact hfree j hjm h3
        · omega
        · omega
      · rw [he2]; unfold remL; rw [List.map_append]; exact hh1
      · intro E2 h2 w2 e2 a2 g1 g2 g3 g4 g5 g6 g7 g8
        refine hq E2 h2 w2 e2 a2 (hp1.le.trans g1) g2 g3 g4 (g5.trans hp1.defers) (fun b hb => ?_) (Nat.le_trans hp1.next g7) g8
        rcases g6 b hb with h3 | h3
        · rcases hp1.fresh b h3 with h4 | h4 | h4
          · exact .inl h4
          · exact .inr (by omega)
          · exact .inr (by omega)
        · exact .inr h3

end
end Go.Ab
