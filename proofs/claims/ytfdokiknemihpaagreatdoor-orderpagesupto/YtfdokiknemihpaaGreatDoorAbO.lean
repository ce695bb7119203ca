/- Operations that change places. -/
import Derived.Test.YtfdokiknemihpaaGreatDoorAbP
namespace Go.Ab

/-! ### Heaps: what is set in two places -/
theorem Tr.setF_comm : ∀ (d1 d2 : Nat) (t : Tr) (n m : Nat) (x y : Option AObj), n < d1 → m < d2 → n ≠ m → Tr.setF d1 (Tr.setF d2 t m y) n x = Tr.setF d2 (Tr.setF d1 t n x) m y
  | 0, _, _, n, _, _, _, h1, _, _ => absurd h1 (Nat.not_lt_zero _)
  | d1 + 1, 0, _, _, m, _, _, _, h2, _ => absurd h2 (Nat.not_lt_zero _)
  | d1 + 1, d2 + 1, t, n, m, x, y, h1, h2, hne => by
    have e1 : ∀ j : Nat, Nat.mod j 2 = j % 2 := fun _ => rfl
    have e2 : ∀ j : Nat, Nat.div j 2 = j / 2 := fun _ => rfl
    have hmod : ∀ j : Nat, j % 2 = 0 ∨ j % 2 = 1 := fun j => by omega
    cases n with
    | zero =>
      cases m with
      | zero => exact absurd rfl hne
      | succ m =>
        simp only [Tr.setF]
        rcases hmod m with hm | hm <;> simp only [e1, hm, Tr.left, Tr.right, Tr.val]
    | succ n =>
      cases m with
      | zero =>
        simp only [Tr.setF]
        rcases hmod n with hn | hn <;> simp only [e1, hn, Tr.left, Tr.right, Tr.val]
      | succ m =>
        have hn' : Nat.div n 2 < d1 := Nat.lt_of_le_of_lt (Nat.div_le_self n 2) (by omega)
        have hm' : Nat.div m 2 < d2 := Nat.lt_of_le_of_lt (Nat.div_le_self m 2) (by omega)
        simp only [Tr.setF]
        rcases hmod n with hn | hn <;> rcases hmod m with hm | hm <;> simp only [e1, hn, hm, Tr.left, Tr.right, Tr.val]
        · rw [Tr.setF_comm d1 d2 _ _ _ x y hn' hm' (by rw [e2, e2]; omega)]
        · rw [Tr.setF_comm d1 d2 _ _ _ x y hn' hm' (by rw [e2, e2]; omega)]

theorem Heap.set_comm (h : Heap) {b b' : Nat} (x y : Option AObj) (hne : b ≠ b') : (h.set b' y).set b x = (h.set b x).set b' y := by
  unfold Heap.set
  simp only [Heap.mk.injEq, and_true]
  exact Tr.setF_comm _ _ _ _ _ _ _ (Nat.lt_succ_self _) (Nat.lt_succ_self _) hne

def Heap.sets (h : Heap) : List (Nat × AObj) → Heap
  | [] => h
  | p :: ps => (h.set p.1 (some p.2)).sets ps
theorem Heap.set_sets : ∀ (us : List (Nat × AObj)) (h : Heap) (b : Nat) (o : AObj), (∀ p ∈ us, p.1 ≠ b) → (h.set b (some o)).sets us = (h.sets us).set b (some o)
  | [], _, _, _, _ => rfl
  | p :: us, h, b, o, hn => by
    simp only [Heap.sets]
    rw [Heap.set_comm h _ _ (hn p List.mem_cons_self), Heap.set_sets us _ b o (fun q hq => hn q (List.mem_cons_of_mem _ hq))]
theorem Heap.sets_comm : ∀ (us vs : List (Nat × AObj)) (h : Heap), (∀ p ∈ us, ∀ q ∈ vs, p.1 ≠ q.1) → (h.sets us).sets vs = (h.sets vs).sets us
  | us, [], _, _ => rfl
  | us, q :: vs, h, hn => by
    simp only [Heap.sets]
    rw [← Heap.set_sets us h q.1 q.2 (fun p hp => hn p hp q List.mem_cons_self), Heap.sets_comm us vs _ (fun p hp q' hq => hn p hp q' (List.mem_cons_of_mem _ hq))]
theorem Heap.get_sets_other : ∀ (us : List (Nat × AObj)) (h : Heap) (b : Nat), (∀ p ∈ us, p.1 ≠ b) → (h.sets us).get b = h.get b
  | [], _, _, _ => rfl
  | p :: us, h, b, hn => by
    simp only [Heap.sets]
    rw [Heap.get_sets_other us _ b (fun q hq => hn q (List.mem_cons_of_mem _ hq)), Heap.get_set_other _ _ (hn p List.mem_cons_self)]

/-! ### Environments of one look -/
def EnvEq (e e' : Env) : Prop := ∀ t, e.get t = e'.get t
theorem EnvEq.refl (e : Env) : EnvEq e e := fun _ => rfl
theorem EnvEq.putD {e e' : Env} (h : EnvEq e e') (d : Option Nat) (v : AV) : EnvEq (e.putD d v) (e'.putD d v) := by
  cases d with
  | none => exact h
  | some d => intro t; show Env.get ((d, v) :: e) t = Env.get ((d, v) :: e') t; rw [Env.get_cons, Env.get_cons, h t]
theorem Env.get_putD_off {e : Env} {d : Option Nat} {v : AV} {t : Nat} (h : d ≠ some t) : (e.putD d v).get t = e.get t := by
  cases d with
  | none => rfl
  | some d => show Env.get ((d, v) :: e) t = _; rw [Env.get_cons, if_neg (by intro hh; exact h (by rw [hh]))]
theorem putD_comm (e : Env) {d d' : Option Nat} (v v' : AV) (h : ∀ a b, d = some a → d' = some b → a ≠ b) : EnvEq ((e.putD d v).putD d' v') ((e.putD d' v').putD d v) := by
  cases d with
  | none => exact .refl _
  | some a => cases d' with
    | none => exact .refl _
    | some b =>
      have := h a b rfl rfl
      intro t
      show Env.get ((b, v') :: (a, v) :: e) t = Env.get ((a, v) :: (b, v') :: e) t
      simp only [Env.get_cons]
      by_cases h1 : b = t
      · by_cases h2 : a = t
        · exact absurd (h2.trans h1.symm) this
        · simp [h1, h2]
      · simp [h1]
theorem EnvEq.keep {e e' : Env} (h : EnvEq e e') : ∀ l, e.keep l = e'.keep l
  | [] => rfl
  | s :: ss => by rw [Env.keep_cons, Env.keep_cons, h s, EnvEq.keep h ss]

def KEq (K : Env → Heap → Prop) : Prop := ∀ e e' h, EnvEq e e' → K e h → K e' h

section congr
variable {e e' : Env}
def Agree (e e' : Env) (l : List Nat) : Prop := ∀ t ∈ l, e.get t = e'.get t
theorem Agree.left {l l' : List Nat} (h : Agree e e' (l ++ l')) : Agree e e' l := fun t ht => h t (List.mem_append_left _ ht)
theorem Agree.right {l l' : List Nat} (h : Agree e e' (l ++ l')) : Agree e e' l' := fun t ht => h t (List.mem_append_right _ ht)
theorem src_agree {s : Src} (h : Agree e e' (srcT s)) : e.src s = e'.src s := by
  cases s with
  | t n => exact h n (by simp [srcT])
  | k v => rfl
theorem srcs_agree : ∀ {ss : List Src}, Agree e e' (ss.flatMap srcT) → e.srcs ss = e'.srcs ss
  | [], _ => rfl
  | s :: ss, h => by
    rw [List.flatMap_cons] at h
    simp only [Env.srcs]
    rw [src_agree h.left, srcs_agree h.right]
theorem fillL_agree : ∀ {ps : List (Nat × Nat × Src)} (zs : List AV), Agree e e' (ps.flatMap fun p => srcT p.2.2) → fillL e zs ps = fillL e' zs ps
  | [], _, _ => rfl
  | (a, b, s) :: ps, zs, h => by
    rw [List.flatMap_cons] at h
    simp only [fillL]
    rw [src_agree h.left]
    cases e'.src s with
    | none => rfl
    | some v =>
      simp only
      split
      · exact fillL_agree _ h.right
      · rfl
theorem optSrc_agree {o : Option Src} (h : Agree e e' (optT o)) : optSrc e o = optSrc e' o := by
  cases o with
  | none => rfl
  | some s => simp only [optSrc]; rw [src_agree h]
theorem bounds_agree {lo hi : Option Src} {n : Nat} (h1 : Agree e e' (optT lo)) (h2 : Agree e e' (optT hi)) : bounds e n lo hi = bounds e' n lo hi := by
  unfold bounds
  rw [optSrc_agree h1, optSrc_agree h2]

theorem aeval_agree {k : OpK} (h : Agree e e' k.reads) (hp : Heap) (id : Nat) : aeval k e hp id = aeval k e' hp id := by
  cases k <;> simp only [OpK.reads] at h <;> simp only [aeval] <;> first
    | rfl
    | (simp only [op_mov, op_box, op_load1, op_loadN, op_nilCheck, op_un, op_convInt, op_strBytes, op_bytesStr, op_iface, op_fieldAddr, op_field, op_extract, op_len, op_range, op_next, op_rangeM, op_entry]; rw [src_agree h]; done)
    | (simp only [op_store, op_bin, op_eq, op_makeSlice, op_idxSl, op_idxArr, op_index, op_indexStr, op_lookup, op_minmax, op_append, op_appendX, op_growZ, op_copy]; rw [src_agree h.left, src_agree h.right]; done)
    | (simp only [op_pick, op_mapUpdate]; rw [src_agree h.left.left, src_agree h.left.right, src_agree h.right]; done)
    | (simp only [op_ext]; rw [srcs_agree h]; done)
    | (simp only [op_build, op_buildSlice]; rw [fillL_agree _ h]; done)
    | (rw [List.flatMap_append] at h; simp only [op_makeFunc]; rw [srcs_agree h.left, srcs_agree h.right]; done)
    | (simp only [op_sliceStr, op_sliceSl, op_sliceArr]; rw [src_agree h.left.left]; simp only [bounds_agree h.left.right h.right]; done)
end congr

/-! ### What an operation looks at and leaves -/
def topS (e : Env) (s : Src) : List Nat :=
  match e.src s with
  | some v => topB v
  | none => []
def OpK.deps (k : OpK) (e : Env) : List Nat := k.ptrs.flatMap (topS e)
def cellsOf : Option AObj → Option AObj
  | some (.cells _ vs) => some (.cells .stale vs)
  | o => o

theorem cellsOf_cells {o o' : Option AObj} (he : cellsOf o = cellsOf o') {m : Mode} {vs : List AV} (h : o = some (.cells m vs)) : ∃ m', o' = some (.cells m' vs) := by
  subst h
  cases o' with
  | none => simp [cellsOf] at he
  | some x => cases x <;> simp [cellsOf] at he ⊢; exact he.symm
theorem cellsOf_map {o o' : Option AObj} (he : cellsOf o = cellsOf o') {es : List (AV × AV)} (h : o = some (.map es)) : o' = some (.map es) := by
  subst h
  cases o' with
  | none => simp [cellsOf] at he
  | some x => cases x <;> simp [cellsOf] at he ⊢; exact he.symm

theorem getRow_like {h h' : Heap} {b off n : Nat} {r : List AV} (he : cellsOf (h'.get b) = cellsOf (h.get b)) (hr : getRow h b off n = some r) : getRow h' b off n = some r := by
  unfold getRow at hr ⊢
  split at hr
  · rename_i hg; obtain ⟨m, hm⟩ := cellsOf_cells he.symm hg; rw [hm]; exact hr
  · cases hr
theorem getRow_some {h : Heap} {b off n : Nat} {r : List AV} (hr : getRow h b off n = some r) : (h.get b).isSome = true := by
  unfold getRow at hr
  split at hr
  · rename_i hg; rw [hg]; rfl
  · cases hr
theorem getCell_like {h h' : Heap} {b off : Nat} {r : AV} (he : cellsOf (h'.get b) = cellsOf (h.get b)) (hr : getCell h b off = some r) : getCell h' b off = some r := by
  unfold getCell at hr ⊢
  split at hr
  · rename_i hg; obtain ⟨m, hm⟩ := cellsOf_cells he.symm hg; rw [hm]; exact hr
  · cases hr
theorem getCell_some {h : Heap} {b off : Nat} {r : AV} (hr : getCell h b off = some r) : (h.get b).isSome = true := by
  unfold getCell at hr
  split at hr
  · rename_i hg; rw [hg]; rfl
  · cases hr

/-- What an operation's outcome hangs on. -/
structure Loc (f : Heap → Option (AV × Heap)) (deps : List Nat) (id : Nat) (h : Heap) (v : AV) (us : List (Nat × AObj)) : Prop where
  seen : ∀ b ∈ deps, (h.get b).isSome = true
  own : ∀ p ∈ us, p.1 = id ∨ (p.1 ∈ deps ∧ ∃ ps vs, h.get p.1 = some (.cells (.live ps) vs) ∧ p.2 = .cells .stale vs)
  again : ∀ h', (∀ b ∈ deps, cellsOf (h'.get b) = cellsOf (h.get b)) → (∀ b ps vs, h.get b = some (.cells (.live ps) vs) → (b, AObj.cells .stale vs) ∈ us → h'.get b = h.get b) → f h' = some (v, h'.sets us)

theorem local0 {k : OpK} (hc : k.cls = 0) {e : Env} {h h1 : Heap} {id : Nat} {v : AV} (hv : aeval k e h id = some (v, h1)) : h1 = h ∧ ∀ h', aeval k e h' id = some (v, h') := by
  cases k <;> simp only [OpK.cls] at hc <;> first
    | (cases hc; done)
    | (simp only [aeval, op_mov, op_pick, op_build, op_nilCheck, op_bin, op_eq, op_un, op_convInt, op_iface, op_makeFunc, op_sliceStr, op_sliceSl, op_fieldAddr, op_field, op_idxSl, op_idxArr, op_index, op_indexStr, op_extract, op_lenK, op_minmax, op_ext] at hv ⊢
       repeat' (split at hv)
       all_goals first
         | (cases hv; done)
         | (simp only [Option.some.injEq, Prod.mk.injEq] at hv; obtain ⟨hv1, hv2⟩ := hv; subst hv1; subst hv2; simp [*]; done))

theorem srcCells_loc {h : Heap} {esz n : Nat} {v : AV} {r : List AV} (hr : srcCells h esz v = some (n, r)) : (∀ b ∈ topB v, (h.get b).isSome = true) ∧ ∀ h', (∀ b ∈ topB v, cellsOf (h'.get b) = cellsOf (h.get b)) → srcCells h' esz v = some (n, r) := by
  unfold srcCells at hr ⊢
  split at hr
  · exact ⟨fun b hb => by simp [topB] at hb, fun _ _ => hr⟩
  · split at hr
    · rename_i hz
      split at hr
      · cases hr
      · rename_i hrow
        simp only [Option.some.injEq, Prod.mk.injEq] at hr
        obtain ⟨hr1, hr2⟩ := hr
        subst hr1; subst hr2
        refine ⟨fun b hb => by simp only [topB, List.mem_singleton] at hb; rw [hb]; exact getRow_some hrow, fun h' hh => ?_⟩
        rw [if_pos hz, getRow_like (hh _ (by simp [topB])) hrow]
    · cases hr
  · exact ⟨fun b hb => by simp [topB] at hb, fun _ _ => hr⟩
  · cases hr

theorem topS_of {e : Env} {s : Src} {v : AV} (h : e.src s = some v) : topS e s = topB v := by unfold topS; rw [h]

theorem aeval_loc {k : OpK} (hc : k.cls ≤ 2) {e : Env} {h h1 : Heap} {id : Nat} {v : AV} (hv : aeval k e h id = some (v, h1)) :
    ∃ us ds, (∀ b ∈ ds, b ∈ k.deps e) ∧ h1 = h.sets us ∧ Loc (fun h => aeval k e h id) ds id h v us := by
  have zero : ∀ k : OpK, k.cls = 0 → k.ptrs = [] := by intro k hk; cases k <;> first | rfl | (simp only [OpK.cls] at hk; cases hk)
  have readOnly : ∀ {k : OpK} {h1 : Heap}, (∀ b ∈ k.deps e, (h.get b).isSome = true) → h1 = h → (∀ h', (∀ b ∈ k.deps e, cellsOf (h'.get b) = cellsOf (h.get b)) → aeval k e h' id = some (v, h')) →
      ∃ us ds, (∀ b ∈ ds, b ∈ k.deps e) ∧ h1 = h.sets us ∧ Loc (fun h => aeval k e h id) ds id h v us :=
    fun {k} {h1} hs he ha => ⟨[], k.deps e, fun _ hb => hb, he, hs, fun p hp => (by cases hp), fun h' hh _ => ha h' hh⟩
  by_cases h0 : k.cls = 0
  · obtain ⟨e1, e2⟩ := local0 h0 hv
    refine readOnly (fun b hb => ?_) e1 (fun h' _ => e2 h')
    rw [OpK.deps, zero k h0] at hb
    cases hb
  cases k <;> simp only [OpK.cls] at hc h0 <;> first | (exact absurd trivial h0) | (exfalso; omega) | skip
  case load1 a =>
    simp only [aeval, op_load1] at hv
    split at hv
    · rename_i b off hs
      split at hv
      · rename_i r hr
        simp only [Option.some.injEq, Prod.mk.injEq] at hv
        obtain ⟨rfl, rfl⟩ := hv
        have hd : OpK.deps (.load1 a) e = [b] := by simp [OpK.deps, OpK.ptrs, topS_of hs, topB]
        refine readOnly (fun b' hb => ?_) rfl (fun h' hh => ?_)
        · rw [hd, List.mem_singleton] at hb; subst hb; exact getCell_some hr
        · simp only [aeval, op_load1, hs, getCell_like (hh b (by rw [hd]; simp)) hr]
      · cases hv
    · cases hv
  case loadN n a =>
    simp only [aeval, op_loadN] at hv
    split at hv
    · rename_i b off hs
      split at hv
      · rename_i r hr
        simp only [Option.some.injEq, Prod.mk.injEq] at hv
        obtain ⟨rfl, rfl⟩ := hv
        have hd : OpK.deps (.loadN n a) e = [b] := by simp [OpK.deps, OpK.ptrs, topS_of hs, topB]
        refine readOnly (fun b' hb => ?_) rfl (fun h' hh => ?_)
        · rw [hd, List.mem_singleton] at hb; subst hb; exact getRow_some hr
        · simp only [aeval, op_loadN, hs, getRow_like (hh b (by rw [hd]; simp)) hr]
      · cases hv
    · cases hv
  case bytesStr a =>
    simp only [aeval, op_bytesStr] at hv
    split at hv
    · rename_i hs
      simp only [Option.some.injEq, Prod.mk.injEq] at hv
      obtain ⟨rfl, rfl⟩ := hv
      have hd : OpK.deps (.bytesStr a) e = [] := by simp [OpK.deps, OpK.ptrs, topS_of hs, topB]
      refine readOnly (fun b' hb => by rw [hd] at hb; cases hb) rfl (fun h' hh => ?_)
      simp only [aeval, op_bytesStr, hs]
    · rename_i b off n z hs
      split at hv
      · rename_i r hr
        split at hv
        · rename_i bs hbs
          simp only [Option.some.injEq, Prod.mk.injEq] at hv
          obtain ⟨rfl, rfl⟩ := hv
          have hd : OpK.deps (.bytesStr a) e = [b] := by simp [OpK.deps, OpK.ptrs, topS_of hs, topB]
          refine readOnly (fun b' hb => ?_) rfl (fun h' hh => ?_)
          · rw [hd, List.mem_singleton] at hb; subst hb; exact getRow_some hr
          · simp only [aeval, op_bytesStr, hs, getRow_like (hh b (by rw [hd]; simp)) hr, hbs]
        · cases hv
      · cases hv
    · cases hv
  case lookup tg zr ok m kk =>
    simp only [aeval, op_lookup] at hv
    split at hv
    · rename_i mv kv hs hks
      split at hv
      · rename_i r hr
        simp only [Option.some.injEq, Prod.mk.injEq] at hv
        obtain ⟨rfl, rfl⟩ := hv
        unfold lookupA mapEs at hr
        split at hr
        · cases hr
        · rename_i es hes
          split at hes
          · simp only [Option.some.injEq] at hes
            subst hes
            have hd : OpK.deps (.lookup tg zr ok m kk) e = [] := by simp [OpK.deps, OpK.ptrs, topS_of hs, topB]
            refine readOnly (fun b' hb => by rw [hd] at hb; cases hb) rfl (fun h' hh => ?_)
            simp only [aeval, op_lookup, hs, hks, lookupA, mapEs, hr]
          · rename_i b
            split at hes
            · rename_i es' hg
              simp only [Option.some.injEq] at hes
              subst hes
              have hd : OpK.deps (.lookup tg zr ok m kk) e = [b] := by simp [OpK.deps, OpK.ptrs, topS_of hs, topB]
              refine readOnly (fun b' hb => ?_) rfl (fun h' hh => ?_)
              · rw [hd, List.mem_singleton] at hb; subst hb; rw [hg]; rfl
              · simp only [aeval, op_lookup, hs, hks, lookupA, mapEs, cellsOf_map (hh b (by rw [hd]; simp)).symm hg, hr]
            · cases hes
          · cases hes
      · cases hv
    · cases hv
  case len tg a =>
    simp only [aeval, op_len] at hv
    split at hv
    · rename_i av hs
      split at hv
      · rename_i r hr
        simp only [Option.some.injEq, Prod.mk.injEq] at hv
        obtain ⟨rfl, rfl⟩ := hv
        cases tg with
        | map =>
          unfold lenA at hr
          cases av <;> simp only at hr <;> first | (cases hr; done) | skip
          · have hd : OpK.deps (.len .map a) e = [] := by simp [OpK.deps, OpK.ptrs, topS_of hs, topB]
            refine readOnly (fun b' hb => by rw [hd] at hb; cases hb) rfl (fun h' hh => ?_)
            simp only [aeval, op_len, hs, lenA, hr]
          · rename_i b
            split at hr
            · rename_i es hg
              have hd : OpK.deps (.len .map a) e = [b] := by simp [OpK.deps, OpK.ptrs, topS_of hs, topB]
              refine readOnly (fun b' hb => ?_) rfl (fun h' hh => ?_)
              · rw [hd, List.mem_singleton] at hb; subst hb; rw [hg]; rfl
              · simp only [aeval, op_len, hs, lenA, cellsOf_map (hh b (by rw [hd]; simp)).symm hg, hr]
            · cases hr
        | str =>
          refine readOnly (fun b' hb => by cases hb) rfl (fun h' hh => ?_)
          have : lenA h' .str av = lenA h .str av := by cases av <;> rfl
          simp only [aeval, op_len, hs, this, hr]
        | slice =>
          refine readOnly (fun b' hb => by cases hb) rfl (fun h' hh => ?_)
          have : lenA h' .slice av = lenA h .slice av := by cases av <;> rfl
          simp only [aeval, op_len, hs, this, hr]
        | cap =>
          refine readOnly (fun b' hb => by cases hb) rfl (fun h' hh => ?_)
          have : lenA h' .cap av = lenA h .cap av := by cases av <;> rfl
          simp only [aeval, op_len, hs, this, hr]
      · cases hv
    · cases hv
  case alloc zs =>
    simp only [aeval, op_alloc, Option.some.injEq, Prod.mk.injEq] at hv
    obtain ⟨rfl, rfl⟩ := hv
    exact ⟨[(id, .cells (.live []) zs)], [], fun _ hb => (by cases hb), rfl, fun b hb => (by cases hb), fun p hp => .inl (by rw [List.mem_singleton] at hp; rw [hp]), fun h' _ _ => rfl⟩
  case buildSlice zs esz len ps =>
    simp only [aeval, op_buildSlice] at hv
    split at hv
    · rename_i cs hcs
      simp only [Option.some.injEq, Prod.mk.injEq] at hv
      obtain ⟨rfl, rfl⟩ := hv
      exact ⟨[(id, .cells (.live []) cs)], [], fun _ hb => (by cases hb), rfl, fun b hb => (by cases hb), fun p hp => .inl (by rw [List.mem_singleton] at hp; rw [hp]), fun h' _ _ => by simp only [aeval, op_buildSlice, hcs]; rfl⟩
    · cases hv
  case appendX esz s x =>
    simp only [aeval, op_appendX] at hv
    split at hv
    · rename_i sv xv hs hx
      have hd : OpK.deps (.appendX esz s x) e = topB sv ++ topB xv := by simp [OpK.deps, OpK.ptrs, topS_of hs, topS_of hx]
      unfold appendXA at hv
      split at hv
      · -- an empty slice that is not nil: no block is looked at
        rename_i hz
        refine ⟨[], [], fun b hb => (by cases hb), ?_, fun b hb => (by cases hb), fun p hp => (by cases hp), fun h' _ _ => ?_⟩
        · split at hv
          · cases hv; rfl
          · split at hv
            · cases hv; rfl
            · cases hv
          · cases hv
        · simp only [aeval, op_appendX, hs, hx, appendXA, if_pos hz]
          split at hv
          · cases hv; rfl
          · split at hv
            · rename_i hze; cases hv; simp only [if_pos hze]; rfl
            · cases hv
          · cases hv
      rename_i hz0
      split at hv
      · cases hv
      · rename_i n new hn
        obtain ⟨l1, l2⟩ := srcCells_loc hn
        split at hv
        · rename_i hn0
          refine ⟨[], topB xv, fun b hb => by rw [hd]; exact List.mem_append_right _ hb, ?_, fun b hb => l1 b hb, fun p hp => (by cases hp), fun h' hh _ => ?_⟩
          · split at hv
            · cases hv; rfl
            · split at hv
              · cases hv; rfl
              · cases hv
            · cases hv
          · simp only [aeval, op_appendX, hs, hx, appendXA, if_neg hz0, l2 h' hh, if_pos hn0]
            split at hv
            · cases hv; rfl
            · split at hv
              · rename_i hze; cases hv; simp only [if_pos hze]; rfl
              · cases hv
            · cases hv
        · rename_i hn0
          split at hv
          · split at hv
            · rename_i hm
              simp only [Option.some.injEq, Prod.mk.injEq] at hv
              obtain ⟨rfl, rfl⟩ := hv
              refine ⟨[(id, .cells (.live []) new)], OpK.deps (.appendX esz s x) e, fun _ hb => hb, rfl, fun b hb => ?_, fun p hp => .inl (by rw [List.mem_singleton] at hp; rw [hp]), fun h' hh _ => ?_⟩
              · rw [hd] at hb; exact l1 b (by simpa [topB] using hb)
              · simp only [aeval, op_appendX, hs, hx, appendXA, if_neg hz0, l2 h' (fun b hb => hh b (by rw [hd]; exact List.mem_append_right _ hb)), if_neg hn0, if_pos hm]
                rfl
            · cases hv
          · rename_i b off len z
            split at hv
            · rename_i hm
              split at hv
              · rename_i ps vs hg
                split at hv
                · cases hv
                · rename_i hone
                  split at hv
                  · rename_i hlen
                    simp only [Option.some.injEq, Prod.mk.injEq] at hv
                    obtain ⟨rfl, rfl⟩ := hv
                    refine ⟨[(b, .cells .stale vs), (id, .cells (.live (b :: ps)) ((vs.drop off) ++ new))], OpK.deps (.appendX esz s x) e, fun _ hb => hb, rfl, fun b' hb => ?_, fun p hp => ?_, fun h' hh hg' => ?_⟩
                    · rw [hd] at hb
                      rcases List.mem_append.1 hb with hb | hb
                      · simp only [topB, List.mem_singleton] at hb; subst hb; rw [hg]; rfl
                      · exact l1 b' hb
                    · simp only [List.mem_cons, List.not_mem_nil, or_false] at hp
                      rcases hp with rfl | rfl
                      · exact .inr ⟨by rw [hd]; simp [topB], ps, vs, hg, rfl⟩
                      · exact .inl rfl
                    · have hgb := (hg' b ps vs hg (by simp)).trans hg
                      simp only [aeval, op_appendX, hs, hx, appendXA, if_neg hz0, l2 h' (fun b hb => hh b (by rw [hd]; exact List.mem_append_right _ hb)), if_neg hn0, if_pos hm, hgb, if_neg hone, if_pos hlen]
                      rfl
                  · cases hv
              · cases hv
            · cases hv
          · cases hv
    · cases hv

/-! ### Operations as functions -/
def rhsP (g : Nat → List AV → Option AV) (k : OpK) (e : Env) (h : Heap) (id : Nat) : Option (AV × Heap) :=
  match k with
  | .call f args => match e.srcs args with
    | some vs => (match g f vs with
      | some v => some (v, h)
      | none => none)
    | none => none
  | .callv _ _ => none
  | k => aeval k e h id

def fOp (g : Nat → List AV → Option AV) (id : Nat) (o : AOp) (e : Env) (h : Heap) : Option (AV × Heap) :=
  match guardA o.guard e with
  | none => none
  | some false => some (.undef, h)
  | some true => rhsP g o.k e h id

def depsO (o : AOp) (e : Env) : List Nat :=
  match guardA o.guard e with
  | some true => o.k.deps e
  | _ => []

/-- What pure functions mean. -/
def PureCall (call : CallP) (pure : List Nat) (g : Nat → List AV → Option AV) : Prop :=
  ∀ f ∈ pure, ∀ vs h K, call (.func (.fn f) [] []) vs h K ↔ ∃ v, g f vs = some v ∧ K v h

theorem chk_of {pure : List Nat} {o : AOp} (hc : clsP pure o ≤ 2) : o.chk = [] := by
  unfold clsP at hc
  split at hc
  · rename_i h; exact List.isEmpty_iff.1 h
  · omega

theorem cls_of {pure : List Nat} {o : AOp} (hc : clsP pure o ≤ 2) : (∃ f args, o.k = .call f args ∧ f ∈ pure ∧ clsP pure o = 0) ∨ ((∀ f args, o.k ≠ .call f args) ∧ (∀ f args, o.k ≠ .callv f args) ∧ clsP pure o = o.k.cls ∧ o.k.ptrs.all srcLow = true) := by
  have hck : o.chk.isEmpty = true := by rw [chk_of hc]; rfl
  unfold clsP at hc ⊢
  rw [if_pos hck] at hc ⊢
  split at hc
  · rename_i f args hk
    rw [hk]
    split at hc
    · rename_i hp; exact .inl ⟨f, args, rfl, by simpa [List.contains_eq_mem] using hp, if_pos hp⟩
    · omega
  · rename_i hk
    split at hc
    · rename_i hl
      refine .inr ⟨hk, fun f args hf => ?_, ?_, hl⟩
      · rw [hf] at hc; simp [OpK.cls] at hc
      · exact if_pos hl
    · omega

theorem rhsP_eval {g : Nat → List AV → Option AV} {k : OpK} (h1 : ∀ f args, k ≠ .call f args) (h2 : ∀ f args, k ≠ .callv f args) (e : Env) (h : Heap) (id : Nat) : rhsP g k e h id = aeval k e h id := by
  cases k <;> first | rfl | exact (h1 _ _ rfl).elim | exact (h2 _ _ rfl).elim

theorem aOp_fn {call : CallP} {pure : List Nat} {g : Nat → List AV → Option AV} (hp : PureCall call pure g) {o : AOp} (hc : clsP pure o ≤ 2) {id : Nat} {e : Env} {h : Heap} {K : Env → Heap → Prop} :
    aOp call id o e h K ↔ ∃ v h', fOp g id o e h = some (v, h') ∧ K (e.putD o.dst v) h' := by
  unfold aOp fOp
  cases hg : guardA o.guard e with
  | none => simp
  | some b => cases b with
    | false =>
      simp only
      exact ⟨fun hh => ⟨_, _, rfl, hh⟩, fun ⟨v, h', e1, e2⟩ => by simp only [Option.some.injEq, Prod.mk.injEq] at e1; obtain ⟨rfl, rfl⟩ := e1; exact e2⟩
    | true =>
      simp only
      rcases cls_of hc with ⟨f, args, hk, hf, _⟩ | ⟨h1, h2, _⟩
      · simp only [hk, rhsP]
        cases e.srcs args with
        | none => simp
        | some vs =>
          simp only
          rw [hp f hf]
          cases g f vs with
          | none => simp
          | some v => exact ⟨fun ⟨v', e1, e2⟩ => ⟨v', h, by cases e1; rfl, e2⟩, fun ⟨v', h', e1, e2⟩ => by cases e1; exact ⟨v, rfl, e2⟩⟩
      · rw [rhsP_eval h1 h2]
        split
        · rename_i f args hk; exact (h1 _ _ hk).elim
        · rename_i f args hk; exact (h2 _ _ hk).elim
        · cases aeval o.k e h id with
          | none => simp
          | some r => obtain ⟨v, h'⟩ := r; exact ⟨fun hh => ⟨_, _, rfl, hh⟩, fun ⟨v', h'', e1, e2⟩ => by cases e1; exact e2⟩

theorem guardA_agree {e e' : Env} {o : AOp} (h : Agree e e' o.own) : guardA o.guard e = guardA o.guard e' := by
  unfold guardA
  cases hg : o.guard with
  | none => rfl
  | some p =>
    obtain ⟨t, want⟩ := p
    simp only
    have : e.get t = e'.get t := h t (by unfold AOp.own; rw [hg]; simp [guardT])
    rw [this]
theorem k_agree {e e' : Env} {o : AOp} (h : Agree e e' o.own) : Agree e e' o.k.reads := fun t ht => h t (List.mem_append_left _ ht)

theorem rhsP_agree {g : Nat → List AV → Option AV} {e e' : Env} {k : OpK} (h : Agree e e' k.reads) (hp : Heap) (id : Nat) : rhsP g k e hp id = rhsP g k e' hp id := by
  cases k <;> first
    | (simp only [rhsP]; rw [srcs_agree h]; done)
    | rfl
    | (simp only [rhsP]; exact aeval_agree h hp id)

theorem fOp_agree {g : Nat → List AV → Option AV} {e e' : Env} {o : AOp} (h : Agree e e' o.own) (hp : Heap) (id : Nat) : fOp g id o e hp = fOp g id o e' hp := by
  unfold fOp
  rw [guardA_agree h, rhsP_agree (k_agree h)]

theorem ptrs_reads (k : OpK) : ∀ s ∈ k.ptrs, ∀ t ∈ srcT s, t ∈ k.reads := by
  intro s hs t ht
  cases k <;> simp only [OpK.ptrs, List.mem_cons, List.not_mem_nil, or_false] at hs <;> first
    | (subst hs; simp [OpK.reads, ht]; done)
    | (rcases hs with rfl | rfl <;> simp [OpK.reads, ht]; done)
    | skip
  rename_i tg x
  cases tg <;> simp only [List.mem_cons, List.not_mem_nil, or_false] at hs
  subst hs
  exact ht

theorem deps_agree {e e' : Env} {k : OpK} (h : Agree e e' k.reads) : k.deps e = k.deps e' := by
  unfold OpK.deps
  have : ∀ s ∈ k.ptrs, topS e s = topS e' s := fun s hs => by
    unfold topS
    rw [src_agree (fun t ht => h t (ptrs_reads k s hs t ht))]
  generalize k.ptrs = l at this
  induction l with
  | nil => rfl
  | cons s l ih => rw [List.flatMap_cons, List.flatMap_cons, this s List.mem_cons_self, ih (fun s' hs' => this s' (List.mem_cons_of_mem _ hs'))]

theorem depsO_agree {e e' : Env} {o : AOp} (h : Agree e e' o.own) : depsO o e = depsO o e' := by
  unfold depsO
  rw [guardA_agree h, deps_agree (k_agree h)]

theorem fOp_loc {pure : List Nat} {g : Nat → List AV → Option AV} {o : AOp} (hc : clsP pure o ≤ 2) {id : Nat} {e : Env} {h h1 : Heap} {v : AV} (hv : fOp g id o e h = some (v, h1)) :
    ∃ us ds, (∀ b ∈ ds, b ∈ depsO o e) ∧ h1 = h.sets us ∧ Loc (fun h => fOp g id o e h) ds id h v us := by
  unfold fOp at hv ⊢
  unfold depsO
  cases hg : guardA o.guard e with
  | none => rw [hg] at hv; cases hv
  | some b => cases b with
    | false =>
      rw [hg] at hv
      simp only [Option.some.injEq, Prod.mk.injEq] at hv
      obtain ⟨rfl, rfl⟩ := hv
      exact ⟨[], [], fun _ hb => (by cases hb), rfl, fun b hb => (by cases hb), fun p hp => (by cases hp), fun h' _ _ => rfl⟩
    | true =>
      rw [hg] at hv
      simp only at hv ⊢
      rcases cls_of hc with ⟨f, args, hk, hf, _⟩ | ⟨h1', h2', h3', _⟩
      · simp only [hk, rhsP] at hv ⊢
        split at hv
        · split at hv
          · rename_i hgv
            simp only [Option.some.injEq, Prod.mk.injEq] at hv
            obtain ⟨rfl, rfl⟩ := hv
            exact ⟨[], [], fun _ hb => (by cases hb), rfl, fun b hb => (by cases hb), fun p hp => (by cases hp), fun h' _ _ => by simp; rfl⟩
          · cases hv
        · cases hv
      · rw [rhsP_eval h1' h2'] at hv
        obtain ⟨us, ds, e0, e1, e2⟩ := aeval_loc (h3' ▸ hc) hv
        refine ⟨us, ds, e0, e1, e2.seen, e2.own, fun h' a b => ?_⟩
        rw [rhsP_eval h1' h2']
        exact e2.again h' a b

theorem Heap.get_sets_cells {f : Heap → Option (AV × Heap)} {deps : List Nat} {id : Nat} {h : Heap} {v : AV} {us : List (Nat × AObj)} (hl : Loc f deps id h v us) {b : Nat} (hb : b ≠ id) :
    cellsOf ((h.sets us).get b) = cellsOf (h.get b) ∧ ((h.sets us).get b = h.get b ∨ ∃ vs, (h.sets us).get b = some (.cells .stale vs)) := by
  have key : ∀ (us : List (Nat × AObj)) (h' : Heap), (∀ p ∈ us, p.1 = b → ∃ m vs, h'.get b = some (.cells m vs) ∧ p.2 = .cells .stale vs) →
      cellsOf ((h'.sets us).get b) = cellsOf (h'.get b) ∧ ((h'.sets us).get b = h'.get b ∨ ∃ vs, (h'.sets us).get b = some (.cells .stale vs)) := by
    intro us
    induction us with
    | nil => intro h' _; exact ⟨rfl, .inl rfl⟩
    | cons p us ih =>
      intro h' hh
      simp only [Heap.sets]
      by_cases hpb : p.1 = b
      · obtain ⟨m, vs, h1, h2⟩ := hh p List.mem_cons_self hpb
        have hg : (h'.set p.1 (some p.2)).get b = some (.cells .stale vs) := by rw [← hpb, Heap.get_set_same, h2]
        obtain ⟨i1, i2⟩ := ih (h'.set p.1 (some p.2)) (fun q hq hqb => by
          obtain ⟨m', vs', h3, h4⟩ := hh q (List.mem_cons_of_mem _ hq) hqb
          rw [h1] at h3
          cases h3
          exact ⟨_, _, hg, h4⟩)
        refine ⟨by rw [i1, hg, h1]; rfl, .inr ?_⟩
        rcases i2 with i2 | i2
        · exact ⟨vs, by rw [i2, hg]⟩
        · exact i2
      · have hg : (h'.set p.1 (some p.2)).get b = h'.get b := Heap.get_set_other _ _ hpb
        have := ih (h'.set p.1 (some p.2)) (fun q hq hqb => by rw [hg]; exact hh q (List.mem_cons_of_mem _ hq) hqb)
        rw [hg] at this
        exact this
  refine key us h fun p hp hpb => ?_
  rcases hl.own p hp with h1 | ⟨_, ps, vs, h2, h3⟩
  · exact absurd (hpb.symm.trans h1) hb
  · rw [hpb] at h2
    exact ⟨_, vs, h2, h3⟩

theorem dst_off {d : Option Nat} {l : List Nat} (h : dstOff d l = true) {e : Env} {v : AV} : Agree (e.putD d v) e l := by
  intro t ht
  refine Env.get_putD_off (fun hd => ?_)
  subst hd
  simp only [dstOff, Bool.not_eq_true', List.contains_eq_mem] at h
  simp [ht] at h

structure Swap (x y : AOp) : Prop where
  xy : dstOff x.dst y.own = true
  yx : dstOff y.dst x.reads = true
  dst : ∀ a b, x.dst = some a → y.dst = some b → a ≠ b

theorem own_reads {o : AOp} {t : Nat} (h : t ∈ o.own) : t ∈ o.reads := List.mem_append_left _ h
theorem dst_off_own {d : Option Nat} {o : AOp} (h : dstOff d o.reads = true) {e : Env} {v : AV} : Agree (e.putD d v) e o.own := fun t ht => dst_off h t (own_reads ht)

theorem swapOK_spec {pure : List Nat} {chk : Bool} {x y : AOp} (h : swapOK pure chk x y = true) : Swap x y ∧ (chk = true ∨ clsP pure x = 0 ∨ clsP pure y = 0 ∨ (clsP pure x ≤ 2 ∧ clsP pure y ≤ 2) ∨ (y.k.fresh = true ∧ y.guard = none)) := by
  unfold swapOK at h
  simp only [Bool.and_eq_true, Bool.or_eq_true, beq_iff_eq] at h
  obtain ⟨⟨⟨h1, h2⟩, h3⟩, h4⟩ := h
  refine ⟨⟨h1, h2, fun a b ha hb => ?_⟩, ?_⟩
  · rw [ha, hb] at h3; simpa using h3
  · rcases h4 with (((h4 | h4) | h4) | h4) | h4
    · exact .inl h4
    · exact .inr (.inl h4)
    · exact .inr (.inr (.inl h4))
    · exact .inr (.inr (.inr (.inl ⟨Nat.le_of_ble_eq_true h4.1, Nat.le_of_ble_eq_true h4.2⟩)))
    · exact .inr (.inr (.inr (.inr ⟨h4.1, Option.isNone_iff_eq_none.1 h4.2⟩)))

/-- Two operations that are functions change places. -/
theorem fOp_swap {pure : List Nat} {g : Nat → List AV → Option AV} {x y : AOp} {ix iy : Nat} {e : Env} {h h1 h2 : Heap} {v u : AV} (hs : Swap x y) (hx : clsP pure x ≤ 2) (hy : clsP pure y ≤ 2) (hne : ix ≠ iy)
    (hlow : ix ∉ depsO y e) (hnone : h.get iy = none) (e1 : fOp g ix x e h = some (v, h1)) (e2 : fOp g iy y (e.putD x.dst v) h1 = some (u, h2)) :
    ∃ h1', fOp g iy y e h = some (u, h1') ∧ fOp g ix x (e.putD y.dst u) h1' = some (v, h2) := by
  obtain ⟨ux, dx, _, rfl, lx⟩ := fOp_loc hx e1
  rw [fOp_agree (dst_off hs.xy)] at e2
  obtain ⟨uy, dy, hdy, rfl, ly⟩ := fOp_loc hy e2
  have hyd : ∀ b ∈ dy, b ≠ ix := fun b hb hh => hlow (hh ▸ hdy b hb)
  have hxd : ∀ b ∈ dx, b ≠ iy := fun b hb hh => by have := lx.seen b hb; rw [hh, hnone] at this; cases this
  -- what y marks, x does not touch
  have hym : ∀ b ps vs, (h.sets ux).get b = some (.cells (.live ps) vs) → b ≠ ix → h.get b = (h.sets ux).get b := fun b ps vs hb hbi => by
    rcases (Heap.get_sets_cells lx hbi).2 with h3 | ⟨vs', h3⟩
    · exact h3.symm
    · rw [h3] at hb; cases hb
  have y1 : fOp g iy y e h = some (u, h.sets uy) := by
    refine ly.again h (fun b hb => ?_) (fun b ps vs hb hm => ?_)
    · exact (Heap.get_sets_cells lx (hyd b hb)).1.symm
    · by_cases hbi : b = ix
      · -- a block that y marks and that is x's own: it is one of y's operands, or y's own
        rcases ly.own _ hm with h3 | ⟨h3, _⟩
        · exact absurd (hbi.symm.trans h3) hne
        · exact absurd hbi (hyd b h3)
      · exact hym b ps vs hb hbi
  obtain ⟨uy', _, _, e3, ly'⟩ := fOp_loc hy y1
  have hdis : ∀ p ∈ ux, ∀ q ∈ uy, p.1 ≠ q.1 := fun p hp q hq hpq => by
    rcases lx.own p hp with h3 | ⟨h3, ps, vs, h4, h5⟩
    · rcases ly.own q hq with h6 | ⟨h6, _⟩
      · exact hne (h3.symm.trans (hpq.trans h6))
      · exact hyd q.1 h6 (hpq.symm.trans h3)
    · rcases ly.own q hq with h6 | ⟨h6, ps', vs', h7, h8⟩
      · exact hxd p.1 h3 (hpq.trans h6)
      · -- x marks it stale: y finds it live
        have : (h.sets ux).get p.1 = some (.cells .stale vs) := by
          have hpi : p.1 ≠ ix := fun hh => hyd q.1 h6 (hpq.symm.trans hh)
          have : ∀ (us : List (Nat × AObj)) (h' : Heap), (∀ r ∈ us, r.1 = p.1 → r.2 = .cells .stale vs) → (p ∈ us ∨ h'.get p.1 = some (.cells .stale vs)) → (h'.sets us).get p.1 = some (.cells .stale vs) := by
            intro us
            induction us with
            | nil => intro h' _ hh; rcases hh with hh | hh; · cases hh
                     · exact hh
            | cons r us ih =>
              intro h' ha hh
              simp only [Heap.sets]
              refine ih _ (fun r' hr' => ha r' (List.mem_cons_of_mem _ hr')) ?_
              by_cases hr : r.1 = p.1
              · exact .inr (by rw [← hr, Heap.get_set_same, ha r List.mem_cons_self hr])
              · rcases hh with hh | hh
                · rcases List.mem_cons.1 hh with hh | hh
                  · exact absurd (by rw [hh]) hr
                  · exact .inl hh
                · exact .inr (by rw [Heap.get_set_other _ _ hr]; exact hh)
          refine this ux h (fun r hr hrp => ?_) (.inl hp)
          rcases lx.own r hr with h9 | ⟨_, ps9, vs9, h9, h10⟩
          · exact absurd (hrp.symm.trans h9) hpi
          · rw [hrp, h4] at h9; cases h9; exact h10
        rw [hpq] at this
        rw [this] at h7
        cases h7
  refine ⟨h.sets uy, y1, ?_⟩
  rw [fOp_agree (dst_off_own hs.yx)]
  have := lx.again (h.sets uy) (fun b hb => ?_) (fun b ps vs hb hm => ?_)
  · rw [this, ← Heap.sets_comm ux uy h hdis]
  · by_cases hm : ∃ q ∈ uy, q.1 = b
    · obtain ⟨q, hq, hqb⟩ := hm
      have hne' : b ≠ iy := hxd b hb
      have := (Heap.get_sets_cells ly' hne').1
      rw [← e3] at this
      exact this
    · rw [Heap.get_sets_other uy h b (fun q hq hqb => hm ⟨q, hq, hqb⟩)]
  · exact Heap.get_sets_other uy h b (fun q hq hqb => hdis _ hm q hq hqb.symm)

/-! ### To the front -/
def CallP.Live (call : CallP) : Prop := ∀ fv args h K, call fv args h K → ∃ v h', K v h'

/-- An operation with its yield. -/
def aOpV (call : CallP) (id : Nat) (o : AOp) (e : Env) (h : Heap) (K : AV → Heap → Prop) : Prop :=
  match guardA o.guard e with
  | none => False
  | some false => K .undef h
  | some true => match o.k with
    | .call f args => (match e.srcs args with
      | some vs => call (.func (.fn f) [] []) vs h K
      | none => False)
    | .callv f args => (match e.src f, e.srcs args with
      | some fv, some vs => call fv vs h K
      | _, _ => False)
    | k => match aeval k e h id with
      | some (v, h') => K v h'
      | none => False

theorem aOp_V (call : CallP) (id : Nat) (o : AOp) (e : Env) (h : Heap) (K : Env → Heap → Prop) : aOp call id o e h K = aOpV call id o e h (fun v h' => K (e.putD o.dst v) h') := by
  unfold aOp aOpV
  rfl

theorem aOpV_mono {call : CallP} (hm : call.Mono) {id : Nat} {o : AOp} {e : Env} {h : Heap} {K K' : AV → Heap → Prop} (hk : ∀ v h, K v h → K' v h) (hh : aOpV call id o e h K) : aOpV call id o e h K' := by
  unfold aOpV at hh ⊢
  split at hh
  · exact hh
  · exact hk _ _ hh
  · split at hh
    · split at hh
      · exact hm _ _ _ _ _ hk hh
      · exact hh
    · split at hh
      · exact hm _ _ _ _ _ hk hh
      · exact hh
    · split at hh
      · exact hk _ _ hh
      · exact hh

theorem aOpV_live {call : CallP} (hl : call.Live) {id : Nat} {o : AOp} {e : Env} {h : Heap} {K : AV → Heap → Prop} (hh : aOpV call id o e h K) : ∃ v h', K v h' := by
  unfold aOpV at hh
  split at hh
  · exact hh.elim
  · exact ⟨_, _, hh⟩
  · split at hh
    · split at hh
      · exact hl _ _ _ _ hh
      · exact hh.elim
    · split at hh
      · exact hl _ _ _ _ hh
      · exact hh.elim
    · split at hh
      · exact ⟨_, _, hh⟩
      · exact hh.elim

theorem guardT_agree {e e' : Env} {g : Option (Nat × Bool)} (h : Agree e e' (guardT g)) : guardA g e = guardA g e' := by
  unfold guardA
  cases g with
  | none => rfl
  | some p =>
    obtain ⟨t, want⟩ := p
    simp only
    have : e.get t = e'.get t := h t (by simp [guardT])
    rw [this]

theorem chkA_agree {e e' : Env} {c : Chk} {h : Heap} (ha : Agree e e' c.reads) (hc : chkA c e h) : chkA c e' h := by
  have h1 : e.get c.d = e'.get c.d := ha c.d List.mem_cons_self
  have h2 : Agree e e' c.k.reads := fun t ht => ha t (List.mem_cons_of_mem _ (List.mem_append_left _ ht))
  have h3 : Agree e e' (guardT c.guard) := fun t ht => ha t (List.mem_cons_of_mem _ (List.mem_append_right _ ht))
  unfold chkA at hc ⊢
  rw [← guardT_agree h3, ← aeval_agree h2, ← h1]
  exact hc

theorem chksA_agree {e e' : Env} {h : Heap} : ∀ {cs : List Chk}, Agree e e' (cs.flatMap Chk.reads) → chksA cs e h → chksA cs e' h
  | [], _, _ => trivial
  | c :: cs, ha, hc => by
    rw [List.flatMap_cons] at ha
    exact ⟨chkA_agree ha.left hc.1, chksA_agree ha.right hc.2⟩

theorem chksA_mem {e : Env} {h : Heap} : ∀ {cs : List Chk}, chksA cs e h → ∀ c ∈ cs, chkA c e h
  | [], _, c, hm => by cases hm
  | d :: cs, hc, c, hm => by
    rcases List.mem_cons.1 hm with rfl | hm
    · exact hc.1
    · exact chksA_mem hc.2 c hm

theorem aOpV_agree {call : CallP} {id : Nat} {o : AOp} {e e' : Env} {h : Heap} {K : AV → Heap → Prop} (hag : Agree e e' o.own) (hh : aOpV call id o e h K) : aOpV call id o e' h K := by
  have hk := k_agree hag
  unfold aOpV at hh ⊢
  rw [← guardA_agree hag]
  split at hh
  · exact hh
  · exact hh
  · split at hh
    · rename_i f args hok
      rw [hok] at hk
      rw [← srcs_agree (e := e) (e' := e') hk]
      exact hh
    · rename_i f args hok
      rw [hok] at hk
      rw [← src_agree (e := e) (e' := e') (Agree.left hk), ← srcs_agree (e := e) (e' := e') (Agree.right hk)]
      exact hh
    · rw [← aeval_agree hk]
      exact hh

theorem EnvEq.agree {e e' : Env} (h : EnvEq e e') (l : List Nat) : Agree e e' l := fun t _ => h t
theorem Agree.trans {e e1 e2 : Env} {l : List Nat} (h : Agree e e1 l) (k : Agree e1 e2 l) : Agree e e2 l := fun t ht => (h t ht).trans (k t ht)
theorem Agree.symm {e e1 : Env} {l : List Nat} (h : Agree e e1 l) : Agree e1 e l := fun t ht => (h t ht).symm

theorem aOpsL_eq {call : CallP} (hm : call.Mono) {K : Env → Heap → Prop} (hK : KEq K) : ∀ (L : List (Nat × AOp)) {e e' : Env} {h : Heap}, EnvEq e e' → aOpsL call L e h K → aOpsL call L e' h K
  | [], _, _, _, he, hh => hK _ _ _ he hh
  | p :: L, e, e', h, he, hh => by
    simp only [aOpsL, aOp_V] at hh ⊢
    exact aOpV_mono hm (fun v h' g => ⟨chksA_agree ((he.putD _ _).agree _) g.1, aOpsL_eq hm hK L (he.putD _ _) g.2⟩) (aOpV_agree (he.agree _) hh)

/-- An operation that is a function, at a row's head. -/
theorem aOpsL_fn {call : CallP} {pure : List Nat} {g : Nat → List AV → Option AV} (hp : PureCall call pure g) {p : Nat × AOp} (hc : clsP pure p.2 ≤ 2) {L : List (Nat × AOp)} {e : Env} {h : Heap} {K : Env → Heap → Prop} :
    aOpsL call (p :: L) e h K ↔ ∃ v h', fOp g p.1 p.2 e h = some (v, h') ∧ aOpsL call L (e.putD p.2.dst v) h' K := by
  simp only [aOpsL]
  rw [aOp_fn hp hc, chk_of hc]
  exact ⟨fun ⟨v, h', h1, h2⟩ => ⟨v, h', h1, h2.2⟩, fun ⟨v, h', h1, h2⟩ => ⟨v, h', h1, trivial, h2⟩⟩

theorem aOpsL_head {call : CallP} {p : Nat × AOp} {L : List (Nat × AOp)} {e : Env} {h : Heap} {K : Env → Heap → Prop} (hh : aOpsL call (p :: L) e h K) :
    aOp call p.1 p.2 e h (fun e' h' => chksA p.2.chk e' h' ∧ aOpsL call L e' h' K) := hh

theorem front_low {call : CallP} (hm : call.Mono) {pure : List Nat} {g : Nat → List AV → Option AV} (hp : PureCall call pure g) {i : Nat × AOp} {post : List (Nat × AOp)} {K : Env → Heap → Prop} (hK : KEq K) (hi : clsP pure i.2 ≤ 2) :
    ∀ (pre : List (Nat × AOp)) {e : Env} {h : Heap}, (∀ p ∈ pre, Swap p.2 i.2 ∧ clsP pure p.2 ≤ 2 ∧ p.1 ≠ i.1 ∧ p.1 ∉ depsO i.2 e) → h.get i.1 = none → aOpsL call (pre ++ i :: post) e h K →
      aOp call i.1 i.2 e h (fun e' h' => aOpsL call (pre ++ post) e' h' K)
  | [], _, _, _, _, hh => by
    obtain ⟨v, h', h1, h2⟩ := (aOpsL_fn hp hi).1 hh
    exact (aOp_fn hp hi).2 ⟨v, h', h1, h2⟩
  | p :: ps, e, h, hs, hn, hh => by
    obtain ⟨s1, s2, s3, s4⟩ := hs p List.mem_cons_self
    obtain ⟨v, h1, e1, hh⟩ := (aOpsL_fn hp s2).1 hh
    have hag : Agree (e.putD p.2.dst v) e i.2.own := dst_off s1.xy
    obtain ⟨us, _, _, rfl, lx⟩ := fOp_loc s2 e1
    have hn1 : (h.sets us).get i.1 = none := by
      rw [Heap.get_sets_other us h i.1 (fun q hq hqi => ?_)]
      · exact hn
      · rcases lx.own q hq with h3 | ⟨_, ps', vs', h3, _⟩
        · exact s3 (h3.symm.trans hqi)
        · rw [hqi, hn] at h3; cases h3
    have := front_low hm hp hK hi ps (fun q hq => by
      obtain ⟨t1, t2, t3, t4⟩ := hs q (List.mem_cons_of_mem _ hq)
      exact ⟨t1, t2, t3, by rw [depsO_agree hag]; exact t4⟩) hn1 hh
    obtain ⟨u, h2, e2, hh⟩ := (aOp_fn hp hi).1 this
    obtain ⟨h1', e3, e4⟩ := fOp_swap s1 s2 hi s3 s4 hn e1 e2
    refine (aOp_fn hp hi).2 ⟨u, h1', e3, ?_⟩
    rw [List.cons_append]
    exact (aOpsL_fn hp s2).2 ⟨v, h2, e4, aOpsL_eq hm hK _ (putD_comm e v u s1.dst) hh⟩

theorem fOp_cls0 {pure : List Nat} {g : Nat → List AV → Option AV} {o : AOp} (hc : clsP pure o = 0) {id : Nat} {e : Env} {h h1 : Heap} {v : AV} (hv : fOp g id o e h = some (v, h1)) : h1 = h ∧ ∀ h', fOp g id o e h' = some (v, h') := by
  unfold fOp at hv ⊢
  cases hg : guardA o.guard e with
  | none => rw [hg] at hv; cases hv
  | some b => cases b with
    | false =>
      rw [hg] at hv
      simp only [Option.some.injEq, Prod.mk.injEq] at hv
      obtain ⟨rfl, rfl⟩ := hv
      exact ⟨rfl, fun _ => rfl⟩
    | true =>
      rw [hg] at hv
      simp only at hv ⊢
      rcases cls_of (Nat.le_trans (Nat.le_of_eq hc) (by omega)) with ⟨f, args, hk, hf, _⟩ | ⟨h1', h2', h3', _⟩
      · simp only [hk, rhsP] at hv ⊢
        split at hv
        · split at hv
          · rename_i hgv
            simp only [Option.some.injEq, Prod.mk.injEq] at hv
            obtain ⟨rfl, rfl⟩ := hv
            exact ⟨rfl, fun h' => by simp⟩
          · cases hv
        · cases hv
      · rw [rhsP_eval h1' h2'] at hv
        obtain ⟨e1, e2⟩ := local0 (h3'.symm.trans hc) hv
        exact ⟨e1, fun h' => by rw [rhsP_eval h1' h2']; exact e2 h'⟩

theorem local1 {k : OpK} (hc : k.cls = 1) {e : Env} {h h1 : Heap} {id : Nat} {v : AV} (hv : aeval k e h id = some (v, h1)) : h1 = h ∧ ∀ id', aeval k e h id' = some (v, h) := by
  cases k <;> simp only [OpK.cls] at hc <;> first | (cases hc; done) | skip
  all_goals
    simp only [aeval, op_load1, op_loadN, op_lookup, op_len, op_bytesStr] at hv ⊢
    repeat' (split at hv)
    all_goals first
      | (cases hv; done)
      | (simp only [Option.some.injEq, Prod.mk.injEq] at hv; obtain ⟨hv1, hv2⟩ := hv; subst hv1; subst hv2; simp [*]; done)

theorem front_zero {call : CallP} (hm : call.Mono) (hl : call.Live) {pure : List Nat} {g : Nat → List AV → Option AV} (hp : PureCall call pure g) {i : Nat × AOp} {post : List (Nat × AOp)} {K : Env → Heap → Prop} (hK : KEq K) (hi : clsP pure i.2 = 0) :
    ∀ (pre : List (Nat × AOp)) {e : Env} {h : Heap}, (∀ p ∈ pre, Swap p.2 i.2) → aOpsL call (pre ++ i :: post) e h K →
      aOp call i.1 i.2 e h (fun e' h' => aOpsL call (pre ++ post) e' h' K)
  | [], _, _, _, hh => by
    have hi2 : clsP pure i.2 ≤ 2 := Nat.le_trans (Nat.le_of_eq hi) (by omega)
    obtain ⟨v, h', h1, h2⟩ := (aOpsL_fn hp hi2).1 hh
    exact (aOp_fn hp hi2).2 ⟨v, h', h1, h2⟩
  | p :: ps, e, h, hs, hh => by
    have hi2 : clsP pure i.2 ≤ 2 := Nat.le_trans (Nat.le_of_eq hi) (by omega)
    have s1 := hs p List.mem_cons_self
    simp only [List.cons_append, aOpsL] at hh ⊢
    rw [aOp_V] at hh
    have hh := aOpV_mono hm (fun v h' gg => And.intro gg.1 (front_zero hm hl hp hK hi ps (fun q hq => hs q (List.mem_cons_of_mem _ hq)) gg.2)) hh
    obtain ⟨v0, h0, hv0⟩ := aOpV_live hl hh
    obtain ⟨u, h1, e1, _⟩ := (aOp_fn hp hi2).1 hv0.2
    rw [fOp_agree (dst_off s1.xy)] at e1
    obtain ⟨_, e2⟩ := fOp_cls0 hi e1
    refine (aOp_fn hp hi2).2 ⟨u, h, e2 h, ?_⟩
    rw [aOp_V]
    refine aOpV_agree (e := e) ((dst_off_own s1.yx (e := e) (v := u)).symm) (aOpV_mono hm (fun v h' hv => ?_) hh)
    obtain ⟨u', h2, e3, e4⟩ := (aOp_fn hp hi2).1 hv.2
    rw [fOp_agree (dst_off s1.xy), e2 h'] at e3
    simp only [Option.some.injEq, Prod.mk.injEq] at e3
    obtain ⟨rfl, rfl⟩ := e3
    refine ⟨chksA_agree (fun t ht => ?_) hv.1, aOpsL_eq hm hK _ (putD_comm e v u s1.dst) e4⟩
    have h5 := putD_comm e v u s1.dst t
    rw [← h5]
    exact ((dst_off s1.yx (e := e.putD p.2.dst v) (v := u)) t (List.mem_append_right _ ht)).symm

/-- An operation of class 3 comes to the front, over what is of class 0 and over loads that it reads again. cs: what loads ahead of these still want to be read again. -/
theorem front_three {call : CallP} (hm : call.Mono) {pure : List Nat} {g : Nat → List AV → Option AV} (hp : PureCall call pure g) {i : Nat × AOp} {post : List (Nat × AOp)} {K : Env → Heap → Prop} (hK : KEq K) :
    ∀ (pre : List (Nat × AOp)) {e : Env} {h : Heap} (cs : List Chk),
      (∀ p ∈ pre, Swap p.2 i.2 ∧ (clsP pure p.2 = 0 ∨ (clsP pure p.2 = 1 ∧ ∃ c ∈ i.2.chk, entry p.2 = some c ∧ dstOff p.2.dst p.2.own = true))) →
      pre.Pairwise (fun x y => clsP pure x.2 = 1 → dstOff y.2.dst x.2.own = true ∧ ∀ a b, x.2.dst = some a → y.2.dst = some b → a ≠ b) →
      (∀ c ∈ cs, c ∈ i.2.chk ∧ ∀ p ∈ pre, dstOff p.2.dst c.reads = true) → aOpsL call (pre ++ i :: post) e h K →
      aOp call i.1 i.2 e h (fun e' h' => (∀ c ∈ cs, chkA c e' h') ∧ aOpsL call (pre ++ post) e' h' K)
  | [], e, h, cs, _, _, hcs, hh => by
    have hh := aOpsL_head hh
    rw [aOp_V] at hh ⊢
    exact aOpV_mono hm (fun v h' hv => ⟨fun c hc => chksA_mem hv.1 c (hcs c hc).1, hv.2⟩) hh
  | p :: ps, e, h, cs, hs, hpw, hcs, hh => by
    obtain ⟨s1, s2⟩ := hs p List.mem_cons_self
    rw [List.pairwise_cons] at hpw
    have hc2 : clsP pure p.2 ≤ 2 := by rcases s2 with h0 | ⟨h1, _⟩ <;> omega
    obtain ⟨v, h1, e1, hrest⟩ := (aOpsL_fn hp hc2).1 hh
    clear hh
    -- what is left to show, once the operation has come ahead of the rest
    have fin : ∀ (cs' : List Chk), (∀ c ∈ cs, c ∈ cs') → h1 = h → aOp call i.1 i.2 (e.putD p.2.dst v) h (fun e' h' => (∀ c ∈ cs', chkA c e' h') ∧ aOpsL call (ps ++ post) e' h' K) →
        (∀ u h2, (∀ c ∈ cs', chkA c ((e.putD p.2.dst v).putD i.2.dst u) h2) → fOp g p.1 p.2 (e.putD i.2.dst u) h2 = some (v, h2)) →
        aOp call i.1 i.2 e h (fun e' h' => (∀ c ∈ cs, chkA c e' h') ∧ aOpsL call (p :: ps ++ post) e' h' K) := fun cs' hsub _ hh hag => by
      rw [aOp_V] at hh ⊢
      refine aOpV_agree (dst_off s1.xy) (aOpV_mono hm (fun u h2 hv => ⟨fun c hc => ?_, ?_⟩) hh)
      · refine chkA_agree (fun t ht => ?_) (hv.1 c (hsub c hc))
        rw [putD_comm e v u s1.dst t]
        exact (dst_off ((hcs c hc).2 p List.mem_cons_self)) t ht
      · exact (aOpsL_fn hp hc2).2 ⟨v, h2, hag u h2 hv.1, aOpsL_eq hm hK _ (putD_comm e v u s1.dst) hv.2⟩
    have hs' : ∀ q ∈ ps, _ := fun q hq => hs q (List.mem_cons_of_mem _ hq)
    have hcs' : ∀ c ∈ cs, c ∈ i.2.chk ∧ ∀ q ∈ ps, dstOff q.2.dst c.reads = true := fun c hc => ⟨(hcs c hc).1, fun q hq => (hcs c hc).2 q (List.mem_cons_of_mem _ hq)⟩
    rcases s2 with h0 | ⟨hc1, c, hcm, hce, hself⟩
    · obtain ⟨rfl, e2⟩ := fOp_cls0 h0 e1
      refine fin cs (fun c hc => hc) rfl (front_three hm hp hK ps cs hs' hpw.2 hcs' hrest) fun u h2 _ => ?_
      rw [fOp_agree (dst_off_own s1.yx)]
      exact e2 h2
    · -- a load
      obtain ⟨f1, f2, f3, f4⟩ : (∀ f args, p.2.k ≠ .call f args) ∧ (∀ f args, p.2.k ≠ .callv f args) ∧ clsP pure p.2 = p.2.k.cls ∧ p.2.k.ptrs.all srcLow = true := by
        rcases cls_of hc2 with ⟨_, _, _, _, hx⟩ | hx
        · omega
        · exact hx
      unfold entry at hce
      split at hce
      · rename_i d hd
        simp only [Option.some.injEq] at hce
        subst hce
        have hh1 : h1 = h := by
          unfold fOp at e1
          split at e1
          · cases e1
          · cases e1; rfl
          · rw [rhsP_eval f1 f2] at e1; exact (local1 (f3.symm.trans hc1) e1).1
        subst hh1
        refine fin (⟨d, p.2.guard, p.2.k⟩ :: cs) (fun c hc => List.mem_cons_of_mem _ hc) rfl (front_three hm hp hK ps _ hs' hpw.2 (fun c hc => ?_) hrest) fun u h2 hchk => ?_
        · rcases List.mem_cons.1 hc with rfl | hc
          · refine ⟨hcm, fun q hq => ?_⟩
            obtain ⟨g1, g2⟩ := hpw.1 q hq hc1
            cases hqd : q.2.dst with
            | none => rfl
            | some b =>
              have hne := g2 d b hd hqd
              rw [hqd] at g1
              simp only [dstOff, Bool.not_eq_true', List.contains_eq_mem, decide_eq_false_iff_not] at g1 ⊢
              intro hm'
              rcases List.mem_cons.1 hm' with h3 | h3
              · exact hne h3.symm
              · exact g1 h3
          · exact hcs' c hc
        · have hck := hchk _ List.mem_cons_self
          have hag1 : Agree ((e.putD p.2.dst v).putD i.2.dst u) (e.putD i.2.dst u) p.2.own := fun t ht => by
            rw [putD_comm e v u s1.dst t]
            exact dst_off hself t ht
          have hag2 : Agree ((e.putD p.2.dst v).putD i.2.dst u) e p.2.own := hag1.trans (dst_off_own s1.yx)
          have hget : ((e.putD p.2.dst v).putD i.2.dst u).get d = some v := by
            rw [Env.get_putD_off (fun hh => s1.dst d d hd hh rfl), hd]
            show Env.get ((d, v) :: e) d = some v
            rw [Env.get_cons, if_pos rfl]
          unfold fOp at e1 ⊢
          unfold chkA at hck
          simp only at hck
          have hg1 := guardA_agree (o := p.2) hag1
          have hg2 := guardA_agree (o := p.2) hag2
          rw [hg2] at hck
          rw [← hg1, hg2]
          split at e1
          · cases e1
          · cases e1; rfl
          · rename_i hgt
            rw [rhsP_eval f1 f2] at e1
            rw [hgt] at hck
            simp only at hck ⊢
            rw [rhsP_eval f1 f2, ← aeval_agree (k_agree hag1)]
            split at hck
            · rename_i v' h3 hv3
              rw [hget] at hck
              cases hck
              exact (local1 (f3.symm.trans hc1) hv3).2 p.1
            · exact hck.elim
      · cases hce

end Go.Ab
