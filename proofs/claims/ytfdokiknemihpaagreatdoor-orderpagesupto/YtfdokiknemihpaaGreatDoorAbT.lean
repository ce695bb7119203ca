/- A block that nobody knows changes nothing. -/
import Derived.Test.YtfdokiknemihpaaGreatDoorAbO
namespace Go.Ab

/-- Nobody knows of a name. -/
structure Away (id : Nat) (h : Heap) : Prop where
  free : h.get id = none
  lt : id < h.next
  ps : ∀ b ps vs, h.get b = some (.cells (.live ps) vs) → id ∉ ps

section
variable {id : Nat} {h : Heap} {o : AObj}

theorem Away.get (A : Away id h) {b : Nat} {x : AObj} (hg : h.get b = some x) (o : AObj) : (h.set id (some o)).get b = some x := by
  rw [Heap.get_set]
  split
  · rename_i e; subst e; rw [A.free] at hg; cases hg
  · exact hg
theorem Away.ne (A : Away id h) {b : Nat} {x : AObj} (hg : h.get b = some x) : b ≠ id := fun e => by subst e; rw [A.free] at hg; cases hg

theorem Away.bump (A : Away id h) (n : Nat) : Away id (h.bump n) := ⟨A.free, Nat.lt_of_lt_of_le A.lt (Nat.le_add_right _ _), A.ps⟩

theorem Away.set (A : Away id h) {i : Nat} {ob : Option AObj} (hi : i ≠ id) (hp : ∀ ps vs, ob = some (.cells (.live ps) vs) → id ∉ ps) : Away id (h.set i ob) := by
  refine ⟨?_, A.lt, fun b ps vs hg => ?_⟩
  · rw [Heap.get_set, if_neg hi]; exact A.free
  · rw [Heap.get_set] at hg
    split at hg
    · exact hp ps vs hg
    · exact A.ps b ps vs hg

theorem Away.erase (A : Away id h) (qs : List Nat) : Away id (h.eraseAll qs) := by
  refine ⟨?_, by simpa using A.lt, fun b ps vs hg => ?_⟩
  · rw [Heap.get_eraseAll]; split
    · rfl
    · exact A.free
  · rw [Heap.get_eraseAll] at hg
    split at hg
    · cases hg
    · exact A.ps b ps vs hg

theorem Heap.eraseAll_set {x : Option AObj} : ∀ (qs : List Nat) (h : Heap), id ∉ qs → (h.set id x).eraseAll qs = (h.eraseAll qs).set id x
  | [], _, _ => rfl
  | q :: qs, h, hn => by
    simp only [Heap.eraseAll]
    rw [← Heap.eraseAll_set qs (h.set q none) (fun hh => hn (List.mem_cons_of_mem _ hh))]
    rw [Heap.set_comm h x none (fun e => hn (by rw [e]; exact List.mem_cons_self))]

theorem Heap.set_bump (h : Heap) (i n : Nat) (x : Option AObj) : (h.set i x).bump n = (h.bump n).set i x := rfl

theorem Away.row (A : Away id h) {b off n : Nat} {r : List AV} (hr : getRow h b off n = some r) (o : AObj) : getRow (h.set id (some o)) b off n = some r := by
  unfold getRow at hr ⊢
  split at hr
  · rename_i hg; rw [A.get hg]; exact hr
  · cases hr
theorem Away.cell (A : Away id h) {b off : Nat} {r : AV} (hr : getCell h b off = some r) (o : AObj) : getCell (h.set id (some o)) b off = some r := by
  unfold getCell at hr ⊢
  split at hr
  · rename_i hg; rw [A.get hg]; exact hr
  · cases hr

theorem Away.srcCells (A : Away id h) {esz : Nat} {x : AV} {r : Nat × List AV} (hr : Ab.srcCells h esz x = some r) (o : AObj) : Ab.srcCells (h.set id (some o)) esz x = some r := by
  unfold Ab.srcCells at hr ⊢
  split at hr
  · exact hr
  · split at hr
    · rename_i hz
      rw [if_pos hz]
      split at hr
      · cases hr
      · rename_i hg; rw [A.row hg]; exact hr
    · cases hr
  · exact hr
  · cases hr

theorem Away.setRow (A : Away id h) {b off : Nat} {xs : List AV} {h1 : Heap} (hr : Ab.setRow h b off xs = some h1) (o : AObj) : Away id h1 ∧ Ab.setRow (h.set id (some o)) b off xs = some (h1.set id (some o)) := by
  unfold Ab.setRow at hr ⊢
  split at hr
  · rename_i ps vs hg
    split at hr
    · rename_i hc
      cases hr
      refine ⟨(A.erase ps).set (A.ne hg) (fun ps' vs' e => by cases e; simp), ?_⟩
      rw [A.get hg]
      simp only [if_pos hc]
      rw [Heap.eraseAll_set _ _ (A.ps _ _ _ hg), Heap.set_comm _ _ _ (A.ne hg)]
    · cases hr
  · cases hr

theorem Away.appendA (A : Away id h) {i esz : Nat} {s x v : AV} {h1 : Heap} (hr : Ab.appendA h i esz s x = some (v, h1)) (hi : i ≠ id) (o : AObj) : Away id h1 ∧ Ab.appendA (h.set id (some o)) i esz s x = some (v, h1.set id (some o)) := by
  unfold Ab.appendA at hr ⊢
  split at hr
  · rename_i hz
    rw [if_pos hz]
    split at hr
    · cases hr; exact ⟨A, rfl⟩
    · split at hr
      · rename_i hz; cases hr; exact ⟨A, by rw [if_pos hz]⟩
      · cases hr
    · cases hr
  rename_i hz
  rw [if_neg hz]
  split at hr
  · cases hr
  · rename_i n new hs
    simp only [A.srcCells hs]
    split at hr
    · rename_i hn
      rw [if_pos hn]
      split at hr
      · cases hr; exact ⟨A, rfl⟩
      · split at hr
        · rename_i hz; cases hr; exact ⟨A, by rw [if_pos hz]⟩
        · cases hr
      · cases hr
    · rename_i hn
      rw [if_neg hn]
      split at hr
      · split at hr
        · rename_i hm
          cases hr
          refine ⟨A.set hi (fun ps' vs' e => by cases e; simp), ?_⟩
          simp only [if_pos hm]
          rw [Heap.set_comm _ _ _ hi]
        · cases hr
      · split at hr
        · rename_i hm
          simp only [if_pos hm]
          split at hr
          · rename_i ps vs hg
            simp only [A.get hg]
            split at hr
            · cases hr
            · rename_i hone
              rw [if_neg hone]
              split at hr
              · rename_i hl
                cases hr
                rw [if_pos hl]
                refine ⟨(A.set (A.ne hg) (fun ps' vs' e => by cases e)).set hi (fun ps' vs' e => by
                  cases e
                  intro hm
                  rcases List.mem_cons.1 hm with hm | hm
                  · exact A.ne hg hm.symm
                  · exact A.ps _ _ _ hg hm), ?_⟩
                rw [Heap.set_comm h _ _ (A.ne hg), Heap.set_comm _ _ _ hi]
              · rename_i hl
                rw [if_neg hl]
                split at hr
                · rename_i hl2
                  cases hr
                  rw [if_pos hl2]
                  refine ⟨((A.erase ps).set (A.ne hg) (fun ps' vs' e => by cases e)).set hi (fun ps' vs' e => by cases e; simp), ?_⟩
                  rw [Heap.eraseAll_set _ _ (A.ps _ _ _ hg), Heap.set_comm _ _ _ (A.ne hg), Heap.set_comm _ _ _ hi]
                · cases hr
          · cases hr
        · cases hr
      · cases hr

theorem Away.appendXA (A : Away id h) {i esz : Nat} {s x v : AV} {h1 : Heap} (hr : Ab.appendXA h i esz s x = some (v, h1)) (hi : i ≠ id) (o : AObj) : Away id h1 ∧ Ab.appendXA (h.set id (some o)) i esz s x = some (v, h1.set id (some o)) := by
  unfold Ab.appendXA at hr ⊢
  split at hr
  · rename_i hz
    rw [if_pos hz]
    split at hr
    · cases hr; exact ⟨A, rfl⟩
    · split at hr
      · rename_i hz; cases hr; exact ⟨A, by rw [if_pos hz]⟩
      · cases hr
    · cases hr
  rename_i hz
  rw [if_neg hz]
  split at hr
  · cases hr
  · rename_i n new hs
    simp only [A.srcCells hs]
    split at hr
    · rename_i hn
      rw [if_pos hn]
      split at hr
      · cases hr; exact ⟨A, rfl⟩
      · split at hr
        · rename_i hz; cases hr; exact ⟨A, by rw [if_pos hz]⟩
        · cases hr
      · cases hr
    · rename_i hn
      rw [if_neg hn]
      split at hr
      · split at hr
        · rename_i hm
          cases hr
          refine ⟨A.set hi (fun ps' vs' e => by cases e; simp), ?_⟩
          simp only [if_pos hm]
          rw [Heap.set_comm _ _ _ hi]
        · cases hr
      · split at hr
        · rename_i hm
          simp only [if_pos hm]
          split at hr
          · rename_i ps vs hg
            simp only [A.get hg]
            split at hr
            · cases hr
            · rename_i hone
              rw [if_neg hone]
              split at hr
              · rename_i hl
                cases hr
                rw [if_pos hl]
                refine ⟨(A.set (A.ne hg) (fun ps' vs' e => by cases e)).set hi (fun ps' vs' e => by
                  cases e
                  intro hm
                  rcases List.mem_cons.1 hm with hm | hm
                  · exact A.ne hg hm.symm
                  · exact A.ps _ _ _ hg hm), ?_⟩
                rw [Heap.set_comm h _ _ (A.ne hg), Heap.set_comm _ _ _ hi]
              · cases hr
          · cases hr
        · cases hr
      · cases hr

theorem Away.lookupA (A : Away id h) {tg : EqT} {z : AV} {ok : Bool} {m k v : AV} (hr : Ab.lookupA h tg z ok m k = some v) (o : AObj) : Ab.lookupA (h.set id (some o)) tg z ok m k = some v := by
  unfold Ab.lookupA mapEs at hr ⊢
  split at hr
  · cases hr
  · rename_i es hes
    split at hes
    · cases hes; exact hr
    · split at hes
      · rename_i hg; cases hes; simp only [A.get hg]; exact hr
      · cases hes
    · cases hes
theorem Away.lenA (A : Away id h) {tg : LenT} {x v : AV} (hr : Ab.lenA h tg x = some v) (o : AObj) : Ab.lenA (h.set id (some o)) tg x = some v := by
  unfold Ab.lenA at hr ⊢
  split at hr
  · exact hr
  · exact hr
  · exact hr
  · exact hr
  · exact hr
  · split at hr
    · rename_i hg; simp only [A.get hg]; exact hr
    · cases hr
  · cases hr

/-- An operation, beside a block that nobody knows. -/
theorem aeval_away {k : OpK} {e : Env} {i : Nat} {v : AV} {h1 : Heap} (hv : aeval k e h i = some (v, h1)) (hi : i ≠ id) (A : Away id h) (o : AObj) : Away id h1 ∧ aeval k e (h.set id (some o)) i = some (v, h1.set id (some o)) := by
  have low : k.cls ≤ 1 → Away id h1 ∧ aeval k e (h.set id (some o)) i = some (v, h1.set id (some o)) := fun hc => by
    have e0 : h1 = h := by
      rcases Nat.le_one_iff_eq_zero_or_eq_one.1 hc with hc | hc
      · exact (local0 hc hv).1
      · exact (local1 hc hv).1
    subst e0
    refine ⟨A, ?_⟩
    rcases Nat.le_one_iff_eq_zero_or_eq_one.1 hc with hc | hc
    · exact (local0 hc hv).2 _
    · cases k <;> simp only [OpK.cls] at hc <;> first | (cases hc; done) | skip
      all_goals simp only [aeval, op_load1, op_loadN, op_lookup, op_len, op_bytesStr] at hv ⊢
      · split at hv
        · rename_i b off hs
          split at hv
          · rename_i r hr; cases hv; simp only [A.cell hr]
          · cases hv
        · cases hv
      · split at hv
        · rename_i b off hs
          split at hv
          · rename_i r hr; cases hv; simp only [A.row hr]
          · cases hv
        · cases hv
      · split at hv
        · rename_i hs
          cases hv; rfl
        · rename_i b off n z hs
          split at hv
          · rename_i r hr
            simp only [A.row hr]
            split at hv
            · rename_i bs hb; cases hv; rfl
            · cases hv
          · cases hv
        · cases hv
      · split at hv
        · rename_i mv kv hs hk
          split at hv
          · rename_i r hr
            cases hv
            rw [A.lookupA hr]
          · cases hv
        · cases hv
      · split at hv
        · rename_i av hs
          split at hv
          · rename_i r hr
            cases hv
            rw [A.lenA hr]
          · cases hv
        · cases hv
  cases k
  case alloc zs =>
    simp only [aeval, op_alloc, Option.some.injEq, Prod.mk.injEq] at hv ⊢
    obtain ⟨rfl, rfl⟩ := hv
    exact ⟨A.set hi (fun ps' vs' e => by cases e; simp), rfl, Heap.set_comm _ _ _ hi⟩
  case box x =>
    simp only [aeval, op_box] at hv ⊢
    split at hv
    · cases hv
      exact ⟨A.set hi (fun ps' vs' e => by cases e; simp), by rw [Heap.set_comm _ _ _ hi]⟩
    · cases hv
  case buildSlice zs esz len ps =>
    simp only [aeval, op_buildSlice] at hv ⊢
    split at hv
    · cases hv
      exact ⟨A.set hi (fun ps' vs' e => by cases e; simp), by rw [Heap.set_comm _ _ _ hi]⟩
    · cases hv
  case store n a x =>
    simp only [aeval, op_store] at hv ⊢
    split at hv
    · split at hv
      · rename_i hc
        split at hv
        · rename_i h2 hs
          cases hv
          obtain ⟨a1, a2⟩ := A.setRow hs o
          exact ⟨a1, by simp only [if_pos hc, a2]⟩
        · cases hv
      · cases hv
    · cases hv
  case strBytes x =>
    simp only [aeval, op_strBytes] at hv ⊢
    split at hv
    · split at hv
      · rename_i hc
        cases hv
        refine ⟨A.set hi (fun ps' vs' e => by cases e; simp), ?_⟩
        simp only [if_pos hc]
        rw [Heap.set_comm _ _ _ hi]
      · cases hv
    · cases hv
  case makeMap =>
    simp only [aeval, op_makeMap, Option.some.injEq, Prod.mk.injEq] at hv ⊢
    obtain ⟨rfl, rfl⟩ := hv
    exact ⟨A.set hi (fun ps' vs' e => by cases e), rfl, Heap.set_comm _ _ _ hi⟩
  case makeSlice zs esz l c =>
    simp only [aeval, op_makeSlice] at hv ⊢
    split at hv
    · split at hv
      · rename_i hc
        cases hv
        refine ⟨A.set hi (fun ps' vs' e => by cases e; simp), ?_⟩
        simp only [if_pos hc]
        rw [Heap.set_comm _ _ _ hi]
      · cases hv
    · cases hv
  case sliceArr n esz x lo hi' =>
    simp only [aeval, op_sliceArr] at hv ⊢
    split at hv
    · split at hv
      · split at hv
        · rename_i hc
          cases hv
          obtain ⟨r, hr⟩ := Option.isSome_iff_exists.1 hc
          exact ⟨A, by simp only [A.row hr, Option.isSome_some, if_true]⟩
        · cases hv
      · cases hv
    · cases hv
  case mapUpdate tg m kx x =>
    simp only [aeval, op_mapUpdate] at hv ⊢
    split at hv
    · split at hv
      · rename_i h2 hs
        cases hv
        unfold mapUpdateA at hs ⊢
        split at hs
        · split at hs
          · rename_i es hg
            simp only [A.get hg]
            split at hs
            · cases hs
            · rename_i hk
              simp only [if_neg hk]
              split at hs
              · cases hs
              · cases hs
                exact ⟨A.set (A.ne hg) (fun ps' vs' e => by cases e), by simp only; rw [Heap.set_comm _ _ _ (A.ne hg)]⟩
              · cases hs
                exact ⟨A.set (A.ne hg) (fun ps' vs' e => by cases e), by simp only; rw [Heap.set_comm _ _ _ (A.ne hg)]⟩
          · cases hs
        · cases hs
      · cases hv
    · cases hv
  case append esz s x =>
    simp only [aeval, op_append] at hv ⊢
    split at hv
    · exact A.appendA hv hi o
    · cases hv
  case appendX esz s x =>
    simp only [aeval, op_appendX] at hv ⊢
    split at hv
    · exact A.appendXA hv hi o
    · cases hv
  case growZ zs esz s n =>
    simp only [aeval, op_growZ] at hv ⊢
    split at hv
    · split at hv
      · rename_i hk; cases hv; exact ⟨A, by simp only [if_pos hk]⟩
      · rename_i hk
        split at hv
        · rename_i hk2
          cases hv
          refine ⟨A.set hi (fun ps' vs' e => by cases e; simp), ?_⟩
          simp only [if_neg hk, if_pos hk2]
          rw [Heap.set_comm _ _ _ hi]
        · cases hv
    · cases hv
  case copy esz d s =>
    simp only [aeval, op_copy] at hv ⊢
    split at hv
    · split at hv
      · split at hv
        · rename_i hs; cases hv; simp only [A.srcCells hs]; exact ⟨A, trivial⟩
        · cases hv
      · split at hv
        · rename_i hz
          simp only [if_pos hz]
          split at hv
          · rename_i m cs hs
            simp only [A.srcCells hs]
            split at hv
            · rename_i h2 hr
              cases hv
              obtain ⟨a1, a2⟩ := A.setRow hr o
              exact ⟨a1, by rw [a2]⟩
            · cases hv
          · cases hv
        · cases hv
      · cases hv
    · cases hv
  case range x =>
    simp only [aeval, op_range] at hv ⊢
    split at hv
    · cases hv
      exact ⟨A.set hi (fun ps' vs' e => by cases e), by rw [Heap.set_comm _ _ _ hi]⟩
    · cases hv
  case next it =>
    simp only [aeval, op_next] at hv ⊢
    split at hv
    · unfold nextA at hv ⊢
      split at hv
      · split at hv
        · rename_i s pos hg
          simp only [A.get hg]
          split at hv
          · rename_i hc
            cases hv
            rw [if_pos hc]
            exact ⟨A.set (A.ne hg) (fun ps' vs' e => by cases e), by rw [Heap.set_comm _ _ _ (A.ne hg)]⟩
          · rename_i hc
            cases hv
            rw [if_neg hc]
            exact ⟨A, rfl⟩
        · cases hv
      · cases hv
    · cases hv
  case rangeM x =>
    simp only [aeval, op_rangeM] at hv ⊢
    split at hv
    · split at hv
      · rename_i hm
        cases hv
        simp only [A.get hm]
        exact ⟨A.set hi (fun ps' vs' e => by cases e), by rw [Heap.set_comm _ _ _ hi]⟩
      · cases hv
    · cases hv
  case entry it =>
    simp only [aeval, op_entry] at hv ⊢
    split at hv
    · split at hv
      · rename_i hm
        split at hv
        · rename_i hes
          simp only [A.get hm, A.get hes]
          split at hv
          · rename_i hn
            split at hv
            · cases hv; exact ⟨A, by simp only [if_pos hn]⟩
            · cases hv
          · cases hv
        · cases hv
      · cases hv
    · cases hv
  case call f args => cases hv
  case callv f args => cases hv
  all_goals exact low (by simp [OpK.cls])

/-- The same, but for one block more. -/
abbrev Plus (id : Nat) (o : AObj) (K : AV → Heap → Prop) : AV → Heap → Prop := fun v h' => ∃ h0, K v h0 ∧ Away id h0 ∧ h' = h0.set id (some o)

def CallAway (call : CallP) : Prop := ∀ fv args h K, call fv args h K → ∀ id o, Away id h → call fv args (h.set id (some o)) (Plus id o K)
def WPAway (rec : WP) : Prop := ∀ rd code e h Q, rec rd code e h Q → ∀ id o, Away id h → rec rd code e (h.set id (some o)) (fun x e' h' => ∃ h0, Q x e' h0 ∧ Away id h0 ∧ h' = h0.set id (some o))
def SpecAway (s : Spec) : Prop := ∀ args h K, s args h K → ∀ id o, Away id h → s args (h.set id (some o)) (Plus id o K)
def CtxAway (c : Ctx) : Prop := ∀ f s, c.sums f = some s → SpecAway s

theorem aOpV_away {call : CallP} (hc : CallAway call) {i : Nat} {op : AOp} {e : Env} {K : AV → Heap → Prop} (hh : aOpV call i op e h K) (hi : i ≠ id) (A : Away id h) (o : AObj) : aOpV call i op e (h.set id (some o)) (Plus id o K) := by
  unfold aOpV at hh ⊢
  split at hh
  · exact hh
  · exact ⟨h, hh, A, rfl⟩
  · split at hh
    · split at hh
      · exact hc _ _ _ _ hh id o A
      · exact hh
    · split at hh
      · exact hc _ _ _ _ hh id o A
      · exact hh
    · split at hh
      · rename_i v h' hv
        obtain ⟨a1, a2⟩ := aeval_away hv hi A o
        simp only [a2]
        exact ⟨h', hh, a1, rfl⟩
      · exact hh.elim

theorem chkA_away {c : Chk} {e : Env} (hc : chkA c e h) (A : Away id h) (o : AObj) : chkA c e (h.set id (some o)) := by
  unfold chkA at hc ⊢
  split at hc
  · exact hc
  · trivial
  · split at hc
    · rename_i v h' hv
      have := (aeval_away hv (Nat.ne_of_gt A.lt) A o).2
      rw [show (h.set id (some o)).next = h.next from rfl, this]
      exact hc
    · exact hc.elim
theorem chksA_away {e : Env} (A : Away id h) (o : AObj) : ∀ {cs : List Chk}, chksA cs e h → chksA cs e (h.set id (some o))
  | [], _ => trivial
  | _ :: _, hc => ⟨chkA_away hc.1 A o, chksA_away A o hc.2⟩

theorem aOps_away {call : CallP} (hm : call.Mono) (hc : CallAway call) (o : AObj) : ∀ (os : List AOp) {i : Nat} {e : Env} {h : Heap} {K : Env → Heap → Prop}, aOps call i os e h K → id < i → Away id h →
    aOps call i os e (h.set id (some o)) (fun e' h' => ∃ h0, K e' h0 ∧ Away id h0 ∧ h' = h0.set id (some o))
  | [], _, _, h, _, hh, _, A => ⟨h, hh, A, rfl⟩
  | op :: os, i, e, h, K, hh, hi, A => by
    simp only [aOps, aOp_V] at hh ⊢
    refine aOpV_mono hm (fun v h' hv => ?_) (aOpV_away hc hh (Nat.ne_of_gt hi) A o)
    obtain ⟨h0, ⟨k1, k2⟩, A0, rfl⟩ := hv
    exact ⟨chksA_away A0 o k1, aOps_away hm hc o os k2 (by omega) A0⟩

theorem resA_away {e : Env} {r : ARes} {v : AV} (hr : resA e h r = some v) (A : Away id h) (o : AObj) : resA e (h.set id (some o)) r = some v := by
  unfold resA at hr ⊢
  split at hr
  · exact hr
  · split at hr
    · exact A.cell hr o
    · cases hr
  · split at hr
    · split at hr
      · rename_i hg; rw [A.row hg]; exact hr
      · cases hr
    · cases hr
theorem ressA_away {e : Env} (A : Away id h) (o : AObj) : ∀ {rs : List ARes} {vs : List AV}, ressA e h rs = some vs → ressA e (h.set id (some o)) rs = some vs
  | [], _, hr => hr
  | r :: rs, vs, hr => by
    simp only [ressA] at hr ⊢
    split at hr
    · cases hr
    · rename_i v hv
      rw [resA_away hv A o]
      simp only
      split at hr
      · cases hr
      · rename_i us hus; rw [ressA_away A o hus]; exact hr

theorem nextP_away {args : List AV} {K : AV → Heap → Prop} (hh : nextP args h K) (A : Away id h) (o : AObj) : nextP args (h.set id (some o)) (Plus id o K) := by
  unfold nextP at hh ⊢
  split at hh
  · split at hh
    · rename_i m n seen hm
      simp only [A.get hm]
      split at hh
      · rename_i es hes
        simp only [A.get hes]
        refine ⟨hh.1, fun i k v a b => ⟨_, hh.2.1 i k v a b, A.set (A.ne hm) (fun _ _ e => by cases e), ?_⟩, fun a => ⟨h, hh.2.2 a, A, rfl⟩⟩
        rw [Heap.set_comm _ _ _ (A.ne hm)]
      · exact hh.elim
    · exact hh.elim
  · exact hh.elim

theorem callA_away {c : Ctx} (hcs : CtxAway c) {rec : WP} (hm : rec.Mono) (hr : WPAway rec) : CallAway (callA c rec) := by
  intro fv args h K hh id o A
  unfold callA at hh ⊢
  split at hh
  · exact nextP_away hh A o
  · rename_i f first cap
    split at hh
    · rename_i s hs
      exact hcs _ _ hs _ _ _ hh id o A
    · split at hh
      · exact hh.elim
      · rename_i F hF
        refine hm _ _ _ _ _ _ (fun x e' h' hx => ?_) (hr _ _ _ _ _ hh id o A)
        obtain ⟨h0, hx, A0, rfl⟩ := hx
        cases x with
        | exit j => exact hx
        | normal =>
          simp only at hx ⊢
          split at hx
          · rename_i vs hv; rw [ressA_away A0 o hv]; exact ⟨h0, hx, A0, rfl⟩
          · exact hx.elim
        | ret =>
          simp only at hx ⊢
          split at hx
          · rename_i vs hv; rw [ressA_away A0 o hv]; exact ⟨h0, hx, A0, rfl⟩
          · exact hx.elim
  · rename_i l first cap
    split at hh
    · rename_i st pend env ps asg body hg
      simp only [A.get hg]
      refine ⟨hh.1, hm _ _ _ _ _ _ (fun x e1 h1 hx => ?_) (hr _ _ _ _ _ hh.2 id o A)⟩
      obtain ⟨h0, hx, A0, rfl⟩ := hx
      cases x with
      | exit j => exact hx
      | ret => exact hx
      | normal =>
        simp only at hx ⊢
        split at hx
        · rename_i pend1 env1 ps1 asg1 body1 hg1
          simp only [A0.get hg1]
          have A1 : Away id (h0.set l (some (.loop .busy pend1 env1 ps1 asg1 body1))) := A0.set (A.ne hg) (fun _ _ e => by cases e)
          rw [← Heap.set_comm h0 _ _ (Ne.symm (A.ne hg))]
          refine hm _ _ _ _ _ _ (fun x2 e2 h2 hx2 => ?_) (hr _ _ _ _ _ hx id o A1)
          obtain ⟨h3, hx2, A3, rfl⟩ := hx2
          split at hx2
          · rename_i hg3
            simp only [A3.get hg3]
            refine ⟨_, hx2, A3.set (A.ne hg) (fun _ _ e => by cases e), ?_⟩
            rw [Heap.set_comm _ _ _ (A.ne hg)]
          · exact hx2.elim
        · exact hx.elim
    · exact hh.elim
  · exact hh.elim

theorem awpStep_away {c : Ctx} (hcm : CtxMono c) (hcs : CtxAway c) {rec : WP} (hm : rec.Mono) (hr : WPAway rec) : WPAway (awpStep c rec) := by
  intro rd code e h Q hh id o A
  have hcall := callA_away hcs hm hr
  have hcmono := callA_mono hcm hm
  have seqB : ∀ (a b : AC), (rec rd a e h fun x e' h' => match x with | .normal => rec rd b e' h' Q | x => Q x e' h') →
      rec rd a e (h.set id (some o)) fun x e' h' => match x with
        | .normal => rec rd b e' h' (fun x e' h' => ∃ h0, Q x e' h0 ∧ Away id h0 ∧ h' = h0.set id (some o))
        | x => ∃ h0, Q x e' h0 ∧ Away id h0 ∧ h' = h0.set id (some o) := fun a b hh => by
    refine hm _ _ _ _ _ _ (fun x e' h' hx => ?_) (hr _ _ _ _ _ hh id o A)
    obtain ⟨h0, hx, A0, rfl⟩ := hx
    cases x with
    | normal => exact hr _ _ _ _ _ hx id o A0
    | exit j => exact ⟨h0, hx, A0, rfl⟩
    | ret => exact ⟨h0, hx, A0, rfl⟩
  cases code with
  | skip => exact ⟨h, hh, A, rfl⟩
  | ops kp os =>
    cases kp with
    | none => exact aOps_away hcmono hcall o os hh A.lt (A.bump _)
    | some kp => exact aOps_away hcmono hcall o os hh A.lt (A.bump _)
  | seq a b => exact seqB a b hh
  | loop b => exact seqB b (.loop b) hh
  | cond s t g =>
    simp only [awpStep] at hh ⊢
    split at hh
    · exact hr _ _ _ _ _ hh id o A
    · exact hh
  | block j b =>
    simp only [awpStep] at hh ⊢
    refine hm _ _ _ _ _ _ (fun x e' h' hx => ?_) (hr _ _ _ _ _ hh id o A)
    obtain ⟨h0, hx, A0, rfl⟩ := hx
    split at hx
    · rename_i hy; rw [if_pos hy]; exact ⟨h0, hx, A0, rfl⟩
    · rename_i hy; rw [if_neg hy]; exact ⟨h0, hx, A0, rfl⟩
  | exit j => exact ⟨h, hh, A, rfl⟩
  | ret => exact ⟨h, hh, A, rfl⟩
  | keep s => exact ⟨h, hh, A, rfl⟩
  | rangeFunc s ps asg body =>
    simp only [awpStep] at hh ⊢
    split at hh
    · rename_i g first cap hs
      obtain ⟨hround, hh⟩ := hh
      refine ⟨?_, ?_⟩
      · cases rd with
        | none => trivial
        | some l => obtain ⟨st, pend, env, ps, asg, body, hg⟩ := hround; exact ⟨st, pend, env, ps, asg, body, A.get hg o⟩
      · have hne : h.next ≠ id := Nat.ne_of_gt A.lt
        have A1 : Away id ((h.set h.next (some (.loop .ready none e ps asg body))).bump 1) := (A.set hne (fun _ _ e => by cases e)).bump 1
        have e1 : ((h.set id (some o)).set (h.set id (some o)).next (some (.loop .ready none e ps asg body))).bump 1 = ((h.set h.next (some (.loop .ready none e ps asg body))).bump 1).set id (some o) := by
          rw [← Heap.set_bump, ← Heap.set_comm _ _ _ hne]; rfl
        rw [e1]
        refine hcmono _ _ _ _ _ (fun v h2 hx => ?_) (hcall _ _ _ _ hh id o A1)
        obtain ⟨h0, hx, A0, rfl⟩ := hx
        rw [show (h.set id (some o)).next = h.next from rfl]
        split at hx
        · rename_i st pend env ps' asg' body' hg
          simp only [A0.get hg]
          refine ⟨hx.1, ?_⟩
          have A2 : Away id (h0.set h.next (some (.loop .exhausted pend env ps' asg' body'))) := A0.set hne (fun _ _ e => by cases e)
          have hx2 := hx.2
          cases pend with
          | none => exact ⟨_, hx2, A2, by rw [Heap.set_comm _ _ _ hne]⟩
          | some y => exact ⟨hx2.1, _, hx2.2, A2, by rw [Heap.set_comm _ _ _ hne]⟩
        · exact hx.elim
    · exact hh

theorem awp_away {c : Ctx} (hcm : CtxMono c) (hcs : CtxAway c) : ∀ n, WPAway (awp c n)
  | 0 => fun _ _ _ _ _ hh => hh.elim
  | n + 1 => awpStep_away hcm hcs (awp_mono hcm n) (awp_away hcm hcs n)

theorem pureSpec_away (g : List AV → Option AV) : SpecAway (pureSpec g) := by
  intro args h K hh id o A
  unfold pureSpec at hh ⊢
  split at hh
  · exact ⟨h, hh, A, rfl⟩
  · exact hh

/-! ### A new block comes to the front -/
theorem fresh_fOp {k : OpK} (hk : k.fresh = true) {e : Env} {h h1 : Heap} {i : Nat} {v : AV} (hv : aeval k e h i = some (v, h1)) : ∃ o, h1 = h.set i (some o) ∧ ∀ h', aeval k e h' i = some (v, h'.set i (some o)) := by
  cases k <;> simp only [OpK.fresh] at hk <;> first | (cases hk; done) | skip
  · simp only [aeval, op_alloc, Option.some.injEq, Prod.mk.injEq] at hv
    obtain ⟨rfl, rfl⟩ := hv
    exact ⟨_, rfl, fun h' => rfl⟩
  · simp only [aeval, op_buildSlice] at hv ⊢
    split at hv
    · cases hv; exact ⟨_, rfl, fun h' => rfl⟩
    · cases hv

theorem fresh_call {k : OpK} (hk : k.fresh = true) : (∀ f args, k ≠ .call f args) ∧ ∀ f args, k ≠ .callv f args := by
  constructor <;> intro f args e <;> subst e <;> cases hk

theorem aOp_fresh {call : CallP} {x : AOp} (hk : x.k.fresh = true) (hg : x.guard = none) {i : Nat} {e : Env} {h : Heap} {K : Env → Heap → Prop} :
    aOp call i x e h K ↔ ∃ v h1, aeval x.k e h i = some (v, h1) ∧ K (e.putD x.dst v) h1 := by
  unfold aOp
  rw [hg]
  simp only [guardA]
  split
  · rename_i f args he; exact ((fresh_call hk).1 _ _ he).elim
  · rename_i f args he; exact ((fresh_call hk).2 _ _ he).elim
  · cases aeval x.k e h i with
    | none => simp
    | some r =>
      obtain ⟨v, h1⟩ := r
      exact ⟨fun hh => ⟨v, h1, rfl, hh⟩, fun ⟨v', h', e1, e2⟩ => by cases e1; exact e2⟩

theorem front_fresh {call : CallP} (hm : call.Mono) (hl : call.Live) (hc : CallAway call) {i : Nat × AOp} {post : List (Nat × AOp)} {K : Env → Heap → Prop} (hK : KEq K) (hi : i.2.k.fresh = true) (hg : i.2.guard = none) :
    ∀ (pre : List (Nat × AOp)) {e : Env} {h : Heap}, (∀ p ∈ pre, Swap p.2 i.2 ∧ p.1 ≠ i.1) → Away i.1 h → aOpsL call (pre ++ i :: post) e h K →
      aOp call i.1 i.2 e h (fun e' h' => aOpsL call (pre ++ post) e' h' K)
  | [], e, h, _, _, hh => by
    have hh := aOpsL_head hh
    rw [aOp_V] at hh ⊢
    exact aOpV_mono hm (fun v h' hv => hv.2) hh
  | p :: ps, e, h, hs, A, hh => by
    obtain ⟨s1, s2⟩ := hs p List.mem_cons_self
    have ih : ∀ (v : AV) (h0 : Heap), Away i.1 h0 → aOpsL call (ps ++ i :: post) (e.putD p.2.dst v) h0 K → ∃ u h1, aeval i.2.k e h0 i.1 = some (u, h1) ∧ aOpsL call (ps ++ post) ((e.putD p.2.dst v).putD i.2.dst u) h1 K := fun v h0 A0 hk => by
      obtain ⟨u, h1, k1, k2⟩ := (aOp_fresh hi hg).1 (front_fresh hm hl hc hK hi hg ps (fun q hq => hs q (List.mem_cons_of_mem _ hq)) A0 hk)
      rw [aeval_agree (k_agree (dst_off s1.xy))] at k1
      exact ⟨u, h1, k1, k2⟩
    simp only [List.cons_append, aOpsL] at hh ⊢
    rw [aOp_V] at hh
    obtain ⟨v0, h', h0, ⟨_, k0⟩, A0, _⟩ := aOpV_live hl (aOpV_away hc hh s2 A (.strIter [] 0))
    obtain ⟨u, h1, k1, _⟩ := ih v0 h0 A0 k0
    obtain ⟨o, rfl, ho⟩ := fresh_fOp hi k1
    refine (aOp_fresh hi hg).2 ⟨u, _, ho h, ?_⟩
    rw [aOp_V]
    refine aOpV_agree (e := e) ((dst_off_own s1.yx (e := e) (v := u)).symm) (aOpV_mono hm (fun v h' hv => ?_) (aOpV_away hc hh s2 A o))
    obtain ⟨h2, ⟨g1, g2⟩, A2, rfl⟩ := hv
    obtain ⟨u', h3, g3, g4⟩ := ih v h2 A2 g2
    rw [ho h2] at g3
    cases g3
    refine ⟨chksA_agree (fun t ht => ?_) (chksA_away A2 o g1), aOpsL_eq hm hK _ (putD_comm e v u s1.dst) g4⟩
    have h5 := putD_comm e v u s1.dst t
    rw [← h5]
    exact ((dst_off s1.yx (e := e.putD p.2.dst v) (v := u)) t (List.mem_append_right _ ht)).symm

/-- An operation that changes places with all ahead of it comes to the front. -/
theorem front {call : CallP} (hm : call.Mono) (hl : call.Live) (hca : CallAway call) {pure : List Nat} {g : Nat → List AV → Option AV} (hp : PureCall call pure g) {i : Nat × AOp} {pre post : List (Nat × AOp)} {K : Env → Heap → Prop} (hK : KEq K) {e : Env} {h : Heap}
    (hs : ∀ p ∈ pre, Swap p.2 i.2 ∧ p.1 ≠ i.1 ∧ ((clsP pure p.2 = 1 ∧ ¬ clsP pure i.2 ≤ 2 ∧ ∃ c ∈ i.2.chk, entry p.2 = some c ∧ dstOff p.2.dst p.2.own = true) ∨ clsP pure p.2 = 0 ∨ clsP pure i.2 = 0 ∨ (clsP pure p.2 ≤ 2 ∧ clsP pure i.2 ≤ 2) ∨ (i.2.k.fresh = true ∧ i.2.guard = none)))
    (hpw : pre.Pairwise (fun x y => clsP pure x.2 = 1 → dstOff y.2.dst x.2.own = true ∧ ∀ a b, x.2.dst = some a → y.2.dst = some b → a ≠ b))
    (hlow : clsP pure i.2 ≤ 2 → ∀ p ∈ pre, p.1 ∉ depsO i.2 e) (A : Away i.1 h) (hh : aOpsL call (pre ++ i :: post) e h K) :
    aOp call i.1 i.2 e h (fun e' h' => aOpsL call (pre ++ post) e' h' K) := by
  by_cases hf : i.2.k.fresh = true ∧ i.2.guard = none
  · exact front_fresh hm hl hca hK hf.1 hf.2 pre (fun p hp' => ⟨(hs p hp').1, (hs p hp').2.1⟩) A hh
  by_cases h0 : clsP pure i.2 = 0
  · exact front_zero hm hl hp hK h0 pre (fun p hp => (hs p hp).1) hh
  · by_cases h2 : clsP pure i.2 ≤ 2
    · refine front_low hm hp hK h2 pre (fun p hp' => ⟨(hs p hp').1, ?_, (hs p hp').2.1, hlow h2 p hp'⟩) A.free hh
      rcases (hs p hp').2.2 with h3 | h3 | h3 | h3 | h3
      · omega
      · omega
      · exact absurd h3 h0
      · exact h3.1
      · exact absurd h3 hf
    · have := front_three hm hp hK pre [] (fun p hp' => ⟨(hs p hp').1, ?_⟩) hpw (fun c hc => by cases hc) hh
      · rw [aOp_V] at this ⊢
        exact aOpV_mono hm (fun v h' hv => hv.2) this
      · rcases (hs p hp').2.2 with h3 | h3 | h3 | h3 | h3
        · exact .inr ⟨h3.1, h3.2.2⟩
        · exact .inl h3
        · exact absurd h3 h0
        · exact absurd h3.2 h2
        · exact absurd h3 hf

end
end Go.Ab
