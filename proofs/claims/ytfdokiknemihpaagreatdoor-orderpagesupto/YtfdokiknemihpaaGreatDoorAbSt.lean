/- Stepping by hand: one lemma for each kind of operation; slices seen as rows. -/
import Derived.Test.YtfdokiknemihpaaGreatDoorAbY
import Derived.Test.YtfdokiknemihpaaGreatDoorAbBx
namespace Go.Ab

/-! ### Integers -/
theorem wrap_id {n : Int} (h1 : -9223372036854775808 ≤ n) (h2 : n ≤ 9223372036854775807) : IntKind.i64.wrap n = n := by
  have hw : IntKind.i64.wrap n = if (9223372036854775808 : Int) ≤ n % 18446744073709551616 then n % 18446744073709551616 - 18446744073709551616 else n % 18446744073709551616 := by
    unfold IntKind.wrap
    by_cases hc : (9223372036854775808 : Int) ≤ n % 18446744073709551616
    · rw [if_pos hc]
      exact if_pos (by simp only [IntKind.signed, Bool.true_and]; exact decide_eq_true hc)
    · rw [if_neg hc]
      exact if_neg (by simp only [IntKind.signed, Bool.true_and]; exact fun hh => hc (of_decide_eq_true hh))
  rw [hw]
  split <;> omega

/-! ### Operations -/
section
variable {call : CallP} {id : Nat} {os : List AOp} {d t : Nat} {b : Bool} {k : OpK} {e : Env} {h h' : Heap} {v : AV} {K : Env → Heap → Prop}

theorem st_nil (hk : K e h) : aOps call id [] e h K := hk

theorem aOp_eval {o : AOp} (hg : guardA o.guard e = some true) (hv : aeval o.k e h id = some (v, h')) (hk : K (e.putD o.dst v) h') : aOp call id o e h K := by
  unfold aOp
  rw [hg]
  revert hv
  generalize o.k = k
  cases k <;> intro hv <;> dsimp only at hv ⊢ <;> first
    | (cases hv; done)
    | (rw [hv]; exact hk)

theorem st_D (hv : aeval k e h id = some (v, h')) (hn : aOps call (id + 1) os ((d, v) :: e) h' K) : aOps call id (oD d k :: os) e h K :=
  aOp_eval (o := oD d k) rfl hv ⟨trivial, hn⟩
theorem st_P (hv : aeval k e h id = some (v, h)) (hn : aOps call (id + 1) os ((d, v) :: e) h K) : aOps call id (oD d k :: os) e h K := st_D hv hn
theorem st_GP {w : Bool} (ht : e.get t = some (.bool w)) (hw : w = b) (hv : aeval k e h id = some (v, h)) (hn : aOps call (id + 1) os ((d, v) :: e) h K) : aOps call id (oG d t b k :: os) e h K :=
  aOp_eval (o := oG d t b k) (by
    show (match e.get t with | some (.bool b') => some (b' == b) | some _ => some false | none => none) = _
    rw [ht, hw]; simp) hv ⟨trivial, hn⟩
theorem st_N (hv : aeval k e h id = some (v, h')) (hn : aOps call (id + 1) os e h' K) : aOps call id (oN k :: os) e h K :=
  aOp_eval (o := oN k) rfl hv ⟨trivial, hn⟩
theorem guardA_some {w : Bool} (ht : e.get t = some (.bool w)) : guardA (some (t, b)) e = some (w == b) := by show (match e.get t with | some (.bool b') => some (b' == b) | some _ => some false | none => none) = _; rw [ht]
theorem st_G {w : Bool} (ht : e.get t = some (.bool w)) (hw : w = b) (hv : aeval k e h id = some (v, h')) (hn : aOps call (id + 1) os ((d, v) :: e) h' K) : aOps call id (oG d t b k :: os) e h K :=
  aOp_eval (o := oG d t b k) (by rw [guardA_some ht, hw]; simp) hv ⟨trivial, hn⟩
theorem st_Gs {w : Bool} (ht : e.get t = some (.bool w)) (hw : w ≠ b) (hn : aOps call (id + 1) os ((d, .undef) :: e) h K) : aOps call id (oG d t b k :: os) e h K := by
  show aOp call id (oG d t b k) e h _
  unfold aOp
  rw [guardA_some ht, show (w == b) = false from by simp [hw]]
  exact ⟨trivial, hn⟩
theorem st_call {f : Nat} {args : List Src} {vs : List AV} (hs : e.srcs args = some vs) (hc : call (.func (.fn f) [] []) vs h (fun v h' => aOps call (id + 1) os ((d, v) :: e) h' K)) (hm : call.Mono) : aOps call id (oD d (.call f args) :: os) e h K := by
  show aOp call id (oD d (.call f args)) e h _
  unfold aOp
  simp only [guardA, hs]
  exact hm _ _ _ _ _ (fun v h' hh => ⟨trivial, hh⟩) hc
theorem st_Gcall {f : Nat} {args : List Src} {vs : List AV} {w : Bool} (ht : e.get t = some (.bool w)) (hw : w = b) (hs : e.srcs args = some vs) (hc : call (.func (.fn f) [] []) vs h (fun v h' => aOps call (id + 1) os ((d, v) :: e) h' K)) (hm : call.Mono) : aOps call id (oG d t b (.call f args) :: os) e h K := by
  show aOp call id (oG d t b (.call f args)) e h _
  unfold aOp
  rw [guardA_some ht, hw]
  simp only [beq_self_eq_true, hs]
  exact hm _ _ _ _ _ (fun v h' hh => ⟨trivial, hh⟩) hc
end

section
variable {x : GCtx} {rd : Option Nat} {e e' : Env} {h : Heap} {Q : Ex → Env → Heap → Prop}
theorem W_keep' {s : List Nat} (e' : Env) (he : e.keep s = e') (hq : Q .normal e' h) : W x rd (.keep s) e h Q := W_keep (he ▸ hq)
theorem st_keep {call : CallP} {id : Nat} {kp : List Nat} {K : Env → Heap → Prop} (e' : Env) (he : e.keep kp = e') (hq : K e' h) : aOps call id [] e h (fun e h => K (e.keep kp) h) := by
  subst he; exact hq
end
/-- What holds behind a block. -/
def blk (id : Nat) (Q : Ex → Env → Heap → Prop) : Ex → Env → Heap → Prop
  | .normal => Q .normal
  | .ret => Q .ret
  | .exit j => match Nat.beq j id with
    | true => Q .normal
    | false => Q (.exit j)
theorem W_blk {x : GCtx} {rd : Option Nat} {e : Env} {h : Heap} {Q : Ex → Env → Heap → Prop} {id : Nat} {b : AC} (hh : W x rd b e h (blk id Q)) : W x rd (.block id b) e h Q := by
  refine W_block (W_mono (fun y e' h' hq => ?_) hh)
  cases y with
  | normal => rw [if_neg (by simp)]; exact hq
  | ret => rw [if_neg (by simp)]; exact hq
  | exit j =>
    change (match Nat.beq j id with | true => Q .normal | false => Q (.exit j)) e' h' at hq
    by_cases hj : j = id
    · subst hj
      rw [if_pos rfl]
      rw [show Nat.beq j j = true by simp] at hq
      exact hq
    · rw [if_neg (by intro e; cases e; exact hj rfl)]
      rw [show Nat.beq j id = false by rw [← Bool.not_eq_true, Nat.beq_eq]; exact hj] at hq
      exact hq
theorem bin_add {op : BinOp} {s1 s2 : Src} {e : Env} {h : Heap} {id : Nat} {a b c : Int} (h1 : e.src s1 = some (.int .i64 a)) (h2 : e.src s2 = some (.int .i64 b)) (ho : (op = .add ∧ a + b = c) ∨ (op = .sub ∧ a - b = c)) (hc1 : -9223372036854775808 ≤ c) (hc2 : c ≤ 9223372036854775807) : aeval (.bin op s1 s2) e h id = some (.int .i64 c, h) := by
  simp only [aeval, op_bin, h1, h2]
  rcases ho with ⟨rfl, rfl⟩ | ⟨rfl, rfl⟩
  · show (match (some (AV.int .i64 (IntKind.i64.wrap (a + b))) : Option AV) with | some v => some (v, h) | none => none) = _
    rw [wrap_id hc1 hc2]
  · show (match (some (AV.int .i64 (IntKind.i64.wrap (a - b))) : Option AV) with | some v => some (v, h) | none => none) = _
    rw [wrap_id hc1 hc2]
theorem ev_min {s1 s2 : Src} {e : Env} {h : Heap} {id : Nat} {a b : Nat} (h1 : e.src s1 = some (.int .i64 a)) (h2 : e.src s2 = some (.int .i64 b)) : aeval (.minmax false s1 s2) e h id = some (.int .i64 (min a b : Nat), h) := by
  simp only [aeval, op_minmax, h1, h2, if_pos]
  congr 3
  simp only [Bool.false_eq_true, if_false]
  split <;> omega
theorem Heap.Ext.bump (h : Heap) (n : Nat) : h.Ext (h.bump n) := fun _ _ hh => hh
theorem Heap.Ext.set {h0 h : Heap} {b : Nat} {o : Option AObj} (hb : h0.get b = none) (hx : h0.Ext h) : h0.Ext (h.set b o) := fun c y hc => by
  rw [Heap.get_set]
  split
  · rename_i hh; subst hh; rw [hb] at hc; cases hc
  · exact hx c y hc

/-! ### A heap grows -/
def Base (h : Heap) : Prop := ∀ b o, h.get b = some o → b < h.next
theorem Base.bump {h : Heap} (hb : Base h) (n : Nat) : Base (h.bump n) := fun b o hg => by have := hb b o hg; simp only [Heap.next_bump]; omega
theorem Base.set {h : Heap} (hb : Base h) {b : Nat} {o : Option AObj} (hlt : b < h.next) : Base (h.set b o) := fun c y hc => by
  rw [Heap.get_set] at hc
  split at hc
  · rename_i hh; subst hh; exact hlt
  · exact hb c y hc
theorem Base.none {h : Heap} (hb : Base h) {b : Nat} (hlt : h.next ≤ b) : h.get b = .none := by
  cases hg : h.get b with
  | none => rfl
  | some o => have := hb b o hg; omega
/-- A later heap: what lay in the base lies there yet. -/
structure Grow (h0 h : Heap) : Prop where
  ext : h0.Ext h
  le : h0.next ≤ h.next
  base : Base h
theorem Grow.refl {h : Heap} (hb : Base h) : Grow h h := ⟨.refl h, Nat.le_refl _, hb⟩
theorem Grow.trans {a b c : Heap} (h : Grow a b) (k : Grow b c) : Grow a c := ⟨h.ext.trans k.ext, Nat.le_trans h.le k.le, k.base⟩
theorem Grow.bump {h0 h : Heap} (u : Grow h0 h) (n : Nat) : Grow h0 (h.bump n) := ⟨u.ext, by have := u.le; simp only [Heap.next_bump]; omega, u.base.bump n⟩
theorem Grow.set {h0 h : Heap} (hb : Base h0) (u : Grow h0 h) {b : Nat} {o : Option AObj} (h1 : h0.next ≤ b) (h2 : b < h.next) : Grow h0 (h.set b o) :=
  ⟨u.ext.set (hb.none h1), u.le, u.base.set h2⟩
theorem getCell_of {h : Heap} {b : Nat} {m : Mode} {vs : List AV} (hg : h.get b = some (.cells m vs)) (i : Nat) : getCell h b i = vs[i]? := by unfold getCell; rw [hg]
theorem getRow_of {h : Heap} {b : Nat} {m : Mode} {vs : List AV} (hg : h.get b = some (.cells m vs)) : getRow h b 0 vs.length = some vs := by
  unfold getRow; rw [hg]; simp
theorem setRow_of {h : Heap} {b : Nat} {vs xs : List AV} (hg : h.get b = some (.cells (.live []) vs)) (hl : xs.length = vs.length) (ho : xs.all AV.one = true) : setRow h b 0 xs = some (h.set b (some (.cells (.live []) xs))) := by
  unfold setRow
  rw [hg]
  simp only [Nat.zero_add, hl, Nat.le_refl, true_and, ho, if_true, Heap.eraseAll, spliceL, List.take_zero, List.nil_append]
  rw [List.drop_of_length_le (by omega), List.append_nil]

/-! ### Slices as rows -/
/-- A slice of elements of so many cells each; what lies there. -/
def Vw (h : Heap) (sv : AV) (z : Nat) (rows : List (List AV)) : Prop :=
  (sv = .nilslice ∧ rows = []) ∨ ∃ b, sv = .slice b 0 rows.length z ∧ (rows ≠ [] → ∃ m, h.get b = some (.cells m rows.flatten)) ∧ ∀ r ∈ rows, r.length = z

theorem Vw.ext {h h' : Heap} {sv : AV} {z : Nat} {rows : List (List AV)} (hx : h.Ext h') (hv : Vw h sv z rows) : Vw h' sv z rows := by
  rcases hv with hv | ⟨b, h1, h2, h3⟩
  · exact .inl hv
  · exact .inr ⟨b, h1, fun hn => let ⟨m, hm⟩ := h2 hn; ⟨m, hx _ _ hm⟩, h3⟩

theorem Vw.len {h : Heap} {sv : AV} {z : Nat} {rows : List (List AV)} (hv : Vw h sv z rows) : lenA h .slice sv = some (.int .i64 rows.length) := by
  rcases hv with ⟨rfl, rfl⟩ | ⟨b, rfl, _, _⟩ <;> rfl
theorem Vw.len' {h h' : Heap} {sv : AV} {z : Nat} {rows : List (List AV)} (hv : Vw h sv z rows) : lenA h' .slice sv = some (.int .i64 rows.length) := by
  rcases hv with ⟨rfl, rfl⟩ | ⟨b, rfl, _, _⟩ <;> rfl

theorem flatten_drop {z : Nat} : ∀ {rows : List (List AV)}, (∀ r ∈ rows, r.length = z) → ∀ j, rows.flatten.drop (j * z) = (rows.drop j).flatten
  | rows, hz, 0 => by simp
  | [], _, j + 1 => by simp
  | r :: rows, hz, j + 1 => by
    have hr := hz r List.mem_cons_self
    rw [List.flatten_cons, List.drop_succ_cons, ← flatten_drop (fun r hr => hz r (List.mem_cons_of_mem _ hr)) j, List.drop_append]
    rw [List.drop_of_length_le (by rw [hr, Nat.add_mul]; omega), List.nil_append]
    congr 1
    rw [hr, Nat.add_mul]; omega
theorem flatten_len {z : Nat} : ∀ {rows : List (List AV)}, (∀ r ∈ rows, r.length = z) → rows.flatten.length = rows.length * z
  | [], _ => by simp
  | r :: rows, hz => by
    rw [List.flatten_cons, List.length_append, hz r List.mem_cons_self, flatten_len (fun r hr => hz r (List.mem_cons_of_mem _ hr)), List.length_cons, Nat.add_mul]; omega

/-- An element: where it lies, and what is there. -/
theorem Vw.at {h : Heap} {sv : AV} {z : Nat} {rows : List (List AV)} (hv : Vw h sv z rows) {j : Nat} (hj : j < rows.length) :
    ∃ b, (∀ e (x i : Src) h0 k id, e.src x = some sv → e.src i = some (.int k j) → aeval (.idxSl z x i) e h0 id = some (.ptr b (j * z), h0)) ∧ getRow h b (j * z) z = some rows[j] ∧ (∃ m, h.get b = some (.cells m rows.flatten)) ∧ (rows[j]).length = z := by
  rcases hv with ⟨rfl, rfl⟩ | ⟨b, rfl, h2, h3⟩
  · simp at hj
  · have hne : rows ≠ [] := fun hh => by subst hh; simp at hj
    obtain ⟨m, hm⟩ := h2 hne
    refine ⟨b, fun e x i h0 k id hx hi => ?_, ?_, ⟨m, hm⟩, h3 _ (List.getElem_mem hj)⟩
    · simp only [aeval, op_idxSl, hx, hi]
      rw [if_pos ⟨trivial, by omega, by omega⟩]
      simp
    · unfold getRow
      rw [hm]
      have hl := flatten_len h3
      have h4 : j * z + z ≤ rows.length * z := by
        have := Nat.mul_le_mul_right z (show j + 1 ≤ rows.length from hj)
        rw [Nat.add_mul] at this; omega
      simp only [hl]
      rw [if_pos h4, flatten_drop h3, List.drop_eq_getElem_cons hj, List.flatten_cons, List.take_left' (h3 _ (List.getElem_mem hj))]

/-- One cell of an element. -/
theorem Vw.cell {h : Heap} {b z j : Nat} {r : List AV} (hr : getRow h b (j * z) z = some r) {i : Nat} {v : AV} (hi : r[i]? = some v) : getCell h b (j * z + i) = some v := by
  unfold getRow at hr
  unfold getCell
  split at hr
  · split at hr
    · cases hr
      rw [List.getElem?_take] at hi
      split at hi
      · rw [List.getElem?_drop] at hi; exact hi
      · cases hi
    · cases hr
  · cases hr

/-- A copy by append to an empty slice. -/
theorem append_copy {h : Heap} {id b z : Nat} {sv : AV} {rows : List (List AV)} (hb : h.get b = some (.cells (.live []) [])) (hv : Vw h sv z rows) (hl : rows.length ≤ maxLen) (hone : ∀ r ∈ rows, r.all AV.one = true) :
    ∃ b' h', appendXA h id z (.slice b 0 0 z) sv = some (.slice b' 0 rows.length z, h') ∧ (b' = b ∨ b' = id) ∧ Vw h' (.slice b' 0 rows.length z) z rows ∧ (∀ c, c ≠ b → c ≠ id → h'.get c = h.get c) ∧ h'.next = h.next ∧ (h' = h ∨ ∃ o1 o2, h' = (h.set b o1).set id o2) := by
  by_cases hr : rows = []
  · subst hr
    refine ⟨b, h, ?_, .inl rfl, .inr ⟨b, rfl, fun hh => absurd rfl hh, fun r hr => by cases hr⟩, fun _ _ _ => rfl, rfl, .inl rfl⟩
    rcases hv with ⟨rfl, _⟩ | ⟨b1, rfl, _, _⟩
    · unfold appendXA
      simp [zeroSl, srcCells]
    · unfold appendXA
      simp [zeroSl]
  · rcases hv with ⟨_, hh⟩ | ⟨b1, rfl, h2, h3⟩
    · exact absurd hh hr
    · obtain ⟨m, hm⟩ := h2 hr
      have hn0 : rows.length ≠ 0 := fun hh => hr (List.length_eq_zero_iff.1 hh)
      have hfl := flatten_len h3
      have hsrc : srcCells h z (.slice b1 0 rows.length z) = some (rows.length, rows.flatten) := by
        unfold srcCells
        simp only [if_true]
        have : getRow h b1 0 (rows.length * z) = some rows.flatten := by rw [← hfl]; exact getRow_of hm
        rw [this]
      refine ⟨id, (h.set b (some (.cells .stale []))).set id (some (.cells (.live [b]) rows.flatten)), ?_, .inr rfl, .inr ⟨id, rfl, fun _ => ⟨_, Heap.get_set_same _ _ _⟩, h3⟩, fun c hc1 hc2 => ?_, rfl, .inr ⟨_, _, rfl⟩⟩
      · unfold appendXA
        have hz0 : ¬ zeroSl z (.slice b1 0 rows.length z) = true := by simp [zeroSl, hn0]
        rw [if_neg hz0, hsrc]
        simp only [if_neg hn0, hb, Nat.zero_add]
        rw [if_pos ⟨trivial, hl⟩]
        have ho : (rows.flatten.all AV.one) = true := by
          rw [List.all_eq_true]
          intro v hv
          obtain ⟨r, hr1, hr2⟩ := List.mem_flatten.1 hv
          exact List.all_eq_true.1 (hone r hr1) v hr2
        simp [ho]
      · rw [Heap.get_set_other _ _ (Ne.symm hc2), Heap.get_set_other _ _ (Ne.symm hc1)]

section
variable {e : Env} {h h' : Heap} {id : Nat}
theorem ev_len {s : Src} {sv : AV} {z : Nat} {rows : List (List AV)} (hs : e.src s = some sv) (hv : Vw h' sv z rows) : aeval (.len .slice s) e h id = some (.int .i64 rows.length, h) := by
  simp only [aeval, op_len, hs, hv.len']
theorem ev_load1 {s : Src} {b off : Nat} {v : AV} (hs : e.src s = some (.ptr b off)) (hg : getCell h b off = some v) : aeval (.load1 s) e h id = some (v, h) := by
  simp only [aeval, op_load1, hs, hg]
theorem ev_loadN {s : Src} {n b off : Nat} {vs : List AV} (hs : e.src s = some (.ptr b off)) (hg : getRow h b off n = some vs) : aeval (.loadN n s) e h id = some (.agg vs, h) := by
  simp only [aeval, op_loadN, hs, hg]
theorem ev_eq {neg : Bool} {tg : EqT} {x y : Src} {a b : AV} {r : Bool} (hx : e.src x = some a) (hy : e.src y = some b) (hr : eqA tg a b = some r) : aeval (.eq neg tg x y) e h id = some (.bool (if neg then !r else r), h) := by
  simp only [aeval, op_eq, hx, hy, hr]
theorem ev_lookup {tg : EqT} {z : AV} {ok : Bool} {m k : Src} {mv kv r : AV} (hm : e.src m = some mv) (hk : e.src k = some kv) (hr : lookupA h tg z ok mv kv = some r) : aeval (.lookup tg z ok m k) e h id = some (r, h) := by
  simp only [aeval, op_lookup, hm, hk, hr]
theorem ev_mapUpdate {tg : EqT} {m k v : Src} {mv kv vv : AV} (hm : e.src m = some mv) (hk : e.src k = some kv) (hv : e.src v = some vv) (hr : mapUpdateA h tg mv kv vv = some h') : aeval (.mapUpdate tg m k v) e h id = some (.undef, h') := by
  simp only [aeval, op_mapUpdate, hm, hk, hv, hr]
theorem ev_store {n b off : Nat} {s y : Src} {v : AV} (hs : e.src s = some (.ptr b off)) (hy : e.src y = some v) (hn : v.cells.length = n) (hr : setRow h b off v.cells = some h') : aeval (.store n s y) e h id = some (.undef, h') := by
  simp only [aeval, op_store, hs, hy, if_pos hn, hr]
end
end Go.Ab
