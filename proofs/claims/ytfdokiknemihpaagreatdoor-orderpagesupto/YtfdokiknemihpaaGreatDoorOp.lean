/- OrderPages, the open part: what the law does at any arguments. -/
import Derived.Test.YtfdokiknemihpaaGreatDoorTz
import Derived.Test.YtfdokiknemihpaaGreatDoorAbSt
/- OrderPages: the functions of the open part. -/
namespace Go.Ab
set_option maxRecDepth 100000

def atOf (r : List AV) : Int := match r with | [_, _, .int _ a] => a | _ => 0
def valOf (r : List AV) : Int := match r with | [.int _ p] => p | _ => 0
def IsTok (r : List AV) : Prop := ∃ k c a, r = [.int .i64 k, .int .u8 c, .int .i64 a]
def IsInt (r : List AV) : Prop := ∃ n, r = [.int .i64 n]
def pgN (ts ps : List (List AV)) (off : Int) : Nat → Int
  | 0 => 1
  | n + 1 => if atOf (ts.getD n []) ≤ off then valOf (ps.getD n []) else pgN ts ps off n

def e16 (tv pv : AV) (off q m i : Int) : Env := [(0, tv), (1, pv), (2, .int .i64 off), (7, .int .i64 q), (13, .int .i64 m), (14, .int .i64 i)]
def q16 (h0 : Heap) (tv pv : AV) (off q m : Int) : Ex → Env → Heap → Prop := fun y e' h' => y = .exit 0 ∧ Grow h0 h' ∧ ∃ i : Nat, e' = [(0, tv), (1, pv), (2, .int .i64 off), (7, .int .i64 q), (13, .int .i64 m), (14, .int .i64 i), (15, .bool false)]
theorem w16 {x : GCtx} {h0 h : Heap} {tv pv : AV} {ts ps : List (List AV)} {off : Int} (ht : Vw h0 tv 3 ts) (hp : Vw h0 pv 1 ps) (hts : ∀ r ∈ ts, IsTok r) (hps : ∀ r ∈ ps, IsInt r) (hlt : ts.length ≤ 250) (_hlp : ps.length ≤ 250) (hx : Grow h0 h)  :
    W x none a16.body (initEnv 0 [tv, pv, .int .i64 off]) h (fun y e' h' => y = .ret ∧ e'.get 6 = some (.int .i64 (pgN ts ps off (min ts.length ps.length))) ∧ Grow h0 h') := by
  refine W_seq (W_seq (W_ops ?_))
  refine st_P (v := .int .i64 0) rfl (st_nil ?_)
  refine W_keep' [(0, tv), (1, pv), (2, .int .i64 off)] rfl ?_
  refine W_seq (W_seq (W_ops ?_))
  refine st_P (v := .int .i64 1) rfl (st_nil ?_)
  refine W_keep' [(0, tv), (1, pv), (2, .int .i64 off), (7, .int .i64 1)] rfl ?_
  refine W_seq (W_seq (W_seq (W_ops ?_)))
  refine st_P (v := tv) rfl ?_
  refine st_P (ev_len (sv := tv) rfl ht) ?_
  refine st_P (v := pv) rfl ?_
  refine st_P (ev_len (sv := pv) rfl hp) ?_
  refine st_P (ev_min rfl rfl) ?_
  refine st_P (v := .int .i64 0) rfl (st_nil ?_)
  generalize hm : min ts.length ps.length = m
  refine W_keep' (e16 tv pv off 1 m 0) rfl ?_
  refine W_blk ?_
  refine W_mono (Q := q16 h0 tv pv off (pgN ts ps off m) m) ?_ (W_loop_inv (fun k e h' => ∃ i : Nat, i ≤ m ∧ k = m - i ∧ Grow h0 h' ∧ e = e16 tv pv off (pgN ts ps off i) m i) ?_ _ _ _ ⟨0, by omega, rfl, (by repeat (first | assumption | refine Grow.bump ?_ _)), rfl⟩)
  · rintro y e' h' ⟨rfl, hx', i, rfl⟩
    refine W_seq (W_seq (W_ops ?_))
    refine st_P (v := .int .i64 (pgN ts ps off m)) rfl ?_
    refine st_P (v := .int .i64 (pgN ts ps off m)) rfl (st_nil ?_)
    refine W_keep' [(6, .int .i64 (pgN ts ps off m))] rfl ?_
    exact W_ret ⟨rfl, rfl, (by repeat (first | assumption | refine Grow.bump ?_ _))⟩
  · rintro k e h' ⟨i, hi, rfl, hx', rfl⟩
    refine W_seq (W_keep' (e16 tv pv off (pgN ts ps off i) m i) rfl ?_)
    refine W_seq (W_seq (W_ops ?_))
    refine st_P (v := .bool (decide ((i : Int) < m))) rfl (st_nil ?_)
    refine W_keep' [(0, tv), (1, pv), (2, .int .i64 off), (7, .int .i64 (pgN ts ps off i)), (13, .int .i64 m), (14, .int .i64 i), (15, .bool (decide ((i : Int) < m)))] rfl ?_
    by_cases hlt' : (i : Int) < m
    · rw [decide_eq_true hlt']
      have hit : i < ts.length := by omega
      have hip : i < ps.length := by omega
      refine W_seq (W_cond rfl (W_skip ?_))
      refine W_seq (W_blk ?_)
      refine W_seq (W_seq (W_ops ?_))
      refine st_P (v := .int .i64 i) rfl ?_
      refine st_P (v := .int .i64 i) rfl (st_nil ?_)
      refine W_keep' [(0, tv), (1, pv), (2, .int .i64 off), (7, .int .i64 (pgN ts ps off i)), (8, .int .i64 i), (13, .int .i64 m), (14, .int .i64 i)] rfl ?_
      obtain ⟨bt, t1, t2, _, _⟩ := ht.ext hx'.ext |>.at hit
      obtain ⟨bp, p1, p2, _, _⟩ := hp.ext hx'.ext |>.at hip
      obtain ⟨tk, tc, ta, htr⟩ := hts _ (List.getElem_mem hit)
      obtain ⟨pn, hpr⟩ := hps _ (List.getElem_mem hip)
      refine W_seq (W_seq (W_ops ?_))
      refine st_P (v := tv) rfl ?_
      refine st_P (v := .int .i64 i) rfl ?_
      refine st_P (t1 _ _ _ _ _ _ rfl rfl) ?_
      refine st_P (v := .ptr bt (i * 3 + 2)) rfl ?_
      refine st_P (ev_load1 (v := .int .i64 ta) rfl (Vw.cell t2 (by rw [htr]; rfl))) ?_
      refine st_P (v := .int .i64 off) rfl ?_
      refine st_P (v := .bool (decide (ta ≤ off))) rfl (st_nil ?_)
      refine W_keep' [(0, tv), (1, pv), (2, .int .i64 off), (7, .int .i64 (pgN ts ps off i)), (8, .int .i64 i), (13, .int .i64 m), (14, .int .i64 i), (23, .bool (decide (ta ≤ off)))] rfl ?_
      have hpg : pgN ts ps off (i + 1) = if ta ≤ off then pn else pgN ts ps off i := by
        show (if atOf (ts.getD i []) ≤ off then valOf (ps.getD i []) else _) = _
        rw [List.getD_eq_getElem?_getD, List.getD_eq_getElem?_getD, List.getElem?_eq_getElem hit, List.getElem?_eq_getElem hip]
        simp only [Option.getD_some, htr, hpr]
        rfl
      have fin : ∀ (h1 : Heap) (q : Int) (e1 : Env), Grow h0 h1 → q = pgN ts ps off (i + 1) → e1.get 0 = some tv → e1.get 1 = some pv → e1.get 2 = some (.int .i64 off) → e1.get 7 = some (.int .i64 q) → e1.get 13 = some (.int .i64 m) → e1.get 14 = some (.int .i64 i) → W x none (.seq (.ops none [oD 28 (.bin .add (.t 14) (.k (.int .i64 1))), oD 14 (.mov (.t 28))]) (.keep [0, 1, 2, 7, 13, 14])) e1 h1
          (fun y e' h' => match y with | .normal => ∃ k', k' < m - i ∧ ∃ i : Nat, i ≤ m ∧ k' = m - i ∧ Grow h0 h' ∧ e' = e16 tv pv off (pgN ts ps off i) m i | y => q16 h0 tv pv off (pgN ts ps off m) m y e' h') := by
        intro h1 q e1 hx1 hq g0 g1 g2 g7 g13 g14
        refine W_seq (W_ops ?_)
        refine st_P (bin_add (c := (i + 1 : Nat)) g14 rfl (.inl ⟨rfl, by omega⟩) (by omega) (by omega)) ?_
        refine st_P (v := .int .i64 (i + 1 : Nat)) rfl (st_nil ?_)
        refine W_keep' (e16 tv pv off q m (i + 1 : Nat)) ?_ ?_
        · simp only [Env.keep_cons, Env.keep_nil, Env.get_cons, Nat.reduceEqDiff, if_false, if_true, g0, g1, g2, g7, g13]
          rfl
        exact ⟨_, by omega, i + 1, by omega, rfl, (by repeat (first | assumption | refine Grow.bump ?_ _)), by rw [hq]⟩
      by_cases hta : ta ≤ off
      · rw [decide_eq_true hta]
        rw [if_pos hta] at hpg
        refine W_cond rfl ?_
        refine W_seq (W_ops ?_)
        refine st_P (v := pv) rfl ?_
        refine st_P (v := .int .i64 i) rfl ?_
        refine st_P (p1 _ _ _ _ _ _ rfl rfl) ?_
        refine st_P (ev_load1 (v := .int .i64 pn) rfl (Vw.cell p2 (i := 0) (by rw [hpr]; rfl))) ?_
        refine st_P (v := .int .i64 pn) rfl (st_nil ?_)
        refine W_keep' (e16 tv pv off pn m i) rfl ?_
        exact fin _ _ _ (by repeat (first | assumption | refine Grow.bump ?_ _)) hpg.symm rfl rfl rfl rfl rfl rfl
      · rw [decide_eq_false hta]
        rw [if_neg hta] at hpg
        refine W_cond rfl (W_skip ?_)
        exact fin _ _ _ (by repeat (first | assumption | refine Grow.bump ?_ _)) hpg.symm rfl rfl rfl rfl rfl rfl
    · rw [decide_eq_false hlt']
      refine W_seq (W_cond rfl (W_exit ?_))
      refine ⟨rfl, (by repeat (first | assumption | refine Grow.bump ?_ _)), i, ?_⟩
      rw [show m = i by omega]
end Go.Ab
/- OrderPages: stylusref23.Page. -/
namespace Go.Ab
set_option maxRecDepth 100000

def e17 (tv pv : AV) (off i : Int) : Env := [(0, tv), (1, pv), (2, .int .i64 off), (7, .int .i64 i)]
def q17 (h0 : Heap) (r : Int) : Ex → Env → Heap → Prop := fun y e' h' => (y = .exit 0 ∧ r = 1 ∧ Grow h0 h') ∨ (y = .ret ∧ e'.get 6 = some (.int .i64 r) ∧ Grow h0 h')
def i17 (h0 : Heap) (tv pv : AV) (ts ps : List (List AV)) (off : Int) (m : Nat) (k : Nat) (e : Env) (h' : Heap) : Prop := k ≤ m ∧ pgN ts ps off m = pgN ts ps off k ∧ Grow h0 h' ∧ e = e17 tv pv off (k - 1)
theorem w17 {x : GCtx} {h0 h : Heap} {tv pv : AV} {ts ps : List (List AV)} {off : Int} (ht : Vw h0 tv 3 ts) (hp : Vw h0 pv 1 ps) (hts : ∀ r ∈ ts, IsTok r) (hps : ∀ r ∈ ps, IsInt r) (hlt : ts.length ≤ 250) (hx : Grow h0 h)  :
    W x none a17.body (initEnv 0 [tv, pv, .int .i64 off]) h (fun y e' h' => y = .ret ∧ e'.get 6 = some (.int .i64 (pgN ts ps off (min ts.length ps.length))) ∧ Grow h0 h') := by
  refine W_seq (W_seq (W_ops ?_))
  refine st_P (v := .int .i64 0) rfl (st_nil ?_)
  refine W_keep' [(0, tv), (1, pv), (2, .int .i64 off)] rfl ?_
  refine W_seq (W_seq (W_seq (W_ops ?_)))
  refine st_P (v := tv) rfl ?_
  refine st_P (ev_len (sv := tv) rfl ht) ?_
  refine st_P (v := pv) rfl ?_
  refine st_P (ev_len (sv := pv) rfl hp) ?_
  refine st_P (ev_min rfl rfl) ?_
  generalize hm : min ts.length ps.length = m
  refine st_P (bin_add (a := (m : Int)) (b := 1) (c := (m : Int) - 1) rfl rfl (.inr ⟨rfl, rfl⟩) (by omega) (by omega)) ?_
  refine st_P (v := .int .i64 ((m : Int) - 1)) rfl (st_nil ?_)
  refine W_keep' (e17 tv pv off ((m : Int) - 1)) rfl ?_
  refine W_blk ?_
  refine W_mono (Q := q17 h0 (pgN ts ps off m)) ?_ (W_loop_inv (i17 h0 tv pv ts ps off m) ?_ m _ _ ⟨Nat.le_refl _, rfl, (by repeat (first | assumption | refine Grow.bump ?_ _)), rfl⟩)
  · rintro y e' h' (⟨rfl, hr, hx'⟩ | ⟨rfl, hr, hx'⟩)
    · refine W_seq (W_seq (W_ops ?_))
      refine st_P (v := .int .i64 1) rfl (st_nil ?_)
      refine W_keep' [(6, .int .i64 1)] rfl ?_
      exact W_ret ⟨rfl, by rw [hr]; rfl, (by repeat (first | assumption | refine Grow.bump ?_ _))⟩
    · exact ⟨rfl, hr, (by repeat (first | assumption | refine Grow.bump ?_ _))⟩
  · rintro k e h' ⟨hi, hpk, hx', rfl⟩
    refine W_seq (W_keep' (e17 tv pv off (k - 1)) rfl ?_)
    refine W_seq (W_seq (W_seq (W_ops ?_)))
    refine st_P (v := .int .i64 ((k : Int) - 1)) rfl ?_
    refine st_P (v := .bool (decide ((k : Int) - 1 ≥ 0))) rfl (st_nil ?_)
    refine W_keep' [(0, tv), (1, pv), (2, .int .i64 off), (7, .int .i64 ((k : Int) - 1)), (15, .bool (decide ((k : Int) - 1 ≥ 0)))] rfl ?_
    by_cases hk : (k : Int) - 1 ≥ 0
    · rw [decide_eq_true hk]
      obtain ⟨i, rfl⟩ : ∃ i, k = i + 1 := ⟨k - 1, by omega⟩
      have hit : i < ts.length := by omega
      have hip : i < ps.length := by omega
      have e1 : ((i + 1 : Nat) : Int) - 1 = i := by omega
      rw [e1]
      refine W_cond rfl (W_skip ?_)
      refine W_seq (W_blk ?_)
      obtain ⟨bt, t1, t2, _, _⟩ := ht.ext hx'.ext |>.at hit
      obtain ⟨bp, p1, p2, _, _⟩ := hp.ext hx'.ext |>.at hip
      obtain ⟨tk, tc, ta, htr⟩ := hts _ (List.getElem_mem hit)
      obtain ⟨pn, hpr⟩ := hps _ (List.getElem_mem hip)
      have hpg : pgN ts ps off (i + 1) = if ta ≤ off then pn else pgN ts ps off i := by
        show (if atOf (ts.getD i []) ≤ off then valOf (ps.getD i []) else _) = _
        rw [List.getD_eq_getElem?_getD, List.getD_eq_getElem?_getD, List.getElem?_eq_getElem hit, List.getElem?_eq_getElem hip]
        simp only [Option.getD_some, htr, hpr]
        rfl
      refine W_seq (W_seq (W_ops ?_))
      refine st_P (v := tv) rfl ?_
      refine st_P (v := .int .i64 i) rfl ?_
      refine st_P (t1 _ _ _ _ _ _ rfl rfl) ?_
      refine st_P (v := .ptr bt (i * 3 + 2)) rfl ?_
      refine st_P (ev_load1 (v := .int .i64 ta) rfl (Vw.cell t2 (by rw [htr]; rfl))) ?_
      refine st_P (v := .int .i64 off) rfl ?_
      refine st_P (v := .bool (decide (ta ≤ off))) rfl (st_nil ?_)
      refine W_keep' [(0, tv), (1, pv), (2, .int .i64 off), (7, .int .i64 i), (24, .bool (decide (ta ≤ off)))] rfl ?_
      by_cases hta : ta ≤ off
      · rw [decide_eq_true hta]
        rw [if_pos hta] at hpg
        refine W_cond rfl ?_
        refine W_seq (W_seq (W_ops ?_))
        refine st_P (v := pv) rfl ?_
        refine st_P (v := .int .i64 i) rfl ?_
        refine st_P (p1 _ _ _ _ _ _ rfl rfl) ?_
        refine st_P (ev_load1 (v := .int .i64 pn) rfl (Vw.cell p2 (i := 0) (by rw [hpr]; rfl))) ?_
        refine st_P (v := .int .i64 pn) rfl (st_nil ?_)
        refine W_keep' [(6, .int .i64 pn)] rfl ?_
        exact W_ret (.inr ⟨rfl, by rw [hpk, hpg]; rfl, (by repeat (first | assumption | refine Grow.bump ?_ _))⟩)
      · rw [decide_eq_false hta]
        rw [if_neg hta] at hpg
        refine W_cond rfl (W_skip ?_)
        refine W_seq (W_ops ?_)
        refine st_P (v := .int .i64 i) rfl ?_
        refine st_P (bin_add (a := (i : Int)) (b := 1) (c := (i : Int) - 1) rfl rfl (.inr ⟨rfl, rfl⟩) (by omega) (by omega)) ?_
        refine st_P (v := .int .i64 ((i : Int) - 1)) rfl (st_nil ?_)
        refine W_keep' (e17 tv pv off ((i : Int) - 1)) rfl ?_
        exact ⟨i, by omega, by omega, by rw [hpk, hpg], (by repeat (first | assumption | refine Grow.bump ?_ _)), rfl⟩
    · rw [decide_eq_false hk]
      refine W_cond rfl (W_exit (.inl ⟨rfl, ?_, (by repeat (first | assumption | refine Grow.bump ?_ _))⟩))
      rw [hpk, show k = 0 by omega]; rfl
end Go.Ab
/- OrderPages: stylusref23.Own and stylusref23.Same. -/
namespace Go.Ab
set_option maxRecDepth 100000

def IsPl (r : List AV) : Prop := ∃ a b c, r = [.int .i64 a, .int .i64 b, .int .i64 c]
def IsNode (r : List AV) : Prop := ∃ k s f t, r = [.int .u8 k, .int .i64 s, .int .i64 f, .int .i64 t]
theorem IsPl.one {r : List AV} (h : IsPl r) : r.all AV.one = true := by obtain ⟨_, _, _, rfl⟩ := h; rfl
theorem IsNode.one {r : List AV} (h : IsNode r) : r.all AV.one = true := by obtain ⟨_, _, _, _, rfl⟩ := h; rfl

theorem Vw.same {h h' : Heap} {b o n z z' : Nat} {rows : List (List AV)} (hv : Vw h (.slice b o n z) z' rows) (hg : h'.get b = h.get b) : Vw h' (.slice b o n z) z' rows := by
  rcases hv with ⟨hh, _⟩ | ⟨b1, h1, h2, h3⟩
  · cases hh
  · cases h1; exact .inr ⟨_, rfl, fun hn => by rw [hg]; exact h2 hn, h3⟩

theorem grow_append {h0 h h' : Heap} (hb : Base h0) (u : Grow h0 h) {b id : Nat} (h1 : h0.next ≤ b) (h2 : b < h.next) (h3 : h0.next ≤ id) (h4 : id < h.next) (hh : h' = h ∨ ∃ o1 o2, h' = (h.set b o1).set id o2) : Grow h0 h' := by
  rcases hh with rfl | ⟨o1, o2, rfl⟩
  · exact u
  · exact (u.set hb h1 h2).set hb h3 h4

def Own (h0 : Heap) (ns pl : List (List AV)) (y : Ex) (e' : Env) (h' : Heap) : Prop :=
  y = .ret ∧ Grow h0 h' ∧ ∃ b c d, e'.get 2 = some (.ptr b 0) ∧ h'.get b = some (.cells (.live []) [.slice c 0 ns.length 4, .slice d 0 pl.length 3]) ∧ Vw h' (.slice c 0 ns.length 4) 4 ns ∧ Vw h' (.slice d 0 pl.length 3) 3 pl ∧ h0.next ≤ b ∧ h0.next ≤ c ∧ h0.next ≤ d

theorem w14b {x : GCtx} {h0 h : Heap} {nv pv : AV} {ns pl : List (List AV)} {b1 b2 : Nat} (hb : Base h0) (u : Grow h0 h) (hn : Vw h0 nv 4 ns) (hp : Vw h0 pv 3 pl) (hns : ∀ r ∈ ns, IsNode r) (hpl : ∀ r ∈ pl, IsPl r) (ln : ns.length ≤ maxLen) (lp : pl.length ≤ maxLen)
    (g1 : h.get b1 = some (.cells (.live []) [nv, pv])) (g2 : h.get b2 = some (.cells (.live []) [.nilslice, .nilslice])) (l2 : h0.next ≤ b2) :
    W x none (.seq (.ops (some [2]) [oD 4 (.fieldAddr 0 (.t 1)), oD 5 (.load1 (.t 4)), oD 8 (.fieldAddr 1 (.t 1)), oD 9 (.load1 (.t 8)), oD 3 (.buildSlice [] 4 0 []), oD 6 (.appendX 4 (.t 3) (.t 5)), oD 7 (.buildSlice [] 3 0 []), oD 10 (.append 3 (.t 7) (.t 9)),
      oD 11 (.build [.nilslice, .nilslice] [(0, 1, (.t 6)), (1, 1, (.t 10))]), oN (.store 2 (.t 2) (.t 11))]) .ret) [(1, .ptr b1 0), (2, .ptr b2 0)] h (Own h0 ns pl) := by
  have k1 := u.base _ _ g1
  have k2 := u.base _ _ g2
  have hle := u.le
  refine W_seq (W_opsK ?_)
  refine st_P (v := .ptr b1 0) rfl ?_
  refine st_P (ev_load1 (v := nv) rfl (getCell_of (h := h.bump 10) g1 0)) ?_
  refine st_P (v := .ptr b1 1) rfl ?_
  refine st_P (ev_load1 (v := pv) rfl (getCell_of (h := h.bump 10) g1 1)) ?_
  have u1 := u.bump 10
  have hnx : (h.bump 10).next = h.next + 10 := rfl
  refine st_D (v := .slice (h.next + 4) 0 0 4) (h' := (h.bump 10).set (h.next + 4) (some (.cells (.live []) []))) rfl ?_
  have u2 : Grow h0 ((h.bump 10).set (h.next + 4) (some (.cells (.live []) []))) := u1.set hb (by omega) (by omega)
  obtain ⟨c1, h3, a1, a2, a3, a4, a5, a6⟩ := append_copy (id := h.next + 5) (b := h.next + 4) (Heap.get_set_same _ _ _) (hn.ext u2.ext) ln (fun r hr => (hns r hr).one)
  refine st_D (v := .slice c1 0 ns.length 4) (h' := h3) a1 ?_
  have u3 : Grow h0 h3 := grow_append hb u2 (by omega) (by simp only [Heap.next_set]; omega) (by omega) (by simp only [Heap.next_set]; omega) a6
  have n3 : h3.next = h.next + 10 := by rw [a5]; rfl
  refine st_D (v := .slice (h.next + 6) 0 0 3) (h' := h3.set (h.next + 6) (some (.cells (.live []) []))) rfl ?_
  have u4 : Grow h0 (h3.set (h.next + 6) (some (.cells (.live []) []))) := u3.set hb (by omega) (by omega)
  obtain ⟨c2, h5, d1, d2, d3, d4, d5, d6⟩ := append_copy (id := h.next + 7) (b := h.next + 6) (Heap.get_set_same _ _ _) (hp.ext u4.ext) lp (fun r hr => (hpl r hr).one)
  refine st_D (v := .slice c2 0 pl.length 3) (h' := h5) (appendXA_append d1) ?_
  have u5 : Grow h0 h5 := grow_append hb u4 (by omega) (by simp only [Heap.next_set]; omega) (by omega) (by simp only [Heap.next_set]; omega) d6
  have n5 : h5.next = h.next + 10 := by rw [d5]; exact n3
  refine st_P (v := .agg [.slice c1 0 ns.length 4, .slice c2 0 pl.length 3]) rfl ?_
  have g5 : h5.get b2 = some (.cells (.live []) [.nilslice, .nilslice]) := by
    rw [d4 _ (by omega) (by omega), Heap.get_set_other _ _ (by omega), a4 _ (by omega) (by omega), Heap.get_set_other _ _ (by omega)]; exact g2
  refine st_N (ev_store (v := .agg [.slice c1 0 ns.length 4, .slice c2 0 pl.length 3]) rfl rfl rfl (setRow_of g5 rfl rfl)) (st_nil ?_)
  refine W_ret ⟨rfl, u5.set hb l2 (by omega), b2, _, _, rfl, Heap.get_set_same _ _ _, ?_, ?_, l2, by omega, by omega⟩
  · refine a3.same ?_
    rw [Heap.get_set_other _ _ (by omega), d4 _ (by omega) (by omega), Heap.get_set_other _ _ (by omega)]
  · refine d3.same ?_
    rw [Heap.get_set_other _ _ (by omega)]

theorem w14 {x : GCtx} {h0 h : Heap} {nv pv : AV} {ns pl : List (List AV)} (hb : Base h0) (u : Grow h0 h) (hn : Vw h0 nv 4 ns) (hp : Vw h0 pv 3 pl) (hns : ∀ r ∈ ns, IsNode r) (hpl : ∀ r ∈ pl, IsPl r) (ln : ns.length ≤ maxLen) (lp : pl.length ≤ maxLen) :
    W x none a14.body (initEnv 0 [.agg [nv, pv]]) h (Own h0 ns pl) := by
  have hle := u.le
  have u1 := u.bump 2
  have hnx : (h.bump 2).next = h.next + 2 := rfl
  refine W_seq (W_seq (W_ops ?_))
  refine st_D (v := .ptr h.next 0) (h' := (h.bump 2).set h.next (some (.cells (.live []) [nv, pv]))) rfl ?_
  refine st_D (v := .ptr (h.next + 1) 0) (h' := ((h.bump 2).set h.next (some (.cells (.live []) [nv, pv]))).set (h.next + 1) (some (.cells (.live []) [.nilslice, .nilslice]))) rfl (st_nil ?_)
  refine W_keep' [(1, .ptr h.next 0), (2, .ptr (h.next + 1) 0)] rfl ?_
  refine w14b hb ((u1.set hb (by omega) (by omega)).set hb (by omega) (by simp only [Heap.next_set]; omega)) hn hp hns hpl ln lp ?_ (Heap.get_set_same _ _ _) (by omega)
  rw [Heap.get_set_other _ _ (by omega)]; exact Heap.get_set_same _ _ _
end Go.Ab
/- OrderPages: stylusref23.Same. -/
namespace Go.Ab
set_option maxRecDepth 100000

theorem eq_int {k : IntKind} {a : Int} : eqA (.leaf .int) (.int k a) (.int k a) = some true := by simp [eqA, leafEq]
theorem eq_node {r : List AV} (h : IsNode r) : eqA (.agg [.int, .int, .int, .int]) (.agg r) (.agg r) = some true := by
  obtain ⟨_, _, _, _, rfl⟩ := h; simp [eqA, leafsEq, leafEq]
theorem eq_pl {r : List AV} (h : IsPl r) : eqA (.agg [.int, .int, .int]) (.agg r) (.agg r) = some true := by
  obtain ⟨_, _, _, rfl⟩ := h; simp [eqA, leafsEq, leafEq]

structure St11 (h0 h : Heap) (b2 b3 : Nat) (nv pv nv' pv' : AV) : Prop where
  u : Grow h0 h
  g2 : ∃ m, h.get b2 = some (.cells m [nv, pv])
  g3 : ∃ m, h.get b3 = some (.cells m [nv', pv'])
theorem St11.bump {h0 h : Heap} {b2 b3 : Nat} {nv pv nv' pv' : AV} (s : St11 h0 h b2 b3 nv pv nv' pv') (n : Nat) : St11 h0 (h.bump n) b2 b3 nv pv nv' pv' := ⟨s.u.bump n, s.g2, s.g3⟩
theorem St11.c2 {h0 h : Heap} {b2 b3 : Nat} {nv pv nv' pv' : AV} (s : St11 h0 h b2 b3 nv pv nv' pv') (i : Nat) : getCell h b2 i = [nv, pv][i]? := let ⟨_, hg⟩ := s.g2; getCell_of hg i
theorem St11.c3 {h0 h : Heap} {b2 b3 : Nat} {nv pv nv' pv' : AV} (s : St11 h0 h b2 b3 nv pv nv' pv') (i : Nat) : getCell h b3 i = [nv', pv'][i]? := let ⟨_, hg⟩ := s.g3; getCell_of hg i

def q11 (b2 b3 : Nat) (h0 : Heap) (nv pv nv' pv' : AV) (n : Nat) : Ex → Env → Heap → Prop := fun y e' h' => y = .exit n ∧ St11 h0 h' b2 b3 nv pv nv' pv' ∧ e'.get 2 = some (.ptr b2 0) ∧ e'.get 3 = some (.ptr b3 0)

theorem keep23 {e : Env} {a b : AV} (h2 : e.get 2 = some a) (h3 : e.get 3 = some b) (d : Nat) (hd : d ≠ 2 ∧ d ≠ 3) (v : AV) : Env.keep ((d, v) :: e) [2, 3, d] = [(2, a), (3, b), (d, v)] := by
  simp only [Env.keep_cons, Env.keep_nil, Env.get_cons, if_neg hd.1, if_neg hd.2, if_true, h2, h3]

theorem w11 {x : GCtx} {h0 h : Heap} {nv pv nv' pv' : AV} {ns pl : List (List AV)} (hb : Base h0) (u : Grow h0 h) (hn : Vw h0 nv 4 ns) (hp : Vw h0 pv 3 pl) (hn' : Vw h0 nv' 4 ns) (hp' : Vw h0 pv' 3 pl) (hns : ∀ r ∈ ns, IsNode r) (hpl : ∀ r ∈ pl, IsPl r) (ln : ns.length ≤ maxLen) (lp : pl.length ≤ maxLen) :
    W x none a11.body (initEnv 0 [.agg [nv, pv], .agg [nv', pv']]) h (fun y e' h' => y = .ret ∧ Grow h0 h' ∧ e'.get 4 = some (.bool true)) := by
  have hle := u.le
  have u1 := u.bump 3
  have hnx : (h.bump 3).next = h.next + 3 := rfl
  have hml : maxLen = 1073741824 := rfl
  refine W_seq (W_seq (W_ops ?_))
  refine st_D (v := .ptr h.next 0) (h' := (h.bump 3).set h.next (some (.cells (.live []) [nv, pv]))) rfl ?_
  refine st_D (v := .ptr (h.next + 1) 0) (h' := ((h.bump 3).set h.next (some (.cells (.live []) [nv, pv]))).set (h.next + 1) (some (.cells (.live []) [nv', pv']))) rfl ?_
  refine st_P (v := .bool false) rfl (st_nil ?_)
  refine W_keep' [(2, .ptr h.next 0), (3, .ptr (h.next + 1) 0)] rfl ?_
  have S : St11 h0 (((h.bump 3).set h.next (some (.cells (.live []) [nv, pv]))).set (h.next + 1) (some (.cells (.live []) [nv', pv']))) h.next (h.next + 1) nv pv nv' pv' :=
    ⟨(u1.set hb (by omega) (by omega)).set hb (by omega) (by simp only [Heap.next_set]; omega), ⟨_, by rw [Heap.get_set_other _ _ (by omega)]; exact Heap.get_set_same _ _ _⟩, ⟨_, Heap.get_set_same _ _ _⟩⟩
  revert S
  generalize ((h.bump 3).set h.next (some (.cells (.live []) [nv, pv]))).set (h.next + 1) (some (.cells (.live []) [nv', pv'])) = h1
  generalize h.next + 1 = b3
  generalize h.next = b2
  intro S
  refine W_seq (W_seq (W_seq (W_ops ?_)))
  have S1 := S.bump 16
  refine st_P (v := .ptr b2 0) rfl ?_
  refine st_P (ev_load1 (v := nv) rfl (S1.c2 0)) ?_
  refine st_P (ev_len (sv := nv) rfl hn) ?_
  refine st_P (v := .ptr b3 0) rfl ?_
  refine st_P (ev_load1 (v := nv') rfl (S1.c3 0)) ?_
  refine st_P (ev_len (sv := nv') rfl hn') ?_
  refine st_P (ev_eq rfl rfl eq_int) ?_
  refine st_P (v := .bool false) rfl ?_
  refine st_GP (w := false) rfl rfl (v := .ptr b2 1) rfl ?_
  refine st_GP (w := false) rfl rfl (ev_load1 (v := pv) rfl (S1.c2 1)) ?_
  refine st_GP (w := false) rfl rfl (ev_len (sv := pv) rfl hp) ?_
  refine st_GP (w := false) rfl rfl (v := .ptr b3 1) rfl ?_
  refine st_GP (w := false) rfl rfl (ev_load1 (v := pv') rfl (S1.c3 1)) ?_
  refine st_GP (w := false) rfl rfl (ev_len (sv := pv') rfl hp') ?_
  refine st_GP (w := false) rfl rfl (ev_eq rfl rfl eq_int) ?_
  refine st_P (v := .bool false) rfl (st_nil ?_)
  refine W_keep' [(2, .ptr b2 0), (3, .ptr b3 0), (22, .bool false)] rfl ?_
  refine W_cond rfl (W_skip ?_)
  -- the nodes
  refine W_seq (W_seq (W_seq (W_ops ?_)))
  refine st_P (v := .int .i64 0) rfl (st_nil ?_)
  refine W_keep' [(2, .ptr b2 0), (3, .ptr b3 0), (5, .int .i64 0)] rfl ?_
  refine W_blk ?_
  refine W_mono (Q := q11 b2 b3 h0 nv pv nv' pv' 0) ?_ (W_loop_inv (fun k e h' => ∃ i : Nat, i ≤ ns.length ∧ k = ns.length - i ∧ St11 h0 h' b2 b3 nv pv nv' pv' ∧ e = [(2, .ptr b2 0), (3, .ptr b3 0), (5, .int .i64 i)]) ?_ _ _ _ ⟨0, by omega, rfl, (S1.bump _), rfl⟩)
  · rintro y e' h2 ⟨rfl, S2, e2, e3⟩
    -- the places
    refine W_seq (W_seq (W_seq (W_ops ?_)))
    refine st_P (v := .int .i64 0) rfl (st_nil ?_)
    refine W_keep' [(2, .ptr b2 0), (3, .ptr b3 0), (6, .int .i64 0)] (keep23 e2 e3 6 (by omega) _) ?_
    refine W_blk ?_
    refine W_mono (Q := q11 b2 b3 h0 nv pv nv' pv' 2) ?_ (W_loop_inv (fun k e h' => ∃ i : Nat, i ≤ pl.length ∧ k = pl.length - i ∧ St11 h0 h' b2 b3 nv pv nv' pv' ∧ e = [(2, .ptr b2 0), (3, .ptr b3 0), (6, .int .i64 i)]) ?_ _ _ _ ⟨0, by omega, rfl, (S2.bump _), rfl⟩)
    · rintro y e' h2 ⟨rfl, S2, e2, e3⟩
      refine W_seq (W_seq (W_ops ?_))
      refine st_P (v := .bool true) rfl (st_nil ?_)
      refine W_keep' [(4, .bool true)] rfl ?_
      exact W_ret ⟨rfl, S2.u.bump _, rfl⟩
    · rintro k e h' ⟨i, hi, rfl, S, rfl⟩
      refine W_seq (W_keep' [(2, .ptr b2 0), (3, .ptr b3 0), (6, .int .i64 i)] rfl ?_)
      refine W_seq (W_seq (W_seq (W_ops ?_)))
      have S1 := S.bump 5
      refine st_P (v := .int .i64 i) rfl ?_
      refine st_P (v := .ptr b2 1) rfl ?_
      refine st_P (ev_load1 (v := pv) rfl (S1.c2 1)) ?_
      refine st_P (ev_len (sv := pv) rfl hp) ?_
      refine st_P (v := .bool (decide ((i : Int) < pl.length))) rfl (st_nil ?_)
      refine W_keep' [(2, .ptr b2 0), (3, .ptr b3 0), (6, .int .i64 i), (45, .bool (decide ((i : Int) < pl.length)))] rfl ?_
      by_cases hlt : (i : Int) < pl.length
      · rw [decide_eq_true hlt]
        refine W_cond rfl (W_skip ?_)
        refine W_seq (W_blk ?_)
        have hil : i < pl.length := by omega
        obtain ⟨b, t1, t2, _, hz⟩ := (hp.ext S1.u.ext).at hil
        obtain ⟨b', t1', t2', _, _⟩ := (hp'.ext S1.u.ext).at hil
        refine W_seq (W_opsK ?_)
        have S2 := S1.bump 11
        refine st_P (v := .ptr b2 1) rfl ?_
        refine st_P (ev_load1 (v := pv) rfl (S2.c2 1)) ?_
        refine st_P (v := .int .i64 i) rfl ?_
        refine st_P (t1 _ _ _ _ _ _ rfl rfl) ?_
        refine st_P (ev_loadN rfl t2) ?_
        refine st_P (v := .ptr b3 1) rfl ?_
        refine st_P (ev_load1 (v := pv') rfl (S2.c3 1)) ?_
        refine st_P (v := .int .i64 i) rfl ?_
        refine st_P (t1' _ _ _ _ _ _ rfl rfl) ?_
        refine st_P (ev_loadN rfl t2') ?_
        refine st_P (ev_eq rfl rfl (eq_pl (hpl _ (List.getElem_mem hil)))) (st_nil ?_)
        refine W_cond (b := false) rfl (W_skip ?_)
        refine W_seq (W_ops ?_)
        refine st_P (v := .int .i64 i) rfl ?_
        refine st_P (bin_add (c := (i + 1 : Nat)) rfl rfl (.inl ⟨rfl, by omega⟩) (by omega) (by omega)) ?_
        refine st_P (v := .int .i64 (i + 1 : Nat)) rfl (st_nil ?_)
        refine W_keep' [(2, .ptr b2 0), (3, .ptr b3 0), (6, .int .i64 (i + 1 : Nat))] rfl ?_
        exact ⟨_, by omega, i + 1, by omega, rfl, S2.bump _, rfl⟩
      · rw [decide_eq_false hlt]
        exact W_cond rfl (W_exit ⟨rfl, S1, rfl, rfl⟩)
  · rintro k e h' ⟨i, hi, rfl, S, rfl⟩
    refine W_seq (W_keep' [(2, .ptr b2 0), (3, .ptr b3 0), (5, .int .i64 i)] rfl ?_)
    refine W_seq (W_seq (W_seq (W_ops ?_)))
    have S1 := S.bump 5
    refine st_P (v := .int .i64 i) rfl ?_
    refine st_P (v := .ptr b2 0) rfl ?_
    refine st_P (ev_load1 (v := nv) rfl (S1.c2 0)) ?_
    refine st_P (ev_len (sv := nv) rfl hn) ?_
    refine st_P (v := .bool (decide ((i : Int) < ns.length))) rfl (st_nil ?_)
    refine W_keep' [(2, .ptr b2 0), (3, .ptr b3 0), (5, .int .i64 i), (27, .bool (decide ((i : Int) < ns.length)))] rfl ?_
    by_cases hlt : (i : Int) < ns.length
    · rw [decide_eq_true hlt]
      refine W_cond rfl (W_skip ?_)
      refine W_seq (W_blk ?_)
      have hil : i < ns.length := by omega
      obtain ⟨b, t1, t2, _, hz⟩ := (hn.ext S1.u.ext).at hil
      obtain ⟨b', t1', t2', _, _⟩ := (hn'.ext S1.u.ext).at hil
      refine W_seq (W_opsK ?_)
      have S2 := S1.bump 11
      refine st_P (v := .ptr b2 0) rfl ?_
      refine st_P (ev_load1 (v := nv) rfl (S2.c2 0)) ?_
      refine st_P (v := .int .i64 i) rfl ?_
      refine st_P (t1 _ _ _ _ _ _ rfl rfl) ?_
      refine st_P (ev_loadN rfl t2) ?_
      refine st_P (v := .ptr b3 0) rfl ?_
      refine st_P (ev_load1 (v := nv') rfl (S2.c3 0)) ?_
      refine st_P (v := .int .i64 i) rfl ?_
      refine st_P (t1' _ _ _ _ _ _ rfl rfl) ?_
      refine st_P (ev_loadN rfl t2') ?_
      refine st_P (ev_eq rfl rfl (eq_node (hns _ (List.getElem_mem hil)))) (st_nil ?_)
      refine W_cond (b := false) rfl (W_skip ?_)
      refine W_seq (W_ops ?_)
      refine st_P (v := .int .i64 i) rfl ?_
      refine st_P (bin_add (c := (i + 1 : Nat)) rfl rfl (.inl ⟨rfl, by omega⟩) (by omega) (by omega)) ?_
      refine st_P (v := .int .i64 (i + 1 : Nat)) rfl (st_nil ?_)
      refine W_keep' [(2, .ptr b2 0), (3, .ptr b3 0), (5, .int .i64 (i + 1 : Nat))] rfl ?_
      exact ⟨_, by omega, i + 1, by omega, rfl, S2.bump _, rfl⟩
    · rw [decide_eq_false hlt]
      exact W_cond rfl (W_exit ⟨rfl, S1, rfl, rfl⟩)
end Go.Ab
/- OrderPages: order.Index. -/
namespace Go.Ab
set_option maxRecDepth 100000

abbrev tgP : EqT := .agg [.int, .int, .int]
theorem eq_pl2 {r r' : List AV} (h : IsPl r) (h' : IsPl r') : ∃ t, eqA tgP (.agg r) (.agg r') = some t ∧ (t = true ↔ r = r') := by
  obtain ⟨a, b, c, rfl⟩ := h
  obtain ⟨a', b', c', rfl⟩ := h'
  refine ⟨(a == a') && ((b == b') && ((c == c') && true)), by simp [eqA, leafsEq, leafEq], ?_⟩
  simp only [Bool.and_eq_true, beq_iff_eq, Bool.and_true, List.cons.injEq, AV.int.injEq, true_and, and_true]

theorem findKeyA_append {tg : EqT} {k : AV} (es2 : List (AV × AV)) : ∀ (es : List (AV × AV)) (i : Nat), findKeyA tg k (es ++ es2) i = match findKeyA tg k es i with
    | some none => findKeyA tg k es2 (i + es.length)
    | r => r
  | [], i => by simp [findKeyA]
  | (k', v) :: es, i => by
    simp only [List.cons_append, findKeyA, List.length_cons]
    cases eqA tg k k' with
    | none => rfl
    | some t => cases t with
      | true => rfl
      | false => dsimp only; rw [findKeyA_append es2 es (i + 1), show i + 1 + es.length = i + (es.length + 1) by omega]

/-- r stands first at j. -/
def At1 (pl : List (List AV)) (r : List AV) (j : Nat) : Prop := pl[j]? = some r ∧ ∀ k, k < j → pl[k]? ≠ some r
/-- The index of the first i places. -/
def LookOK (pl : List (List AV)) (i : Nat) (es : List (AV × AV)) : Prop := ∀ r, IsPl r →
  (∃ p j, j < i ∧ At1 pl r j ∧ findKeyA tgP (.agg r) es 0 = some (some (p, .int .i64 j))) ∨ ((∀ k, k < i → pl[k]? ≠ some r) ∧ findKeyA tgP (.agg r) es 0 = some none)
open Classical in
/-- How many different places stand among the first i. -/
noncomputable def cnt (pl : List (List AV)) : Nat → Nat
  | 0 => 0
  | i + 1 => if ∃ k, k < i ∧ pl[k]? = pl[i]? then cnt pl i else cnt pl i + 1

theorem LookOK.nil (pl : List (List AV)) : LookOK pl 0 [] := fun r _ => .inr ⟨fun k hk => by omega, rfl⟩
theorem LookOK.old {pl : List (List AV)} {i : Nat} {es : List (AV × AV)} (h : LookOK pl i es) {j : Nat} {r : List AV} (hr : pl[i]? = some r) (hj : j < i) (hj2 : pl[j]? = some r) : LookOK pl (i + 1) es := fun r' hr' => by
  rcases h r' hr' with ⟨p, j', h1, h2, h3⟩ | ⟨h1, h2⟩
  · exact .inl ⟨p, j', by omega, h2, h3⟩
  · refine .inr ⟨fun k hk he => ?_, h2⟩
    by_cases hki : k = i
    · subst hki
      rw [hr] at he
      cases he
      exact h1 j hj hj2
    · exact h1 k (by omega) he
theorem LookOK.new {pl : List (List AV)} {i : Nat} {es : List (AV × AV)} (h : LookOK pl i es) {r : List AV} (hr : pl[i]? = some r) (hp : IsPl r) (hn : ∀ k, k < i → pl[k]? ≠ some r) : LookOK pl (i + 1) (es ++ [(.agg r, .int .i64 i)]) := fun r' hr' => by
  rw [findKeyA_append]
  rcases h r' hr' with ⟨p, j', h1, h2, h3⟩ | ⟨h1, h2⟩
  · exact .inl ⟨p, j', by omega, h2, by rw [h3]⟩
  · rw [h2]
    obtain ⟨t, e1, e2⟩ := eq_pl2 hr' hp
    simp only [findKeyA, e1]
    cases t with
    | true =>
      have := e2.1 rfl
      subst this
      exact .inl ⟨_, i, by omega, ⟨hr, hn⟩, rfl⟩
    | false =>
      refine .inr ⟨fun k hk he => ?_, rfl⟩
      by_cases hki : k = i
      · subst hki
        rw [hr] at he
        cases he
        cases e2.2 rfl
      · exact h1 k (by omega) he

def e15 (bm : Nat) (pv : AV) (n i : Int) : Env := [(3, .map bm), (10, pv), (11, .int .i64 n), (12, .int .i64 i)]
structure St15 (h0 h : Heap) (pl : List (List AV)) (bm i : Nat) : Prop where
  u : Grow h0 h
  fresh : h0.next ≤ bm
  map : ∃ es, h.get bm = some (.map es) ∧ LookOK pl i es ∧ es.length = cnt pl i
theorem St15.bump {h0 h : Heap} {pl : List (List AV)} {bm i : Nat} (s : St15 h0 h pl bm i) (n : Nat) : St15 h0 (h.bump n) pl bm i := ⟨s.u.bump n, s.fresh, s.map⟩
def i15 (h0 : Heap) (pl : List (List AV)) (pv : AV) (bm : Nat) (k : Nat) (e : Env) (h' : Heap) : Prop := ∃ i : Nat, i ≤ pl.length ∧ k = pl.length - i ∧ St15 h0 h' pl bm i ∧ e = e15 bm pv pl.length i

theorem w15 {x : GCtx} {h0 h : Heap} {nv pv : AV} {pl : List (List AV)} (hb : Base h0) (u : Grow h0 h) (hp : Vw h0 pv 3 pl) (hpl : ∀ r ∈ pl, IsPl r) (lp : pl.length ≤ maxLen) :
    W x none a15.body (initEnv 0 [.agg [nv, pv]]) h (fun y e' h' => y = .ret ∧ ∃ bm, e'.get 2 = some (.map bm) ∧ St15 h0 h' pl bm pl.length) := by
  have hle := u.le
  have u1 := u.bump 2
  have hnx : (h.bump 2).next = h.next + 2 := rfl
  have hml : maxLen = 1073741824 := rfl
  refine W_seq (W_seq (W_ops ?_))
  refine st_D (v := .ptr h.next 0) (h' := (h.bump 2).set h.next (some (.cells (.live []) [nv, pv]))) rfl ?_
  refine st_P (v := .nilmap) rfl (st_nil ?_)
  refine W_keep' [(1, .ptr h.next 0)] rfl ?_
  have u2 : Grow h0 ((h.bump 2).set h.next (some (.cells (.live []) [nv, pv]))) := u1.set hb (by omega) (by omega)
  have g2 : ((h.bump 2).set h.next (some (.cells (.live []) [nv, pv]))).get h.next = some (.cells (.live []) [nv, pv]) := Heap.get_set_same _ _ _
  have n2 : ((h.bump 2).set h.next (some (.cells (.live []) [nv, pv]))).next = h.next + 2 := rfl
  revert u2 g2 n2
  generalize (h.bump 2).set h.next (some (.cells (.live []) [nv, pv])) = h2
  intro u2 g2 n2
  refine W_seq (W_seq (W_ops ?_))
  refine st_D (v := .map h2.next) (h' := (h2.bump 2).set h2.next (some (.map []))) rfl ?_
  refine st_P (v := .map h2.next) rfl (st_nil ?_)
  refine W_keep' [(1, .ptr h.next 0), (3, .map h2.next)] rfl ?_
  have S3 : St15 h0 ((h2.bump 2).set h2.next (some (.map []))) pl h2.next 0 := ⟨(u2.bump 2).set hb (by omega) (by simp only [Heap.next_bump]; omega), by omega, [], Heap.get_set_same _ _ _, LookOK.nil _, rfl⟩
  have g3 : ((h2.bump 2).set h2.next (some (.map []))).get h.next = some (.cells (.live []) [nv, pv]) := by rw [Heap.get_set_other _ _ (by omega)]; exact g2
  revert S3 g3
  generalize (h2.bump 2).set h2.next (some (.map [])) = h3
  generalize h2.next = bm
  generalize h.next = b1
  intro S3 g3
  refine W_seq (W_seq (W_seq (W_ops ?_)))
  have S4 := S3.bump 4
  refine st_P (v := .ptr b1 1) rfl ?_
  refine st_P (ev_load1 (v := pv) rfl (getCell_of (h := h3.bump 4) g3 1)) ?_
  refine st_P (ev_len (sv := pv) rfl hp) ?_
  refine st_P (v := .int .i64 0) rfl (st_nil ?_)
  refine W_keep' (e15 bm pv pl.length 0) rfl ?_
  refine W_blk ?_
  refine W_mono (Q := fun y e' h' => y = .exit 0 ∧ St15 h0 h' pl bm pl.length ∧ e'.get 3 = some (.map bm)) ?_ (W_loop_inv (i15 h0 pl pv bm) ?_ _ _ _ ⟨0, by omega, rfl, S4, rfl⟩)
  · rintro y e' h' ⟨rfl, S, e3⟩
    refine W_seq (W_seq (W_ops ?_))
    refine st_P (v := .map bm) ?_ ?_
    · simp only [aeval, op_mov, Env.src, e3]
    refine st_P (v := .map bm) rfl (st_nil ?_)
    refine W_keep' [(2, .map bm)] rfl ?_
    exact W_ret ⟨rfl, bm, rfl, S.bump _⟩
  · rintro k e h' ⟨i, hi, rfl, S, rfl⟩
    refine W_seq (W_keep' (e15 bm pv pl.length i) rfl ?_)
    refine W_seq (W_seq (W_ops ?_))
    have S1 := S.bump 1
    refine st_P (v := .bool (decide ((i : Int) < pl.length))) rfl (st_nil ?_)
    refine W_keep' [(3, .map bm), (10, pv), (11, .int .i64 pl.length), (12, .int .i64 i), (13, .bool (decide ((i : Int) < pl.length)))] rfl ?_
    by_cases hlt : (i : Int) < pl.length
    · rw [decide_eq_true hlt]
      refine W_seq (W_cond rfl (W_skip ?_))
      have hil : i < pl.length := by omega
      obtain ⟨b, t1, t2, _, hz⟩ := (hp.ext S1.u.ext).at hil
      have hri : IsPl pl[i] := hpl _ (List.getElem_mem hil)
      have hpi : pl[i]? = some pl[i] := List.getElem?_eq_getElem hil
      revert t2 hz hri hpi
      generalize pl[i] = r
      intro t2 hz hri hpi
      refine W_seq (W_blk ?_)
      refine W_seq (W_seq (W_ops ?_))
      have S2 := S1.bump 6
      have n2 : ((h'.bump 1).bump 6).next = h'.next + 7 := rfl
      refine st_P (v := .int .i64 i) rfl ?_
      refine st_P (t1 _ _ _ _ _ _ rfl rfl) ?_
      refine st_P (ev_loadN rfl t2) ?_
      refine st_D (v := .ptr (h'.next + 4) 0) (h' := ((h'.bump 1).bump 6).set (h'.next + 4) (some (.cells (.live []) [(.int .i64 0), (.int .i64 0), (.int .i64 0)]))) rfl ?_
      refine st_P (v := .int .i64 i) rfl ?_
      refine st_N (h' := (((h'.bump 1).bump 6).set (h'.next + 4) (some (.cells (.live []) [(.int .i64 0), (.int .i64 0), (.int .i64 0)]))).set (h'.next + 4) (some (.cells (.live []) r))) (ev_store (v := .agg r) rfl rfl hz (setRow_of (Heap.get_set_same _ _ _) hz hri.one)) (st_nil ?_)
      refine W_keep' [(3, .map bm), (4, .int .i64 i), (5, .ptr (h'.next + 4) 0), (10, pv), (11, .int .i64 pl.length), (12, .int .i64 i)] rfl ?_
      obtain ⟨es, m1, m2, m3⟩ := S2.map
      have hbm : bm < h'.next + 4 := by have := S.u.base _ _ (show h'.get bm = some (.map es) from m1); omega
      have hfr := S.fresh
      have hle' := S.u.le
      have S3 : St15 h0 ((((h'.bump 1).bump 6).set (h'.next + 4) (some (.cells (.live []) [(.int .i64 0), (.int .i64 0), (.int .i64 0)]))).set (h'.next + 4) (some (.cells (.live []) r))) pl bm i :=
        ⟨(S2.u.set hb (by omega) (by omega)).set hb (by omega) (by simp only [Heap.next_set]; omega), hfr, es, by rw [Heap.get_set_other _ _ (by omega), Heap.get_set_other _ _ (by omega)]; exact m1, m2, m3⟩
      have g5 : ((((h'.bump 1).bump 6).set (h'.next + 4) (some (.cells (.live []) [(.int .i64 0), (.int .i64 0), (.int .i64 0)]))).set (h'.next + 4) (some (.cells (.live []) r))).get (h'.next + 4) = some (.cells (.live []) r) := Heap.get_set_same _ _ _
      have m1' : ((((h'.bump 1).bump 6).set (h'.next + 4) (some (.cells (.live []) [(.int .i64 0), (.int .i64 0), (.int .i64 0)]))).set (h'.next + 4) (some (.cells (.live []) r))).get bm = some (.map es) := by
        rw [Heap.get_set_other _ _ (by omega), Heap.get_set_other _ _ (by omega)]; exact m1
      revert S3 g5 m1' hbm
      generalize (((h'.bump 1).bump 6).set (h'.next + 4) (some (.cells (.live []) [(.int .i64 0), (.int .i64 0), (.int .i64 0)]))).set (h'.next + 4) (some (.cells (.live []) r)) = h3
      generalize h'.next + 4 = b5
      intro hbm S3 g5 m1
      have hrow : ∀ n, getRow (h3.bump n) b5 0 3 = some r := fun n => by
        have := getRow_of (h := h3.bump n) g5
        rwa [hz] at this
      -- the look-up
      have hfit : keyFits tgP (.agg r) = true := by simp [keyFits, hz]
      have hcnt : (∃ k, k < i ∧ pl[k]? = pl[i]?) → cnt pl (i + 1) = cnt pl i := fun hh => by unfold cnt; rw [if_pos hh]; cases i <;> rfl
      have hcnt' : (¬ ∃ k, k < i ∧ pl[k]? = pl[i]?) → cnt pl (i + 1) = cnt pl i + 1 := fun hh => by
        conv => lhs; unfold cnt
        rw [if_neg hh]
      have fin : ∀ (h1 : Heap) (e1 : Env), St15 h0 h1 pl bm (i + 1) → e1.get 3 = some (.map bm) → e1.get 10 = some pv → e1.get 11 = some (.int .i64 pl.length) → e1.get 12 = some (.int .i64 i) → W x none (.seq (.ops none [oD 28 (.bin .add (.t 12) (.k (.int .i64 1))), oD 12 (.mov (.t 28))]) (.keep [3, 10, 11, 12])) e1 h1
          (fun y e' h' => match y with | .normal => ∃ k', k' < pl.length - i ∧ i15 h0 pl pv bm k' e' h' | y => y = .exit 0 ∧ St15 h0 h' pl bm pl.length ∧ e'.get 3 = some (.map bm)) := by
        intro h1 e1 S1 g3 g10 g11 g12
        refine W_seq (W_ops ?_)
        refine st_P (bin_add (c := (i + 1 : Nat)) g12 rfl (.inl ⟨rfl, by omega⟩) (by omega) (by omega)) ?_
        refine st_P (v := .int .i64 (i + 1 : Nat)) rfl (st_nil ?_)
        refine W_keep' (e15 bm pv pl.length (i + 1 : Nat)) ?_ ?_
        · simp only [Env.keep_cons, Env.keep_nil, Env.get_cons, Nat.reduceEqDiff, if_false, if_true, g3, g10, g11]
          rfl
        exact ⟨_, by omega, i + 1, by omega, rfl, S1.bump _, rfl⟩
      rcases m2 r hri with ⟨p, j, hj, hj1, hf⟩ | ⟨hno, hf⟩
      · -- known already
        have hlk : lookupA (h3.bump 8) tgP (.int .i64 0) true (.map bm) (.agg r) = some (.tuple [.int .i64 j, .bool true]) := by
          unfold lookupA mapEs
          simp only [Heap.get_bump, m1, lookIn, hfit, hf]
          rfl
        refine W_seq (W_seq (W_ops ?_))
        refine st_P (v := .map bm) rfl ?_
        refine st_P (ev_loadN rfl (hrow 8)) ?_
        refine st_P (ev_lookup rfl rfl hlk) ?_
        refine st_P (v := .tuple [.int .i64 j, .bool true]) rfl ?_
        refine st_P (v := .int .i64 j) rfl ?_
        refine st_P (v := .bool true) rfl ?_
        refine st_P (v := .int .i64 j) rfl ?_
        refine st_P (v := .bool true) rfl (st_nil ?_)
        refine W_keep' [(3, .map bm), (4, .int .i64 i), (5, .ptr b5 0), (7, .bool true), (10, pv), (11, .int .i64 pl.length), (12, .int .i64 i)] rfl ?_
        refine W_seq (W_seq (W_ops ?_))
        refine st_P (v := .bool true) rfl ?_
        refine st_P (v := .bool false) rfl (st_nil ?_)
        refine W_keep' [(3, .map bm), (4, .int .i64 i), (5, .ptr b5 0), (10, pv), (11, .int .i64 pl.length), (12, .int .i64 i), (24, .bool false)] rfl ?_
        refine W_cond (b := false) rfl (W_skip ?_)
        refine fin _ _ ⟨(S3.u.bump _).bump _, hfr, es, m1, m2.old hpi hj hj1.1, by rw [m3, hcnt ⟨j, hj, by rw [hj1.1, hpi]⟩]⟩ rfl rfl rfl rfl
      · -- a new one
        have hlk : lookupA (h3.bump 8) tgP (.int .i64 0) true (.map bm) (.agg r) = some (.tuple [.int .i64 0, .bool false]) := by
          unfold lookupA mapEs
          simp only [Heap.get_bump, m1, lookIn, hfit, hf]
          rfl
        refine W_seq (W_seq (W_ops ?_))
        refine st_P (v := .map bm) rfl ?_
        refine st_P (ev_loadN rfl (hrow 8)) ?_
        refine st_P (ev_lookup rfl rfl hlk) ?_
        refine st_P (v := .tuple [.int .i64 0, .bool false]) rfl ?_
        refine st_P (v := .int .i64 0) rfl ?_
        refine st_P (v := .bool false) rfl ?_
        refine st_P (v := .int .i64 0) rfl ?_
        refine st_P (v := .bool false) rfl (st_nil ?_)
        refine W_keep' [(3, .map bm), (4, .int .i64 i), (5, .ptr b5 0), (7, .bool false), (10, pv), (11, .int .i64 pl.length), (12, .int .i64 i)] rfl ?_
        refine W_seq (W_seq (W_ops ?_))
        refine st_P (v := .bool false) rfl ?_
        refine st_P (v := .bool true) rfl (st_nil ?_)
        refine W_keep' [(3, .map bm), (4, .int .i64 i), (5, .ptr b5 0), (10, pv), (11, .int .i64 pl.length), (12, .int .i64 i), (24, .bool true)] rfl ?_
        refine W_cond (b := true) rfl ?_
        refine W_seq (W_ops ?_)
        refine st_P (v := .map bm) rfl ?_
        refine st_P (ev_loadN rfl (hrow 14)) ?_
        refine st_P (v := .int .i64 i) rfl ?_
        have hup : mapUpdateA (((h3.bump 8).bump 2).bump 4) tgP (.map bm) (.agg r) (.int .i64 i) = some ((((h3.bump 8).bump 2).bump 4).set bm (some (.map (es ++ [(.agg r, .int .i64 i)])))) := by
          unfold mapUpdateA
          simp only [Heap.get_bump, m1, hfit, hf]
          rfl
        refine st_N (ev_mapUpdate rfl rfl rfl hup) (st_nil ?_)
        refine W_keep' (e15 bm pv pl.length i) rfl ?_
        have hb3 := S3.u.base _ _ m1
        refine fin _ _ ⟨(((S3.u.bump 8).bump 2).bump 4).set hb hfr (by simp only [Heap.next_bump]; omega), hfr, _, Heap.get_set_same _ _ _, m2.new hpi hri hno, ?_⟩ rfl rfl rfl rfl
        rw [List.length_append, m3, hcnt' (fun ⟨k, hk, hk2⟩ => hno k hk (by rw [hk2, hpi]))]
        rfl
    · rw [decide_eq_false hlt]
      refine W_seq (W_cond rfl (W_exit ⟨rfl, ?_, rfl⟩))
      have hh : i = pl.length := by omega
      rw [hh] at S1
      exact S1
end Go.Ab
/- OrderPages: the law. -/
namespace Go.Ab
set_option maxRecDepth 100000

abbrev X4 : GCtx := gx ss12 tree
theorem aw4 {h : Heap} {K : AV → Heap → Prop} (hk : K (.bool true) (h.bump 0)) : callW X4 (.func (.fn 7) [] []) [] h K :=
  callW_sum (s := tableS t7) rfl ⟨e7_0, List.mem_cons_self, [], rfl, hk⟩

structure Args4 (h : Heap) (tv pv nv qv : AV) (ts ps ns pl : List (List AV)) : Prop where
  t : Vw h tv 3 ts
  p : Vw h pv 1 ps
  n : Vw h nv 4 ns
  q : Vw h qv 3 pl
  it : ∀ r ∈ ts, IsTok r
  ip : ∀ r ∈ ps, IsInt r
  is : ∀ r ∈ ns, IsNode r
  iq : ∀ r ∈ pl, IsPl r
  ln : ns.length ≤ maxLen
theorem Args4.ext {h h' : Heap} {tv pv nv qv : AV} {ts ps ns pl : List (List AV)} (a : Args4 h tv pv nv qv ts ps ns pl) (hx : h.Ext h') : Args4 h' tv pv nv qv ts ps ns pl := ⟨a.t.ext hx, a.p.ext hx, a.n.ext hx, a.q.ext hx, a.it, a.ip, a.is, a.iq, a.ln⟩

def QT : Ex → Env → Heap → Prop := fun y e' _ => y = .ret ∧ e'.get 8 = some (.bool true)

def e4 (tv pv : AV) (off : Int) (b7 b9 bm : Nat) (n i : Int) : Env := [(0, tv), (1, pv), (2, .int .i64 off), (7, .ptr b7 0), (9, .ptr b9 0), (10, .map bm), (11, .int .i64 n), (12, .int .i64 i)]

/-- What lies there while the loop runs. -/
structure St4 (h1 h : Heap) (pl : List (List AV)) (b7 b9 bm : Nat) (nv qv cv dv : AV) : Prop where
  s : St15 h1 h pl bm pl.length
  g7 : ∃ m, h.get b7 = some (.cells m [nv, qv])
  g9 : ∃ m, h.get b9 = some (.cells m [cv, dv])
theorem St4.bump {h1 h : Heap} {pl : List (List AV)} {b7 b9 bm : Nat} {nv qv cv dv : AV} (s : St4 h1 h pl b7 b9 bm nv qv cv dv) (n : Nat) : St4 h1 (h.bump n) pl b7 b9 bm nv qv cv dv := ⟨s.s.bump n, s.g7, s.g9⟩
theorem St4.c7 {h1 h : Heap} {pl : List (List AV)} {b7 b9 bm : Nat} {nv qv cv dv : AV} (s : St4 h1 h pl b7 b9 bm nv qv cv dv) : getCell h b7 1 = some qv := let ⟨_, hg⟩ := s.g7; getCell_of hg 1

/-- The end: all is compared. -/
theorem w4c {h1 h : Heap} {tv pv nv qv cv dv : AV} {ts ps ns pl : List (List AV)} {off : Int} {b7 b9 bm i : Nat} (a : Args4 h1 tv pv nv qv ts ps ns pl) (hc : Vw h1 cv 4 ns) (hd : Vw h1 dv 3 pl) (S : St4 h1 h pl b7 b9 bm nv qv cv dv) (lt : ts.length ≤ 250) (lp : ps.length ≤ 250) (lq : pl.length ≤ 300) :
    W X4 none (.seq (.seq (.ops none [oD 84 (.mov (.t 0)),
 oD 85 (.mov (.t 1)),
 oD 86 (.mov (.t 2)),
 oD 87 (.call 16 [(.t 84), (.t 85), (.t 86)]),
 oD 88 (.mov (.t 0)),
 oD 89 (.mov (.t 1)),
 oD 90 (.mov (.t 2)),
 oD 91 (.call 17 [(.t 88), (.t 89), (.t 90)]),
 oD 92 (.eq false (.leaf .int) (.t 87) (.t 91)),
 oD 93 (.mov (.t 92)),
 oG 94 93 true (.mov (.t 10)),
 oG 95 93 true (.len .map (.t 94)),
 oG 96 93 true (.mov (.t 11)),
 oG 97 93 true (.eq false (.leaf .int) (.t 95) (.t 96)),
 oD 98 (.pick (.t 93) (.t 97) (.k (.bool false))),
 oD 99 (.mov (.t 98)),
 oG 100 99 true (.loadN 2 (.t 9)),
 oG 101 99 true (.loadN 2 (.t 7)),
 oG 102 99 true (.call 11 [(.t 100), (.t 101)]),
 oD 103 (.pick (.t 99) (.t 102) (.k (.bool false))),
 oD 104 (.mov (.t 103)),
 oG 105 104 true (.call 7 []),
 oD 106 (.pick (.t 104) (.t 105) (.k (.bool false))),
 oD 8 (.mov (.t 106))])
 (.keep [8]))
 .ret) (e4 tv pv off b7 b9 bm (cnt pl pl.length) i ++ [(40, .bool false)]) h QT := by
  have hml : maxLen = 1073741824 := rfl
  refine W_seq (W_seq (W_ops ?_))
  refine st_P (v := tv) rfl ?_
  refine st_P (v := pv) rfl ?_
  refine st_P (v := .int .i64 off) rfl ?_
  have uB : Grow h1 (h.bump 24) := S.s.u.bump 24
  have aB := a.ext uB.ext
  refine st_call (vs := [tv, pv, .int .i64 off]) rfl (callW_fn (F := a16) rfl rfl (W_mono ?_ (w16 (h0 := h.bump 24) aB.t aB.p aB.it aB.ip lt lp (.refl uB.base)))) callW_Mono
  rintro y e' h2 ⟨rfl, e6, u2⟩
  simp only [a16, ressA, resA, e6, packRes]
  clear e6 e'
  refine st_P (v := tv) rfl ?_
  refine st_P (v := pv) rfl ?_
  refine st_P (v := .int .i64 off) rfl ?_
  have a2 := aB.ext u2.ext
  refine st_call (vs := [tv, pv, .int .i64 off]) rfl (callW_fn (F := a17) rfl rfl (W_mono ?_ (w17 (h0 := h2) a2.t a2.p a2.it a2.ip lt (.refl u2.base)))) callW_Mono
  rintro y e' h3 ⟨rfl, e6, u3⟩
  simp only [a17, ressA, resA, e6, packRes]
  clear e6 e'
  have u3' := uB.trans (u2.trans u3)
  have x3 : (h.bump 24).Ext h3 := u2.ext.trans u3.ext
  obtain ⟨es, m1, m2, m3⟩ := S.s.map
  obtain ⟨md7, g7⟩ := S.g7
  obtain ⟨md9, g9⟩ := S.g9
  have m1 := x3 _ _ m1
  have g7 := x3 _ _ g7
  have g9 := x3 _ _ g9
  refine st_P (ev_eq rfl rfl eq_int) ?_
  refine st_P (v := .bool true) rfl ?_
  refine st_GP (w := true) rfl rfl (v := .map bm) rfl ?_
  refine st_GP (w := true) rfl rfl (v := .int .i64 es.length) ?_ ?_
  · simp only [aeval, op_len, Env.src, Env.get_cons, if_true, lenA, m1]
  refine st_GP (w := true) rfl rfl (v := .int .i64 (cnt pl pl.length)) rfl ?_
  refine st_GP (w := true) rfl rfl (ev_eq rfl rfl (by rw [m3]; exact eq_int)) ?_
  refine st_P (v := .bool true) rfl ?_
  refine st_P (v := .bool true) rfl ?_
  refine st_GP (w := true) rfl rfl (ev_loadN rfl (getRow_of g9)) ?_
  refine st_GP (w := true) rfl rfl (ev_loadN rfl (getRow_of g7)) ?_
  refine st_Gcall (w := true) (vs := [.agg [cv, dv], .agg [nv, qv]]) rfl rfl rfl (callW_fn (F := a11) rfl rfl (W_mono ?_ (w11 (h0 := h3) u3.base (.refl u3.base) (hc.ext u3'.ext) (hd.ext u3'.ext) (a.n.ext u3'.ext) (a.q.ext u3'.ext) a.is a.iq a.ln (by omega)))) callW_Mono
  rintro y e' h4 ⟨rfl, u4, e4'⟩
  simp only [a11, ressA, resA, e4', packRes]
  clear e4' e'
  refine st_P (v := .bool true) rfl ?_
  refine st_P (v := .bool true) rfl ?_
  refine st_Gcall (w := true) (vs := []) rfl rfl rfl (aw4 ?_) callW_Mono
  refine st_P (v := .bool true) rfl ?_
  refine st_P (v := .bool true) rfl (st_nil ?_)
  refine W_keep' [(8, .bool true)] rfl ?_
  exact W_ret ⟨rfl, rfl⟩

/-! ### The loop -/
theorem At1.unique {pl : List (List AV)} {r : List AV} {j k : Nat} (h : At1 pl r j) (g : At1 pl r k) : j = k := by
  rcases Nat.lt_trichotomy j k with hh | hh | hh
  · exact absurd h.1 (g.2 j hh)
  · exact hh
  · exact absurd g.1 (h.2 k hh)

def inner4 : AC := .loop (.seq (.keep [0, 1, 2, 7, 9, 10, 11, 12, 13, 14])
 (.seq (.seq (.seq (.ops none [oD 46 (.mov (.t 14)),
 oD 47 (.bin .geq (.t 46) (.k (.int .i64 0)))])
 (.keep [0, 1, 2, 7, 9, 10, 11, 12, 13, 14, 47]))
 (.cond (.t 47) .skip
 (.exit 2)))
 (.seq (.block 3 (.seq (.ops (some [0, 1, 2, 7, 9, 10, 11, 12, 13, 14, 60]) [oD 50 (.fieldAddr 1 (.t 7)),
 oD 51 (.load1 (.t 50)),
 oD 52 (.mov (.t 14)),
 oD 53 (.idxSl 3 (.t 51) (.t 52)),
 oD 54 (.loadN 3 (.t 53)),
 oD 55 (.fieldAddr 1 (.t 7)),
 oD 56 (.load1 (.t 55)),
 oD 57 (.mov (.t 12)),
 oD 58 (.idxSl 3 (.t 56) (.t 57)),
 oD 59 (.loadN 3 (.t 58)),
 oD 60 (.eq false (.agg [.int, .int, .int]) (.t 54) (.t 59))])
 (.cond (.t 60) (.seq (.ops none [oD 61 (.mov (.t 14)),
 oD 13 (.mov (.t 61))])
 (.keep [0, 1, 2, 7, 9, 10, 11, 12, 13, 14]))
 .skip)))
 (.seq (.ops none [oD 48 (.mov (.t 14)),
 oD 49 (.bin .sub (.t 48) (.k (.int .i64 1))),
 oD 14 (.mov (.t 49))])
 (.keep [0, 1, 2, 7, 9, 10, 11, 12, 13, 14])))))

section
variable {h1 : Heap} {tv pv nv qv cv dv : AV} {ts ps ns pl : List (List AV)} {off : Int} {b7 b9 bm : Nat}
def f4 (tv pv : AV) (off : Int) (b7 b9 bm : Nat) (n i f k : Int) : Env := [(0, tv), (1, pv), (2, .int .i64 off), (7, .ptr b7 0), (9, .ptr b9 0), (10, .map bm), (11, .int .i64 n), (12, .int .i64 i), (13, .int .i64 f), (14, .int .i64 k)]
def I4 (h1 : Heap) (tv pv : AV) (pl : List (List AV)) (off : Int) (b7 b9 bm : Nat) (nv qv cv dv : AV) (n : Int) (i : Nat) (c : Nat) (e : Env) (h : Heap) : Prop :=
  ∃ f : Nat, c ≤ f ∧ f ≤ i ∧ pl[f]? = pl[i]? ∧ (∀ j, c ≤ j → j < f → pl[j]? ≠ pl[i]?) ∧ St4 h1 h pl b7 b9 bm nv qv cv dv ∧ e = f4 tv pv off b7 b9 bm n i f ((c : Int) - 1)
def Q4 (h1 : Heap) (tv pv : AV) (pl : List (List AV)) (off : Int) (b7 b9 bm : Nat) (nv qv cv dv : AV) (n : Int) (i : Nat) : Ex → Env → Heap → Prop := fun y e h =>
  y = .exit 2 ∧ St4 h1 h pl b7 b9 bm nv qv cv dv ∧ ∃ f : Nat, f ≤ i ∧ pl[f]? = pl[i]? ∧ (∀ j, j < f → pl[j]? ≠ pl[i]?) ∧ e = f4 tv pv off b7 b9 bm n i f (-1) ++ [(47, .bool false)]

theorem w4inner (a : Args4 h1 tv pv nv qv ts ps ns pl) {i : Nat} (hi : i < pl.length) (lq : pl.length ≤ 300) {n : Int} {h : Heap} (S : St4 h1 h pl b7 b9 bm nv qv cv dv) :
    W X4 none inner4 (f4 tv pv off b7 b9 bm n i i ((i : Int) - 1)) h (Q4 h1 tv pv pl off b7 b9 bm nv qv cv dv n i) := by
  refine W_loop_inv (I4 h1 tv pv pl off b7 b9 bm nv qv cv dv n i) ?_ i _ _ ⟨i, Nat.le_refl _, Nat.le_refl _, rfl, fun j h1 h2 => by omega, S, rfl⟩
  rintro c e h' ⟨f, hcf, hfi, hf, hno, S, rfl⟩
  refine W_seq (W_keep' (f4 tv pv off b7 b9 bm n i f ((c : Int) - 1)) rfl ?_)
  refine W_seq (W_seq (W_seq (W_ops ?_)))
  have S1 := S.bump 2
  refine st_P (v := .int .i64 ((c : Int) - 1)) rfl ?_
  refine st_P (v := .bool (decide ((c : Int) - 1 ≥ 0))) rfl (st_nil ?_)
  refine W_keep' (f4 tv pv off b7 b9 bm n i f ((c : Int) - 1) ++ [(47, .bool (decide ((c : Int) - 1 ≥ 0)))]) rfl ?_
  by_cases hc : (c : Int) - 1 ≥ 0
  · rw [decide_eq_true hc]
    obtain ⟨c, rfl⟩ : ∃ c', c = c' + 1 := ⟨c - 1, by omega⟩
    have e1 : ((c + 1 : Nat) : Int) - 1 = c := by omega
    rw [e1]
    refine W_cond (b := true) rfl (W_skip ?_)
    refine W_seq (W_blk ?_)
    have hil : c < pl.length := by omega
    obtain ⟨b, t1, t2, _, _⟩ := (a.q.ext S1.s.u.ext).at hil
    obtain ⟨b', t1', t2', _, _⟩ := (a.q.ext S1.s.u.ext).at hi
    obtain ⟨t, q1, q2⟩ := eq_pl2 (a.iq _ (List.getElem_mem hil)) (a.iq _ (List.getElem_mem hi))
    have q2 : t = true ↔ pl[c]? = pl[i]? := by rw [q2, List.getElem?_eq_getElem hil, List.getElem?_eq_getElem hi]; simp
    refine W_seq (W_opsK ?_)
    have S2 := S1.bump 11
    refine st_P (v := .ptr b7 1) rfl ?_
    refine st_P (ev_load1 (v := qv) rfl S2.c7) ?_
    refine st_P (v := .int .i64 c) rfl ?_
    refine st_P (t1 _ _ _ _ _ _ rfl rfl) ?_
    refine st_P (ev_loadN rfl t2) ?_
    refine st_P (v := .ptr b7 1) rfl ?_
    refine st_P (ev_load1 (v := qv) rfl S2.c7) ?_
    refine st_P (v := .int .i64 i) rfl ?_
    refine st_P (t1' _ _ _ _ _ _ rfl rfl) ?_
    refine st_P (ev_loadN rfl t2') ?_
    refine st_P (v := .bool t) (ev_eq rfl rfl q1) (st_nil ?_)
    cases t with
    | true =>
      refine W_cond (b := true) rfl ?_
      refine W_seq (W_ops ?_)
      refine st_P (v := .int .i64 c) rfl ?_
      refine st_P (v := .int .i64 c) rfl (st_nil ?_)
      refine W_keep' (f4 tv pv off b7 b9 bm n i c c) rfl ?_
      refine W_seq (W_ops ?_)
      refine st_P (v := .int .i64 c) rfl ?_
      refine st_P (bin_add (a := (c : Int)) (b := 1) (c := (c : Int) - 1) rfl rfl (.inr ⟨rfl, rfl⟩) (by omega) (by omega)) ?_
      refine st_P (v := .int .i64 ((c : Int) - 1)) rfl (st_nil ?_)
      refine W_keep' (f4 tv pv off b7 b9 bm n i c ((c : Int) - 1)) rfl ?_
      exact ⟨c, by omega, c, by omega, by omega, q2.1 rfl, fun j g1 g2 => by omega, (S2.bump _).bump _, rfl⟩
    | false =>
      refine W_cond (b := false) rfl (W_skip ?_)
      refine W_seq (W_ops ?_)
      refine st_P (v := .int .i64 c) rfl ?_
      refine st_P (bin_add (a := (c : Int)) (b := 1) (c := (c : Int) - 1) rfl rfl (.inr ⟨rfl, rfl⟩) (by omega) (by omega)) ?_
      refine st_P (v := .int .i64 ((c : Int) - 1)) rfl (st_nil ?_)
      refine W_keep' (f4 tv pv off b7 b9 bm n i f ((c : Int) - 1)) rfl ?_
      refine ⟨c, by omega, f, by omega, hfi, hf, fun j g1 g2 he => ?_, S2.bump _, rfl⟩
      by_cases hjc : j = c
      · subst hjc; cases q2.2 he
      · exact hno j (by omega) g2 he
  · rw [decide_eq_false hc]
    have hc0 : c = 0 := by omega
    subst hc0
    exact W_cond (b := false) rfl (W_exit ⟨rfl, S1, f, hfi, hf, fun j hj => hno j (by omega) hj, rfl⟩)
end
end Go.Ab
/- OrderPages: the law, whole. -/
namespace Go.Ab
set_option maxRecDepth 100000

def outer4 : AC := .loop (.seq (.keep [0, 1, 2, 7, 9, 10, 11, 12])
 (.seq (.seq (.seq (.ops none [oD 36 (.mov (.t 12)),
 oD 37 (.fieldAddr 1 (.t 7)),
 oD 38 (.load1 (.t 37)),
 oD 39 (.len .slice (.t 38)),
 oD 40 (.bin .lss (.t 36) (.t 39))])
 (.keep [0, 1, 2, 7, 9, 10, 11, 12, 40]))
 (.cond (.t 40) .skip
 (.exit 0)))
 (.seq (.block 1 (.seq (.seq (.ops none [oD 43 (.mov (.t 12)),
 oD 13 (.mov (.t 43))])
 (.keep [0, 1, 2, 7, 9, 10, 11, 12, 13]))
 (.seq (.seq (.seq (.ops none [oD 44 (.mov (.t 12)),
 oD 45 (.bin .sub (.t 44) (.k (.int .i64 1))),
 oD 14 (.mov (.t 45))])
 (.keep [0, 1, 2, 7, 9, 10, 11, 12, 13, 14]))
 (.block 2 inner4))
 (.seq (.seq (.seq (.ops none [oD 63 (.mov (.t 10)),
 oD 64 (.fieldAddr 1 (.t 7)),
 oD 65 (.load1 (.t 64)),
 oD 66 (.mov (.t 12)),
 oD 67 (.idxSl 3 (.t 65) (.t 66)),
 oD 68 (.loadN 3 (.t 67)),
 oD 69 (.lookup (.agg [.int, .int, .int]) (.int .i64 0) true (.t 63) (.t 68)),
 oD 62 (.mov (.t 69)),
 oD 70 (.extract 0 (.t 62)),
 oD 71 (.extract 1 (.t 62)),
 oD 15 (.mov (.t 70)),
 oD 16 (.mov (.t 71))])
 (.keep [0, 1, 2, 7, 9, 10, 11, 12, 13, 15, 16]))
 (.seq (.seq (.ops none [oD 72 (.mov (.t 16)),
 oD 73 (.un .not (.t 72)),
 oD 74 (.mov (.t 73)),
 oG 75 74 false (.mov (.t 15)),
 oG 76 74 false (.mov (.t 13)),
 oG 77 74 false (.eq true (.leaf .int) (.t 75) (.t 76)),
 oD 78 (.pick (.t 74) (.k (.bool true)) (.t 77))])
 (.keep [0, 1, 2, 7, 9, 10, 11, 12, 13, 78]))
 (.cond (.t 78) (.seq (.seq (.ops none [oD 8 (.mov (.k (.bool false)))])
 (.keep [8]))
 .ret)
 .skip)))
 (.seq (.seq (.ops none [oD 79 (.mov (.t 13)),
 oD 80 (.mov (.t 12)),
 oD 81 (.eq false (.leaf .int) (.t 79) (.t 80))])
 (.keep [0, 1, 2, 7, 9, 10, 11, 12, 81]))
 (.cond (.t 81) (.seq (.ops none [oD 82 (.mov (.t 11)),
 oD 83 (.bin .add (.t 82) (.k (.int .i64 1))),
 oD 11 (.mov (.t 83))])
 (.keep [0, 1, 2, 7, 9, 10, 11, 12]))
 .skip))))))
 (.seq (.ops none [oD 41 (.mov (.t 12)),
 oD 42 (.bin .add (.t 41) (.k (.int .i64 1))),
 oD 12 (.mov (.t 42))])
 (.keep [0, 1, 2, 7, 9, 10, 11, 12])))))

theorem cnt_old {pl : List (List AV)} {i : Nat} (h : ∃ k, k < i ∧ pl[k]? = pl[i]?) : cnt pl (i + 1) = cnt pl i := by
  conv => lhs; unfold cnt
  rw [if_pos h]
theorem cnt_new {pl : List (List AV)} {i : Nat} (h : ¬ ∃ k, k < i ∧ pl[k]? = pl[i]?) : cnt pl (i + 1) = cnt pl i + 1 := by
  conv => lhs; unfold cnt
  rw [if_neg h]
theorem cnt_le (pl : List (List AV)) : ∀ i, cnt pl i ≤ i
  | 0 => Nat.le_refl _
  | i + 1 => by
    by_cases h : ∃ k, k < i ∧ pl[k]? = pl[i]?
    · rw [cnt_old h]; have := cnt_le pl i; omega
    · rw [cnt_new h]; have := cnt_le pl i; omega

section
variable {h1 : Heap} {tv pv nv qv cv dv : AV} {ts ps ns pl : List (List AV)} {off : Int} {b7 b9 bm : Nat}
def J4 (h1 : Heap) (tv pv : AV) (pl : List (List AV)) (off : Int) (b7 b9 bm : Nat) (nv qv cv dv : AV) (k : Nat) (e : Env) (h : Heap) : Prop :=
  ∃ i : Nat, i ≤ pl.length ∧ k = pl.length - i ∧ St4 h1 h pl b7 b9 bm nv qv cv dv ∧ e = e4 tv pv off b7 b9 bm (cnt pl i) i
def P4 (h1 : Heap) (tv pv : AV) (pl : List (List AV)) (off : Int) (b7 b9 bm : Nat) (nv qv cv dv : AV) : Ex → Env → Heap → Prop := fun y e h =>
  y = .exit 0 ∧ St4 h1 h pl b7 b9 bm nv qv cv dv ∧ ∃ i : Nat, e = e4 tv pv off b7 b9 bm (cnt pl pl.length) i ++ [(40, .bool false)]

theorem w4outer (a : Args4 h1 tv pv nv qv ts ps ns pl) (lq : pl.length ≤ 300) {h : Heap} (S : St4 h1 h pl b7 b9 bm nv qv cv dv) :
    W X4 none outer4 (e4 tv pv off b7 b9 bm 0 0) h (P4 h1 tv pv pl off b7 b9 bm nv qv cv dv) := by
  refine W_loop_inv (J4 h1 tv pv pl off b7 b9 bm nv qv cv dv) ?_ _ _ _ ⟨0, by omega, rfl, S, rfl⟩
  rintro k e h' ⟨i, hi, rfl, S, rfl⟩
  have hcl := cnt_le pl i
  refine W_seq (W_keep' (e4 tv pv off b7 b9 bm (cnt pl i) i) rfl ?_)
  refine W_seq (W_seq (W_seq (W_ops ?_)))
  have S1 := S.bump 5
  refine st_P (v := .int .i64 i) rfl ?_
  refine st_P (v := .ptr b7 1) rfl ?_
  refine st_P (ev_load1 (v := qv) rfl S1.c7) ?_
  refine st_P (ev_len (sv := qv) rfl a.q) ?_
  refine st_P (v := .bool (decide ((i : Int) < pl.length))) rfl (st_nil ?_)
  refine W_keep' (e4 tv pv off b7 b9 bm (cnt pl i) i ++ [(40, .bool (decide ((i : Int) < pl.length)))]) rfl ?_
  by_cases hlt : (i : Int) < pl.length
  · rw [decide_eq_true hlt]
    have hil : i < pl.length := by omega
    refine W_cond (b := true) rfl (W_skip ?_)
    refine W_seq (W_blk ?_)
    refine W_seq (W_seq (W_ops ?_))
    have S2 := S1.bump 2
    refine st_P (v := .int .i64 i) rfl ?_
    refine st_P (v := .int .i64 i) rfl (st_nil ?_)
    refine W_keep' (e4 tv pv off b7 b9 bm (cnt pl i) i ++ [(13, .int .i64 i)]) rfl ?_
    refine W_seq (W_seq (W_seq (W_ops ?_)))
    have S3 := S2.bump 3
    refine st_P (v := .int .i64 i) rfl ?_
    refine st_P (bin_add (a := (i : Int)) (b := 1) (c := (i : Int) - 1) rfl rfl (.inr ⟨rfl, rfl⟩) (by omega) (by omega)) ?_
    refine st_P (v := .int .i64 ((i : Int) - 1)) rfl (st_nil ?_)
    refine W_keep' (f4 tv pv off b7 b9 bm (cnt pl i) i i ((i : Int) - 1)) rfl ?_
    refine W_blk ?_
    refine W_mono ?_ (w4inner a hil lq S3)
    rintro y e h2 ⟨rfl, S4, f, hfi, hf, hno, rfl⟩
    have hpi : pl[i]? = some pl[i] := List.getElem?_eq_getElem hil
    refine W_seq (W_seq (W_seq (W_ops ?_)))
    have S5 := S4.bump 12
    obtain ⟨b, t1, t2, _, hz⟩ := (a.q.ext S5.s.u.ext).at hil
    obtain ⟨es, m1, m2, m3⟩ := S5.s.map
    have hr := a.iq _ (List.getElem_mem hil)
    have hfit : keyFits tgP (.agg pl[i]) = true := by simp [keyFits, hz]
    have hat : At1 pl pl[i] f := ⟨hf.trans hpi, fun j hj he => hno j hj (he.trans hpi.symm)⟩
    have hlk : lookupA (h2.bump 12) tgP (.int .i64 0) true (.map bm) (.agg pl[i]) = some (.tuple [.int .i64 f, .bool true]) := by
      rcases m2 _ hr with ⟨p, j, _, hj, hfk⟩ | ⟨hn, _⟩
      · rw [hj.unique hat] at hfk
        unfold lookupA mapEs
        simp only [m1, lookIn, hfit, hfk]
        rfl
      · exact absurd hpi (hn i hil)
    refine st_P (v := .map bm) rfl ?_
    refine st_P (v := .ptr b7 1) rfl ?_
    refine st_P (ev_load1 (v := qv) rfl S5.c7) ?_
    refine st_P (v := .int .i64 i) rfl ?_
    refine st_P (t1 _ _ _ _ _ _ rfl rfl) ?_
    refine st_P (ev_loadN rfl t2) ?_
    refine st_P (ev_lookup rfl rfl hlk) ?_
    refine st_P (v := .tuple [.int .i64 f, .bool true]) rfl ?_
    refine st_P (v := .int .i64 f) rfl ?_
    refine st_P (v := .bool true) rfl ?_
    refine st_P (v := .int .i64 f) rfl ?_
    refine st_P (v := .bool true) rfl (st_nil ?_)
    refine W_keep' (e4 tv pv off b7 b9 bm (cnt pl i) i ++ [(13, .int .i64 f), (15, .int .i64 f), (16, .bool true)]) rfl ?_
    refine W_seq (W_seq (W_ops ?_))
    refine st_P (v := .bool true) rfl ?_
    refine st_P (v := .bool false) rfl ?_
    refine st_P (v := .bool false) rfl ?_
    refine st_GP (w := false) rfl rfl (v := .int .i64 f) rfl ?_
    refine st_GP (w := false) rfl rfl (v := .int .i64 f) rfl ?_
    refine st_GP (w := false) rfl rfl (v := .bool false) (ev_eq rfl rfl eq_int) ?_
    refine st_P (v := .bool false) rfl (st_nil ?_)
    refine W_keep' (e4 tv pv off b7 b9 bm (cnt pl i) i ++ [(13, .int .i64 f), (78, .bool false)]) rfl ?_
    refine W_cond (b := false) rfl (W_skip ?_)
    have S6 := S5.bump 7
    refine W_seq (W_seq (W_ops ?_))
    have S7 := S6.bump 3
    refine st_P (v := .int .i64 f) rfl ?_
    refine st_P (v := .int .i64 i) rfl ?_
    by_cases hfe : f = i
    · subst hfe
      have hnew : cnt pl (f + 1) = cnt pl f + 1 := cnt_new (fun ⟨k, hk, hk2⟩ => hno k hk hk2)
      refine st_P (v := .bool true) (ev_eq rfl rfl eq_int) (st_nil ?_)
      refine W_keep' (e4 tv pv off b7 b9 bm (cnt pl f) f ++ [(81, .bool true)]) rfl ?_
      refine W_cond (b := true) rfl ?_
      refine W_seq (W_ops ?_)
      refine st_P (v := .int .i64 (cnt pl f)) rfl ?_
      refine st_P (bin_add (c := (cnt pl (f + 1) : Nat)) rfl rfl (.inl ⟨rfl, by omega⟩) (by omega) (by omega)) ?_
      refine st_P (v := .int .i64 (cnt pl (f + 1) : Nat)) rfl (st_nil ?_)
      refine W_keep' (e4 tv pv off b7 b9 bm (cnt pl (f + 1) : Nat) f) rfl ?_
      refine W_seq (W_ops ?_)
      refine st_P (v := .int .i64 f) rfl ?_
      refine st_P (bin_add (c := (f + 1 : Nat)) rfl rfl (.inl ⟨rfl, by omega⟩) (by omega) (by omega)) ?_
      refine st_P (v := .int .i64 (f + 1 : Nat)) rfl (st_nil ?_)
      refine W_keep' (e4 tv pv off b7 b9 bm (cnt pl (f + 1) : Nat) (f + 1 : Nat)) rfl ?_
      exact ⟨_, by omega, f + 1, by omega, rfl, (S7.bump _).bump _, rfl⟩
    · have hold : cnt pl (i + 1) = cnt pl i := cnt_old ⟨f, by omega, hf⟩
      have hne : eqA (.leaf .int) (.int .i64 f) (.int .i64 i) = some false := by
        have : ¬ ((f : Int) = (i : Int)) := by omega
        simp [eqA, leafEq, this]
      refine st_P (v := .bool false) (ev_eq rfl rfl hne) (st_nil ?_)
      refine W_keep' (e4 tv pv off b7 b9 bm (cnt pl i) i ++ [(81, .bool false)]) rfl ?_
      refine W_cond (b := false) rfl (W_skip ?_)
      refine W_seq (W_ops ?_)
      refine st_P (v := .int .i64 i) rfl ?_
      refine st_P (bin_add (c := (i + 1 : Nat)) rfl rfl (.inl ⟨rfl, by omega⟩) (by omega) (by omega)) ?_
      refine st_P (v := .int .i64 (i + 1 : Nat)) rfl (st_nil ?_)
      refine W_keep' (e4 tv pv off b7 b9 bm (cnt pl i) (i + 1 : Nat)) rfl ?_
      exact ⟨_, by omega, i + 1, by omega, rfl, S7.bump _, by rw [hold]⟩
  · rw [decide_eq_false hlt]
    have hh : i = pl.length := by omega
    exact W_cond (b := false) rfl (W_exit ⟨rfl, S1, i, by rw [hh]⟩)
end

/-- The law. -/
theorem w4 {h0 : Heap} {tv pv nv qv : AV} {ts ps ns pl : List (List AV)} {off : Int} (hb : Base h0) (a : Args4 h0 tv pv nv qv ts ps ns pl) :
    W X4 none a4.body (initEnv 0 [tv, pv, .int .i64 off, .agg [nv, qv]]) h0 QT := by
  have hml : maxLen = 1073741824 := rfl
  refine W_seq (W_seq (W_ops ?_))
  refine st_D (v := .ptr h0.next 0) (h' := (h0.bump 2).set h0.next (some (.cells (.live []) [nv, qv]))) rfl ?_
  refine st_P (v := .bool false) rfl (st_nil ?_)
  refine W_keep' [(0, tv), (1, pv), (2, .int .i64 off), (7, .ptr h0.next 0)] rfl ?_
  have u1 : Grow h0 ((h0.bump 2).set h0.next (some (.cells (.live []) [nv, qv]))) := ((Grow.refl hb).bump 2).set hb (Nat.le_refl _) (by simp only [Heap.next_bump]; omega)
  have g7 : ((h0.bump 2).set h0.next (some (.cells (.live []) [nv, qv]))).get h0.next = some (.cells (.live []) [nv, qv]) := Heap.get_set_same _ _ _
  revert u1 g7
  generalize (h0.bump 2).set h0.next (some (.cells (.live []) [nv, qv])) = h2
  generalize h0.next = b7
  intro u1 g7
  have a2 := a.ext u1.ext
  have c7 : ∀ n, getCell (h2.bump n) b7 1 = some qv := fun n => getCell_of (h := h2.bump n) g7 1
  -- is anything too big?
  have big : ∀ (b : Bool) (h3 : Heap) (e3 : Env), e3 = [(0, tv), (1, pv), (2, .int .i64 off), (7, .ptr b7 0), (30, .bool b)] → h3 = h2.bump 14 → (b = false → ts.length ≤ 250 ∧ ps.length ≤ 250 ∧ pl.length ≤ 300) →
      W X4 none (.cond (.t 30) (.seq (.seq (.ops none [oD 31 (.call 7 []), oD 8 (.mov (.t 31))]) (.keep [8])) .ret) .skip) e3 h3 (fun y e h => (y = .ret ∧ e.get 8 = some (.bool true)) ∨ (y = .normal ∧ e = [(0, tv), (1, pv), (2, .int .i64 off), (7, .ptr b7 0), (30, .bool false)] ∧ h = h2.bump 14 ∧ ts.length ≤ 250 ∧ ps.length ≤ 250 ∧ pl.length ≤ 300)) := by
    intro b h3 e3 he hh hs
    subst he; subst hh
    cases b with
    | true =>
      refine W_cond (b := true) rfl ?_
      refine W_seq (W_seq (W_ops ?_))
      refine st_call (vs := []) rfl (aw4 ?_) callW_Mono
      refine st_P (v := .bool true) rfl (st_nil ?_)
      refine W_keep' [(8, .bool true)] rfl ?_
      exact W_ret (.inl ⟨rfl, rfl⟩)
    | false => exact W_cond (b := false) rfl (W_skip (.inr ⟨rfl, rfl, rfl, hs rfl⟩))
  refine W_seq (W_seq (W_mono (Q := fun y e h => y = .normal ∧ ∃ b, e = [(0, tv), (1, pv), (2, .int .i64 off), (7, .ptr b7 0), (30, .bool b)] ∧ h = h2.bump 14 ∧ (b = false → ts.length ≤ 250 ∧ ps.length ≤ 250 ∧ pl.length ≤ 300)) ?_ ?_))
  · rintro y e h ⟨rfl, b, he, hh, hs⟩
    refine W_mono ?_ (big b h e he hh hs)
    rintro y e3 h3 (⟨rfl, e8⟩ | ⟨rfl, rfl, rfl, lt, lp, lq⟩)
    · exact ⟨rfl, e8⟩
    · -- Own
      refine W_seq (W_seq (W_ops ?_))
      have u3 : Grow h0 ((h2.bump 14).bump 4) := (u1.bump 14).bump 4
      have a3 := a.ext u3.ext
      refine st_P (ev_loadN rfl (getRow_of (h := (h2.bump 14).bump 4) g7)) ?_
      refine st_call (vs := [.agg [nv, qv]]) rfl (callW_fn (F := a14) rfl rfl (W_mono ?_ (w14 u3.base (.refl u3.base) a3.n a3.q a3.is a3.iq a3.ln (by omega)))) callW_Mono
      rintro y e' h4 ⟨rfl, u4, b, c, d, eb, gb, hc, hd, kb, kc, kd⟩
      simp only [a14, ressA, resA, eb]
      rw [show getRow h4 b 0 2 = some [.slice c 0 ns.length 4, .slice d 0 pl.length 3] from getRow_of gb]
      dsimp only [packRes]
      clear eb e'
      have hid : ((h2.bump 14).bump 4).next = h2.next + 18 := rfl
      have hle4 := u4.le
      have hle1 := u1.le
      have lt7 := u1.base _ _ g7
      have u04 := u3.trans u4
      have g7' := u4.ext _ _ g7
      refine st_D (v := .ptr (h2.next + 16) 0) (h' := h4.set (h2.next + 16) (some (.cells (.live []) [.nilslice, .nilslice]))) rfl ?_
      refine st_N (h' := (h4.set (h2.next + 16) (some (.cells (.live []) [.nilslice, .nilslice]))).set (h2.next + 16) (some (.cells (.live []) [.slice c 0 ns.length 4, .slice d 0 pl.length 3]))) (ev_store (v := .agg [.slice c 0 ns.length 4, .slice d 0 pl.length 3]) rfl rfl rfl (setRow_of (Heap.get_set_same _ _ _) rfl rfl)) (st_nil ?_)
      refine W_keep' [(0, tv), (1, pv), (2, .int .i64 off), (7, .ptr b7 0), (9, .ptr (h2.next + 16) 0)] rfl ?_
      have u5 : Grow h0 ((h4.set (h2.next + 16) (some (.cells (.live []) [.nilslice, .nilslice]))).set (h2.next + 16) (some (.cells (.live []) [.slice c 0 ns.length 4, .slice d 0 pl.length 3]))) := (u04.set hb (by omega) (by omega)).set hb (by omega) (by simp only [Heap.next_set]; omega)
      have g9 : ((h4.set (h2.next + 16) (some (.cells (.live []) [.nilslice, .nilslice]))).set (h2.next + 16) (some (.cells (.live []) [.slice c 0 ns.length 4, .slice d 0 pl.length 3]))).get (h2.next + 16) = some (.cells (.live []) [.slice c 0 ns.length 4, .slice d 0 pl.length 3]) := Heap.get_set_same _ _ _
      have ho : ∀ q, q ≠ h2.next + 16 → ((h4.set (h2.next + 16) (some (.cells (.live []) [.nilslice, .nilslice]))).set (h2.next + 16) (some (.cells (.live []) [.slice c 0 ns.length 4, .slice d 0 pl.length 3]))).get q = h4.get q := fun q hq => by
        rw [Heap.get_set_other _ _ (Ne.symm hq), Heap.get_set_other _ _ (Ne.symm hq)]
      have hc5 := hc.same (ho c (by omega))
      have hd5 := hd.same (ho d (by omega))
      have g75 := (ho b7 (by omega)).trans g7'
      revert u5 g9 hc5 hd5 g75
      generalize (h4.set (h2.next + 16) (some (.cells (.live []) [.nilslice, .nilslice]))).set (h2.next + 16) (some (.cells (.live []) [.slice c 0 ns.length 4, .slice d 0 pl.length 3])) = h5
      generalize h2.next + 16 = b9
      generalize AV.slice c 0 ns.length 4 = cv
      generalize AV.slice d 0 pl.length 3 = dv
      intro u5 g9 hc5 hd5 g75
      -- the index
      have a5 := a.ext (u5.bump 3).ext
      refine W_seq (W_seq (W_ops ?_))
      refine st_P (ev_loadN rfl (getRow_of (h := h5.bump 3) g9)) ?_
      refine st_call (vs := [.agg [cv, dv]]) rfl (callW_fn (F := a15) rfl rfl (W_mono ?_ (w15 (h0 := h5.bump 3) (u5.base.bump 3) (.refl (u5.base.bump 3)) hd5 a.iq (by omega)))) callW_Mono
      rintro y e' h6 ⟨rfl, bm, e2, S15⟩
      simp only [a15, ressA, resA, e2, packRes]
      clear e2 e'
      have S : St4 (h5.bump 3) h6 pl b7 b9 bm nv qv cv dv := ⟨S15, ⟨_, S15.u.ext _ _ g75⟩, ⟨_, S15.u.ext _ _ g9⟩⟩
      refine st_P (v := .map bm) rfl (st_nil ?_)
      refine W_keep' [(0, tv), (1, pv), (2, .int .i64 off), (7, .ptr b7 0), (9, .ptr b9 0), (10, .map bm)] rfl ?_
      refine W_seq (W_seq (W_ops ?_))
      refine st_P (v := .int .i64 0) rfl (st_nil ?_)
      refine W_keep' [(0, tv), (1, pv), (2, .int .i64 off), (7, .ptr b7 0), (9, .ptr b9 0), (10, .map bm), (11, .int .i64 0)] rfl ?_
      refine W_seq (W_seq (W_seq (W_ops ?_)))
      refine st_P (v := .int .i64 0) rfl (st_nil ?_)
      refine W_keep' (e4 tv pv off b7 b9 bm 0 0) rfl ?_
      refine W_blk (W_mono ?_ (w4outer a5 lq ((S.bump _).bump _)))
      rintro y e h7 ⟨rfl, S7, i, rfl⟩
      exact w4c a5 hc5 hd5 S7 lt lp lq
  · -- the sizes
    refine W_seq (W_ops ?_)
    have a3 := a2.ext (Heap.Ext.bump h2 14)
    refine st_P (v := tv) rfl ?_
    refine st_P (ev_len (sv := tv) rfl a.t) ?_
    refine st_P (v := .bool (decide ((ts.length : Int) > 250))) rfl ?_
    refine st_P (v := .bool (decide ((ts.length : Int) > 250))) rfl ?_
    by_cases h1 : (ts.length : Int) > 250
    · rw [decide_eq_true h1]
      refine st_Gs (w := true) rfl (by simp) ?_
      refine st_Gs (w := true) rfl (by simp) ?_
      refine st_Gs (w := true) rfl (by simp) ?_
      refine st_P (v := .bool true) rfl ?_
      refine st_P (v := .bool true) rfl ?_
      refine st_Gs (w := true) rfl (by simp) ?_
      refine st_Gs (w := true) rfl (by simp) ?_
      refine st_Gs (w := true) rfl (by simp) ?_
      refine st_Gs (w := true) rfl (by simp) ?_
      refine st_P (v := .bool true) rfl (st_nil ?_)
      exact W_keep' [(0, tv), (1, pv), (2, .int .i64 off), (7, .ptr b7 0), (30, .bool true)] rfl ⟨rfl, true, rfl, rfl, fun hh => by cases hh⟩
    · rw [decide_eq_false h1]
      refine st_GP (w := false) rfl rfl (v := pv) rfl ?_
      refine st_GP (w := false) rfl rfl (ev_len (sv := pv) rfl a.p) ?_
      refine st_GP (w := false) rfl rfl (v := .bool (decide ((ps.length : Int) > 250))) rfl ?_
      by_cases h2' : (ps.length : Int) > 250
      · rw [decide_eq_true h2']
        refine st_P (v := .bool true) rfl ?_
        refine st_P (v := .bool true) rfl ?_
        refine st_Gs (w := true) rfl (by simp) ?_
        refine st_Gs (w := true) rfl (by simp) ?_
        refine st_Gs (w := true) rfl (by simp) ?_
        refine st_Gs (w := true) rfl (by simp) ?_
        refine st_P (v := .bool true) rfl (st_nil ?_)
        exact W_keep' [(0, tv), (1, pv), (2, .int .i64 off), (7, .ptr b7 0), (30, .bool true)] rfl ⟨rfl, true, rfl, rfl, fun hh => by cases hh⟩
      · rw [decide_eq_false h2']
        refine st_P (v := .bool false) rfl ?_
        refine st_P (v := .bool false) rfl ?_
        refine st_GP (w := false) rfl rfl (v := .ptr b7 1) rfl ?_
        refine st_GP (w := false) rfl rfl (ev_load1 (v := qv) rfl (c7 14)) ?_
        refine st_GP (w := false) rfl rfl (ev_len (sv := qv) rfl a.q) ?_
        refine st_GP (w := false) rfl rfl (v := .bool (decide ((pl.length : Int) > 300))) rfl ?_
        refine st_P (v := .bool (decide ((pl.length : Int) > 300))) rfl (st_nil ?_)
        refine W_keep' [(0, tv), (1, pv), (2, .int .i64 off), (7, .ptr b7 0), (30, .bool (decide ((pl.length : Int) > 300)))] rfl ⟨rfl, _, rfl, rfl, fun hh => ?_⟩
        have := of_decide_eq_false hh
        exact ⟨by omega, by omega, by omega⟩
end Go.Ab
/- OrderPages: the law's call, at arguments that are opened. -/
namespace Go.Ab
set_option maxRecDepth 100000

theorem vw_of {B : Nat} {h : Heap} {s : Sh} {cs : List AV} (hh : (Sh.slice s).Holds B h cs) : ∃ sv rows, cs = [sv] ∧ Vw h sv s.size rows ∧ rows.length ≤ B ∧ ∀ r ∈ rows, s.Holds B h r := by
  simp only [Sh.Holds] at hh
  rcases hh with rfl | ⟨b, rows, rfl, h1, h2, h3⟩
  · exact ⟨_, [], rfl, .inl ⟨rfl, rfl⟩, Nat.zero_le _, fun r hr => by cases hr⟩
  · exact ⟨_, rows, rfl, .inr ⟨b, rfl, fun hn => ⟨_, h2 hn⟩, fun r hr => (h3 r hr).length⟩, h1, h3⟩

def shTok : Sh := .agg [.int .i64, .int .u8, .int .i64]
def shPl : Sh := .agg [.int .i64, .int .i64, .int .i64]
def shNode : Sh := .agg [.int .u8, .int .i64, .int .i64, .int .i64]
theorem tok_of {B : Nat} {h : Heap} {r : List AV} (hh : shTok.Holds B h r) : IsTok r := by
  simp only [shTok, Sh.Holds, Sh.HoldsL] at hh
  obtain ⟨_, _, rfl, ⟨a, rfl, _⟩, _, _, rfl, ⟨b, rfl, _⟩, _, _, rfl, ⟨c, rfl, _⟩, rfl⟩ := hh
  exact ⟨a, b, c, rfl⟩
theorem pl_of {B : Nat} {h : Heap} {r : List AV} (hh : shPl.Holds B h r) : IsPl r := by
  simp only [shPl, Sh.Holds, Sh.HoldsL] at hh
  obtain ⟨_, _, rfl, ⟨a, rfl, _⟩, _, _, rfl, ⟨b, rfl, _⟩, _, _, rfl, ⟨c, rfl, _⟩, rfl⟩ := hh
  exact ⟨a, b, c, rfl⟩
theorem node_of {B : Nat} {h : Heap} {r : List AV} (hh : shNode.Holds B h r) : IsNode r := by
  simp only [shNode, Sh.Holds, Sh.HoldsL] at hh
  obtain ⟨_, _, rfl, ⟨a, rfl, _⟩, _, _, rfl, ⟨b, rfl, _⟩, _, _, rfl, ⟨c, rfl, _⟩, _, _, rfl, ⟨d, rfl, _⟩, rfl⟩ := hh
  exact ⟨a, b, c, d, rfl⟩
theorem int_of {B : Nat} {h : Heap} {r : List AV} (hh : (Sh.int .i64).Holds B h r) : IsInt r := by
  simp only [Sh.Holds] at hh
  obtain ⟨a, rfl, _⟩ := hh
  exact ⟨a, rfl⟩

def sh4 : List Sh := [.slice shTok, .slice (.int .i64), .int .i64, .agg [.slice shNode, .slice shPl]]

theorem holds4 {B : Nat} {h : Heap} {s0 s1 s2 s3 : Sh} : ∀ {vs : List AV}, HoldsA B h [s0, s1, s2, s3] vs → ∃ c0 c1 c2 c3, vs = [s0.arg c0, s1.arg c1, s2.arg c2, s3.arg c3] ∧ s0.Holds B h c0 ∧ s1.Holds B h c1 ∧ s2.Holds B h c2 ∧ s3.Holds B h c3
  | [], hh => by simp only [HoldsA] at hh
  | [_], hh => by simp only [HoldsA] at hh; exact hh.2.elim
  | [_, _], hh => by simp only [HoldsA] at hh; exact hh.2.2.elim
  | [_, _, _], hh => by simp only [HoldsA] at hh; exact hh.2.2.2.elim
  | [_, _, _, _], hh => by
    simp only [HoldsA] at hh
    obtain ⟨⟨c0, rfl, h0⟩, ⟨c1, rfl, h1⟩, ⟨c2, rfl, h2⟩, ⟨c3, rfl, h3⟩, _⟩ := hh
    exact ⟨c0, c1, c2, c3, rfl, h0, h1, h2, h3⟩
  | _ :: _ :: _ :: _ :: _ :: _, hh => by simp only [HoldsA] at hh; exact hh.2.2.2.2.elim

theorem args4 {B : Nat} (hB : B ≤ maxLen) {h : Heap} {vs : List AV} (hh : HoldsA B h sh4 vs) : ∃ tv pv nv qv off ts ps ns pl, vs = [tv, pv, .int .i64 off, .agg [nv, qv]] ∧ Args4 h tv pv nv qv ts ps ns pl := by
  obtain ⟨c0, c1, c2, c3, rfl, h0, h1, h2, h3⟩ := holds4 hh
  obtain ⟨tv, ts, rfl, vt, lt, ht⟩ := vw_of h0
  obtain ⟨pv, ps, rfl, vp, lp, hp⟩ := vw_of h1
  obtain ⟨off, rfl⟩ := int_of h2
  simp only [Sh.Holds, Sh.HoldsL] at h3
  obtain ⟨n0, q0, rfl, hn0, q1, q2, rfl, hq0, rfl⟩ := h3
  obtain ⟨nv, ns, rfl, vn, ln, hn⟩ := vw_of (s := shNode) (by simp only [Sh.Holds]; exact hn0)
  obtain ⟨qv, pl, rfl, vq, lq, hq⟩ := vw_of (s := shPl) (by simp only [Sh.Holds]; exact hq0)
  exact ⟨tv, pv, nv, qv, off, ts, ps, ns, pl, rfl, vt, vp, vn, vq, fun r hr => tok_of (ht r hr), fun r hr => int_of (hp r hr), fun r hr => node_of (hn r hr), fun r hr => pl_of (hq r hr), by omega⟩

theorem law4' {B : Nat} (hB : B ≤ maxLen) (h : Heap) (vs : List AV) (hb : ∀ b o, h.get b = some o → b < h.next) (hh : HoldsA B h sh4 vs) : callW X4 (.func (.fn 4) [] []) vs h (fun v _ => v = .bool true) := by
  obtain ⟨tv, pv, nv, qv, off, ts, ps, ns, pl, rfl, a⟩ := args4 hB hh
  refine callW_fn (F := a4) rfl rfl (W_mono ?_ (w4 (off := off) hb a))
  rintro y e' h' ⟨rfl, e8⟩
  simp only [a4, ressA, resA, e8, packRes]

theorem law4 (h : Heap) (vs : List AV) (hb : ∀ b o, h.get b = some o → b < h.next) (hh : HoldsA 1048576 h sh4 vs) : callW X4 (.func (.fn 4) [] []) vs h (fun v _ => v = .bool true) :=
  law4' (of_decide_eq_true rfl) h vs hb hh
end Go.Ab
