/- Summaries by tables: what a call yields at arguments that are told, run once by the kernel. -/
import Derived.Test.YtfdokiknemihpaaGreatDoorAbX
import Derived.Test.YtfdokiknemihpaaGreatDoorAbZ
namespace Go.Ab

/-! ### Values under other names -/
def nameOf (l : List Nat) (i : Nat) : Nat := match l[i]? with | some b => b | none => 0
mutual
def AV.ren (l : List Nat) : AV → AV
  | .bool b => .bool b
  | .int k n => .int k n
  | .str s => .str s
  | .nilptr => .nilptr
  | .ptr b off => .ptr (nameOf l b) off
  | .nilslice => .nilslice
  | .slice b off n z => .slice (nameOf l b) off n z
  | .nilmap => .nilmap
  | .map r => .map (nameOf l r)
  | .nilfunc => .nilfunc
  | .func f a b => .func (match f with | .yield r => .yield (nameOf l r) | f => f) (AV.rens l a) (AV.rens l b)
  | .nilIface => .nilIface
  | .iface t v => .iface t (AV.ren l v)
  | .agg cs => .agg (AV.rens l cs)
  | .tuple vs => .tuple (AV.rens l vs)
def AV.rens (l : List Nat) : List AV → List AV
  | [] => []
  | v :: vs => AV.ren l v :: AV.rens l vs
end
mutual
/-- All names are below n. -/
def AV.low (n : Nat) : AV → Bool
  | .ptr b _ => Nat.blt b n
  | .slice b _ _ _ => Nat.blt b n
  | .map r => Nat.blt r n
  | .func f a b => (match f with | .yield r => Nat.blt r n | _ => true) && (AV.lows n a && AV.lows n b)
  | .iface _ v => AV.low n v
  | .agg cs => AV.lows n cs
  | .tuple vs => AV.lows n vs
  | _ => true
def AV.lows (n : Nat) : List AV → Bool
  | [] => true
  | v :: vs => AV.low n v && AV.lows n vs
end

/-- Names that lie in the same place. -/
structure Same (n : Nat) (E : Emb) (l : List Nat) (E' : Emb) (l' : List Nat) : Prop where
  here : ∀ i, i < n → E.here (nameOf l i) → E'.here (nameOf l' i) ∧ E'.ρ (nameOf l' i) = E.ρ (nameOf l i)
  M : E.M ≤ E'.M
  sz : ∀ r, r < E.M → E'.sz r = E.sz r

mutual
theorem VRel.ren {n : Nat} {E E' : Emb} {l l' : List Nat} (S : Same n E l E' l') : ∀ {v : AV} {x : Value}, v.low n = true → VRel E (v.ren l) x → VRel E' (v.ren l') x
  | .bool b, x, _, h => by simp only [AV.ren] at h ⊢; cases h; exact .bool _
  | .int k m, x, _, h => by simp only [AV.ren] at h ⊢; cases h; exact .int _ _
  | .str s, x, _, h => by simp only [AV.ren] at h ⊢; cases h; exact .str _ _ ‹_›
  | .nilptr, x, _, h => by simp only [AV.ren] at h ⊢; cases h; exact .nilptr
  | .ptr b off, x, hl, h => by
    simp only [AV.ren] at h ⊢
    simp only [AV.low, Nat.blt_eq] at hl
    cases h with
    | ptr _ _ hb =>
      obtain ⟨h1, h2⟩ := S.here b hl hb
      have : E.at_ (nameOf l b) off = E'.at_ (nameOf l' b) off := by simp [Emb.at_, h2]
      rw [this]; exact .ptr _ _ h1
  | .nilslice, x, _, h => by simp only [AV.ren] at h ⊢; cases h; exact .nilslice
  | .slice b off m z, x, hl, h => by
    simp only [AV.ren] at h ⊢
    simp only [AV.low, Nat.blt_eq] at hl
    cases h with
    | slice _ _ _ _ a cap hb hh =>
      obtain ⟨h1, h2⟩ := S.here b hl hb
      refine .slice _ _ _ _ a cap h1 ?_
      rcases hh with hh | ⟨e1, e2, e3, e4⟩
      · exact .inl hh
      · refine .inr ⟨by rw [e1]; simp [Emb.at_, h2], e2, by rw [h2]; exact Nat.lt_of_lt_of_le e3 S.M, by rw [h2, S.sz _ e3]; exact e4⟩
  | .nilmap, x, _, h => by simp only [AV.ren] at h ⊢; cases h; exact .nilmap
  | .map r, x, hl, h => by
    simp only [AV.ren] at h ⊢
    simp only [AV.low, Nat.blt_eq] at hl
    cases h with
    | map _ hr =>
      obtain ⟨h1, h2⟩ := S.here r hl hr
      rw [← h2]; exact .map _ h1
  | .nilfunc, x, _, h => by simp only [AV.ren] at h ⊢; cases h; exact .nilfunc
  | .func f a b, x, hl, h => by
    simp only [AV.ren] at h ⊢
    simp only [AV.low, Bool.and_eq_true] at hl
    cases f with
    | fn f =>
      simp only at h ⊢
      cases h with
      | func _ _ _ a' b' h1 h2 => exact .func _ _ _ _ _ (VsRel.ren S hl.2.1 h1) (VsRel.ren S hl.2.2 h2)
    | next => simp only at h; cases h
    | yield r =>
      simp only [Nat.blt_eq] at h hl ⊢
      cases a with
      | cons _ _ => simp only [AV.rens] at h; cases h
      | nil => cases b with
        | cons _ _ => simp only [AV.rens] at h; cases h
        | nil =>
          simp only [AV.rens] at h ⊢
          cases h with
          | yield _ hr =>
            obtain ⟨h1, h2⟩ := S.here r hl.1 hr
            rw [← h2]; exact .yield _ h1
  | .nilIface, x, _, h => by simp only [AV.ren] at h ⊢; cases h; exact .nilIface
  | .iface t v, x, hl, h => by
    simp only [AV.ren] at h ⊢
    simp only [AV.low] at hl
    cases h with
    | iface _ _ _ h1 => exact .iface _ _ _ (VRel.ren S hl h1)
  | .agg cs, x, hl, h => by
    simp only [AV.ren] at h ⊢
    simp only [AV.low] at hl
    cases h with
    | agg _ _ h1 => exact .agg _ _ (VsRel.ren S hl h1)
  | .tuple cs, x, hl, h => by
    simp only [AV.ren] at h ⊢
    simp only [AV.low] at hl
    cases h with
    | tuple _ _ h1 => exact .tuple _ _ (VsRel.ren S hl h1)
theorem VsRel.ren {n : Nat} {E E' : Emb} {l l' : List Nat} (S : Same n E l E' l') : ∀ {vs : List AV} {xs : List Value}, AV.lows n vs = true → VsRel E (AV.rens l vs) xs → VsRel E' (AV.rens l' vs) xs
  | [], xs, _, h => by simp only [AV.rens] at h ⊢; cases h; exact .nil
  | v :: vs, xs, hl, h => by
    simp only [AV.rens] at h ⊢
    simp only [AV.lows, Bool.and_eq_true] at hl
    cases h with
    | cons _ x _ xs h1 h2 => exact .cons _ _ _ _ (VRel.ren S hl.1 h1) (VsRel.ren S hl.2 h2)
end

theorem AV.rens_length (l : List Nat) : ∀ (vs : List AV), (AV.rens l vs).length = vs.length
  | [] => rfl
  | v :: vs => by simp only [AV.rens, List.length_cons, AV.rens_length l vs]
theorem AV.rens_get (l : List Nat) : ∀ (vs : List AV) (i : Nat) (u : AV), (AV.rens l vs)[i]? = some u → ∃ v, vs[i]? = some v ∧ u = v.ren l
  | [], i, u, h => by simp [AV.rens] at h
  | v :: vs, 0, u, h => by simp only [AV.rens, List.getElem?_cons_zero, Option.some.injEq] at h; exact ⟨v, rfl, h.symm⟩
  | v :: vs, i + 1, u, h => by simp only [AV.rens, List.getElem?_cons_succ] at h; simpa using AV.rens_get l vs i u h
theorem AV.rens_get' (l : List Nat) : ∀ (vs : List AV) (i : Nat) (v : AV), vs[i]? = some v → (AV.rens l vs)[i]? = some (v.ren l)
  | [], i, v, h => by simp at h
  | v :: vs, 0, u, h => by simp only [AV.rens, List.getElem?_cons_zero, Option.some.injEq] at h ⊢; rw [h]
  | v :: vs, i + 1, u, h => by simp only [AV.rens, List.getElem?_cons_succ] at h ⊢; exact AV.rens_get' l vs i u (by simpa using h)
theorem AV.lows_get {n : Nat} : ∀ {vs : List AV}, AV.lows n vs = true → ∀ (i : Nat) (v : AV), vs[i]? = some v → v.low n = true
  | [], _, i, v, h => by simp at h
  | v :: vs, hl, 0, u, h => by simp only [AV.lows, Bool.and_eq_true] at hl; simp at h; exact h ▸ hl.1
  | v :: vs, hl, i + 1, u, h => by simp only [AV.lows, Bool.and_eq_true] at hl; exact AV.lows_get hl.2 i u (by simpa using h)

/-! ### Entries -/
/-- A call: the names 0, 1, .. are the arguments' blocks, behind them the new ones. -/
structure Entry where
  args : List AV
  ha : List (List AV)
  res : AV
  new : List (List AV)
  deriving Inhabited

def Entry.na (T : Entry) : Nat := T.ha.length
def Entry.ok (T : Entry) : Bool :=
  AV.lows T.na T.args && T.ha.all (AV.lows T.na) && T.res.low (T.na + T.new.length) && T.new.all (AV.lows (T.na + T.new.length))

def roHeap (l : List Nat) : List (List AV) → Nat → Heap → Heap
  | [], _, h => h
  | cs :: r, i, h => roHeap l r (i + 1) ((h.set i (some (.cells .ro (AV.rens l cs)))).bump 1)
/-- The heap of the arguments' blocks. -/
def Entry.heap (T : Entry) : Heap := roHeap (List.range T.na) T.ha 0 Heap.empty

def sameAll : List AV → List AV → Bool := sameL (AV.sameF 16)
/-- A live block that holds those cells. -/
def holdsLive (h : Heap) (l : List Nat) (b : Nat) (cs : List AV) : Bool :=
  match h.get b with
  | some (.cells (.live _) vs) => sameAll vs (AV.rens l cs)
  | _ => false
def holdsAll (h : Heap) (l : List Nat) : List Nat → List (List AV) → Bool
  | [], [] => true
  | b :: bs, c :: cs => holdsLive h l b c && holdsAll h l bs cs
  | _, _ => false
def nodupN : List Nat → Bool
  | [] => true
  | b :: bs => !bs.contains b && nodupN bs

/-- The call was run, and its new blocks lie at ids. -/
def Entry.cert (T : Entry) (ids : List Nat) (r : Option (AV × Heap)) : Bool :=
  match r with
  | some (v, h1) => AV.sameF 16 v (T.res.ren (List.range T.na ++ ids)) && holdsAll h1 (List.range T.na ++ ids) ids T.new && nodupN ids && T.ok
  | none => false

/-! ### Where an entry fits -/
def assocN (m : List (Nat × Nat)) (i : Nat) : Option Nat := match m with
  | [] => none
  | p :: r => match Nat.beq p.1 i with
    | true => some p.2
    | false => assocN r i
def cellsAt (h : Heap) (b : Nat) : List AV := match h.get b with
  | some (.cells _ vs) => vs
  | _ => []
/-- Names are guessed along the values. -/
def guess (ha : List (List AV)) (h : Heap) : Nat → List (AV × AV) → List (Nat × Nat) → List (Nat × Nat)
  | 0, _, m => m
  | _ + 1, [], m => m
  | d + 1, (p, a) :: r, m => match p, a with
    | .ptr b _, .ptr b' _ => match assocN m b with
      | some _ => guess ha h d r m
      | none => guess ha h d ((ha.getD b []).zip (cellsAt h b') ++ r) ((b, b') :: m)
    | .slice b _ _ _, .slice b' _ _ _ => match assocN m b with
      | some _ => guess ha h d r m
      | none => guess ha h d ((ha.getD b []).zip (cellsAt h b') ++ r) ((b, b') :: m)
    | .agg ps, .agg as => guess ha h d (ps.zip as ++ r) m
    | .tuple ps, .tuple as => guess ha h d (ps.zip as ++ r) m
    | .iface _ x, .iface _ y => guess ha h d ((x, y) :: r) m
    | _, _ => guess ha h d r m
def namesOf (m : List (Nat × Nat)) (n : Nat) : List Nat := (List.range n).map fun i => (assocN m i).getD 0

def holdsAny (h : Heap) (l : List Nat) (b : Nat) (cs : List AV) : Bool :=
  match h.get b with
  | some (.cells _ vs) => sameAll vs (AV.rens l cs)
  | _ => false
def holdsArgs (h : Heap) (l : List Nat) : Nat → List (List AV) → Bool
  | _, [] => true
  | i, c :: cs => holdsAny h l (nameOf l i) c && holdsArgs h l (i + 1) cs

def Entry.fits (T : Entry) (l : List Nat) (args : List AV) (h : Heap) : Bool :=
  sameAll args (AV.rens l T.args) && holdsArgs h l 0 T.ha && Nat.beq l.length T.na

def addNew (l : List Nat) : List (List AV) → Nat → Heap → Heap
  | [], _, h => h
  | c :: cs, b, h => addNew l cs (b + 1) (h.set b (some (.cells (.live []) (AV.rens l c))))
def newNames (b n : Nat) : List Nat := (List.range n).map (b + ·)

def Entry.run (T : Entry) (l : List Nat) (h : Heap) : AV × Heap :=
  let l' := l ++ newNames h.next T.new.length
  (T.res.ren l', (addNew l' T.new h.next h).bump T.new.length)

def tableF : List Entry → Fun
  | [], _, _ => none
  | T :: Ts, args, h =>
    let l := namesOf (guess T.ha h 4000 (T.args.zip args) []) T.na
    match T.fits l args h with
    | true => some (T.run l h)
    | false => tableF Ts args h

/-! ### A table is a summary -/
def tableS (Ts : List Entry) : Spec := fun args h K => ∃ T ∈ Ts, ∃ l, T.fits l args h = true ∧ K (T.run l h).1 (T.run l h).2

theorem tableF_S : ∀ {Ts : List Entry} {args : List AV} {h : Heap} {r : AV × Heap}, tableF Ts args h = some r → ∃ T ∈ Ts, ∃ l, T.fits l args h = true ∧ r = T.run l h
  | [], _, _, _, hr => by cases hr
  | T :: Ts, args, h, r, hr => by
    simp only [tableF] at hr
    split at hr
    · rename_i hf; cases hr; exact ⟨T, List.mem_cons_self, _, hf, rfl⟩
    · obtain ⟨T', h1, h2⟩ := tableF_S hr; exact ⟨T', List.mem_cons_of_mem _ h1, h2⟩

def Sm.table (Ts : List Entry) : Sm where
  F := tableF Ts
  S := tableS Ts
  fits := fun args h r K hr hk => by obtain ⟨T, h1, l, h2, rfl⟩ := tableF_S hr; exact ⟨T, h1, l, h2, hk⟩
  mono := fun args h K K' hk ⟨T, h1, l, h2, h3⟩ => ⟨T, h1, l, h2, hk _ _ h3⟩
  cont := fun args h K _ ⟨T, h1, l, h2, m, h3⟩ => ⟨m, T, h1, l, h2, h3⟩

theorem sameAll_eq {a b : List AV} (h : sameAll a b = true) : a = b := sameL_eq (fun _ _ hh => sameF_eq _ _ _ hh) h

theorem holdsArgs_get {h : Heap} {l : List Nat} : ∀ {cs : List (List AV)} {i : Nat}, holdsArgs h l i cs = true → ∀ (j : Nat) (c : List AV), cs[j]? = some c → ∃ m, h.get (nameOf l (i + j)) = some (.cells m (AV.rens l c))
  | [], _, _, j, c, hj => by simp at hj
  | c :: cs, i, hh, j, c', hj => by
    simp only [holdsArgs, Bool.and_eq_true] at hh
    cases j with
    | zero =>
      simp only [List.getElem?_cons_zero, Option.some.injEq] at hj
      subst hj
      have h1 := hh.1
      unfold holdsAny at h1
      split at h1
      · rename_i m vs hg; exact ⟨m, by rw [Nat.add_zero, hg, sameAll_eq h1]⟩
      · cases h1
    | succ j =>
      obtain ⟨m, hm⟩ := holdsArgs_get hh.2 j c' (by simpa using hj)
      exact ⟨m, by rw [← hm]; congr 2; omega⟩

theorem holdsAll_get {h : Heap} {l : List Nat} : ∀ {bs : List Nat} {cs : List (List AV)}, holdsAll h l bs cs = true → bs.length = cs.length ∧ ∀ (j b : Nat) (c : List AV), bs[j]? = some b → cs[j]? = some c → ∃ ps, h.get b = some (.cells (.live ps) (AV.rens l c))
  | [], [], _ => ⟨rfl, fun j b c hj => by simp at hj⟩
  | [], _ :: _, hh => by simp [holdsAll] at hh
  | _ :: _, [], hh => by simp [holdsAll] at hh
  | b :: bs, c :: cs, hh => by
    simp only [holdsAll, Bool.and_eq_true] at hh
    obtain ⟨i1, i2⟩ := holdsAll_get hh.2
    refine ⟨by simp [i1], fun j b' c' hb hc => ?_⟩
    cases j with
    | zero =>
      simp only [List.getElem?_cons_zero, Option.some.injEq] at hb hc
      subst hb; subst hc
      have h1 := hh.1
      unfold holdsLive at h1
      split at h1
      · rename_i ps vs hg; exact ⟨ps, by rw [hg, sameAll_eq h1]⟩
      · cases h1
    | succ j => exact i2 j b' c' (by simpa using hb) (by simpa using hc)

theorem nodupN_nodup : ∀ {l : List Nat}, nodupN l = true → l.Nodup
  | [], _ => List.nodup_nil
  | b :: bs, h => by
    simp only [nodupN, Bool.and_eq_true, Bool.not_eq_true', List.contains_eq_mem, decide_eq_false_iff_not] at h
    exact List.nodup_cons.2 ⟨h.1, nodupN_nodup h.2⟩

theorem roHeap_get (l : List Nat) : ∀ (cs : List (List AV)) (i : Nat) (h : Heap) (b : Nat), (roHeap l cs i h).get b = if i ≤ b ∧ b < i + cs.length then (cs[b - i]?).map (fun c => AObj.cells .ro (AV.rens l c)) else h.get b
  | [], i, h, b => by rw [if_neg (by simp only [List.length_nil]; omega)]; rfl
  | c :: cs, i, h, b => by
    simp only [roHeap, roHeap_get l cs (i + 1), Heap.get_bump, Heap.get_set, List.length_cons]
    by_cases h1 : i = b
    · subst h1
      rw [if_neg (by omega), if_pos rfl, if_pos (by omega)]; simp
    · by_cases h2 : i + 1 ≤ b ∧ b < i + 1 + cs.length
      · rw [if_pos h2, if_pos (by omega)]
        obtain ⟨d, hd⟩ : ∃ d, b - i = d + 1 := ⟨b - i - 1, by omega⟩
        rw [hd, List.getElem?_cons_succ]; congr 2; omega
      · rw [if_neg h2, if_neg h1, if_neg (by omega)]
theorem roHeap_next (l : List Nat) : ∀ (cs : List (List AV)) (i : Nat) (h : Heap), (roHeap l cs i h).next = h.next + cs.length
  | [], _, _ => rfl
  | c :: cs, i, h => by simp only [roHeap, roHeap_next l cs (i + 1), Heap.next_bump, Heap.next_set, List.length_cons]; omega

theorem addNew_get (l : List Nat) : ∀ (cs : List (List AV)) (i : Nat) (h : Heap) (b : Nat), (addNew l cs i h).get b = if i ≤ b ∧ b < i + cs.length then (cs[b - i]?).map (fun c => AObj.cells (.live []) (AV.rens l c)) else h.get b
  | [], i, h, b => by rw [if_neg (by simp only [List.length_nil]; omega)]; rfl
  | c :: cs, i, h, b => by
    simp only [addNew, addNew_get l cs (i + 1), Heap.get_set, List.length_cons]
    by_cases h1 : i = b
    · subst h1
      rw [if_neg (by omega), if_pos rfl, if_pos (by omega)]; simp
    · by_cases h2 : i + 1 ≤ b ∧ b < i + 1 + cs.length
      · rw [if_pos h2, if_pos (by omega)]
        obtain ⟨d, hd⟩ : ∃ d, b - i = d + 1 := ⟨b - i - 1, by omega⟩
        rw [hd, List.getElem?_cons_succ]; congr 2; omega
      · rw [if_neg h2, if_neg h1, if_neg (by omega)]
theorem addNew_next (l : List Nat) : ∀ (cs : List (List AV)) (i : Nat) (h : Heap), (addNew l cs i h).next = h.next
  | [], _, _ => rfl
  | c :: cs, i, h => by simp only [addNew, addNew_next l cs (i + 1), Heap.next_set]
theorem addNew_set (l : List Nat) {id : Nat} {o : Option AObj} : ∀ (cs : List (List AV)) (i : Nat) (h : Heap), id < i → addNew l cs i (h.set id o) = (addNew l cs i h).set id o
  | [], _, _, _ => rfl
  | c :: cs, i, h, hi => by
    simp only [addNew]
    rw [Heap.set_comm h (b := i) (b' := id) _ _ (by omega), addNew_set l cs (i + 1) _ (by omega)]
theorem addNew_away (l : List Nat) {id : Nat} : ∀ (cs : List (List AV)) (i : Nat) (h : Heap), id < i → Away id h → Away id (addNew l cs i h)
  | [], _, _, _, A => A
  | c :: cs, i, h, hi, A => addNew_away l cs (i + 1) _ (by omega) (A.set (by omega) (fun _ _ e => by cases e; simp))

theorem Away.holdsArgs {id : Nat} {h : Heap} (A : Away id h) (o : AObj) {l : List Nat} : ∀ {cs : List (List AV)} {i : Nat}, Ab.holdsArgs h l i cs = true → Ab.holdsArgs (h.set id (some o)) l i cs = true
  | [], _, _ => rfl
  | c :: cs, i, hh => by
    simp only [Ab.holdsArgs, Bool.and_eq_true] at hh ⊢
    refine ⟨?_, A.holdsArgs o hh.2⟩
    have h1 := hh.1
    unfold holdsAny at h1 ⊢
    split at h1
    · rename_i hg; rw [A.get hg]; exact h1
    · cases h1

theorem tableS_away (Ts : List Entry) : SpecAway (tableS Ts) := by
  intro args h K ⟨T, hT, l, hf, hk⟩ id o A
  have hf' : T.fits l args (h.set id (some o)) = true := by
    unfold Entry.fits at hf ⊢
    simp only [Bool.and_eq_true] at hf ⊢
    exact ⟨⟨hf.1.1, A.holdsArgs o hf.1.2⟩, hf.2⟩
  refine ⟨T, hT, l, hf', ?_⟩
  have e1 : T.run l (h.set id (some o)) = ((T.run l h).1, (T.run l h).2.set id (some o)) := by
    unfold Entry.run
    simp only [Heap.next_set]
    rw [addNew_set _ _ _ _ A.lt]
    rfl
  rw [e1]
  exact ⟨_, hk, (addNew_away _ _ _ _ A.lt A).bump _, rfl⟩

theorem nameOf_range {n i : Nat} {r : List Nat} (hi : i < n) : nameOf (List.range n ++ r) i = i := by
  unfold nameOf
  rw [List.getElem?_append_left (by simpa using hi), List.getElem?_range hi]
theorem nameOf_range' {n i : Nat} (hi : i < n) : nameOf (List.range n) i = i := by
  have := nameOf_range (r := []) hi; simpa using this
theorem nameOf_left {l r : List Nat} {i : Nat} (hi : i < l.length) : nameOf (l ++ r) i = nameOf l i := by
  unfold nameOf; rw [List.getElem?_append_left hi]
theorem nameOf_right {l r : List Nat} {j : Nat} : nameOf (l ++ r) (l.length + j) = nameOf r j := by
  unfold nameOf; rw [List.getElem?_append_right (by omega)]; congr 2; omega
theorem nameOf_new {b n j : Nat} (hj : j < n) : nameOf (newNames b n) j = b + j := by
  unfold nameOf newNames
  rw [List.getElem?_map, List.getElem?_range hj]; rfl

theorem FnOK.body {P : Program} {pure : List Nat} {f : Nat} {F : AFunc} (h : FnOK P pure f F) : HasBody P f := by
  obtain ⟨fn, kr, kl, h1, h2⟩ := h
  unfold compF at h2
  split at h2
  · cases h2
  · rename_i c hc
    split at h2
    · split at h2
      · cases h2
      · rename_i hn
        exact ⟨fn, c, h1, hc, by simpa using hn⟩
    · cases h2

/-- An entry was run, in some context. -/
def EntryOK (x1 : GCtx) (f : Nat) (T : Entry) : Prop :=
  T.ok = true ∧ ∃ n ids, acall x1.c n (.func (.fn f) [] []) (AV.rens (List.range T.na) T.args) T.heap (fun v h1 => T.cert ids (some (v, h1)) = true)

theorem EntryOK.exec {x1 : GCtx} {y1 : XCtx} (hy : CtxFits x1.c y1) {f : Nat} {T : Entry} (n : Nat) (ids : List Nat) (h : T.cert ids (callX y1 (execF y1 n) (.func (.fn f) [] []) (AV.rens (List.range T.na) T.args) T.heap) = true) : EntryOK x1 f T := by
  rw [execF_eq] at h
  cases hr : callX y1 (Ab.exec y1 n) (.func (.fn f) [] []) (AV.rens (List.range T.na) T.args) T.heap with
  | none => rw [hr] at h; cases h
  | some r =>
    rw [hr] at h
    refine ⟨?_, n, ids, callX_awp hy n _ _ _ _ _ hr h⟩
    unfold Entry.cert at h
    simp only [Bool.and_eq_true] at h
    exact h.2

/-- A table whose entries were run, in a context of their own. -/
theorem sumOK_table {c : Ctx} {P : Program} {x1 : GCtx} (hc1 : CtxOK x1.c P) {f : Nat} (hb : HasBody P f) {Ts : List Entry}
    (hcert : ∀ T ∈ Ts, EntryOK x1 f T) : SumOK c P f (tableS Ts) := by
  refine ⟨(Sm.table Ts).mono, tableS_away Ts, fun args h K ⟨T, _, l, _, hk⟩ => ⟨_, _, hk⟩, hb, fun args h K ⟨T, hT, l, hf, hk⟩ Old w0 w E xs H hxs => ?_⟩
  obtain ⟨hok, n, ids, hcall⟩ := hcert T hT
  unfold Entry.fits at hf
  simp only [Bool.and_eq_true] at hf
  obtain ⟨⟨hf1, hf2⟩, hf3⟩ := hf
  have hargs := sameAll_eq hf1
  have hlen : l.length = T.na := Nat.eq_of_beq_eq_true hf3
  have hblk : ∀ (i : Nat) (cs : List AV), T.ha[i]? = some cs → ∃ m, h.get (nameOf l i) = some (.cells m (AV.rens l cs)) := fun i cs hi => by
    have := holdsArgs_get hf2 i cs hi; rwa [Nat.zero_add] at this
  · unfold Entry.ok at hok
    simp only [Bool.and_eq_true] at hok
    obtain ⟨⟨⟨hok1, hok2⟩, hok3⟩, hok4⟩ := hok
    have hM := H.M
    -- the arguments' blocks, as a heap of their own
    let E0 : Emb := { ρ := fun i => E.ρ (nameOf l i), here := fun i => i < T.na, sz := E.sz, M := E.M }
    have S0 : Same T.na E l E0 (List.range T.na) := ⟨fun i hi _ => by rw [nameOf_range' hi]; exact ⟨hi, rfl⟩, Nat.le_refl _, fun _ _ => rfl⟩
    have hget0 : ∀ b o, T.heap.get b = some o → b < T.na ∧ ∃ cs, T.ha[b]? = some cs ∧ o = .cells .ro (AV.rens (List.range T.na) cs) := fun b o hg => by
      unfold Entry.heap at hg
      rw [roHeap_get] at hg
      split at hg
      · rename_i hb
        rw [Nat.sub_zero] at hg
        obtain ⟨cs, h3, h4⟩ := Option.map_eq_some_iff.1 hg
        exact ⟨by unfold Entry.na; omega, cs, h3, h4.symm⟩
      · simp at hg
    have H0 : HRel (CR x1.c P) (fun r => r < w.heap.size) w E0 T.heap w := by
      refine ⟨hM, fun b hb => ?_, fun b o hg => ?_, fun b1 b2 o1 o2 _ g1 g2 _ => ?_, fun b1 b2 ps vs vs' g1 _ _ => ?_, fun r hr => ⟨by simp only [E0]; omega, rfl⟩, fun b o hg hw => ?_, fun b o hg => ?_, .refl _⟩
      · show b < T.heap.next
        unfold Entry.heap
        rw [roHeap_next]
        have hb' : b < T.na := hb
        have : Heap.empty.next = 0 := rfl
        unfold Entry.na at hb'
        omega
      · obtain ⟨hb, cs, hcs, rfl⟩ := hget0 b o hg
        obtain ⟨m, hm⟩ := hblk b cs hcs
        obtain ⟨x1', x2, cc, el, fz, a1, a2, a3, a4, _⟩ := H.objs _ _ hm
        refine ⟨hb, x2, cc, el, fz, a1, a2, by rw [AV.rens_length] at a3 ⊢; exact a3, fun i u hi => ?_, fun _ hq => by cases hq⟩
        obtain ⟨v0, hv0, rfl⟩ := AV.rens_get _ _ _ _ hi
        obtain ⟨x, hx, hr⟩ := a4 i _ (AV.rens_get' l _ _ _ hv0)
        have hlow := AV.lows_get (List.all_eq_true.1 hok2 cs (List.mem_of_getElem? hcs)) i v0 hv0
        exact ⟨x, hx, hr.ren S0 hlow⟩
      · obtain ⟨_, _, _, rfl⟩ := hget0 _ _ g1
        obtain ⟨_, _, _, rfl⟩ := hget0 _ _ g2
        exact ⟨trivial, trivial⟩
      · obtain ⟨_, _, _, e⟩ := hget0 _ _ g1; cases e
      · obtain ⟨_, _, _, rfl⟩ := hget0 _ _ hg; simp [AObj.written] at hw
      · obtain ⟨_, _, _, rfl⟩ := hget0 _ _ hg; intro ps vs e; cases e
    subst hargs
    have hxs0 := hxs.ren S0 hok1
    rcases acall_sound hc1 n _ _ _ _ hcall _ _ _ _ _ _ H0 (.func f [] [] [] [] .nil .nil) hxs0 with ⟨f', first, cap, e1, _, hcalls⟩ | ⟨_, _, e1, _⟩
    · have e1' : f = f' ∧ #[] = first ∧ #[] = cap := by cases e1; exact ⟨rfl, rfl, rfl⟩
      obtain ⟨rfl, rfl, rfl⟩ := e1'
      simp only [Array.empty_append, Array.append_empty] at hcalls
      refine CallsIn.mono hcalls fun en w' hr => ?_
      cases en with
      | panicked ch => exact hr.elim
      | outgrown => exact hr.elim
      | returned y =>
        obtain ⟨v, h1, E1, hce, g1, g2, g3, _, _⟩ := hr
        unfold Entry.cert at hce
        simp only [Bool.and_eq_true] at hce
        obtain ⟨⟨⟨hv, hnew⟩, hnd⟩, _⟩ := hce
        have hv := sameF_eq _ _ _ hv
        obtain ⟨hidl, hidg⟩ := holdsAll_get hnew
        have hnd := nodupN_nodup hnd
        let k := T.new.length
        have hk' : ids.length = k := hidl
        let E' : Emb := { ρ := fun b => if h.next ≤ b ∧ b < h.next + k then E1.ρ (nameOf ids (b - h.next)) else E.ρ b, here := fun b => E.here b ∨ (h.next ≤ b ∧ b < h.next + k), sz := E1.sz, M := E1.M }
        have hold : ∀ b, b < h.next → E'.ρ b = E.ρ b := fun b hb => if_neg (by omega)
        have hnewρ : ∀ j, j < k → E'.ρ (h.next + j) = E1.ρ (nameOf ids j) := fun j hj => by
          show (if h.next ≤ h.next + j ∧ h.next + j < h.next + k then E1.ρ (nameOf ids (h.next + j - h.next)) else E.ρ (h.next + j)) = _
          rw [if_pos (by omega)]; congr 2; omega
        have hle : E.Le E' := ⟨by have := g1.M; exact this, fun b hb => ⟨.inl hb, hold b (H.next b hb)⟩, fun r hr => g1.sz r hr⟩
        have S1 : Same (T.na + k) E1 (List.range T.na ++ ids) E' (l ++ newNames h.next k) := by
          refine ⟨fun i hi _ => ?_, Nat.le_refl _, fun _ _ => rfl⟩
          by_cases hin : i < T.na
          · rw [nameOf_range hin, nameOf_left (by omega)]
            obtain ⟨cs, hcs⟩ : ∃ cs, T.ha[i]? = some cs := ⟨T.ha[i]'hin, List.getElem?_eq_getElem hin⟩
            obtain ⟨m, hm⟩ := hblk i cs hcs
            have hh := (H.objs _ _ hm).1
            exact ⟨.inl hh, by rw [hold _ (H.next _ hh)]; exact (g1.here i hin).2.symm⟩
          · obtain ⟨j, rfl⟩ : ∃ j, i = T.na + j := ⟨i - T.na, by omega⟩
            have e1 : nameOf (List.range T.na ++ ids) (T.na + j) = nameOf ids j := by
              have := nameOf_right (l := List.range T.na) (r := ids) (j := j); simpa using this
            have e2 : nameOf (l ++ newNames h.next k) (T.na + j) = h.next + j := by
              rw [← hlen, nameOf_right, nameOf_new (by omega)]
            rw [e1, e2]
            exact ⟨.inr (by omega), hnewρ j (by omega)⟩
        -- the new heap's blocks
        have hget : ∀ b o, (T.run l h).2.get b = some o → (∃ j cs, j < k ∧ b = h.next + j ∧ T.new[j]? = some cs ∧ o = .cells (.live []) (AV.rens (l ++ newNames h.next k) cs)) ∨ (b < h.next ∧ h.get b = some o) := fun b o hg => by
          have hg : (addNew (l ++ newNames h.next T.new.length) T.new h.next h).get b = some o := hg
          rw [addNew_get] at hg
          split at hg
          · rename_i hbb
            obtain ⟨cs, h3, h4⟩ := Option.map_eq_some_iff.1 hg
            exact .inl ⟨b - h.next, cs, by omega, by omega, h3, h4.symm⟩
          · exact .inr ⟨H.next b (H.objs b o hg).1, hg⟩
        have hidj : ∀ j, j < k → ids[j]? = some (nameOf ids j) := fun j hj => by unfold nameOf; rw [List.getElem?_eq_getElem (by omega)]
        have far : ∀ j cs, j < k → T.new[j]? = some cs → w.heap.size ≤ (E1.ρ (nameOf ids j)).1 := fun j cs hj hcs => by
          obtain ⟨ps, hps⟩ := hidg j _ cs (hidj j hj) hcs
          have := g2.away _ _ hps rfl
          omega
        have near : ∀ b o, h.get b = some o → (E.ρ b).1 < w.heap.size := fun b o hg => by have := (H.objs b o hg).2.1; omega
        refine ⟨_, _, E', hk, hle, ⟨g2.M, fun b hb => ?_, fun b o hg => ?_, fun b1 b2 o1 o2 hne q1 q2 he => ?_, fun b1 b2 ps vs vs' q1 q2 he => ?_, fun r hr => ?_, fun b o hg hw => ?_, fun b o hg => ?_, H.side.trans g2.side⟩, ?_, fun b hb => ?_, ?_⟩
        · show b < ((addNew _ T.new h.next h).bump T.new.length).next
          rw [Heap.next_bump, addNew_next]
          rcases hb with hb | hb
          · have := H.next b hb; omega
          · exact hb.2
        · rcases hget b o hg with ⟨j, cs, hj, rfl, hcs, rfl⟩ | ⟨hb, hg'⟩
          · obtain ⟨ps, hps⟩ := hidg j _ cs (hidj j hj) hcs
            obtain ⟨x1', x2, cc, el, fz, a1, a2, a3, a4, a5⟩ := g2.objs _ _ hps
            refine ⟨.inr (by omega), by rw [hnewρ j hj]; exact x2, cc, el, fz, by rw [hnewρ j hj]; exact a1, by rw [hnewρ j hj]; exact a2, by rw [hnewρ j hj, AV.rens_length]; rw [AV.rens_length] at a3; exact a3, fun i u hi => ?_, fun _ _ i hi => a5 ps rfl i hi⟩
            obtain ⟨v0, hv0, rfl⟩ := AV.rens_get _ _ _ _ hi
            obtain ⟨x, hx, hr⟩ := a4 i _ (AV.rens_get' _ _ _ _ hv0)
            have hlow := AV.lows_get (List.all_eq_true.1 hok4 cs (List.mem_of_getElem? hcs)) i v0 hv0
            exact ⟨x, by rw [hnewρ j hj]; exact hx, hr.ren S1 hlow⟩
          · obtain ⟨x1', x2, x3⟩ := H.objs b o hg'
            refine ⟨.inl x1', by
              rw [hold b hb]
              have := g1.M
              simp only [E0] at this
              show (E.ρ b).1 < E1.M
              omega, ?_⟩
            have hsame : w'.heap[(E.ρ b).1]? = w.heap[(E.ρ b).1]? := (g2.old _ (by omega)).2
            exact (x3.congr hsame).mono hle x1' x2
        · rcases hget _ _ q1 with ⟨j1, c1, hj1, rfl, hc1', rfl⟩ | ⟨hb1, q1'⟩
          · rcases hget _ _ q2 with ⟨j2, c2, hj2, rfl, hc2', rfl⟩ | ⟨hb2, q2'⟩
            · exfalso
              rw [hnewρ j1 hj1, hnewρ j2 hj2] at he
              obtain ⟨p1, hp1⟩ := hidg j1 _ c1 (hidj j1 hj1) hc1'
              obtain ⟨p2, hp2⟩ := hidg j2 _ c2 (hidj j2 hj2) hc2'
              have hne' : nameOf ids j1 ≠ nameOf ids j2 := fun e => hne (by
                have e1 := hidj j1 hj1
                have e2 := hidj j2 hj2
                rw [← e] at e2
                have := (List.getElem?_inj (by omega) hnd).1 (e1.trans e2.symm)
                omega)
              exact (g2.sep _ _ _ _ hne' hp1 hp2 he).1
            · rw [hnewρ j1 hj1, hold _ hb2] at he
              have := far j1 c1 hj1 hc1'; have := near _ _ q2'; omega
          · rcases hget _ _ q2 with ⟨j2, c2, hj2, rfl, hc2', rfl⟩ | ⟨hb2, q2'⟩
            · rw [hnewρ j2 hj2, hold _ hb1] at he
              have := far j2 c2 hj2 hc2'; have := near _ _ q1'; omega
            · rw [hold _ hb1, hold _ hb2] at he
              exact H.sep _ _ _ _ hne q1' q2' he
        · rcases hget _ _ q2 with ⟨j2, c2, hj2, rfl, hc2', e2⟩ | ⟨hb2, q2'⟩
          · cases e2
          · rcases hget _ _ q1 with ⟨j1, c1, hj1, rfl, hc1', e1⟩ | ⟨hb1, q1'⟩
            · rw [hnewρ j1 hj1, hold _ hb2] at he
              have := far j1 c1 hj1 hc1'; have := near _ _ q2'; omega
            · rw [hold _ hb1, hold _ hb2] at he ⊢
              exact H.fit _ _ _ _ _ q1' q2' he
        · obtain ⟨x1', x2⟩ := H.old r hr
          have hle' := g1.M
          simp only [E0] at hle'
          exact ⟨by show r < E1.M; omega, by rw [(g2.old r (by omega)).2, x2]⟩
        · rcases hget b o hg with ⟨j, cs, hj, rfl, hcs, rfl⟩ | ⟨hb, hg'⟩
          · rw [hnewρ j hj]
            intro hO
            have := far j cs hj hcs
            have := (H.old _ hO).1
            omega
          · rw [hold b hb]; exact H.away _ _ hg' hw
        · rcases hget b o hg with ⟨j, cs, hj, rfl, hcs, rfl⟩ | ⟨hb, hg'⟩
          · exact AObj.tidy_nil _ _
          · exact (H.tidy _ _ hg').mono hle
        · subst hv
          exact g3.ren S1 hok3
        · rcases hb with hb | hb
          · exact .inl hb
          · exact .inr hb.1
        · show h.next ≤ ((addNew _ T.new h.next h).bump T.new.length).next
          rw [Heap.next_bump, addNew_next]; omega
    · cases e1
end Go.Ab
