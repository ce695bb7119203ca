/- How abstract values and heaps lie in the model's world; what loads, stores and new blocks do to that. -/
import Derived.Test.YtfdokiknemihpaaGreatDoorAbB
import Derived.RangeFuncLeaves
import Derived.RangeFuncRecord
import Derived.Laws.World
import Derived.Laws.Sem
namespace Go.Ab

/-! ### The heap's laws -/
theorem Tr.getF_leaf (d n : Nat) : Tr.getF d .leaf n = none := by cases d <;> rfl

theorem Tr.getF_setF : ∀ (d1 d2 : Nat) (t : Tr) (n m : Nat) (o : Option AObj), n < d1 → m < d2 →
    Tr.getF d2 (Tr.setF d1 t n o) m = if n = m then o else Tr.getF d2 t m
  | 0, _, _, n, _, _, h1, _ => absurd h1 (Nat.not_lt_zero _)
  | d1 + 1, 0, _, _, m, _, _, h2 => absurd h2 (Nat.not_lt_zero _)
  | d1 + 1, d2 + 1, t, n, m, o, h1, h2 => by
    have key : ∀ k, (match t with | .leaf => none | .node _ l _ => Tr.getF d2 l k) = Tr.getF d2 t.left k := fun k => by cases t <;> simp [Tr.left, Tr.getF_leaf]
    have key' : ∀ k, (match t with | .leaf => none | .node _ _ r => Tr.getF d2 r k) = Tr.getF d2 t.right k := fun k => by cases t <;> simp [Tr.right, Tr.getF_leaf]
    have hv : (match t with | .leaf => none | .node v _ _ => v) = t.val := by cases t <;> rfl
    have hg : ∀ k, Tr.getF (d2 + 1) t k = match k with | 0 => t.val | j + 1 => match Nat.mod j 2 with | 0 => Tr.getF d2 t.left (Nat.div j 2) | _ => Tr.getF d2 t.right (Nat.div j 2) := fun k => by
      cases t with
      | leaf => cases k with
        | zero => rfl
        | succ j => simp only [Tr.getF, Tr.left, Tr.right, Tr.getF_leaf]; split <;> rfl
      | node v l r => rfl
    rw [hg m]
    cases n with
    | zero =>
      cases m with
      | zero => rfl
      | succ m => simp only [Tr.setF, Tr.getF]; rw [if_neg (by omega)]; rfl
    | succ n =>
      have hn : Nat.div n 2 < d1 := Nat.lt_of_le_of_lt (Nat.div_le_self n 2) (by omega)
      cases m with
      | zero =>
        rw [if_neg (by omega)]
        simp only [Tr.setF]
        split <;> rfl
      | succ m =>
        have hm : Nat.div m 2 < d2 := Nat.lt_of_le_of_lt (Nat.div_le_self m 2) (by omega)
        have e1 : ∀ j : Nat, Nat.mod j 2 = j % 2 := fun _ => rfl
        have e2 : ∀ j : Nat, Nat.div j 2 = j / 2 := fun _ => rfl
        have hmod : ∀ j : Nat, j % 2 = 0 ∨ j % 2 = 1 := fun j => by omega
        simp only [Tr.setF]
        rcases hmod n with hn2 | hn2 <;> rcases hmod m with hm2 | hm2 <;> simp only [e1, hn2, hm2, Tr.getF] <;>
          first
            | (rw [Tr.getF_setF d1 d2 _ _ _ o hn hm]
               by_cases hh : n = m
               · subst hh; simp
               · have : ¬ Nat.div n 2 = Nat.div m 2 := by rw [e2, e2]; omega
                 rw [if_neg this, if_neg (by omega)])
            | (rw [if_neg (by omega)])

theorem Heap.get_set (h : Heap) (b b' : Nat) (o : Option AObj) : (h.set b o).get b' = if b = b' then o else h.get b' :=
  Tr.getF_setF _ _ _ _ _ _ (Nat.lt_succ_self _) (Nat.lt_succ_self _)
theorem Heap.get_set_same (h : Heap) (b : Nat) (o : Option AObj) : (h.set b o).get b = o := by rw [Heap.get_set, if_pos rfl]
theorem Heap.get_set_other (h : Heap) {b b' : Nat} (o : Option AObj) (hn : b ≠ b') : (h.set b o).get b' = h.get b' := by rw [Heap.get_set, if_neg hn]
@[simp] theorem Heap.next_set (h : Heap) (b : Nat) (o : Option AObj) : (h.set b o).next = h.next := rfl
@[simp] theorem Heap.get_bump (h : Heap) (n b : Nat) : (h.bump n).get b = h.get b := rfl
@[simp] theorem Heap.next_bump (h : Heap) (n : Nat) : (h.bump n).next = h.next + n := rfl
@[simp] theorem Heap.get_empty (b : Nat) : Heap.empty.get b = none := rfl
theorem Heap.get_eraseAll (ps : List Nat) : ∀ (h : Heap) (b : Nat), (h.eraseAll ps).get b = if b ∈ ps then none else h.get b := by
  induction ps with
  | nil => intro h b; simp [Heap.eraseAll]
  | cons p ps ih =>
    intro h b
    simp only [Heap.eraseAll, ih, Heap.get_set, List.mem_cons]
    by_cases h1 : b ∈ ps
    · simp [h1]
    · by_cases h2 : p = b
      · subst h2; simp
      · have : ¬ b = p := fun e => h2 e.symm
        simp [h1, h2, this]
@[simp] theorem Heap.next_eraseAll (ps : List Nat) : ∀ (h : Heap), (h.eraseAll ps).next = h.next := by
  induction ps with
  | nil => intro h; rfl
  | cons p ps ih => intro h; simp [Heap.eraseAll, ih]

/-! ### Where abstract blocks lie -/
structure Emb where
  ρ : Nat → Nat × Nat
  here : Nat → Prop
  sz : Nat → Nat
  M : Nat

def Emb.at_ (E : Emb) (b off : Nat) : Addr := ⟨(E.ρ b).1, (E.ρ b).2 + off, none⟩

structure Emb.Le (E E' : Emb) : Prop where
  M : E.M ≤ E'.M
  here : ∀ b, E.here b → E'.here b ∧ E'.ρ b = E.ρ b
  sz : ∀ r, r < E.M → E'.sz r = E.sz r

theorem Emb.Le.refl (E : Emb) : E.Le E := ⟨Nat.le_refl _, fun _ h => ⟨h, rfl⟩, fun _ _ => rfl⟩
theorem Emb.Le.trans {E F G : Emb} (h : E.Le F) (k : F.Le G) : E.Le G :=
  ⟨Nat.le_trans h.M k.M, fun b hb => ⟨(k.here b (h.here b hb).1).1, by rw [(k.here b (h.here b hb).1).2, (h.here b hb).2]⟩,
   fun r hr => by rw [k.sz r (Nat.lt_of_lt_of_le hr h.M), h.sz r hr]⟩

mutual
inductive VRel (E : Emb) : AV → Value → Prop
  | bool (b : Bool) : VRel E (.bool b) (.bool b)
  | int (k : IntKind) (n : Int) : VRel E (.int k n) (.int k n)
  | str (s : ByteArray) (l : List Nat) (h : s.data.toList.map UInt8.toNat = l) : VRel E (.str l) (.string s)
  | nilptr : VRel E .nilptr (.pointer none)
  | ptr (b off : Nat) (hb : E.here b) : VRel E (.ptr b off) (.pointer (some (E.at_ b off)))
  | nilslice : VRel E .nilslice (.slice none 0 0)
  | slice (b off len esz : Nat) (a : Addr) (cap : Nat) (hb : E.here b)
      (h : (len = 0 ∧ cap = 0) ∨ (a = E.at_ b off ∧ len ≤ cap ∧ (E.ρ b).1 < E.M ∧ (E.ρ b).2 + off + cap * esz ≤ E.sz (E.ρ b).1)) :
      VRel E (.slice b off len esz) (.slice (some a) len cap)
  | nilmap : VRel E .nilmap (.map none)
  | map (r : Nat) (hr : E.here r) : VRel E (.map r) (.map (some (E.ρ r).1))
  | nilfunc : VRel E .nilfunc .nilFunc
  | func (f : Nat) (first cap : List AV) (first' cap' : List Value) (h1 : VsRel E first first') (h2 : VsRel E cap cap') :
      VRel E (.func (.fn f) first cap) (.func (.func f) first'.toArray cap'.toArray)
  | yield (l : Nat) (hl : E.here l) : VRel E (.func (.yield l) [] []) (.func (.yield (E.ρ l).1) #[] #[])
  | nilIface : VRel E .nilIface .nilIface
  | iface (t : Nat) (v : AV) (x : Value) (h : VRel E v x) : VRel E (.iface t v) (.iface t x)
  | agg (cs : List AV) (ds : List Value) (h : VsRel E cs ds) : VRel E (.agg cs) (.agg ds.toArray)
  | tuple (cs : List AV) (ds : List Value) (h : VsRel E cs ds) : VRel E (.tuple cs) (.tuple ds.toArray)
inductive VsRel (E : Emb) : List AV → List Value → Prop
  | nil : VsRel E [] []
  | cons (v : AV) (x : Value) (vs : List AV) (xs : List Value) (h : VRel E v x) (hs : VsRel E vs xs) : VsRel E (v :: vs) (x :: xs)
end

mutual
theorem VRel.mono {E E' : Emb} (hle : E.Le E') : ∀ {v : AV} {x : Value}, VRel E v x → VRel E' v x
  | _, _, .bool b => .bool b
  | _, _, .int k n => .int k n
  | _, _, .str s l h => .str s l h
  | _, _, .nilptr => .nilptr
  | _, _, .ptr b off hb => by
    have := hle.here b hb
    have e : E.at_ b off = E'.at_ b off := by simp [Emb.at_, this.2]
    rw [e]; exact .ptr b off this.1
  | _, _, .nilslice => .nilslice
  | _, _, .slice b off len esz a cap hb h => by
    have := hle.here b hb
    refine .slice b off len esz a cap this.1 ?_
    rcases h with h | ⟨h1, h2, h3, h4⟩
    · exact .inl h
    · refine .inr ⟨?_, h2, ?_, ?_⟩
      · rw [h1]; simp [Emb.at_, this.2]
      · rw [this.2]; exact Nat.lt_of_lt_of_le h3 hle.M
      · rw [this.2, hle.sz _ h3]; exact h4
  | _, _, .nilmap => .nilmap
  | _, _, .map r hr => by
    have := hle.here r hr
    rw [← this.2]; exact .map r this.1
  | _, _, .nilfunc => .nilfunc
  | _, _, .func f first cap first' cap' h1 h2 => .func f first cap first' cap' (h1.mono hle) (h2.mono hle)
  | _, _, .yield l hl => by
    have := hle.here l hl
    rw [← this.2]; exact .yield l this.1
  | _, _, .nilIface => .nilIface
  | _, _, .iface t v x h => .iface t v x (h.mono hle)
  | _, _, .agg cs ds h => .agg cs ds (h.mono hle)
  | _, _, .tuple cs ds h => .tuple cs ds (h.mono hle)
theorem VsRel.mono {E E' : Emb} (hle : E.Le E') : ∀ {vs : List AV} {xs : List Value}, VsRel E vs xs → VsRel E' vs xs
  | _, _, .nil => .nil
  | _, _, .cons v x vs xs h hs => .cons v x vs xs (h.mono hle) (hs.mono hle)
end

theorem VsRel.length {E : Emb} : ∀ {vs : List AV} {xs : List Value}, VsRel E vs xs → vs.length = xs.length
  | _, _, .nil => rfl
  | _, _, .cons _ _ _ _ _ hs => by simp [hs.length]

theorem VsRel.append {E : Emb} : ∀ {vs : List AV} {xs : List Value} {us : List AV} {ys : List Value}, VsRel E vs xs → VsRel E us ys → VsRel E (vs ++ us) (xs ++ ys)
  | _, _, _, _, .nil, h => h
  | _, _, _, _, .cons v x vs xs h hs, h' => .cons v x _ _ h (hs.append h')

theorem VsRel.get {E : Emb} : ∀ {vs : List AV} {xs : List Value}, VsRel E vs xs → ∀ (i : Nat) (v : AV), vs[i]? = some v → ∃ x, xs[i]? = some x ∧ VRel E v x
  | _, _, .nil, i, v, h => by simp at h
  | _, _, .cons v x vs xs h hs, 0, u, hu => by simp at hu; subst hu; exact ⟨x, rfl, h⟩
  | _, _, .cons v x vs xs h hs, i + 1, u, hu => by simpa using hs.get i u (by simpa using hu)

theorem VsRel.of_get {E : Emb} : ∀ {vs : List AV} {xs : List Value}, vs.length = xs.length → (∀ (i : Nat) (v : AV), vs[i]? = some v → ∃ x, xs[i]? = some x ∧ VRel E v x) → VsRel E vs xs
  | [], [], _, _ => .nil
  | [], _ :: _, h, _ => by simp at h
  | _ :: _, [], h, _ => by simp at h
  | v :: vs, x :: xs, h, hg => by
    refine .cons v x vs xs ?_ (VsRel.of_get (by simpa using h) fun i u hu => by simpa using hg (i + 1) u (by simpa using hu))
    obtain ⟨y, hy, hr⟩ := hg 0 v rfl
    simp at hy; subst hy; exact hr

theorem VsRel.take {E : Emb} : ∀ {vs : List AV} {xs : List Value}, VsRel E vs xs → ∀ n, VsRel E (vs.take n) (xs.take n)
  | _, _, .nil, n => by simp; exact .nil
  | _, _, .cons v x vs xs h hs, 0 => .nil
  | _, _, .cons v x vs xs h hs, n + 1 => .cons v x _ _ h (hs.take n)
theorem VsRel.drop {E : Emb} : ∀ {vs : List AV} {xs : List Value}, VsRel E vs xs → ∀ n, VsRel E (vs.drop n) (xs.drop n)
  | _, _, .nil, n => by simp; exact .nil
  | _, _, .cons v x vs xs h hs, 0 => .cons v x vs xs h hs
  | _, _, .cons v x vs xs h hs, n + 1 => hs.drop n

theorem VRel.cells {E : Emb} {v : AV} {x : Value} (h : VRel E v x) : VsRel E v.cells x.cells.toList := by
  cases h with
  | agg cs ds h => simpa [AV.cells, Value.cells] using h
  | bool b => exact .cons _ _ _ _ (.bool b) .nil
  | int k n => exact .cons _ _ _ _ (.int k n) .nil
  | str s l h => exact .cons _ _ _ _ (.str s l h) .nil
  | nilptr => exact .cons _ _ _ _ .nilptr .nil
  | ptr b off hb => exact .cons _ _ _ _ (.ptr b off hb) .nil
  | nilslice => exact .cons _ _ _ _ .nilslice .nil
  | slice b off len esz a cap hb h => exact .cons _ _ _ _ (.slice b off len esz a cap hb h) .nil
  | nilmap => exact .cons _ _ _ _ .nilmap .nil
  | map r hr => exact .cons _ _ _ _ (.map r hr) .nil
  | nilfunc => exact .cons _ _ _ _ .nilfunc .nil
  | func f a b c d h1 h2 => exact .cons _ _ _ _ (.func f a b c d h1 h2) .nil
  | yield l hl => exact .cons _ _ _ _ (.yield l hl) .nil
  | nilIface => exact .cons _ _ _ _ .nilIface .nil
  | iface t v x h => exact .cons _ _ _ _ (.iface t v x h) .nil
  | tuple cs ds h => exact .cons _ _ _ _ (.tuple cs ds h) .nil

theorem VRel.one {E : Emb} {v : AV} {x : Value} (h : VRel E v x) : v.one = x.oneCell' := by cases h <;> rfl

/-- Temporaries: what is known of them. -/
def EnvRel (E : Emb) (e : Env) (tmps : Array Value) : Prop := ∀ t v, e.get t = some v → ∃ x, tmps[t]? = some x ∧ VRel E v x

theorem EnvRel.mono {E E' : Emb} (hle : E.Le E') {e : Env} {tmps : Array Value} (h : EnvRel E e tmps) : EnvRel E' e tmps :=
  fun t v hv => let ⟨x, hx, hr⟩ := h t v hv; ⟨x, hx, hr.mono hle⟩

theorem EnvRel.put {E : Emb} {e : Env} {a : Act} {nt : Nat} (h : EnvRel E e a.tmps) (hs : nt ≤ a.tmps.size) {d : Option Nat} (hd : cDst nt d = true) {v : AV} {x : Value} (hv : VRel E v x) :
    EnvRel E (e.putD d v) (a.put d x).tmps ∧ nt ≤ (a.put d x).tmps.size := by
  cases d with
  | none => exact ⟨h, hs⟩
  | some t =>
    have ht : t < nt := by simpa [cDst, Nat.blt_eq] using hd
    refine ⟨fun s u hu => ?_, by simpa [Act.put] using hs⟩
    simp only [Env.putD, Env.get_cons] at hu
    by_cases hts : t = s
    · subst hts
      rw [if_pos rfl] at hu
      cases hu
      exact ⟨x, by simp [Act.put, Nat.lt_of_lt_of_le ht hs], hv⟩
    · rw [if_neg hts] at hu
      obtain ⟨y, hy, hr⟩ := h s u hu
      exact ⟨y, by simpa [Act.put, Array.getElem?_setIfInBounds_ne hts] using hy, hr⟩

theorem Env.get_keep (e : Env) : ∀ (l : List Nat) (t : Nat) (v : AV), (e.keep l).get t = some v → e.get t = some v := by
  intro l
  induction l with
  | nil => intro t v h; simp [Env.keep_nil, Env.get_nil] at h
  | cons s ss ih =>
    intro t v h
    rw [Env.keep_cons] at h
    cases hs : e.get s with
    | none => rw [hs] at h; exact ih t v h
    | some u =>
      rw [hs] at h
      simp only [Env.get_cons] at h
      by_cases hts : s = t
      · subst hts; rw [if_pos rfl] at h; cases h; exact hs
      · rw [if_neg hts] at h; exact ih t v h

theorem EnvRel.keep {E : Emb} {e : Env} {tmps : Array Value} (h : EnvRel E e tmps) (l : List Nat) : EnvRel E (e.keep l) tmps :=
  fun t v hv => h t v (Env.get_keep e l t v hv)

/-! ### Heaps -/
/-- Map entries. -/
inductive EntsRel (E : Emb) : List (AV × AV) → List MapEntry → Prop
  | nil : EntsRel E [] []
  | cons (k v : AV) (m : MapEntry) (es : List (AV × AV)) (ms : List MapEntry) (hk : VRel E k m.key) (hv : VRel E v m.val) (h : EntsRel E es ms) : EntsRel E ((k, v) :: es) (m :: ms)

theorem EntsRel.mono {E E' : Emb} (hle : E.Le E') : ∀ {es : List (AV × AV)} {ms : List MapEntry}, EntsRel E es ms → EntsRel E' es ms
  | _, _, .nil => .nil
  | _, _, .cons k v m es ms hk hv h => .cons k v m es ms (hk.mono hle) (hv.mono hle) (h.mono hle)

def exRel : Option Ex → Option Code → Prop
  | none, none => True
  | some (.exit i), some (.exit j) => i = j
  | some .ret, some .ret => True
  | _, _ => False

/-- What is known of code: R nt code ac: ac is the abstract machine's text of code, in a frame of nt temporaries at least. -/
abbrev CodeRel := Nat → Code → AC → Prop

def ORel (R : CodeRel) (E : Emb) (w : World) (b : Nat) : AObj → Prop
  | .cells m vs => ∃ c el fz, w.heap[(E.ρ b).1]? = some (.cells c el fz) ∧ E.sz (E.ρ b).1 = c.size ∧ (E.ρ b).2 + vs.length ≤ c.size ∧
      (∀ i v, vs[i]? = some v → ∃ x, c[(E.ρ b).2 + i]? = some x ∧ VRel E v x) ∧ (∀ ps, m = .live ps → ∀ i, i < c.size → (decide (fz.1 ≤ i) && decide (i < fz.2)) = false)
  | .map es => ∃ ms clock, w.heap[(E.ρ b).1]? = some (.map ms clock) ∧ EntsRel E es ms.toList ∧ clock = es.length ∧ ms.toList.map MapEntry.born = List.range es.length
  | .strIter s pos => (E.ρ b).2 = 0 ∧ ∃ s', w.heap[(E.ρ b).1]? = some (.stringIter s' pos) ∧ s'.data.toList.map UInt8.toNat = s
  | .mapIter m n seen => (E.ρ b).2 = 0 ∧ E.here m ∧ ∃ seen', w.heap[(E.ρ b).1]? = some (.mapIter (some (E.ρ m).1) n seen' n) ∧ seen'.toList = seen.reverse
  | .loop st pend env ps asg body => ∃ L nt, w.heap[(E.ρ b).1]? = some (.loop L) ∧ L.state = st ∧ exRel pend L.pending ∧ EnvRel E env L.tmps ∧ nt ≤ L.tmps.size ∧
      L.params.toList = ps ∧ ps.all (Nat.blt · nt) = true ∧ R nt L.assign asg ∧ R nt L.body body

/-- Two names may lie in one block: nobody writes it; or only one of them does, and the other is its stale parent. -/
def shareOK (b' : Nat) : AObj → AObj → Prop
  | .cells m _, .cells m' _ => match m, m' with
    | .live ps, .stale => b' ∈ ps
    | .live _, _ => False
    | _, .live _ => True
    | _, _ => True
  | _, _ => False

def AObj.written : AObj → Bool
  | .cells (.live _) _ => true
  | .cells _ _ => false
  | _ => true

/-- The parents that a live block tells have names. -/
def AObj.Tidy (E : Emb) (o : AObj) : Prop := ∀ ps vs, o = .cells (.live ps) vs → ∀ p ∈ ps, E.here p
theorem AObj.Tidy.mono {E E' : Emb} {o : AObj} (h : o.Tidy E) (hle : E.Le E') : o.Tidy E' := fun ps vs e p hp => (hle.here p (h ps vs e p hp)).1
theorem AObj.tidy_nil (E : Emb) (vs : List AV) : (AObj.cells (.live []) vs).Tidy E := fun ps vs h p hp => by cases h; cases hp
theorem AObj.tidy_stale (E : Emb) (vs : List AV) : (AObj.cells .stale vs).Tidy E := fun ps vs h => by cases h

/-- What lies beside the heap stays. -/
structure Side (w w' : World) : Prop where
  os : w'.os = w.os
  tape : w'.tape = w.tape
  output : w'.output = w.output
theorem Side.refl (w : World) : Side w w := ⟨rfl, rfl, rfl⟩
theorem Side.trans {a b c : World} (h : Side a b) (k : Side b c) : Side a c := ⟨k.os.trans h.os, k.tape.trans h.tape, k.output.trans h.output⟩

structure HRel (R : CodeRel) (Old : Nat → Prop) (w0 : World) (E : Emb) (h : Heap) (w : World) : Prop where
  M : E.M = w.heap.size
  next : ∀ b, E.here b → b < h.next
  objs : ∀ b o, h.get b = some o → E.here b ∧ (E.ρ b).1 < E.M ∧ ORel R E w b o
  sep : ∀ b b' o o', b ≠ b' → h.get b = some o → h.get b' = some o' → (E.ρ b).1 = (E.ρ b').1 → shareOK b' o o' ∧ shareOK b o' o
  fit : ∀ b b' ps vs vs', h.get b = some (.cells (.live ps) vs) → h.get b' = some (.cells .stale vs') → (E.ρ b').1 = (E.ρ b).1 → (E.ρ b').2 + vs'.length ≤ (E.ρ b).2 + vs.length
  old : ∀ r, Old r → r < E.M ∧ w.heap[r]? = w0.heap[r]?
  away : ∀ b o, h.get b = some o → o.written = true → ¬ Old (E.ρ b).1
  tidy : ∀ b o, h.get b = some o → o.Tidy E
  side : Side w0 w

end Go.Ab
