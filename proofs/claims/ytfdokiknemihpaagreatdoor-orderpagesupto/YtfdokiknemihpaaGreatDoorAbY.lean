/- What a law's statement asks, out of the abstract machine's answer: arguments opened as read-only blocks; the statement's ending. -/
import Derived.Test.YtfdokiknemihpaaGreatDoorAbX
import Derived.OpenVars
import Derived.ChangeArms
import Derived.OpenShut
import Derived.ProofKit
namespace Go.Ab
open Go.ChangeShapes Go.WideShapes Go.ChangeAt Go.WideElems Go.RowKit

/-! ### Shapes of arguments -/
inductive Sh where
  | bool | int (k : IntKind) | str
  | slice (s : Sh)
  | agg (ss : List Sh)

mutual
def Sh.size : Sh → Nat
  | .bool => 1
  | .int _ => 1
  | .str => 1
  | .slice _ => 1
  | .agg ss => Sh.sizes ss
def Sh.sizes : List Sh → Nat
  | [] => 0
  | s :: ss => s.size + Sh.sizes ss
end

mutual
def Sh.fits (P : Program) : Sh → TypeId → Bool
  | .bool, t => match P.underlying t with | some .bool => true | _ => false
  | .int k, t => match P.underlying t with | some (.int k') => decide (k = k') | _ => false
  | .str, t => match P.underlying t with | some .string => true | _ => false
  | .slice s, t => match P.underlying t with
    | some (.slice e) => s.fits P e && P.cellsOf e == s.size && Nat.blt 0 s.size
    | _ => false
  | .agg ss, t => match P.underlying t with
    | some (.struct fs) => P.cellsOf t == Sh.sizes ss && Sh.fitsF P ss fs.toList 0
    | some (.array n e) => P.cellsOf t == Sh.sizes ss && ss.length == n && Sh.fitsA P ss e (P.cellsOf e)
    | _ => false
def Sh.fitsF (P : Program) : List Sh → List Field → Nat → Bool
  | [], [], _ => true
  | s :: ss, f :: fs, off => f.offset == off && P.cellsOf f.type == s.size && s.fits P f.type && Sh.fitsF P ss fs (off + s.size)
  | _, _, _ => false
def Sh.fitsA (P : Program) : List Sh → TypeId → Nat → Bool
  | [], _, _ => true
  | s :: ss, e, c => s.size == c && s.fits P e && Sh.fitsA P ss e c
end

mutual
/-- Cells that hold something of a shape; nothing is longer than B. -/
def Sh.Holds (B : Nat) (h : Heap) : Sh → List AV → Prop
  | .bool, cs => ∃ b, cs = [.bool b]
  | .int k, cs => ∃ n, cs = [.int k n] ∧ (Lit.int k n).wf = true
  | .str, cs => ∃ l : List Nat, cs = [.str l] ∧ l.length ≤ B ∧ ∀ x ∈ l, x < 256
  | .slice s, cs => cs = [.nilslice] ∨ ∃ (b : Nat) (rows : List (List AV)), cs = [.slice b 0 rows.length s.size] ∧ rows.length ≤ B ∧ (rows ≠ [] → h.get b = some (.cells .ro rows.flatten)) ∧ ∀ r ∈ rows, s.Holds B h r
  | .agg ss, cs => Sh.HoldsL B h ss cs
def Sh.HoldsL (B : Nat) (h : Heap) : List Sh → List AV → Prop
  | [], cs => cs = []
  | s :: ss, cs => ∃ x y, cs = x ++ y ∧ s.Holds B h x ∧ Sh.HoldsL B h ss y
end

mutual
theorem Sh.Holds.length {B : Nat} {h : Heap} : ∀ {s : Sh} {cs : List AV}, s.Holds B h cs → cs.length = s.size
  | .bool, _, hh => by simp only [Sh.Holds] at hh; obtain ⟨_, rfl⟩ := hh; rfl
  | .int _, _, hh => by simp only [Sh.Holds] at hh; obtain ⟨_, rfl, _⟩ := hh; rfl
  | .str, _, hh => by simp only [Sh.Holds] at hh; obtain ⟨_, rfl, _⟩ := hh; rfl
  | .slice s, _, hh => by
    simp only [Sh.Holds] at hh
    rcases hh with rfl | ⟨_, _, rfl, _⟩ <;> rfl
  | .agg ss, _, hh => by simp only [Sh.Holds] at hh; exact Sh.HoldsL.length hh
theorem Sh.HoldsL.length {B : Nat} {h : Heap} : ∀ {ss : List Sh} {cs : List AV}, Sh.HoldsL B h ss cs → cs.length = Sh.sizes ss
  | [], _, hh => by simp only [Sh.HoldsL] at hh; subst hh; rfl
  | s :: ss, _, hh => by
    simp only [Sh.HoldsL] at hh
    obtain ⟨x, y, rfl, h1, h2⟩ := hh
    rw [List.length_append, Sh.Holds.length h1, Sh.HoldsL.length h2]; rfl
end

def Heap.Ext (h h' : Heap) : Prop := ∀ b x, h.get b = some x → h'.get b = some x
theorem Heap.Ext.refl (h : Heap) : h.Ext h := fun _ _ hh => hh
theorem Heap.Ext.trans {a b c : Heap} (h : a.Ext b) (k : b.Ext c) : a.Ext c := fun i x hh => k i x (h i x hh)

mutual
theorem Sh.Holds.mono {B : Nat} {h h' : Heap} (hx : h.Ext h') : ∀ {s : Sh} {cs : List AV}, s.Holds B h cs → s.Holds B h' cs
  | .bool, _, hh => by simp only [Sh.Holds] at hh ⊢; exact hh
  | .int _, _, hh => by simp only [Sh.Holds] at hh ⊢; exact hh
  | .str, _, hh => by simp only [Sh.Holds] at hh ⊢; exact hh
  | .slice s, _, hh => by
    simp only [Sh.Holds] at hh ⊢
    rcases hh with rfl | ⟨b, rows, rfl, h1, h2, h3⟩
    · exact .inl rfl
    · exact .inr ⟨b, rows, rfl, h1, fun hne => hx _ _ (h2 hne), fun r hr => Sh.Holds.mono hx (h3 r hr)⟩
  | .agg ss, _, hh => by
    simp only [Sh.Holds] at hh ⊢
    exact Sh.HoldsL.mono hx hh
theorem Sh.HoldsL.mono {B : Nat} {h h' : Heap} (hx : h.Ext h') : ∀ {ss : List Sh} {cs : List AV}, Sh.HoldsL B h ss cs → Sh.HoldsL B h' ss cs
  | [], _, hh => by simp only [Sh.HoldsL] at hh ⊢; exact hh
  | s :: ss, _, hh => by
    simp only [Sh.HoldsL] at hh ⊢
    obtain ⟨x, y, rfl, h1, h2⟩ := hh
    exact ⟨x, y, rfl, h1.mono hx, h2.mono hx⟩
end

/-! ### Opening -/
/-- What a datum's size is, to bound what it holds. -/
structure Bulk {H : Type} (bk : DataW H → Nat) : Prop where
  str : ∀ l, l.length ≤ bk (.lit (.string l))
  slice : ∀ es sp, es.length ≤ bk (.slice es sp)
  elem : ∀ es sp, ∀ e ∈ es, bk e ≤ bk (.slice es sp)
  part : ∀ ps, ∀ p ∈ ps, bk p ≤ bk (.agg ps)

/-- The world as a heap of read-only blocks. -/
structure RO (R : CodeRel) (W : World) (E : Emb) (h : Heap) : Prop where
  rel : HRel R (fun r => r < W.heap.size) W E h W
  sz : ∀ r c el fz, W.heap[r]? = some (.cells c el fz) → E.sz r = c.size
  ro : ∀ b o, h.get b = some o → ∃ vs, o = .cells .ro vs

structure Grows (R : CodeRel) (W : World) (E : Emb) (h : Heap) (E' : Emb) (h' : Heap) : Prop where
  le : E.Le E'
  ro : RO R W E' h'
  ext : h.Ext h'

section
variable {R : CodeRel} {P : Program} {W : World} {H : Type} {enc : TypeId × Value → H} {bk : DataW H → Nat} {B : Nat}

theorem Grows.refl {E : Emb} {h : Heap} (r : RO R W E h) : Grows R W E h E h := ⟨.refl _, r, .refl _⟩
theorem Grows.trans {E E1 E2 : Emb} {h h1 h2 : Heap} (g : Grows R W E h E1 h1) (k : Grows R W E1 h1 E2 h2) : Grows R W E h E2 h2 := ⟨g.le.trans k.le, k.ro, g.ext.trans k.ext⟩

/-- A read-only block more. -/
theorem RO.add {E : Emb} {h : Heap} (r : RO R W E h) {blk off : Nat} {c : Array Value} {el : TypeId} {fz : Nat × Nat} (hb : W.heap[blk]? = some (.cells c el fz)) {vs : List AV} {xs : List Value} (hv : VsRel E vs xs)
    (hx : ∀ i x, xs[i]? = some x → c[off + i]? = some x) (hl : off + vs.length ≤ c.size) :
    Grows R W E h (E.add h.next (blk, off) (E.sz E.M) E.M) ((h.set h.next (some (.cells .ro vs))).bump 1) := by
  have hid : ¬ E.here h.next := fun hh => by have := r.rel.next _ hh; omega
  have hM := r.rel.M
  have hlt : blk < W.heap.size := (Array.getElem?_eq_some_iff.1 hb).1
  have hle : E.Le (E.add h.next (blk, off) (E.sz E.M) E.M) := Emb.le_add hid (Nat.le_refl _)
  have hρid : (E.add h.next (blk, off) (E.sz E.M) E.M).ρ h.next = (blk, off) := by simp [Emb.add]
  have hρ : ∀ b', b' ≠ h.next → (E.add h.next (blk, off) (E.sz E.M) E.M).ρ b' = E.ρ b' := fun b' hb => by simp [Emb.add, hb]
  have hsz : ∀ k, (E.add h.next (blk, off) (E.sz E.M) E.M).sz k = E.sz k := fun k => by
    simp only [Emb.add]; split
    · rename_i e; rw [e]
    · rfl
  have hfree : h.get h.next = none := by
    cases hg : h.get h.next with
    | none => rfl
    | some o => exact absurd (r.rel.objs _ _ hg).1 hid
  have hget : ∀ b' o', ((h.set h.next (some (.cells .ro vs))).bump 1).get b' = some o' → (b' = h.next ∧ o' = .cells .ro vs) ∨ (b' ≠ h.next ∧ h.get b' = some o') := fun b' o' hg => by
    rw [Heap.get_bump, Heap.get_set] at hg
    split at hg
    · rename_i e; cases hg; exact .inl ⟨e.symm, rfl⟩
    · rename_i e; exact .inr ⟨fun e' => e e'.symm, hg⟩
  have hro : ∀ b o, ((h.set h.next (some (.cells .ro vs))).bump 1).get b = some o → ∃ vs, o = .cells .ro vs := fun b o hg => by
    rcases hget _ _ hg with ⟨_, rfl⟩ | ⟨_, hg'⟩
    · exact ⟨_, rfl⟩
    · exact r.ro _ _ hg'
  refine ⟨hle, ⟨?_, fun k c' el' fz' hk => by rw [hsz]; exact r.sz k c' el' fz' hk, hro⟩, fun b x hg => ?_⟩
  · refine ⟨hM, fun b hb => ?_, fun b o hg => ?_, fun b1 b2 o1 o2 _ h1 h2 _ => ?_, fun b1 b2 qs us us' h1 _ _ => ?_, fun k hk => ?_, fun b o hg hw => ?_, fun b o hg => ?_, .refl _⟩
    · rcases hb with hb | rfl
      · have := r.rel.next b hb; simp; omega
      · simp
    · rcases hget _ _ hg with ⟨rfl, rfl⟩ | ⟨hne, hg'⟩
      · refine ⟨.inr rfl, by rw [hρid]; simp only [Emb.add]; omega, c, el, fz, by rw [hρid]; exact hb, by rw [hρid, hsz]; exact r.sz _ _ _ _ hb, by rw [hρid]; exact hl, fun i v hi => ?_, fun _ hq => by cases hq⟩
        obtain ⟨x, hx1, hx2⟩ := hv.get i v hi
        exact ⟨x, by rw [hρid]; exact hx i x hx1, hx2.mono hle⟩
      · obtain ⟨x1, x2, x3⟩ := r.rel.objs _ _ hg'
        exact ⟨.inl x1, by rw [hρ _ hne]; exact x2, x3.mono hle x1 x2⟩
    · obtain ⟨v1, rfl⟩ := hro _ _ h1
      obtain ⟨v2, rfl⟩ := hro _ _ h2
      exact ⟨trivial, trivial⟩
    · obtain ⟨v1, hh⟩ := hro _ _ h1; cases hh
    · exact ⟨by rw [hM]; exact hk, rfl⟩
    · obtain ⟨v1, rfl⟩ := hro _ _ hg; simp [AObj.written] at hw
    · obtain ⟨v1, rfl⟩ := hro _ _ hg; intro qs us hq; cases hq
  · rw [Heap.get_bump, Heap.get_set]
    split
    · rename_i e; subst e; rw [hfree] at hg; cases hg
    · exact hg

/-- A name more, without a block. -/
theorem RO.name {E : Emb} {h : Heap} (r : RO R W E h) : Grows R W E h (E.add h.next (0, 0) (E.sz E.M) E.M) (h.bump 1) := by
  have hid : ¬ E.here h.next := fun hh => by have := r.rel.next _ hh; omega
  have hM := r.rel.M
  have hle : E.Le (E.add h.next (0, 0) (E.sz E.M) E.M) := Emb.le_add hid (Nat.le_refl _)
  have hρ : ∀ b', b' ≠ h.next → (E.add h.next (0, 0) (E.sz E.M) E.M).ρ b' = E.ρ b' := fun b' hb => by simp [Emb.add, hb]
  have hsz : ∀ k, (E.add h.next (0, 0) (E.sz E.M) E.M).sz k = E.sz k := fun k => by
    simp only [Emb.add]; split
    · rename_i e; rw [e]
    · rfl
  have hne : ∀ b o, h.get b = some o → b ≠ h.next := fun b o hg e => hid (e ▸ (r.rel.objs _ _ hg).1)
  refine ⟨hle, ⟨⟨hM, fun b hb => ?_, fun b o hg => ?_, fun b1 b2 o1 o2 hn h1 h2 he => ?_, fun b1 b2 qs us us' h1 _ _ => ?_, fun k hk => ⟨by rw [hM]; exact hk, rfl⟩, fun b o hg hw => ?_, fun b o hg => ?_, .refl _⟩, fun k c' el' fz' hk => by rw [hsz]; exact r.sz k c' el' fz' hk, r.ro⟩, .refl _⟩
  · rcases hb with hb | rfl
    · have := r.rel.next b hb; simp; omega
    · simp
  · obtain ⟨x1, x2, x3⟩ := r.rel.objs _ _ hg
    exact ⟨.inl x1, by rw [hρ _ (hne _ _ hg)]; exact x2, x3.mono hle x1 x2⟩
  · obtain ⟨v1, rfl⟩ := r.ro _ _ h1
    obtain ⟨v2, rfl⟩ := r.ro _ _ h2
    exact ⟨trivial, trivial⟩
  · obtain ⟨v1, hh⟩ := r.ro _ _ h1; cases hh
  · obtain ⟨v1, rfl⟩ := r.ro _ _ hg; simp [AObj.written] at hw
  · obtain ⟨v1, rfl⟩ := r.ro _ _ hg; intro qs us hq; cases hq

theorem cell_add {a : Addr} {m n : Nat} {v : Value} (h : W.cell? ((a.add m).add n) = some v) : ∃ c el fz, W.heap[a.block]? = some (.cells c el fz) ∧ c[a.off + m + n]? = some v ∧ (m = 0 → n = 0 → a.spot = none) := by
  have hb : ((a.add m).add n).block = a.block := by unfold Addr.add; split <;> split <;> rfl
  have ho : ((a.add m).add n).off = a.off + m + n := by
    unfold Addr.add
    split
    · split
      · omega
      · simp; omega
    · split
      · simp; omega
      · simp
  unfold World.cell? at h
  rw [hb] at h
  split at h
  · rename_i c el fz hc
    split at h
    · cases h
    · rename_i hs
      rw [ho] at h
      refine ⟨c, el, fz, hc, h, fun hm hn => ?_⟩
      subst hm; subst hn
      simpa [Addr.add] using hs
  · cases h

section

mutual
/-- Cells of a shape are opened: read-only blocks for all that they lead to. -/
theorem open_sh (hbk : Bulk bk) : ∀ (s : Sh) {t : TypeId} {fuel : Nat} {cs : List Value} {d : DataW H} {ps : List MemPlace}, s.fits P t = true → DataW.trod enc P W 0 (fun _ => true) true fuel t cs = some (d, ps) → bk d ≤ B →
    ∀ {E : Emb} {h : Heap}, RO R W E h → ∃ E' h' as, Grows R W E h E' h' ∧ VsRel E' as cs ∧ s.Holds B h' as
  | .bool, t, fuel, cs, d, ps, hf, ht, _, E, h, r => by
    simp only [Sh.fits] at hf
    split at hf
    · rename_i hu
      obtain ⟨b, rfl, _⟩ := DataW.trod_bool hu ht
      exact ⟨E, h, [.bool b], .refl r, .cons _ _ _ _ (.bool b) .nil, by simp only [Sh.Holds]; exact ⟨b, rfl⟩⟩
    · cases hf
  | .int k, t, fuel, cs, d, ps, hf, ht, _, E, h, r => by
    simp only [Sh.fits] at hf
    split at hf
    · rename_i k' hu
      have hk : k = k' := by simpa using hf
      subst hk
      obtain ⟨n, rfl, _, hw⟩ := DataW.trod_int hu ht
      exact ⟨E, h, [.int k n], .refl r, .cons _ _ _ _ (.int k n) .nil, by simp only [Sh.Holds]; exact ⟨n, rfl, hw⟩⟩
    · cases hf
  | .str, t, fuel, cs, d, ps, hf, ht, hB, E, h, r => by
    simp only [Sh.fits] at hf
    split at hf
    · rename_i hu
      obtain ⟨s, rfl, hx, _⟩ := DataW.trod_string hu ht
      cases hx
      have := hbk.str s.data.toList
      refine ⟨E, h, [.str (s.data.toList.map UInt8.toNat)], .refl r, .cons _ _ _ _ (.str s _ rfl) .nil, ?_⟩
      simp only [Sh.Holds]
      refine ⟨_, rfl, by simp only [List.length_map]; omega, fun x hx => ?_⟩
      obtain ⟨y, _, rfl⟩ := List.mem_map.1 hx
      exact UInt8.toNat_lt y
    · cases hf
  | .slice s, t, fuel, cs, d, ps, hf, ht, hB, E, h, r => by
    simp only [Sh.fits] at hf
    split at hf
    · rename_i e hu
      simp only [Bool.and_eq_true, beq_iff_eq, Nat.blt_eq] at hf
      obtain ⟨⟨hfe, hce⟩, hpos⟩ := hf
      rcases DataW.trod_slice hu ht with ⟨rfl, hx⟩ | ⟨a, len, cap, elems, rest, n, rfl, rfl, hx, _, hlc, _, hlen, hel, hsp, _⟩
      · exact ⟨E, h, [.nilslice], .refl r, .cons _ _ _ _ .nilslice .nil, by simp only [Sh.Holds]; exact .inl trivial⟩
      · cases hx
        obtain ⟨hrl, hre⟩ := hsp rfl
        have hlB : len ≤ B := by have := hbk.slice (elems.map (·.1)) (rest.map (·.1)); simp only [List.length_map] at this; omega
        -- the elements, one by one
        have step : ∀ k, k ≤ len → ∃ (E' : Emb) (h' : Heap) (rows : List (List AV)) (flat : List Value), Grows R W E h E' h' ∧ rows.length = k ∧ VsRel E' rows.flatten flat ∧ (∀ q ∈ rows, s.Holds B h' q) ∧
            ∀ j v, flat[j]? = some v → ∃ c el fz, W.heap[a.block]? = some (.cells c el fz) ∧ c[a.off + j]? = some v := by
          intro k
          induction k with
          | zero => exact fun _ => ⟨E, h, [], [], .refl r, rfl, .nil, fun q hq => (by cases hq), fun j v hj => (by simp at hj)⟩
          | succ k ih =>
            intro hk
            obtain ⟨E1, h1, rows, flat, g1, hrl1, hv1, hh1, hc1⟩ := ih (by omega)
            have hk' := hel k (by omega)
            have hke : k < elems.length := by omega
            rw [List.getElem?_eq_getElem hke] at hk'
            simp only [Option.bind_eq_some_iff] at hk'
            obtain ⟨ck, q1, q2⟩ := hk'
            obtain ⟨_, q4, q5⟩ := World.cells?_some q1
            have hbe : bk elems[k].1 ≤ B := by
              have := hbk.elem (elems.map (·.1)) (rest.map (·.1)) elems[k].1 (List.mem_map.2 ⟨elems[k], List.getElem_mem hke, rfl⟩)
              omega
            obtain ⟨E2, h2, as, g2, hv2, hh2⟩ := open_sh hbk s hfe (d := elems[k].1) (ps := elems[k].2) q2 hbe g1.ro
            refine ⟨E2, h2, rows ++ [as], flat ++ ck, g1.trans g2, by simp [hrl1], ?_, fun q hq => ?_, fun j v hj => ?_⟩
            · rw [List.flatten_append, List.flatten_singleton]
              exact (hv1.mono g2.le).append hv2
            · rcases List.mem_append.1 hq with hq | hq
              · exact (hh1 q hq).mono g2.ext
              · rw [List.mem_singleton] at hq; subst hq; exact hh2
            · by_cases hj' : j < flat.length
              · rw [List.getElem?_append_left hj'] at hj
                exact hc1 j v hj
              · rw [List.getElem?_append_right (by omega)] at hj
                have hfl : flat.length = k * P.cellsOf e := by
                  rw [← hv1.length, List.length_flatten]
                  have : ∀ (l : List (List AV)), (∀ q ∈ l, q.length = s.size) → (l.map List.length).sum = l.length * s.size := by
                    intro l
                    induction l with
                    | nil => intro _; simp
                    | cons q l ih => intro hq; simp [hq q List.mem_cons_self, ih (fun q' h' => hq q' (List.mem_cons_of_mem _ h')), Nat.succ_mul, Nat.add_comm]
                  rw [this rows (fun q hq => (hh1 q hq).length), hrl1, hce]
                have hjl : j - flat.length < P.cellsOf e := by rw [← q4]; exact (List.getElem?_eq_some_iff.1 hj).1
                have hcell := q5 (j - flat.length) hjl
                rw [hj] at hcell
                obtain ⟨c, el, fz, w1, w2, _⟩ := cell_add hcell
                exact ⟨c, el, fz, w1, by rw [← w2]; congr 1; omega⟩
        obtain ⟨E1, h1, rows, flat, g1, hrl1, hv1, hh1, hc1⟩ := step len (Nat.le_refl _)
        have hflen : flat.length = len * s.size := by
          rw [← hv1.length, List.length_flatten]
          have : ∀ (l : List (List AV)), (∀ q ∈ l, q.length = s.size) → (l.map List.length).sum = l.length * s.size := by
            intro l
            induction l with
            | nil => intro _; simp
            | cons q l ih => intro hq; simp [hq q List.mem_cons_self, ih (fun q' h' => hq q' (List.mem_cons_of_mem _ h')), Nat.succ_mul, Nat.add_comm]
          rw [this rows (fun q hq => (hh1 q hq).length), hrl1]
        -- all places are there
        have place : ∀ i, i < cap → ∃ ci, W.cells? 0 (a.add (i * P.cellsOf e)) (P.cellsOf e) = some ci := fun i hi => by
          by_cases hil : i < len
          · have := hel i hil
            rw [List.getElem?_eq_getElem (by omega)] at this
            simp only [Option.bind_eq_some_iff] at this
            obtain ⟨ci, q1, _⟩ := this
            exact ⟨ci, q1⟩
          · have := hre (i - len) (by omega)
            rw [List.getElem?_eq_getElem (by omega), show len + (i - len) = i by omega] at this
            simp only [Option.bind_eq_some_iff] at this
            obtain ⟨ci, q1, _⟩ := this
            exact ⟨ci, q1⟩
        have whole : 0 < cap → ∃ c el fz, W.heap[a.block]? = some (.cells c el fz) ∧ a.spot = none ∧ a.off + cap * s.size ≤ c.size := fun hc => by
          have cell : ∀ i j, i < cap → j < s.size → ∃ c el fz v, W.heap[a.block]? = some (.cells c el fz) ∧ c[a.off + i * s.size + j]? = some v ∧ (i * s.size = 0 → j = 0 → a.spot = none) := fun i j hi hj => by
            obtain ⟨ci, q1⟩ := place i hi
            obtain ⟨_, q4, q5⟩ := World.cells?_some q1
            rw [hce] at q4 q5
            have := q5 j hj
            rw [List.getElem?_eq_getElem (by omega)] at this
            obtain ⟨c, el, fz, w1, w2, w3⟩ := cell_add this
            exact ⟨c, el, fz, _, w1, w2, w3⟩
          obtain ⟨c, el, fz, v, w1, _, w3⟩ := cell 0 0 hc hpos
          obtain ⟨c', el', fz', v', w1', w2', _⟩ := cell (cap - 1) (s.size - 1) (by omega) (by omega)
          rw [w1] at w1'
          cases w1'
          refine ⟨c, el, fz, w1, w3 (by simp) rfl, ?_⟩
          have := (Array.getElem?_eq_some_iff.1 w2').1
          have e1 : cap * s.size = (cap - 1) * s.size + s.size := by rw [← Nat.succ_mul]; congr 1; omega
          omega
        by_cases hcap : 0 < cap
        · obtain ⟨c, el, fz, w1, w2, w3⟩ := whole hcap
          have hfle : len * s.size ≤ cap * s.size := Nat.mul_le_mul_right _ hlc
          have g2 := RO.add g1.ro (off := a.off) w1 hv1 (fun i x hx => by
            obtain ⟨c', el', fz', z1, z2⟩ := hc1 i x hx
            rw [w1] at z1
            cases z1
            exact z2) (by rw [hv1.length]; omega)
          refine ⟨_, _, [.slice h1.next 0 len s.size], g1.trans g2, .cons _ _ _ _ ?_ .nil, ?_⟩
          · refine .slice h1.next 0 len s.size a cap (Or.inr rfl) (.inr ⟨?_, hlc, ?_, ?_⟩)
            · obtain ⟨ab, ao, asp⟩ := a
              simp only at w2
              subst w2
              simp [Emb.at_, Emb.add]
            · simp only [Emb.add, if_true]; rw [g1.ro.rel.M]; exact (Array.getElem?_eq_some_iff.1 w1).1
            · have hs := g2.ro.sz _ _ _ _ w1
              have hρ : (E1.add h1.next (a.block, a.off) (E1.sz E1.M) E1.M).ρ h1.next = (a.block, a.off) := by simp [Emb.add]
              rw [hρ]
              simp only
              rw [hs]; omega
          · simp only [Sh.Holds]
            refine .inr ⟨h1.next, rows, by rw [hrl1], by omega, fun _ => ?_, fun q hq => (hh1 q hq).mono g2.ext⟩
            rw [Heap.get_bump, Heap.get_set_same]
        · have hl0 : len = 0 := by omega
          have hc0 : cap = 0 := by omega
          subst hl0; subst hc0
          have g2 := RO.name r
          have hrows : rows = [] := List.eq_nil_of_length_eq_zero hrl1
          refine ⟨_, _, [.slice h.next 0 0 s.size], g2, .cons _ _ _ _ (.slice _ _ _ _ _ _ (Or.inr rfl) (.inl ⟨rfl, rfl⟩)) .nil, ?_⟩
          simp only [Sh.Holds]
          exact .inr ⟨h.next, [], rfl, Nat.zero_le _, fun hn => absurd rfl hn, fun q hq => (by cases hq)⟩
    · cases hf
  | .agg ss, t, fuel, cs, d, ps, hf, ht, hB, E, h, r => by
    simp only [Sh.fits] at hf
    split at hf
    · rename_i fs hu
      simp only [Bool.and_eq_true, beq_iff_eq] at hf
      obtain ⟨xs, n, rfl, hx, hcl, hxl, hget⟩ := DataW.trod_struct hu ht
      cases hx
      have key := open_fs hbk ss (fs := fs.toList) (off := 0) (cs := cs) (xs := xs) (n := n) hf.2 (by simpa using hxl) (fun i f hi => hget i f (by simpa using hi)) (fun x hx => by
        have := hbk.part (xs.map (·.1)) x.1 (List.mem_map.2 ⟨x, hx, rfl⟩); omega) r
      obtain ⟨E', h', as, g, hv, hh⟩ := key
      refine ⟨E', h', as, g, ?_, by simp only [Sh.Holds]; exact hh⟩
      rwa [List.drop_zero, List.take_of_length_le (by omega)] at hv
    · rename_i n e hu
      simp only [Bool.and_eq_true, beq_iff_eq] at hf
      obtain ⟨xs, m, rfl, hx, hcl, hxl, hget⟩ := DataW.trod_array hu ht
      cases hx
      have key := open_as hbk ss (e := e) (off := 0) (cs := cs) (xs := xs) (m := m) hf.2 (by omega) (fun i hi => by rw [Nat.zero_add]; exact hget i (by omega)) (fun x hx => by
        have := hbk.part (xs.map (·.1)) x.1 (List.mem_map.2 ⟨x, hx, rfl⟩); omega) r
      obtain ⟨E', h', as, g, hv, hh⟩ := key
      refine ⟨E', h', as, g, ?_, by simp only [Sh.Holds]; exact hh⟩
      rwa [List.drop_zero, List.take_of_length_le (by omega)] at hv
    · cases hf
theorem open_fs (hbk : Bulk bk) : ∀ (ss : List Sh) {fs : List Field} {off : Nat} {cs : List Value} {xs : List (DataW H × List MemPlace)} {n : Nat}, Sh.fitsF P ss fs off = true → xs.length = fs.length →
    (∀ (i : Nat) (f : Field), fs[i]? = some f → DataW.trod enc P W 0 (fun _ => true) true n f.type ((cs.drop f.offset).take (P.cellsOf f.type)) = xs[i]?) → (∀ x ∈ xs, bk x.1 ≤ B) →
    ∀ {E : Emb} {h : Heap}, RO R W E h → ∃ E' h' as, Grows R W E h E' h' ∧ VsRel E' as ((cs.drop off).take (Sh.sizes ss)) ∧ Sh.HoldsL B h' ss as
  | [], fs, off, cs, xs, n, _, _, _, _, E, h, r => ⟨E, h, [], .refl r, by simp only [Sh.sizes, List.take_zero]; exact .nil, by simp only [Sh.HoldsL]⟩
  | s :: ss, [], off, cs, xs, n, hf, _, _, _, E, h, r => by simp [Sh.fitsF] at hf
  | s :: ss, f :: fs, off, cs, [], n, _, hl, _, _, E, h, r => by simp at hl
  | s :: ss, f :: fs, off, cs, x :: xs, n, hf, hl, hget, hB, E, h, r => by
    simp only [Sh.fitsF, Bool.and_eq_true, beq_iff_eq] at hf
    obtain ⟨⟨⟨h1, h2⟩, h3⟩, h4⟩ := hf
    have h0 := hget 0 f rfl
    rw [h1, h2] at h0
    obtain ⟨E1, hp1, as1, g1, v1, k1⟩ := open_sh hbk s h3 (d := x.1) (ps := x.2) h0 (hB x List.mem_cons_self) r
    obtain ⟨E2, hp2, as2, g2, v2, k2⟩ := open_fs hbk ss (cs := cs) (xs := xs) h4 (by simpa using hl) (fun i f' hi => by simpa using hget (i + 1) f' (by simpa using hi)) (fun y hy => hB y (List.mem_cons_of_mem _ hy)) g1.ro
    refine ⟨E2, hp2, as1 ++ as2, g1.trans g2, ?_, by simp only [Sh.HoldsL]; exact ⟨as1, as2, rfl, k1.mono g2.ext, k2⟩⟩
    rw [Sh.sizes, List.take_add, List.drop_drop]
    exact (v1.mono g2.le).append v2
theorem open_as (hbk : Bulk bk) : ∀ (ss : List Sh) {e : TypeId} {off : Nat} {cs : List Value} {xs : List (DataW H × List MemPlace)} {m : Nat}, Sh.fitsA P ss e (P.cellsOf e) = true → xs.length = ss.length →
    (∀ (i : Nat), i < ss.length → DataW.trod enc P W 0 (fun _ => true) true m e ((cs.drop (off + i * P.cellsOf e)).take (P.cellsOf e)) = xs[i]?) → (∀ x ∈ xs, bk x.1 ≤ B) →
    ∀ {E : Emb} {h : Heap}, RO R W E h → ∃ E' h' as, Grows R W E h E' h' ∧ VsRel E' as ((cs.drop off).take (Sh.sizes ss)) ∧ Sh.HoldsL B h' ss as
  | [], e, off, cs, xs, n, _, _, _, _, E, h, r => ⟨E, h, [], .refl r, by simp only [Sh.sizes, List.take_zero]; exact .nil, by simp only [Sh.HoldsL]⟩
  | s :: ss, e, off, cs, [], n, _, hl, _, _, E, h, r => by simp at hl
  | s :: ss, e, off, cs, x :: xs, n, hf, hl, hget, hB, E, h, r => by
    simp only [Sh.fitsA, Bool.and_eq_true, beq_iff_eq] at hf
    obtain ⟨⟨h2, h3⟩, h4⟩ := hf
    have h0 := hget 0 (by simp)
    rw [Nat.zero_mul, Nat.add_zero, ← h2] at h0
    obtain ⟨E1, hp1, as1, g1, v1, k1⟩ := open_sh hbk s h3 (d := x.1) (ps := x.2) h0 (hB x List.mem_cons_self) r
    obtain ⟨E2, hp2, as2, g2, v2, k2⟩ := open_as hbk ss (e := e) (off := off + s.size) (cs := cs) (xs := xs) (m := n) h4 (by simpa using hl) (fun i hi => by
      have := hget (i + 1) (by simpa using hi)
      rw [List.getElem?_cons_succ] at this
      rw [← this]
      congr 3
      rw [Nat.succ_mul]; omega) (fun y hy => hB y (List.mem_cons_of_mem _ hy)) g1.ro
    refine ⟨E2, hp2, as1 ++ as2, g1.trans g2, ?_, by simp only [Sh.HoldsL]; exact ⟨as1, as2, rfl, k1.mono g2.ext, k2⟩⟩
    rw [Sh.sizes, List.take_add, List.drop_drop]
    exact (v1.mono g2.le).append v2
end
end

/-! ### Arguments, all of them -/
def Sh.arg : Sh → List AV → AV
  | .agg _, cs => .agg cs
  | _, cs => cs.headD .nilptr

def HoldsA (B : Nat) (h : Heap) : List Sh → List AV → Prop
  | [], [] => True
  | s :: ss, a :: as => (∃ cs, a = s.arg cs ∧ s.Holds B h cs) ∧ HoldsA B h ss as
  | _, _ => False

def Sh.fitsAll (P : Program) : List Sh → List TypeId → Bool
  | [], [] => true
  | s :: ss, t :: ts => s.fits P t && Sh.fitsAll P ss ts
  | _, _ => false

theorem HoldsA.mono {h h' : Heap} (hx : h.Ext h') : ∀ {ss : List Sh} {as : List AV}, HoldsA B h ss as → HoldsA B h' ss as
  | [], [], hh => hh
  | [], _ :: _, hh => hh
  | _ :: _, [], hh => hh
  | _ :: _, _ :: _, hh => ⟨let ⟨cs, e, k⟩ := hh.1; ⟨cs, e, k.mono hx⟩, HoldsA.mono hx hh.2⟩

theorem cells_one {t : TypeId} {d : TypeDesc} {v : Value} (hu : P.underlying t = some d) (hn : ∀ fs, d ≠ .struct fs) (hn2 : ∀ n e, d ≠ .array n e) {r : Reach} {b0 : Nat} (hv : Value.okWide P W r b0 t v) : v.cells = #[v] := by
  unfold Value.okWide at hv
  rw [hu] at hv
  have hv' : Cell.okWide P W r b0 t v := by
    cases d <;> first | exact hv | exact (hn _ rfl).elim | exact (hn2 _ _ rfl).elim
  cases v <;> first | rfl | skip
  exfalso
  unfold Cell.okWide at hv'
  rw [hu] at hv'
  unfold Cell.ok at hv'
  rw [hu] at hv'
  cases d <;> exact hv'

theorem open_args (hbk : Bulk bk) : ∀ (ss : List Sh) {ts : List TypeId} {vs : List Value} {ds : List (DataW H)} {ps : List MemPlace}, Sh.fitsAll P ss ts = true → DataW.TrodAll enc P W 0 (fun _ => true) true ts vs ds ps →
    (∀ d ∈ ds, bk d ≤ B) → (∀ (j : Nat) t v, ts[j]? = some t → vs[j]? = some v → ∃ r b0, Value.okWide P W r b0 t v) → ∀ {E : Emb} {h : Heap}, RO R W E h →
    ∃ E' h' as, Grows R W E h E' h' ∧ VsRel E' as vs ∧ HoldsA B h' ss as
  | [], [], vs, ds, ps, _, ht, _, _, E, h, r => by
    cases vs with
    | nil => exact ⟨E, h, [], .refl r, .nil, trivial⟩
    | cons v vs => cases ds <;> exact ht.elim
  | [], _ :: _, _, _, _, hf, _, _, _, _, _, _ => by cases hf
  | _ :: _, [], _, _, _, hf, _, _, _, _, _, _ => by cases hf
  | s :: ss, t :: ts, [], ds, ps, _, ht, _, _, E, h, r => by cases ds <;> exact ht.elim
  | s :: ss, t :: ts, v :: vs, [], ps, _, ht, _, _, E, h, r => ht.elim
  | s :: ss, t :: ts, v :: vs, d :: ds, ps, hf, ht, hB, hok, E, h, r => by
    simp only [Sh.fitsAll, Bool.and_eq_true] at hf
    obtain ⟨p, q, ⟨fuel, h1⟩, h2, _⟩ := ht
    obtain ⟨E1, hp1, cs, g1, v1, k1⟩ := open_sh hbk s hf.1 h1 (hB d List.mem_cons_self) r
    obtain ⟨E2, hp2, as, g2, v2, k2⟩ := open_args hbk ss hf.2 h2 (fun d' hd => hB d' (List.mem_cons_of_mem _ hd)) (fun j t' v' hj hv => hok (j + 1) t' v' (by simpa using hj) (by simpa using hv)) g1.ro
    obtain ⟨rr, b0, hokv⟩ := hok 0 t v rfl rfl
    have hs : VRel E1 (s.arg cs) v := by
      have one : ∀ {d : TypeDesc}, P.underlying t = some d → (∀ fs, d ≠ .struct fs) → (∀ n e, d ≠ .array n e) → s.arg cs = cs.headD .nilptr → VRel E1 (s.arg cs) v := fun hu h3 h4 ha => by
        rw [cells_one hu h3 h4 hokv] at v1
        rw [ha]
        cases v1 with
        | cons _ _ _ _ h5 h6 => exact h5
      have hf1 := hf.1
      cases s with
      | bool => simp only [Sh.fits] at hf1; split at hf1
                · rename_i hu; exact one hu (fun _ hh => by cases hh) (fun _ _ hh => by cases hh) rfl
                · cases hf1
      | int k => simp only [Sh.fits] at hf1; split at hf1
                 · rename_i hu; exact one hu (fun _ hh => by cases hh) (fun _ _ hh => by cases hh) rfl
                 · cases hf1
      | str => simp only [Sh.fits] at hf1; split at hf1
               · rename_i hu; exact one hu (fun _ hh => by cases hh) (fun _ _ hh => by cases hh) rfl
               · cases hf1
      | slice s => simp only [Sh.fits] at hf1; split at hf1
                   · rename_i hu; exact one hu (fun _ hh => by cases hh) (fun _ _ hh => by cases hh) rfl
                   · cases hf1
      | agg ss' =>
        have hag : ∃ cs', v = .agg cs' := by
          simp only [Sh.fits] at hf1
          unfold Value.okWide at hokv
          split at hf1
          · rename_i hu; rw [hu] at hokv; obtain ⟨cs', hc, _⟩ := hokv; exact ⟨cs', hc⟩
          · rename_i hu; rw [hu] at hokv; obtain ⟨cs', hc, _⟩ := hokv; exact ⟨cs', hc⟩
          · cases hf1
        obtain ⟨cs', rfl⟩ := hag
        have := VRel.agg cs cs'.toList v1
        simpa [Sh.arg] using this
    exact ⟨E2, hp2, s.arg cs :: as, g1.trans g2, .cons _ _ _ _ (hs.mono g2.le) v2, ⟨cs, rfl, k1.mono g2.ext⟩, k2⟩

/-! ### The call -/
theorem below_of {Old : Nat → Prop} {E : Emb} {h : Heap} {W' : World} (hold : ∀ r, r < W.heap.size → Old r) (hs : W.heap.size ≤ W'.heap.size) (hr : HRel R Old W E h W') : Below W.heap.size W W' :=
  ⟨hr.side.os, hr.side.tape, hr.side.output, hs, fun k hk => (hr.old k (hold k hk)).2⟩

/-- The empty heap. -/
theorem RO.empty (R : CodeRel) (W : World) : ∃ E, RO R W E Heap.empty := by
  refine ⟨{ ρ := fun _ => (0, 0), here := fun _ => False, sz := fun r => match W.heap[r]? with | some (.cells c _ _) => c.size | _ => 0, M := W.heap.size }, HRel.none R W _ _, fun r c el fz hr => by simp [hr], fun b o hb => by simp at hb⟩

theorem trodAll_below (hl : laidOutB P = true) {W' : World} (hb : Below W.heap.size W W') {sp' : Nat → Bool} : ∀ {ts : List TypeId} {vs : List Value} {ds : List (DataW H)} {ps : List MemPlace}, (∀ t ∈ ts, P.readableRec t = true ∧ t < P.types.size) →
    DataW.TrodAll enc P W 0 (fun _ => true) true ts vs ds ps → (∀ p ∈ ps, p.block < W.heap.size) → (∀ p ∈ ps, sp' p.block = true) → DataW.TrodAll enc P W' 0 sp' true ts vs ds ps
  | [], [], [], _, _, h, _, _ => h
  | [], [], _ :: _, _, _, h, _, _ => h.elim
  | [], _ :: _, ds, _, _, h, _, _ => by cases ds <;> exact h.elim
  | _ :: _, [], ds, _, _, h, _, _ => by cases ds <;> exact h.elim
  | _ :: _, _ :: _, [], _, _, h, _, _ => h.elim
  | t :: ts, v :: vs, d :: ds, ps, hr, h, hlt, hsp => by
    obtain ⟨p, q, h1, h2, rfl⟩ := h
    obtain ⟨g1, g2⟩ := hr t List.mem_cons_self
    exact ⟨p, q, Trod_stays hl g1 g2 h1 (fun x hx => hb.same (hlt x (List.mem_append_left _ hx))) (fun x hx => hsp x (List.mem_append_left _ hx)),
      trodAll_below hl hb (fun t' ht => hr t' (List.mem_cons_of_mem _ ht)) h2 (fun x hx => hlt x (List.mem_append_right _ hx)) (fun x hx => hsp x (List.mem_append_right _ hx)), rfl⟩

/-- The statement's ending: true; the arguments read as they did. -/
theorem post_of_below {f : Func} {s : ChangeSpec} {apart fresh handsOn again : Bool} {W' : World} {args : Array Value} {ds gs : List (DataW H)} {before : List MemPlace} {tb : TypeId} (hvars : s.vars = [])
    (hW : DataW.Whole enc P f.params.toList s.vars apart W args.toList ds gs before) (hl : laidOutB P = true) (hr : ∀ t ∈ f.params.toList, P.readableRec t = true ∧ t < P.types.size) (hres : f.resultTypes = #[tb]) (htb : P.underlying tb = some .bool)
    (hfn : (s.fn H (ds ++ gs)).results = [.lit (.bool true)] ∧ (s.fn H (ds ++ gs)).args = ds ∧ (s.fn H (ds ++ gs)).vars = []) (hb : Below W.heap.size W W') :
    s.post enc P f apart fresh handsOn again W args (.bool true) W' := by
  have hlt := hW.lt
  have hW0 := hW
  obtain ⟨pa, pv, hA, hV, rfl, hz, hn⟩ := hW
  rw [hvars] at hV
  obtain ⟨rfl, rfl⟩ := trodVars_none hV
  obtain ⟨f1, f2, f3⟩ := hfn
  have hargs : ∀ sp : Nat → Bool, (∀ p ∈ pa, sp p.block = true) → DataW.TrodAll enc P W' 0 sp true f.params.toList args.toList ds pa := fun sp hsp =>
    trodAll_below hl hb hr hA (fun p hp => hlt p (by simpa using hp)) hsp
  have hbool : ∀ (b : Nat) (sp : Nat → Bool) (hd : Bool), DataW.TrodAll enc P W' b sp hd f.resultTypes.toList ((Value.bool true).resultList f.resultTypes.size) [.lit (.bool true)] [] := fun b sp hd => by
    rw [hres]
    refine ⟨[], [], ⟨1, ?_⟩, rfl, rfl⟩
    simp [DataW.trod, htb, Value.cells]
  have hold : ∀ p ∈ pa, (fun b => decide (b < W.heap.size)) p.block = true := fun p hp => by simpa using hlt p (by simpa using hp)
  refine ⟨ds, [], pa ++ [], [], pa, [], hW0, ?_, ?_, ?_, hb.frame _, fun _ => ⟨?_, ?_⟩⟩
  · rw [f1]; exact hbool _ _ _
  · rw [f2]; exact hargs _ hold
  · rw [f3, hvars]; rfl
  · intro j t r hj hv
    rw [hres] at hj hv
    cases j with
    | zero =>
      simp only [List.getElem?_toArray, List.getElem?_cons_zero, Option.some.injEq] at hj
      subst hj
      simp [Value.resultList] at hv
      subst hv
      simp [Value.okWide, Cell.okWide, Cell.ok, htb]
    | succ j => simp at hj
  · refine ⟨[.lit (.bool true)] ++ ds, [], ([] ++ pa) ++ [], ⟨[] ++ pa, [], ?_, by rw [hvars]; rfl, rfl, ?_, ?_⟩, ?_⟩
    · have h1 := hbool 0 (fun _ => true) true
      rw [hres] at h1 ⊢
      obtain ⟨p, q, g1, g2, g3⟩ := h1
      refine ⟨[], pa, ?_, hargs _ (fun _ _ => rfl), rfl⟩
      have : p = [] := by
        have := congrArg List.length g3
        simp at this
        exact List.eq_nil_of_length_eq_zero (by omega)
      subst this
      exact g1
    · intro b off hp
      have hp' : MemPlace.cell b off ∈ pa := by simpa using hp
      have hlt' := hlt _ (List.mem_append_left [] hp')
      rw [hb.frozen (p := ⟨b, off, none⟩) hlt']
      exact hz b off (by simpa using hp')
    · intro ha
      simpa using hn ha
    · intro p hp _
      simpa using hp

/-- What a law's call gives. -/
theorem law_calls {x : GCtx} (hc : CtxOK x.c P) (hbk : Bulk bk) {f : Nat} {fn : Func} {s : ChangeSpec} {apart fresh handsOn again : Bool} {args : Array Value} {ds gs : List (DataW H)} {before : List MemPlace} {ss : List Sh} {tb : TypeId} (hvars : s.vars = [])
    (hval : ∀ (j : Nat) t v, fn.params[j]? = some t → args[j]? = some v → ∃ r b0, Value.okWide P W r b0 t v) (hW : DataW.Whole enc P fn.params.toList s.vars apart W args.toList ds gs before) (hB : ∀ d ∈ ds, bk d ≤ B)
    (hl : laidOutB P = true) (hr : ∀ t ∈ fn.params.toList, P.readableRec t = true ∧ t < P.types.size) (hres : fn.resultTypes = #[tb]) (htb : P.underlying tb = some .bool)
    (hfn : (s.fn H (ds ++ gs)).results = [.lit (.bool true)] ∧ (s.fn H (ds ++ gs)).args = ds ∧ (s.fn H (ds ++ gs)).vars = []) (hfit : Sh.fitsAll P ss fn.params.toList = true)
    (hlaw : ∀ (h : Heap) (as : List AV), (∀ b o, h.get b = some o → b < h.next) → HoldsA B h ss as → callW x (.func (.fn f) [] []) as h (fun v _ => v = .bool true)) :
    Calls P f args W fun e W' => ∃ v, e = .returned v ∧ s.post enc P fn apart fresh handsOn again W args v W' := by
  obtain ⟨E0, r0⟩ := RO.empty (CR x.c P) W
  have hW' := hW
  obtain ⟨p, q, hA, hV, _⟩ := hW
  obtain ⟨E, h, as, g, hv, hh⟩ := open_args hbk ss hfit hA hB (fun j t v hj hv => hval j t v (by simpa using hj) (by simpa using hv)) r0
  obtain ⟨n, hn⟩ := hlaw h as (fun b o hb => g.ro.rel.next b (g.ro.rel.objs b o hb).1) hh
  rcases acall_sound hc n _ _ _ _ hn _ _ _ _ (.func (.func f) #[] #[]) args.toList g.ro.rel (.func f [] [] [] [] .nil .nil) hv with ⟨f', first, cap, e1, _, hcall⟩ | ⟨l, L, e1, _⟩
  · have e1' : f = f' ∧ #[] = first ∧ #[] = cap := by cases e1; exact ⟨rfl, rfl, rfl⟩
    obtain ⟨rfl, rfl, rfl⟩ := e1'
    simp only [Array.empty_append, Array.append_empty] at hcall
    have hcall := callsIn_wide.1 hcall
    rw [Array.toArray_toList] at hcall
    refine hcall.mono fun en W' hret => ?_
    cases en with
    | panicked ch => exact hret.elim
    | outgrown => exact hret.elim
    | returned y =>
      obtain ⟨v', h', E', rfl, g1, g2, g3, _, _⟩ := hret
      cases g3
      have hs : W.heap.size ≤ W'.heap.size := by have := g1.M; have := g2.M; have := g.ro.rel.M; simp only at *; omega
      exact ⟨_, rfl, post_of_below hvars hW' hl hr hres htb hfn (below_of (fun _ hr => hr) hs g2)⟩
  · cases e1

end
end Go.Ab
