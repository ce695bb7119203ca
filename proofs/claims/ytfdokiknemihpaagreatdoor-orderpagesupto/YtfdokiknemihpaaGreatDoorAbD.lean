/- Loads, stores, new blocks: what they do to the relation. -/
import Derived.Test.YtfdokiknemihpaaGreatDoorAbC
import Derived.Laws.Cells
namespace Go.Ab
variable {P : Program} {R : CodeRel} {Old : Nat → Prop} {w0 w : World} {E : Emb} {h : Heap}

theorem ORel.congr {w w' : World} {b : Nat} {o : AObj} (he : w'.heap[(E.ρ b).1]? = w.heap[(E.ρ b).1]?) (ho : ORel R E w b o) : ORel R E w' b o := by
  cases o <;> simp only [ORel] at ho ⊢ <;> rw [he] <;> exact ho

theorem ORel.mono {E E' : Emb} (hle : E.Le E') {w : World} {b : Nat} {o : AObj} (hb : E.here b) (hm : (E.ρ b).1 < E.M) (ho : ORel R E w b o) : ORel R E' w b o := by
  have h1 := (hle.here b hb).2
  have h2 := hle.sz _ hm
  cases o with
  | cells m vs =>
    simp only [ORel] at ho ⊢
    rw [h1, h2]
    obtain ⟨c, el, fz, a1, a2, a3, a4, a5⟩ := ho
    exact ⟨c, el, fz, a1, a2, a3, fun i v hi => let ⟨x, hx, hr⟩ := a4 i v hi; ⟨x, hx, hr.mono hle⟩, a5⟩
  | map es =>
    simp only [ORel] at ho ⊢
    rw [h1]
    obtain ⟨ms, clock, a1, a2, a3⟩ := ho
    exact ⟨ms, clock, a1, a2.mono hle, a3⟩
  | mapIter m n seen =>
    simp only [ORel] at ho ⊢
    rw [h1]
    obtain ⟨a1, a2, seen', a3, a4⟩ := ho
    exact ⟨a1, (hle.here m a2).1, seen', by rw [(hle.here m a2).2]; exact a3, a4⟩
  | strIter s pos => simp only [ORel] at ho ⊢; rw [h1]; exact ho
  | loop st pend env ps asg body =>
    simp only [ORel] at ho ⊢
    rw [h1]
    obtain ⟨L, nt, a1, a2, a3, a4, a5⟩ := ho
    exact ⟨L, nt, a1, a2, a3, a4.mono hle, a5⟩

/-- The relation looks at the heap alone. -/
theorem HRel.of_heap {w w' : World} (H : HRel R Old w0 E h w) (he : w'.heap = w.heap) (hsd : Side w w' := by exact ⟨rfl, rfl, rfl⟩) : HRel R Old w0 E h w' :=
  ⟨by rw [he]; exact H.M, H.next, fun b o hb => let ⟨a, m, c⟩ := H.objs b o hb; ⟨a, m, c.congr (by rw [he])⟩, H.sep, H.fit, fun r hr => by rw [he]; exact H.old r hr, H.away, H.tidy, H.side.trans hsd⟩

theorem HRel.bump {w : World} (H : HRel R Old w0 E h w) (n : Nat) : HRel R Old w0 E (h.bump n) w :=
  ⟨H.M, fun b hb => Nat.lt_of_lt_of_le (H.next b hb) (Nat.le_add_right _ _), H.objs, H.sep, H.fit, H.old, H.away, H.tidy, H.side⟩

/-! ### Loads -/
theorem cell_of_cells {r off : Nat} {c : Array Value} {el : TypeId} {fz : Nat × Nat} (hh : w.heap[r]? = some (.cells c el fz)) : w.cell? ⟨r, off, none⟩ = c[off]? := by
  simp [World.cell?, hh]

theorem load_cell {b off : Nat} {v : AV} (H : HRel R Old w0 E h w) (hg : getCell h b off = some v) : ∃ x, w.cell? (E.at_ b off) = some x ∧ VRel E v x := by
  unfold getCell at hg
  split at hg
  · rename_i m vs hb
    obtain ⟨_, _, c, el, fz, a1, _, _, a4, _⟩ := H.objs _ _ hb
    obtain ⟨x, hx, hr⟩ := a4 off v hg
    exact ⟨x, by rw [Emb.at_, cell_of_cells a1]; exact hx, hr⟩
  · cases hg

theorem addr_add (r off j : Nat) : (⟨r, off, none⟩ : Addr).add j = ⟨r, off + j, none⟩ := by
  unfold Addr.add; split <;> simp_all

theorem load_row {b off n : Nat} {vs : List AV} (H : HRel R Old w0 E h w) (hg : getRow h b off n = some vs) :
    vs.length = n ∧ ∃ xs : List Value, (loadCells (E.at_ b off) n).run P w = .ok xs.toArray w ∧ VsRel E vs xs := by
  unfold getRow at hg
  split at hg
  · rename_i m us hb
    split at hg
    · rename_i hle
      cases hg
      obtain ⟨_, _, c, el, fz, a1, _, a3, a4, _⟩ := H.objs _ _ hb
      have hlen : (List.take n (List.drop off us)).length = n := by simp; omega
      refine ⟨hlen, (c.toList.drop ((E.ρ b).2 + off)).take n, ?_, ?_⟩
      · have hl2 : ((c.toList.drop ((E.ρ b).2 + off)).take n).length = n := by simp; omega
        have := run_loadCells_list (P := P) w (E.at_ b off) ((c.toList.drop ((E.ρ b).2 + off)).take n) (fun j x hx => by
          rw [Emb.at_, addr_add, cell_of_cells a1]
          rw [List.getElem?_take] at hx
          split at hx
          · simpa [List.getElem?_drop] using hx
          · cases hx)
        rw [hl2] at this
        exact this
      · refine VsRel.of_get (by simp; omega) fun i v hi => ?_
        rw [List.getElem?_take] at hi ⊢
        split at hi
        · rename_i hin
          rw [List.getElem?_drop] at hi
          obtain ⟨x, hx, hr⟩ := a4 _ _ hi
          refine ⟨x, ?_, hr⟩
          rw [if_pos hin, List.getElem?_drop, ← Nat.add_assoc] at *
          simpa using hx
        · cases hi
    · cases hg
  · cases hg

/-! ### Stores -/
theorem run_storeCells_any (r el : Nat) (fz : Nat × Nat) : ∀ (xs : List Value) (i off : Nat) (c : Array Value) (w : World), w.heap[r]? = some (.cells c el fz) → off + i + xs.length ≤ c.size →
    (∀ j, j < c.size → (decide (fz.1 ≤ j) && decide (j < fz.2)) = false) → (∀ x ∈ xs, x.oneCell' = true) →
    ∃ (c' : Array Value) (w' : World), (storeCells ⟨r, off, none⟩ xs i).run P w = .ok () w' ∧ w'.heap.size = w.heap.size ∧ w'.heap[r]? = some (.cells c' el fz) ∧ (∀ k, k ≠ r → w'.heap[k]? = w.heap[k]?) ∧
      c'.size = c.size ∧ (∀ j, c'[j]? = if off + i ≤ j ∧ j < off + i + xs.length then xs[j - (off + i)]? else c[j]?) ∧ Side w w' := by
  intro xs
  induction xs with
  | nil =>
    intro i off c w hh _ _ _
    refine ⟨c, w, by simp [storeCells], rfl, hh, fun _ _ => rfl, rfl, fun j => ?_, .refl _⟩
    rw [if_neg (by simp)]
  | cons x xs ih =>
    intro i off c w hh hle hfz hone
    have hx := hone x (by simp)
    have hlt : off + i < c.size := by simp at hle; omega
    have hcell : w.cell? ⟨r, off + i, none⟩ = some c[off + i] := by rw [cell_of_cells hh]; exact Array.getElem?_eq_getElem hlt
    have hfr : w.frozen? ⟨r, off + i, none⟩ = false := by simp only [World.frozen?, hh]; exact hfz _ hlt
    have hh' : (w.setCell ⟨r, off + i, none⟩ x).heap[r]? = some (.cells (c.setIfInBounds (off + i) x) el fz) := by
      simp [World.setCell, Array.getElem?_modify, hh]
    obtain ⟨c', w', e1, e2, e3, e4, e5, e6, e7⟩ := ih (i + 1) off (c.setIfInBounds (off + i) x) (w.setCell ⟨r, off + i, none⟩ x) hh' (by simp at hle ⊢; omega) (by simpa using hfz) (fun y hy => hone y (by simp [hy]))
    refine ⟨c', w', ?_, by rw [e2]; simp [World.setCell], e3, fun k hk => ?_, by rw [e5]; simp, fun j => ?_, Side.trans (b := w.setCell ⟨r, off + i, none⟩ x) ⟨rfl, rfl, rfl⟩ e7⟩
    · simp only [storeCells, Sem.run_bind, addr_add, run_store P w _ x .plain hx, hcell, hfr, Result.andThen]
      exact e1
    · rw [e4 k hk]; simp [World.setCell, Array.getElem?_modify, Ne.symm hk]
    · rw [e6 j]
      by_cases h1 : off + (i + 1) ≤ j ∧ j < off + (i + 1) + xs.length
      · rw [if_pos h1, if_pos (by simp; omega)]
        obtain ⟨d, hd⟩ : ∃ d, j - (off + i) = d + 1 := ⟨j - (off + i) - 1, by omega⟩
        rw [hd, List.getElem?_cons_succ]
        congr 1; omega
      · rw [if_neg h1]
        by_cases h2 : j = off + i
        · subst h2
          rw [if_pos (by simp)]
          simp [hlt]
        · rw [if_neg (by simp; omega), Array.getElem?_setIfInBounds_ne (by omega)]

/-- Nobody but its stale parents lies where a written block lies. -/
theorem HRel.alone {b b' : Nat} {o o' : AObj} (H : HRel R Old w0 E h w) (hb : h.get b = some o) (hw : o.written = true) (hb' : h.get b' = some o') (hne : b ≠ b')
    (hp : ∀ ps vs, o = .cells (.live ps) vs → b' ∉ ps) : (E.ρ b').1 ≠ (E.ρ b).1 := by
  intro he
  have hs := (H.sep b b' o o' hne hb hb' he.symm).1
  cases o with
  | cells m vs =>
    cases m with
    | live ps =>
      cases o' with
      | cells m' vs' => cases m' with
        | stale => exact hp ps vs rfl hs
        | live _ => exact hs
        | ro => exact hs
      | _ => exact hs
    | _ => simp [AObj.written] at hw
  | _ => cases o' <;> exact hs

/-- A written object gets another content in its place (a live block: its parents go). -/
theorem HRel.write {b : Nat} {ps : List Nat} {o o' : AObj} {w' : World} (H : HRel R Old w0 E h w) (hb : h.get b = some o) (hw : o.written = true) (hw' : o'.written = true)
    (hps : ∀ qs vs, o = .cells (.live qs) vs → ps = qs) (hs : w'.heap.size = w.heap.size) (ho : ∀ k, k ≠ (E.ρ b).1 → w'.heap[k]? = w.heap[k]?) (hor : ORel R E w' b o')
    (hty : o'.Tidy E := by first | exact AObj.tidy_nil _ _ | (intro _ _ h; cases h; done)) (hsd : Side w w' := by exact ⟨rfl, rfl, rfl⟩) :
    HRel R Old w0 E ((h.eraseAll ps).set b (some o')) w' := by
  have hget : ∀ b' o'', ((h.eraseAll ps).set b (some o')).get b' = some o'' → (b' = b ∧ o'' = o') ∨ (b ≠ b' ∧ b' ∉ ps ∧ h.get b' = some o'') := fun b' o'' hg => by
    rw [Heap.get_set] at hg
    split at hg
    · rename_i hbb; cases hg; exact .inl ⟨hbb.symm, rfl⟩
    · rename_i hbb
      rw [Heap.get_eraseAll] at hg
      split at hg
      · cases hg
      · rename_i hnp; exact .inr ⟨hbb, hnp, hg⟩
  have hap : ∀ b' o'', b ≠ b' → b' ∉ ps → h.get b' = some o'' → (E.ρ b').1 ≠ (E.ρ b).1 := fun b' o'' hne hnp hg =>
    H.alone hb hw hg hne fun qs vs hq => by rw [← hps qs vs hq]; exact hnp
  have hobj := H.objs _ _ hb
  refine ⟨by rw [hs]; exact H.M, by simpa using H.next, fun b' o'' hg => ?_, fun b1 b2 o1 o2 hne h1 h2 he => ?_, fun b1 b2 qs us us' h1 h2 he => ?_, fun r hr => ?_, fun b' o'' hg hwr => ?_, fun b' o'' hg => ?_, H.side.trans hsd⟩
  · rcases hget _ _ hg with ⟨rfl, rfl⟩ | ⟨hne, hnp, hg'⟩
    · exact ⟨hobj.1, hobj.2.1, hor⟩
    · obtain ⟨x1, x2, x3⟩ := H.objs _ _ hg'
      exact ⟨x1, x2, x3.congr (ho _ (hap _ _ hne hnp hg'))⟩
  · rcases hget _ _ h1 with ⟨rfl, rfl⟩ | ⟨n1, p1, g1⟩
    · rcases hget _ _ h2 with ⟨rfl, rfl⟩ | ⟨n2, p2, g2⟩
      · exact absurd rfl hne
      · exact absurd he.symm (hap _ _ n2 p2 g2)
    · rcases hget _ _ h2 with ⟨rfl, rfl⟩ | ⟨n2, p2, g2⟩
      · exact absurd he (hap _ _ n1 p1 g1)
      · exact H.sep _ _ _ _ hne g1 g2 he
  · rcases hget _ _ h2 with ⟨rfl, e2⟩ | ⟨n2, p2, g2⟩
    · subst e2; simp [AObj.written] at hw'
    · rcases hget _ _ h1 with ⟨rfl, e1⟩ | ⟨n1, p1, g1⟩
      · exact absurd he (hap _ _ n2 p2 g2)
      · exact H.fit _ _ _ _ _ g1 g2 he
  · obtain ⟨x1, x2⟩ := H.old r hr
    refine ⟨x1, ?_⟩
    rw [ho r (fun e => H.away b o hb hw (e ▸ hr))]; exact x2
  · rcases hget _ _ hg with ⟨rfl, rfl⟩ | ⟨hne, hnp, hg'⟩
    · exact H.away _ _ hb hw
    · exact H.away _ _ hg' hwr
  · rcases hget _ _ hg with ⟨rfl, rfl⟩ | ⟨hne, hnp, hg'⟩
    · exact hty
    · exact H.tidy _ _ hg'

theorem spliceL_length {vs xs : List AV} {off : Nat} (hl : off + xs.length ≤ vs.length) : (spliceL vs off xs).length = vs.length := by
  simp [spliceL]; omega

theorem spliceL_get {vs xs : List AV} {off : Nat} (hl : off + xs.length ≤ vs.length) (i : Nat) :
    (spliceL vs off xs)[i]? = if off ≤ i ∧ i < off + xs.length then xs[i - off]? else vs[i]? := by
  unfold spliceL
  by_cases h1 : i < off
  · rw [if_neg (by omega), List.append_assoc, List.getElem?_append_left (by simp; omega), List.getElem?_take, if_pos h1]
  · by_cases h2 : i < off + xs.length
    · rw [if_pos (by omega), List.append_assoc, List.getElem?_append_right (by simp; omega), List.getElem?_append_left (by simp; omega)]
      congr 1; simp; omega
    · rw [if_neg (by omega), List.append_assoc, List.getElem?_append_right (by simp; omega), List.getElem?_append_right (by simp; omega), List.getElem?_drop]
      congr 1; simp; omega

theorem store_row {b off : Nat} {xs : List AV} {ys : List Value} {h' : Heap} (H : HRel R Old w0 E h w) (hset : setRow h b off xs = some h') (hr : VsRel E xs ys) :
    ∃ w', (storeCells (E.at_ b off) ys).run P w = .ok () w' ∧ HRel R Old w0 E h' w' := by
  unfold setRow at hset
  split at hset
  · rename_i ps vs hb
    split at hset
    · rename_i hc
      obtain ⟨hle, hone⟩ := hc
      cases hset
      obtain ⟨hbe, hbm, c, el, fz, a1, a2, a3, a4, a5⟩ := H.objs _ _ hb
      have hlen := hr.length
      have h1 : ∀ y ∈ ys, y.oneCell' = true := fun y hy => by
        obtain ⟨i, hi, rfl⟩ := List.mem_iff_getElem.1 hy
        have hi' : i < xs.length := by omega
        obtain ⟨x, hx, hv⟩ := hr.get i xs[i] (List.getElem?_eq_getElem hi')
        rw [List.getElem?_eq_getElem hi] at hx
        cases hx
        rw [← hv.one]
        exact List.all_eq_true.1 hone _ (List.getElem_mem hi')
      obtain ⟨c', w', e1, e2, e3, e4, e5, e6, e7⟩ := run_storeCells_any (P := P) (E.ρ b).1 el fz ys 0 ((E.ρ b).2 + off) c w a1 (by omega) (a5 ps rfl) h1
      refine ⟨w', e1, H.write (ps := ps) hb rfl rfl (fun qs us hq => by cases hq; rfl) e2 e4 ?_ (hsd := e7)⟩
      refine ⟨c', el, fz, e3, by rw [e5]; exact a2, ?_, fun i v hi => ?_, fun _ _ i hi => a5 ps rfl i (by rw [← e5]; exact hi)⟩
      · rw [spliceL_length hle, e5]; exact a3
      · rw [spliceL_get hle] at hi
        split at hi
        · rename_i hin
          obtain ⟨x, hx, hv⟩ := hr.get _ _ hi
          refine ⟨x, ?_, hv⟩
          rw [e6, if_pos (by omega), ← hx]
          congr 1; omega
        · rename_i hout
          obtain ⟨x, hx, hv⟩ := a4 _ _ hi
          refine ⟨x, ?_, hv⟩
          rw [e6, if_neg (by omega)]
          exact hx
    · cases hset
  · cases hset

/-! ### New blocks -/
/-- Where a new name is put. -/
def Emb.add (E : Emb) (id : Nat) (p : Nat × Nat) (size M : Nat) : Emb :=
  { ρ := fun b => if b = id then p else E.ρ b, here := fun b => E.here b ∨ b = id, sz := fun r => if r = E.M then size else E.sz r, M := M }

theorem Emb.le_add {E : Emb} {id : Nat} {p : Nat × Nat} {size M : Nat} (hid : ¬ E.here id) (hM : E.M ≤ M) : E.Le (E.add id p size M) :=
  ⟨hM, fun b hb => ⟨.inl hb, by have : b ≠ id := fun e => hid (e ▸ hb); simp [Emb.add, this]⟩,
   fun r hr => by have : r ≠ E.M := by omega
                  simp [Emb.add, this]⟩

theorem heap_push_lt {w : World} {o : Obj} {r : Nat} (hr : r < w.heap.size) : (w.alloc o).heap[r]? = w.heap[r]? := by
  show (w.heap.push o)[r]? = _
  simp [Array.getElem?_push, Nat.ne_of_lt hr]

/-- A new block in the world under a new name. -/
theorem HRel.new {id : Nat} {o : AObj} {obj : Obj} {size : Nat} {w : World} (H : HRel R Old w0 E h w) (hid : ¬ E.here id) (hnx : id < h.next)
    (hor : ORel R (E.add id (w.heap.size, 0) size (w.heap.size + 1)) (w.alloc obj) id o)
    (hty : o.Tidy E := by first | exact AObj.tidy_nil _ _ | (intro _ _ h; cases h; done)) :
    HRel R Old w0 (E.add id (w.heap.size, 0) size (w.heap.size + 1)) (h.set id (some o)) (w.alloc obj) := by
  have hM := H.M
  have hle : E.Le (E.add id (w.heap.size, 0) size (w.heap.size + 1)) := Emb.le_add hid (by omega)
  have hρid : (E.add id (w.heap.size, 0) size (w.heap.size + 1)).ρ id = (w.heap.size, 0) := by simp [Emb.add]
  have hget : ∀ b' o', (h.set id (some o)).get b' = some o' → (b' = id ∧ o' = o) ∨ (b' ≠ id ∧ h.get b' = some o') := fun b' o' hg => by
    rw [Heap.get_set] at hg
    split at hg
    · rename_i e; cases hg; exact .inl ⟨e.symm, rfl⟩
    · rename_i e; exact .inr ⟨fun e' => e e'.symm, hg⟩
  have hρ : ∀ b', b' ≠ id → (E.add id (w.heap.size, 0) size (w.heap.size + 1)).ρ b' = E.ρ b' := fun b' hb => by simp [Emb.add, hb]
  refine ⟨by simp [Emb.add], fun b hb => ?_, fun b o' hg => ?_, fun b1 b2 o1 o2 hne h1 h2 he => ?_, fun b1 b2 qs us us' h1 h2 he => ?_, fun r hr => ?_, fun b o' hg hw => ?_, fun b o' hg => ?_, H.side.trans ⟨rfl, rfl, rfl⟩⟩
  · rcases hb with hb | rfl
    · exact H.next b hb
    · exact hnx
  · rcases hget _ _ hg with ⟨rfl, rfl⟩ | ⟨hne, hg'⟩
    · exact ⟨.inr rfl, by rw [hρid]; simp [Emb.add], hor⟩
    · obtain ⟨x1, x2, x3⟩ := H.objs _ _ hg'
      refine ⟨.inl x1, by rw [hρ _ hne]; simp only [Emb.add]; omega, ?_⟩
      exact (x3.mono hle x1 x2).congr (by rw [hρ _ hne]; exact heap_push_lt (by omega))
  · rcases hget _ _ h1 with ⟨rfl, rfl⟩ | ⟨n1, g1⟩
    · rcases hget _ _ h2 with ⟨rfl, rfl⟩ | ⟨n2, g2⟩
      · exact absurd rfl hne
      · have := (H.objs _ _ g2).2.1
        rw [hρid, hρ _ n2] at he
        simp only at he; omega
    · rcases hget _ _ h2 with ⟨rfl, rfl⟩ | ⟨n2, g2⟩
      · have := (H.objs _ _ g1).2.1
        rw [hρid, hρ _ n1] at he
        simp only at he; omega
      · rw [hρ _ n1, hρ _ n2] at he
        exact H.sep _ _ _ _ hne g1 g2 he
  · rcases hget _ _ h1 with ⟨rfl, e1⟩ | ⟨n1, g1⟩
    · rcases hget _ _ h2 with ⟨rfl, e2⟩ | ⟨n2, g2⟩
      · rw [← e1] at e2; cases e2
      · have := (H.objs _ _ g2).2.1
        rw [hρid, hρ _ n2] at he
        simp only at he; omega
    · rcases hget _ _ h2 with ⟨rfl, e2⟩ | ⟨n2, g2⟩
      · have := (H.objs _ _ g1).2.1
        rw [hρid, hρ _ n1] at he
        simp only at he; omega
      · rw [hρ _ n1, hρ _ n2] at he ⊢
        exact H.fit _ _ _ _ _ g1 g2 he
  · obtain ⟨x1, x2⟩ := H.old r hr
    exact ⟨by simp only [Emb.add]; omega, by rw [heap_push_lt (by omega)]; exact x2⟩
  · rcases hget _ _ hg with ⟨rfl, rfl⟩ | ⟨hne, hg'⟩
    · rw [hρid]; intro ho; have := (H.old _ ho).1; simp only at this; omega
    · rw [hρ _ hne]; exact H.away _ _ hg' hw
  · rcases hget _ _ hg with ⟨rfl, rfl⟩ | ⟨hne, hg'⟩
    · exact hty.mono hle
    · exact (H.tidy _ _ hg').mono hle

/-- A new block of cells. -/
theorem HRel.newCells {id : Nat} {vs : List AV} {xs : List Value} {ys : List Value} {t : TypeId} {w : World} {m : Mode} (H : HRel R Old w0 E h w) (hid : ¬ E.here id) (hnx : id < h.next) (hr : VsRel E vs xs)
    (hty : (AObj.cells m vs).Tidy E := by first | exact AObj.tidy_nil _ _ | (intro _ _ h; cases h; done)) :
    HRel R Old w0 (E.add id (w.heap.size, 0) (xs ++ ys).length (w.heap.size + 1)) (h.set id (some (.cells m vs))) (w.alloc (.cells (xs ++ ys).toArray t)) := by
  have hM := H.M
  have hle : E.Le (E.add id (w.heap.size, 0) (xs ++ ys).length (w.heap.size + 1)) := Emb.le_add hid (by omega)
  have hρid : (E.add id (w.heap.size, 0) (xs ++ ys).length (w.heap.size + 1)).ρ id = (w.heap.size, 0) := by simp [Emb.add]
  refine H.new hid hnx ⟨(xs ++ ys).toArray, t, (0, 0), ?_, ?_, ?_, fun i v hi => ?_, fun _ _ i _ => by simp⟩ hty
  · rw [hρid]; exact World.alloc_heap_new w _
  · rw [hρid]; simp [Emb.add, hM]
  · rw [hρid]; have := hr.length; simp; omega
  · rw [hρid]
    obtain ⟨x, hx, hv⟩ := hr.get i v hi
    refine ⟨x, ?_, hv.mono hle⟩
    have : i < xs.length := (List.getElem?_eq_some_iff.1 hx).1
    simp [List.getElem?_append_left this, hx]

/-- A smaller heap: some names are forgotten, a live block may be taken for a stale one. -/
theorem HRel.less {h1 : Heap} (H : HRel R Old w0 E h w) (hn : h1.next = h.next)
    (hs : ∀ b o, h1.get b = some o → h.get b = some o ∨ ∃ ps vs, h.get b = some (.cells (.live ps) vs) ∧ o = .cells .stale vs ∧
      ∀ b' o', b' ≠ b → h1.get b' = some o' → (E.ρ b').1 = (E.ρ b).1 → o'.written = false) : HRel R Old w0 E h1 w := by
  refine ⟨H.M, by rw [hn]; exact H.next, fun b o hg => ?_, fun b b' o o' hne h1' h2' he => ?_, fun b b' ps vs vs' h1' h2' he => ?_, H.old, fun b o hg hw => ?_, fun b o hg => ?_, H.side⟩
  · rcases hs b o hg with h3 | ⟨ps, vs, h3, rfl, _⟩
    · exact H.objs _ _ h3
    · obtain ⟨x1, x2, c, el, fz, a1, a2, a3, a4, _⟩ := H.objs _ _ h3
      exact ⟨x1, x2, c, el, fz, a1, a2, a3, a4, fun _ hq => by cases hq⟩
  · rcases hs b o h1' with h3 | ⟨ps, vs, h3, rfl, g3⟩
    · rcases hs b' o' h2' with h4 | ⟨ps', vs', h4, rfl, g4⟩
      · exact H.sep _ _ _ _ hne h3 h4 he
      · have hw := g4 b o hne h1' he
        have h5 := H.sep _ _ _ _ hne h3 h4 he
        cases o with
        | cells m us => cases m with
          | live _ => simp [AObj.written] at hw
          | stale => exact ⟨trivial, trivial⟩
          | ro => exact ⟨trivial, trivial⟩
        | _ => simp [AObj.written] at hw
    · have hw := g3 b' o' (Ne.symm hne) h2' he.symm
      cases o' with
      | cells m us => cases m with
        | live _ => simp [AObj.written] at hw
        | stale => exact ⟨trivial, trivial⟩
        | ro => exact ⟨trivial, trivial⟩
      | _ => simp [AObj.written] at hw
  · rcases hs b _ h1' with h3 | ⟨_, _, _, h3, _⟩
    · rcases hs b' _ h2' with h4 | ⟨ps', vs2, h4, e4, g4⟩
      · exact H.fit _ _ _ _ _ h3 h4 he
      · by_cases hbb : b = b'
        · subst hbb; rw [h1'] at h2'; cases h2'
        · have := g4 b _ hbb h1' he.symm; simp [AObj.written] at this
    · cases h3
  · rcases hs b o hg with h3 | ⟨ps, vs, h3, rfl, _⟩
    · exact H.away _ _ h3 hw
    · simp [AObj.written] at hw
  · rcases hs b o hg with h3 | ⟨ps, vs, h3, rfl, _⟩
    · exact H.tidy _ _ h3
    · exact AObj.tidy_stale _ _

/-- A block is written behind what its names hold, and gets one more name. -/
theorem HRel.extend {id r sh : Nat} {ps : List Nat} {vs : List AV} {c' : Array Value} {w' : World} {k0 : Nat} (H : HRel R Old w0 E h w) (hid : ¬ E.here id) (hnx : id < h.next) (hr : r < E.M) (hno : ¬ Old r)
    (hall : ∀ b o, h.get b = some o → (E.ρ b).1 = r → ∃ us, o = .cells .stale us ∧ b ∈ ps ∧ (E.ρ b).2 + us.length ≤ k0 ∧ (E.ρ b).2 + us.length ≤ sh + vs.length)
    (hs : w'.heap.size = w.heap.size) (ho : ∀ k, k ≠ r → w'.heap[k]? = w.heap[k]?) {c : Array Value} {el : TypeId} {fz : Nat × Nat} (hc : w.heap[r]? = some (.cells c el fz)) (hc' : w'.heap[r]? = some (.cells c' el fz))
    (hcs : c'.size = c.size) (hkeep : ∀ i, i < k0 → c'[i]? = c[i]?) (hsz : E.sz r = c.size) (hfit : sh + vs.length ≤ c.size)
    (hv : ∀ i v, vs[i]? = some v → ∃ x, c'[sh + i]? = some x ∧ VRel E v x) (hfz : ∀ i, i < c.size → (decide (fz.1 ≤ i) && decide (i < fz.2)) = false) (hty : ∀ p ∈ ps, E.here p) (hsd : Side w w') :
    HRel R Old w0 (E.add id (r, sh) 0 E.M) (h.set id (some (.cells (.live ps) vs))) w' := by
  have hle : E.Le (E.add id (r, sh) 0 E.M) := Emb.le_add hid (Nat.le_refl _)
  have hρid : (E.add id (r, sh) 0 E.M).ρ id = (r, sh) := by simp [Emb.add]
  have hρ : ∀ b', b' ≠ id → (E.add id (r, sh) 0 E.M).ρ b' = E.ρ b' := fun b' hb => by simp [Emb.add, hb]
  have hget : ∀ b' o', (h.set id (some (.cells (.live ps) vs))).get b' = some o' → (b' = id ∧ o' = .cells (.live ps) vs) ∨ (b' ≠ id ∧ h.get b' = some o') := fun b' o' hg => by
    rw [Heap.get_set] at hg
    split at hg
    · rename_i e; cases hg; exact .inl ⟨e.symm, rfl⟩
    · rename_i e; exact .inr ⟨fun e' => e e'.symm, hg⟩
  have hsz' : (E.add id (r, sh) 0 E.M).sz r = E.sz r := by simp only [Emb.add]; rw [if_neg (by omega)]
  refine ⟨by rw [hs]; exact H.M, fun b hb => ?_, fun b o' hg => ?_, fun b1 b2 o1 o2 hne h1 h2 he => ?_, fun b1 b2 qs us us' h1 h2 he => ?_, fun k hk => ?_, fun b o' hg hw => ?_, fun b o' hg => ?_, H.side.trans hsd⟩
  · rcases hb with hb | rfl
    · exact H.next b hb
    · exact hnx
  · rcases hget _ _ hg with ⟨rfl, rfl⟩ | ⟨hne, hg'⟩
    · refine ⟨.inr rfl, by rw [hρid]; exact hr, c', el, fz, by rw [hρid]; exact hc', by rw [hρid]; simp only; rw [hsz', hsz, hcs], by rw [hρid, hcs]; exact hfit, fun i v hi => ?_, fun _ _ i hi => hfz i (by rw [← hcs]; exact hi)⟩
      rw [hρid]
      obtain ⟨x, hx, hv'⟩ := hv i v hi
      exact ⟨x, hx, hv'.mono hle⟩
    · obtain ⟨x1, x2, x3⟩ := H.objs _ _ hg'
      refine ⟨.inl x1, by rw [hρ _ hne]; exact x2, ?_⟩
      by_cases hbr : (E.ρ b).1 = r
      · obtain ⟨us, rfl, hbp, hend, _⟩ := hall b o' hg' hbr
        obtain ⟨c2, el2, fz2, a1, a2, a3, a4, a5⟩ := x3
        rw [hbr, hc] at a1
        cases a1
        refine ⟨c', el, fz, by rw [hρ _ hne, hbr]; exact hc', by rw [hρ _ hne, hbr, hsz', hcs]; exact hsz, by rw [hρ _ hne, hcs]; exact a3, fun i v hi => ?_, fun _ hq => by cases hq⟩
        rw [hρ _ hne]
        obtain ⟨x, hx, hv'⟩ := a4 i v hi
        have : i < us.length := (List.getElem?_eq_some_iff.1 hi).1
        exact ⟨x, by rw [hkeep _ (by omega)]; exact hx, hv'.mono hle⟩
      · exact (x3.mono hle x1 x2).congr (by rw [hρ _ hne]; exact ho _ hbr)
  · rcases hget _ _ h1 with ⟨rfl, rfl⟩ | ⟨n1, g1⟩
    · rcases hget _ _ h2 with ⟨rfl, rfl⟩ | ⟨n2, g2⟩
      · exact absurd rfl hne
      · rw [hρid, hρ _ n2] at he
        obtain ⟨us, rfl, hbp, _⟩ := hall _ _ g2 he.symm
        exact ⟨hbp, trivial⟩
    · rcases hget _ _ h2 with ⟨rfl, rfl⟩ | ⟨n2, g2⟩
      · rw [hρid, hρ _ n1] at he
        obtain ⟨us, rfl, hbp, _⟩ := hall _ _ g1 he
        exact ⟨trivial, hbp⟩
      · rw [hρ _ n1, hρ _ n2] at he
        exact H.sep _ _ _ _ hne g1 g2 he
  · rcases hget _ _ h2 with ⟨rfl, e2⟩ | ⟨n2, g2⟩
    · cases e2
    · rcases hget _ _ h1 with ⟨rfl, e1⟩ | ⟨n1, g1⟩
      · cases e1
        rw [hρid, hρ _ n2] at he ⊢
        obtain ⟨us2, e2, hbp, _, hend⟩ := hall _ _ g2 he
        cases e2
        exact hend
      · rw [hρ _ n1, hρ _ n2] at he ⊢
        exact H.fit _ _ _ _ _ g1 g2 he
  · obtain ⟨x1, x2⟩ := H.old k hk
    exact ⟨x1, by rw [ho k (fun e => hno (e ▸ hk))]; exact x2⟩
  · rcases hget _ _ hg with ⟨rfl, rfl⟩ | ⟨hne, hg'⟩
    · rw [hρid]; exact hno
    · rw [hρ _ hne]; exact H.away _ _ hg' hw
  · rcases hget _ _ hg with ⟨rfl, rfl⟩ | ⟨hne, hg'⟩
    · intro qs us hq p hp; cases hq; exact .inl (hty p hp)
    · exact (H.tidy _ _ hg').mono hle

end Go.Ab
