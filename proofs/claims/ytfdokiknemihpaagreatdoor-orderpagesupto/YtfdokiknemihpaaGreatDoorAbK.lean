/- copy, bytes and strings, arrays as slices, ranging over strings, maps. -/
import Derived.Test.YtfdokiknemihpaaGreatDoorAbJ
namespace Go.Ab
variable {P : Program} {R : CodeRel} {Old : Nat → Prop} {w0 w : World} {E : Emb} {h : Heap} {a : Act} {e : Env}

/-- A new block, its frozen range behind its cells. -/
theorem HRel.newCellsF {id : Nat} {vs : List AV} {xs ys : List Value} {t : TypeId} {w w1 : World} {m : Mode} {fz : Nat × Nat} (H : HRel R Old w0 E h w) (hid : ¬ E.here id) (hnx : id < h.next) (hr : VsRel E vs xs)
    (hfz : fz.1 = (xs ++ ys).length) (hw : w1.heap = w.heap.push (.cells (xs ++ ys).toArray t fz))
    (hty : (AObj.cells m vs).Tidy E := by first | exact AObj.tidy_nil _ _ | (intro _ _ h; cases h; done)) (hsd : Side w w1 := by exact ⟨rfl, rfl, rfl⟩) :
    HRel R Old w0 (E.add id (w.heap.size, 0) (xs ++ ys).length (w.heap.size + 1)) (h.set id (some (.cells m vs))) w1 := by
  have hM := H.M
  have hle : E.Le (E.add id (w.heap.size, 0) (xs ++ ys).length (w.heap.size + 1)) := Emb.le_add hid (by omega)
  have hρid : (E.add id (w.heap.size, 0) (xs ++ ys).length (w.heap.size + 1)).ρ id = (w.heap.size, 0) := by simp [Emb.add]
  have Hn := H.new (size := (xs ++ ys).length) (obj := .cells (xs ++ ys).toArray t fz) (o := .cells m vs) hid hnx (by
    refine ⟨(xs ++ ys).toArray, t, fz, ?_, ?_, ?_, fun i v hi => ?_, fun _ _ i hi => ?_⟩
    · rw [hρid]; exact World.alloc_heap_new w _
    · rw [hρid]; simp [Emb.add, hM]
    · rw [hρid]; have := hr.length; simp; omega
    · rw [hρid]
      obtain ⟨x, hx, hv⟩ := hr.get i v hi
      refine ⟨x, ?_, hv.mono hle⟩
      have : i < xs.length := (List.getElem?_eq_some_iff.1 hx).1
      simp [List.getElem?_append_left this, hx]
    · have : ¬ (fz.1 ≤ i) := by rw [hfz]; simpa using hi
      simp [this]) hty
  exact Hn.of_heap hw ⟨hsd.os, hsd.tape, hsd.output⟩

section ops
variable {dst : Option Tmp} {ty : TypeId} {pos : String} {after : Array Edge} {g : Option (Nat × Bool)} {id : Nat} {h' : Heap} {v : AV} {t yt : TypeId} {x y z : Operand} {sx sy sz : Src}

theorem sim_strBytes {src dt el : TypeId} (H : HRel R Old w0 E h w) (hE : EnvRel E e a.tmps) (hid : ¬ E.here id) (hnx : id < h.next) (hx : cSrc x = some sx) (h1 : P.underlying src = some .string) (h2 : P.underlying dt = some (.slice el)) (h3 : P.underlying el = some (.int .u8))
    (hv : op_strBytes sx e h id = some (v, h')) : Sim R Old w0 E h' id v ((execOp a.eval (mkO dst (.convert src dt x) ty pos after g)).run P w) := by
  unfold op_strBytes at hv
  split at hv
  · rename_i l hu
    have r1 := src_rel hE hx hu
    generalize hxv : a.eval x = xv at r1
    cases r1 with
    | str s _ hs =>
      split at hv
      · cases hv
        obtain ⟨cap, hcap⟩ : ∃ c, c = (Question.appendCap s.size 0 el).cut (w.tape w.drawn (Question.appendCap s.size 0 el)) := ⟨_, rfl⟩
        have hcg : s.size ≤ cap := by rw [hcap]; exact cap_ge _ _ _ _
        have hsl : s.size = l.length := by rw [← hs, List.length_map, Array.length_toList]; rfl
        let xs : List Value := s.data.toList.map fun b => .int .u8 b.toNat
        let ys : List Value := List.replicate (cap - s.size) (.int .u8 0)
        have hxs : xs.length = s.size := by simp only [xs, List.length_map, Array.length_toList]; rfl
        have hr : VsRel E (l.map byteV) xs := by rw [← hs]; exact byte_rel _
        have Hd : HRel R Old w0 E h w.drew := H.of_heap rfl
        let n := (xs ++ ys).length
        have hall : n = cap := by simp only [n, List.length_append, hxs, ys, List.length_replicate]; omega
        let w1 : World := (w.drew.alloc (.cells (xs ++ ys).toArray el)).freeze ⟨w.heap.size, n, none⟩ 1
        have hw1 : w1.heap = w.drew.heap.push (.cells (xs ++ ys).toArray el (n, n + 1)) := by
          simp only [w1, World.freeze, Nat.succ_ne_zero, if_false]
          apply Array.ext_getElem?
          intro k
          rw [Array.getElem?_modify]
          by_cases hk : w.heap.size = k
          · subst hk
            rw [if_pos rfl, show (w.drew.alloc (.cells (xs ++ ys).toArray el)).heap[w.heap.size]? = _ from World.alloc_heap_new w.drew _]
            have : (w.drew.heap.push (.cells (xs ++ ys).toArray el (n, n + 1)))[w.heap.size]? = some (.cells (xs ++ ys).toArray el (n, n + 1)) := World.alloc_heap_new w.drew _
            rw [this]; rfl
          · rw [if_neg hk]
            by_cases hlt : k < w.heap.size
            · rw [show (w.drew.alloc (.cells (xs ++ ys).toArray el)).heap[k]? = w.drew.heap[k]? from heap_push_lt (w := w.drew) hlt]
              exact (heap_push_lt (w := w.drew) (o := .cells (xs ++ ys).toArray el (n, n + 1)) hlt).symm
            · rw [Array.getElem?_eq_none (by simp; omega), Array.getElem?_eq_none (by simp; omega)]
        have Hn := Hd.newCellsF (t := el) (m := .live []) (ys := ys) (fz := (n, n + 1)) (w1 := w1) hid hnx hr rfl hw1
        refine .new hid (by have := H.M; simp; omega) Hn (x := .slice (some ⟨w.heap.size, 0, none⟩) s.size cap) ?_ ?_
        · have hch : (choose (.appendCap s.size 0 el)).run P w = .ok cap w.drew := by
            simp only [run_choose, Question.forced, Bool.false_eq_true, if_false, ← hcap]; rfl
          have hcells : (s.data.map fun b => Value.int .u8 b.toNat) ++ Array.replicate (cap - s.size) (.int .u8 0) = (xs ++ ys).toArray := Array.ext' (by simp [xs, ys])
          have hshape : (w.drew.alloc (.cells (xs ++ ys).toArray el)).shape? w.heap.size = some (el, n) := by
            unfold World.shape?
            rw [show (w.drew.alloc (.cells (xs ++ ys).toArray el)).heap[w.heap.size]? = _ from World.alloc_heap_new w.drew _]
            simp [n]
          simp only [execOp, hxv, convert, Sem.run_bind, run_underlying h1, run_underlying h2, Result.andThen_ok, run_underlying h3, Conv.stringToBytes, hch, newRow, run_newObj, Sem.run_pure, markStringish, run_shape, World.alloc_eq, hcells, World.size_drew, hshape, run_freeze]
          rfl
        · rcases new_slice (E := E) (xs := xs) (ys := ys) (id := id) (len := l.length) (esz := 1) (cap := cap) (w1 := w.drew) (by omega) (by rw [Nat.mul_one]; exact Nat.le_of_eq hall.symm) with h4 | h4
          · rw [hsl]; exact h4
          · exact absurd Hd.M h4
      · cases hv
  · cases hv

theorem asBytes_rel (f : Value → ByteArray → Sem (ForInStep ByteArray)) (hf : ∀ n r, f (.int .u8 n) r = pure (ForInStep.yield (r.push (UInt8.ofNat n.toNat)))) :
    ∀ {vs : List AV} {xs : List Value} {bs : List Nat} (acc : ByteArray), VsRel E vs xs → asBytes vs = some bs →
    ∃ s : ByteArray, (forIn xs acc f).run P w = .ok s w ∧
      s.data.toList.map UInt8.toNat = acc.data.toList.map UInt8.toNat ++ bs
  | _, _, bs, acc, .nil, hb => by simp only [asBytes, Option.some.injEq] at hb; subst hb; exact ⟨acc, by simp, by simp⟩
  | _, _, bs, acc, .cons v x vs xs h hs, hb => by
    simp only [asBytes] at hb
    split at hb
    · cases hb
    · rename_i b hvb
      split at hb
      · cases hb
      · rename_i bs' hbs
        cases hb
        unfold asByte at hvb
        split at hvb
        · cases hvb
          cases h
          rename_i n
          obtain ⟨s, h1, h2⟩ := asBytes_rel f hf (acc.push (UInt8.ofNat n.toNat)) hs hbs
          refine ⟨s, ?_, ?_⟩
          · simp only [List.forIn_cons, hf, Sem.run_bind, Sem.run_pure, Result.andThen_ok]; exact h1
          · rw [h2]
            have : (acc.push (UInt8.ofNat n.toNat)).data.toList = acc.data.toList ++ [UInt8.ofNat n.toNat] := by
              show (acc.data.push _).toList = _
              simp
            rw [this]
            simp [UInt8.toNat_ofNat']
        · cases hvb

theorem sim_bytesStr {src dt el : TypeId} (H : HRel R Old w0 E h w) (hE : EnvRel E e a.tmps) (hx : cSrc x = some sx) (h1 : P.underlying src = some (.slice el)) (h2 : P.underlying dt = some .string) (h3 : P.underlying el = some (.int .u8))
    (hv : op_bytesStr sx e h = some (v, h')) : Sim R Old w0 E h' id v ((execOp a.eval (mkO dst (.convert src dt x) ty pos after g)).run P w) := by
  unfold op_bytesStr at hv
  split at hv
  · rename_i hu
    cases hv
    have r1 := src_rel hE hx hu
    generalize hxv : a.eval x = xv at r1
    cases r1
    refine .val H (x := .string .empty) ?_ (.str _ _ rfl)
    simp [execOp, hxv, convert, run_underlying h1, run_underlying h2, run_underlying h3, Conv.bytesToString]
  · rename_i b off n z hu
    have r1 := src_rel hE hx hu
    generalize hxv : a.eval x = xv at r1
    cases r1 with
    | slice _ _ _ _ ad cap hb hr =>
      split at hv
      · rename_i vs hrow
        split at hv
        · rename_i bs hbs
          cases hv
          obtain ⟨hl, xs, h4, h5⟩ : vs.length = n ∧ ∃ xs : List Value, (loadCells ad n).run P w = .ok xs.toArray w ∧ VsRel E vs xs := by
            rcases hr with ⟨rfl, _⟩ | ⟨rfl, _⟩
            · have := load_slice (P := P) (z := 1) H (.inl ⟨rfl, rfl⟩) (by simpa using hrow) (ad := ad)
              simpa using this
            · exact load_row H hrow
          have key : ∃ s : ByteArray, (Conv.bytesToString (.slice (some ad) n cap)).run P w = .ok (.string s) w ∧ s.data.toList.map UInt8.toNat = bs := by
            unfold Conv.bytesToString
            simp only [Sem.run_bind, h4, Result.andThen_ok, List.forIn_toArray]
            have gen : ∀ f : Value → ByteArray → Sem (ForInStep ByteArray), (∀ n r, f (.int .u8 n) r = pure (ForInStep.yield (r.push (UInt8.ofNat n.toNat)))) →
                ∃ s : ByteArray, (((forIn xs ByteArray.empty f).run P w).andThen fun a w' => (pure (Value.string a) : Sem Value).run P w') = .ok (.string s) w ∧ s.data.toList.map UInt8.toNat = bs := fun f hf => by
              obtain ⟨s, h6, h7⟩ := asBytes_rel (P := P) (w := w) f hf ByteArray.empty h5 hbs
              exact ⟨s, by rw [h6]; rfl, by rw [h7]; rfl⟩
            refine gen _ ?_
            intro n r
            rfl
          obtain ⟨s, h6, h7⟩ := key
          refine .val H (x := .string s) ?_ (.str _ _ h7)
          simp only [execOp, hxv, convert, Sem.run_bind, run_underlying h1, run_underlying h2, run_underlying h3, Result.andThen_ok, h6, Sem.run_pure]
        · cases hv
      · cases hv
  · cases hv

theorem sim_sliceArr {n esz : Nat} {el : TypeId} {lo hi : Option Operand} {sl sh : Option Src} (H : HRel R Old w0 E h w) (hE : EnvRel E e a.tmps) (hx : cSrc x = some sx) (hl : cOpt lo = some sl) (hh : cOpt hi = some sh)
    (ht : P.underlying t = some (.array n el) ∨ ∃ arr, P.underlying t = some (.pointer arr) ∧ P.underlying arr = some (.array n el)) (hn : sizeP P el = some esz) (hv : op_sliceArr n esz sx sl sh e h = some (v, h')) :
    Sim R Old w0 E h' id v ((execOp a.eval (mkO dst (.slice t x lo hi none) ty pos after g)).run P w) := by
  unfold op_sliceArr at hv
  split at hv
  · rename_i b off hu1
    have h1 := src_rel hE hx hu1
    generalize hxv : a.eval x = xv at h1
    cases h1
    rename_i hb
    split at hv
    · rename_i l u hbd
      split at hv
      · rename_i hrow
        cases hv
        obtain ⟨h2, h3, h4⟩ := bounds_rel (P := P) (E := E) hE hl hh hbd (Nat.le_refl n) w false
        cases hm : h.get b with
        | none => simp [getRow, hm] at hrow
        | some o => cases o with
          | cells m vs =>
            obtain ⟨_, hbm, c, ce, fz, a1, a2, a3, a4, a5⟩ := H.objs _ _ hm
            have hle : off + n * esz ≤ vs.length := by
              simp only [getRow, hm] at hrow
              split at hrow
              · assumption
              · simp at hrow
            have hrel : VRel E (.slice b (off + l * esz) (u - l) esz) (.slice (some (if n = l then E.at_ b off else (E.at_ b off).add (l * esz))) (u - l) (n - l)) := by
              have := slice_zero_cap (E := E) (l := l) (u := u) (cap := n) (len := n) (ad := E.at_ b off) (z := esz) (off := off) hb (.inr ⟨rfl, Nat.le_refl n, hbm, by rw [a2]; omega⟩) h3 h4
              by_cases hc : n = l
              · rw [if_pos hc] at this ⊢; exact this
              · rw [if_neg hc] at this ⊢; exact this
            refine .val H ?_ hrel
            rcases ht with ht | ⟨arr, ht, harr⟩
            · simp only [execOp, hxv, Instr.sliceAt, Sem.run_bind, run_underlying ht, Result.andThen_ok, Instr.sureAddr, Sem.run_pure, Option.map_none, h2, run_sizeOf hn]
            · simp only [execOp, hxv, Instr.sliceAt, Sem.run_bind, run_underlying ht, Result.andThen_ok, Instr.slice, asAddr, Sem.run_pure, run_underlying harr, Option.map_none, h2, run_sizeOf hn]
          | _ => simp [getRow, hm] at hrow
      · cases hv
    · cases hv
  · cases hv

theorem sim_copy {esz : Nat} {el : TypeId} {ats : Array TypeId} {t0 : TypeId} (H : HRel R Old w0 E h w) (hE : EnvRel E e a.tmps) (hx : cSrc x = some sx) (hy : cSrc y = some sy)
    (hat0 : ats[0]? = some t0) (ht0 : P.underlying t0 = some (.slice el)) (hn : sizeP P el = some esz) (hv : op_copy esz sx sy e h = some (v, h')) :
    Sim R Old w0 E h' id v ((execOp a.eval (mkO dst (.call ⟨.builtin .copy, #[x, y], ats⟩) ty pos after g)).run P w) := by
  unfold op_copy at hv
  split at hv
  · rename_i u1 u2 h1 h2
    have r1 := src_rel hE hx h1
    have r2 := src_rel hE hy h2
    generalize hxv : a.eval x = xv at r1
    generalize hyv : a.eval y = yv at r2
    cases r1 <;> simp only at hv <;> first | (cases hv; done) | skip
    · split at hv
      · rename_i p hsrc
        cases hv
        have hlen := lenOf_rel (P := P) (n := p.1) (new := p.2) hsrc r2 w
        obtain ⟨q, hq⟩ : ∃ q, (Builtin.firstCells esz 0 yv).run P w = .ok q w := by
          cases r2 <;> simp only [srcCells] at hsrc <;> first | (cases hsrc; done) | exact ⟨_, by simp [Builtin.firstCells]; rfl⟩ | exact ⟨_, by simp [Builtin.firstCells, loadCells, loadCellsFrom]; rfl⟩
        refine .val H (x := goInt 0) ?_ (.int _ _)
        simp only [execOp, resolve, hxv, hyv, invoke, builtin, Builtin.copy_, List.map_toArray, List.map_cons, List.map_nil, Sem.run_bind, Sem.run_pure, Result.andThen_ok, hat0]
        simp [run_underlying ht0, hlen, run_sizeOf hn, hq]
      · cases hv
    · rename_i b off n z ad cap hb hr
      split at hv
      · rename_i hz
        subst hz
        split at hv
        · rename_i m cs hsrc
          split at hv
          · rename_i h2' hset
            cases hv
            have hlen := lenOf_rel (P := P) hsrc r2 w
            -- the cells taken
            have hfc : ∃ xs : List Value, (Builtin.firstCells z (min m n) yv).run P w = .ok xs.toArray w ∧ VsRel E (cs.take (min m n * z)) xs := by
              cases r2 <;> simp only [srcCells] at hsrc <;> first | (cases hsrc; done) | skip
              · rename_i s l hl
                split at hsrc
                · rename_i hz1
                  cases hsrc
                  refine ⟨(s.data.toList.take (min l.length n)).map fun b => .int .u8 b.toNat, ?_, ?_⟩
                  · simp only [Builtin.firstCells, Sem.run_pure]
                    congr 1
                    rw [ByteArray.data_extract]
                    exact Array.ext' (by simp)
                  · rw [hz1, Nat.mul_one, ← List.map_take, ← hl, ← List.map_take]
                    have hll : (List.map UInt8.toNat s.data.toList).length = l.length := by rw [hl]
                    simp only [hl]
                    exact byte_rel _
                · cases hsrc
              · cases hsrc; exact ⟨[], by simp [Builtin.firstCells], by simp; exact .nil⟩
              · rename_i b2 off2 m2 z2 ad2 cap2 hb2 hr2
                split at hsrc
                · rename_i hz2
                  subst hz2
                  split at hsrc
                  · cases hsrc
                  · rename_i row hrow
                    cases hsrc
                    have hrow' : getRow h b2 off2 (min m n * z2) = some (cs.take (min m n * z2)) := by
                      unfold getRow at hrow ⊢
                      split at hrow
                      · split at hrow
                        · rename_i hle
                          cases hrow
                          have hmm : min m n * z2 ≤ m * z2 := Nat.mul_le_mul_right _ (Nat.min_le_left _ _)
                          rw [if_pos (by omega), List.take_take, Nat.min_eq_left hmm]
                        · cases hrow
                      · cases hrow
                    have hr3 : (min m n = 0 ∧ cap2 = 0) ∨ (ad2 = E.at_ b2 off2 ∧ min m n ≤ cap2 ∧ (E.ρ b2).1 < E.M ∧ (E.ρ b2).2 + off2 + cap2 * z2 ≤ E.sz (E.ρ b2).1) := by
                      rcases hr2 with ⟨q1, q2⟩ | ⟨q1, q2, q3, q4⟩
                      · exact .inl ⟨by omega, q2⟩
                      · exact .inr ⟨q1, by omega, q3, q4⟩
                    obtain ⟨_, xs, g2, g3⟩ := load_slice (P := P) H hr3 hrow'
                    exact ⟨xs, by simp [Builtin.firstCells, g2], g3⟩
                · cases hsrc
            obtain ⟨xs, hfc, hxr⟩ := hfc
            have hst : ∃ w', (storeCells ad xs).run P w = .ok () w' ∧ HRel R Old w0 E h' w' := by
              rcases hr with ⟨q1, q2⟩ | ⟨q1, _⟩
              · subst q1
                have hnil : cs.take (min m 0 * z) = [] := by simp
                rw [hnil] at hset hxr
                cases hxr
                obtain ⟨w', _, h4⟩ := store_row (P := P) H hset .nil
                rename_i h3
                simp only [storeCells, Sem.run_pure, Result.ok.injEq, true_and] at h3
                exact ⟨w, by simp [storeCells], by rw [h3]; exact h4⟩
              · subst q1
                exact store_row (P := P) H hset hxr
            obtain ⟨w', hst1, H'⟩ := hst
            refine ⟨.value (goInt (min m n : Nat)), goInt (min m n : Nat), w', E, ?_, .inl rfl, .refl _, H', .int _ _, fun _ hb => .inl hb⟩
            simp only [execOp, resolve, hxv, hyv, invoke, builtin, Builtin.copy_, List.map_toArray, List.map_cons, List.map_nil, Sem.run_bind, Sem.run_pure, Result.andThen_ok, hat0]
            have hmin : Nat.min m n = min m n := rfl
            simp [run_underlying ht0, hlen, run_sizeOf hn, hmin, hfc, hst1]
          · cases hv
        · cases hv
      · cases hv
  · cases hv

theorem sim_range (H : HRel R Old w0 E h w) (hE : EnvRel E e a.tmps) (hid : ¬ E.here id) (hnx : id < h.next) (hx : cSrc x = some sx) (ht : P.underlying t = some .string) (hv : op_range sx e h id = some (v, h')) :
    Sim R Old w0 E h' id v ((execOp a.eval (mkO dst (.range t x) ty pos after g)).run P w) := by
  unfold op_range at hv
  split at hv
  · rename_i l hu
    cases hv
    have r1 := src_rel hE hx hu
    generalize hxv : a.eval x = xv at r1
    cases r1 with
    | str s _ hs =>
      have hM := H.M
      have Hn := H.new (size := 0) (obj := .stringIter s 0) (o := .strIter l 0) hid hnx ⟨by simp [Emb.add], s, by simp only [Emb.add]; exact World.alloc_heap_new w _, hs⟩
      refine .new hid (by omega) Hn (x := .pointer (some ⟨w.heap.size, 0, none⟩)) ?_ ?_
      · simp [execOp, hxv, Instr.range, run_underlying ht]
      · have key := VRel.ptr (E := E.add id (w.heap.size, 0) 0 (w.heap.size + 1)) id 0 (Or.inr rfl)
        rwa [show (E.add id (w.heap.size, 0) 0 (w.heap.size + 1)).at_ id 0 = ⟨w.heap.size, 0, none⟩ by simp [Emb.at_, Emb.add]] at key
  · cases hv

theorem toBA_rel {s : ByteArray} {l : List Nat} (hs : s.data.toList.map UInt8.toNat = l) : toBA l = s := by
  obtain ⟨⟨d⟩⟩ := s
  simp only at hs
  subst hs
  unfold toBA
  congr 2
  rw [List.map_map]
  conv => rhs; rw [← List.map_id d]
  apply List.map_congr_left
  intro b _
  simp

/-- Another object in the place of one that is no block of cells. -/
theorem HRel.putObj {b : Nat} {o o' : AObj} {obj : Obj} (H : HRel R Old w0 E h w) (hb : h.get b = some o) (hw : o.written = true) (hnc : ∀ m vs, o ≠ .cells m vs) (hw' : o'.written = true)
    (hor : ORel R E (w.putObj (E.ρ b).1 obj) b o') (hty : o'.Tidy E := by first | exact AObj.tidy_nil _ _ | (intro _ _ h; cases h; done)) : HRel R Old w0 E (h.set b (some o')) (w.putObj (E.ρ b).1 obj) := by
  have := H.write (ps := []) (w' := w.putObj (E.ρ b).1 obj) hb hw hw' (fun qs vs hq => absurd hq (hnc _ _)) (by simp) (fun k hk => World.putObj_heap_other hk) hor hty
  simpa [Heap.eraseAll] using this

theorem sim_next (H : HRel R Old w0 E h w) (hE : EnvRel E e a.tmps) (hx : cSrc x = some sx) (hv : op_next sx e h = some (v, h')) :
    Sim R Old w0 E h' id v ((execOp a.eval (mkO dst (.next x true) ty pos after g)).run P w) := by
  unfold op_next at hv
  split at hv
  · rename_i u hu
    have r1 := src_rel hE hx hu
    generalize hxv : a.eval x = xv at r1
    unfold nextA at hv
    split at hv
    · rename_i r
      split at hv
      · rename_i l p hm
        obtain ⟨hre, hrm, hsh, s, a1, a2⟩ := H.objs _ _ hm
        have hsl : s.size = l.length := by rw [← a2, List.length_map, Array.length_toList]; rfl
        cases r1
        have hget : (getObj (E.ρ r).1).run P w = .ok (.stringIter s p) w := by simp [getObj, Sem.run, a1]
        split at hv
        · rename_i hp
          cases hv
          have hba := toBA_rel a2
          have hlt : (E.ρ r).1 < w.heap.size := (Array.getElem?_eq_some_iff.1 a1).1
          have hset : (setObj (E.ρ r).1 (.stringIter s (p + (Utf8.decode s p).2))).run P w = .ok () (w.putObj (E.ρ r).1 (.stringIter s (p + (Utf8.decode s p).2))) := by simp [setObj, Sem.run, a1, World.putObj]
          have H' := H.putObj (o' := .strIter l (p + (Utf8.decode (toBA l) p).2)) (obj := .stringIter s (p + (Utf8.decode s p).2)) hm rfl (fun _ _ => by simp) rfl ⟨hsh, s, by rw [hba]; exact World.putObj_heap_same hlt, a2⟩
          refine ⟨_, .tuple #[.bool true, goInt p, .int .i32 (Utf8.decode s p).1], _, E, ?_, .inl rfl, .refl _, H', ?_, fun _ hb => .inl hb⟩
          · have hps : p < s.size := by omega
            have hat : E.at_ r 0 = ⟨(E.ρ r).1, 0, none⟩ := by simp [Emb.at_, hsh]
            rw [hat] at hxv
            simp only [execOp, hxv, Instr.next, Sem.run_bind, hget, Result.andThen_ok]
            simp [hps, hset]
          · rw [hba]
            exact .tuple _ [_, _, _] (.cons _ _ _ _ (.bool _) (.cons _ _ _ _ (.int _ _) (.cons _ _ _ _ (.int _ _) .nil)))
        · rename_i hp
          cases hv
          refine .val H (x := .tuple #[.bool false]) ?_ (.tuple _ [_] (.cons _ _ _ _ (.bool _) .nil))
          have hps : ¬ p < s.size := by omega
          have hat : E.at_ r 0 = ⟨(E.ρ r).1, 0, none⟩ := by simp [Emb.at_, hsh]
          rw [hat] at hxv
          simp only [execOp, hxv, Instr.next, Sem.run_bind, hget, Result.andThen_ok]
          simp [hps]
      · cases hv
    · cases hv
  · cases hv

end ops
end Go.Ab
