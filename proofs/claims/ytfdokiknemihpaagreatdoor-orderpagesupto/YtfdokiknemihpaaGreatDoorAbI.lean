/- Operations that make blocks: build, make, conversions, maps, append, copy. -/
import Derived.Test.YtfdokiknemihpaaGreatDoorAbH
namespace Go.Ab
variable {P : Program} {R : CodeRel} {Old : Nat → Prop} {w0 w : World} {E : Emb} {h : Heap} {a : Act} {e : Env}

/-! ### Parts laid over cells -/
theorem foldl_set (off : Nat) : ∀ (vs : List Value) (j : Nat) (cs : Array Value), off + j + vs.length ≤ cs.size →
    ((vs.zipIdx j).foldl (fun cs (c, j) => cs.setIfInBounds (off + j) c) cs).size = cs.size ∧
    ∀ i, ((vs.zipIdx j).foldl (fun cs (c, j) => cs.setIfInBounds (off + j) c) cs)[i]? = if off + j ≤ i ∧ i < off + j + vs.length then vs[i - (off + j)]? else cs[i]? := by
  intro vs
  induction vs with
  | nil => intro j cs _; exact ⟨rfl, fun i => by rw [if_neg (by simp)]; rfl⟩
  | cons v vs ih =>
    intro j cs hle
    simp only [List.zipIdx_cons, List.foldl_cons]
    obtain ⟨h1, h2⟩ := ih (j + 1) (cs.setIfInBounds (off + j) v) (by simp at hle ⊢; omega)
    refine ⟨by rw [h1]; simp, fun i => ?_⟩
    rw [h2]
    by_cases c1 : off + (j + 1) ≤ i ∧ i < off + (j + 1) + vs.length
    · rw [if_pos c1, if_pos (by simp; omega)]
      obtain ⟨d, hd⟩ : ∃ d, i - (off + j) = d + 1 := ⟨i - (off + j) - 1, by omega⟩
      rw [hd, List.getElem?_cons_succ]
      congr 1; omega
    · rw [if_neg c1]
      by_cases c2 : i = off + j
      · subst c2
        rw [if_pos (by simp)]
        simp at hle
        simp [show off + j < cs.size from by omega]
      · rw [if_neg (by simp; omega), Array.getElem?_setIfInBounds_ne (by omega)]

theorem fill_rel (hE : EnvRel E e a.tmps) {place place' : Nat → Option (Nat × Nat)} (hp : ∀ i q, place i = some q → place' i = some q) :
    ∀ (parts : List (Nat × Operand)) (ps : List (Nat × Nat × Src)) (cs cs' : List AV) (zs : Array Value), cParts place parts = some ps → fillL e cs ps = some cs' → VsRel E cs zs.toList →
      ∃ zs', Instr.fill place' zs (parts.map fun (i, x) => (i, a.eval x)) = some zs' ∧ VsRel E cs' zs'.toList := by
  intro parts
  induction parts with
  | nil =>
    intro ps cs cs' zs h1 h2 h3
    simp only [cParts, Option.some.injEq] at h1
    subst h1
    simp only [fillL, Option.some.injEq] at h2
    subst h2
    exact ⟨zs, rfl, h3⟩
  | cons p parts ih =>
    obtain ⟨i, o⟩ := p
    intro ps cs cs' zs h1 h2 h3
    simp only [cParts] at h1
    split at h1
    · rename_i off sz s r hpl hs hr
      cases h1
      simp only [fillL] at h2
      split at h2
      · cases h2
      · rename_i v hv
        split at h2
        · rename_i hc
          have hrel := (src_rel hE hs hv).cells
          have hlen := hrel.length
          have h3l := h3.length
          have hsz : (a.eval o).cells.size = sz := by have := hc.1; simp at hlen; omega
          have hle : off + (a.eval o).cells.toList.length ≤ zs.size := by have := hc.2; simp at h3l hlen ⊢; omega
          obtain ⟨f1, f2⟩ := foldl_set off (a.eval o).cells.toList 0 zs (by simpa using hle)
          have hz : ∃ zs1 : Array Value, (a.eval o).cells.zipIdx.foldl (fun cs (c, j) => cs.setIfInBounds (off + j) c) zs = zs1 ∧ zs1.size = zs.size ∧
              ∀ k, zs1[k]? = if off ≤ k ∧ k < off + (a.eval o).cells.toList.length then (a.eval o).cells.toList[k - off]? else zs[k]? := by
            refine ⟨_, rfl, ?_, ?_⟩
            · rw [← Array.foldl_toList, Array.toList_zipIdx]; exact f1
            · intro k; rw [← Array.foldl_toList, Array.toList_zipIdx]; simpa using f2 k
          obtain ⟨zs1, e1, e2, e3⟩ := hz
          have hnew : VsRel E (spliceL cs off v.cells) zs1.toList := by
            have hle' : off + v.cells.length ≤ cs.length := by have := hc.2; omega
            refine VsRel.of_get (by rw [spliceL_length hle']; simp [e2]; simpa using h3l) fun k u hk => ?_
            rw [spliceL_get hle'] at hk
            rw [Array.getElem?_toList, e3]
            split at hk
            · rename_i hin
              obtain ⟨x, hx, hv'⟩ := hrel.get _ _ hk
              exact ⟨x, by rw [if_pos (by rw [← hlen]; exact hin)]; exact hx, hv'⟩
            · rename_i hout
              obtain ⟨x, hx, hv'⟩ := h3.get _ _ hk
              exact ⟨x, by rw [if_neg (by rw [← hlen]; exact hout)]; simpa using hx, hv'⟩
          obtain ⟨zs', g1, g2⟩ := ih r _ _ zs1 hr h2 hnew
          refine ⟨zs', ?_, g2⟩
          simp only [List.map_cons, Instr.fill, hp i _ hpl]
          rw [if_neg (by simp only [hsz, ne_eq, not_true_eq_false, Bool.or_eq_true, decide_eq_true_eq, false_or]; simp at hle hsz; omega), e1]
          exact g1
        · cases h2
    · cases h1

theorem run_places (fields : Array Field) (hs : allSized P fields = true) (w : World) :
    (fields.mapM (fun f => do pure (f.offset, ← sizeOf f.type) : Field → Sem (Nat × Nat))).run P w = .ok (fields.map fun f => (f.offset, P.cellsOf f.type)) w := by
  have key : ∀ (l : List Field), (l.all fun f => (P.info? f.type).isSome) = true → (l.mapM (fun f => do pure (f.offset, ← sizeOf f.type) : Field → Sem (Nat × Nat))).run P w = .ok (l.map fun f => (f.offset, P.cellsOf f.type)) w := by
    intro l
    induction l with
    | nil => intro _; simp
    | cons f l ih =>
      intro h
      simp only [List.all_cons, Bool.and_eq_true] at h
      obtain ⟨i, hi⟩ := Option.isSome_iff_exists.1 h.1
      rw [List.mapM_cons]
      simp only [Sem.run_bind, run_sizeOf (show sizeP P f.type = some i.size by simp [sizeP, hi]), Result.andThen_ok, ih h.2, Sem.run_pure, List.map_cons, Program.cellsOf, hi, Option.map_some, Option.getD_some]
  rw [Array.mapM_eq_mapM_toList]
  simp only [Sem.run_map, key fields.toList (by simpa [allSized] using hs), Result.andThen_ok]
  congr 1
  exact Array.ext' (by simp)

section ops
variable {dst : Option Tmp} {ty : TypeId} {pos : String} {after : Array Edge} {g : Option (Nat × Bool)} {id : Nat} {h' : Heap} {v : AV} {t yt : TypeId} {x y z : Operand} {sx sy sz : Src}

theorem map_pairs (parts : Array (Nat × Operand)) : (parts.map fun (i, x) => (i, a.eval x)).toList = parts.toList.map fun (i, x) => (i, a.eval x) := by simp

theorem sim_buildStruct {fields : Array Field} {parts : Array (Nat × Operand)} {ps : List (Nat × Nat × Src)} {zv : AV} (H : HRel R Old w0 E h w) (hE : EnvRel E e a.tmps) (hz : cZero P t = some zv)
    (ht : P.underlying t = some (.struct fields)) (hs : allSized P fields = true) (hp : cParts (fieldPlaces P fields) parts.toList = some ps) (hv : op_build zv.cells ps e h = some (v, h')) :
    Sim R Old w0 E h' id v ((execOp a.eval (mkO dst (.build t parts) ty pos after g)).run P w) := by
  unfold op_build at hv
  split at hv
  · rename_i cs hcs
    cases hv
    obtain ⟨zx, hzx, hzr⟩ := run_zero (E := E) hz w
    obtain ⟨zs', h1, h2⟩ := fill_rel (place' := ((fields.map fun f => (f.offset, P.cellsOf f.type))[·]?)) hE (fun i q hq => by
      unfold fieldPlaces at hq
      split at hq
      · rename_i f hf
        simp only [sizeP, Option.map_map, Option.map_eq_some_iff] at hq
        obtain ⟨i', hi', rfl⟩ := hq
        simp [hf, Program.cellsOf, hi']
      · cases hq) parts.toList ps zv.cells cs zx.cells hp hcs hzr.cells
    refine .val H (x := .agg zs') ?_ ?_
    · simp only [execOp, Instr.build, Sem.run_bind, hzx, Result.andThen_ok, run_underlying ht, run_places fields hs, map_pairs, h1, Sem.run_pure]
    · have := VRel.agg _ _ h2
      simpa using this
  · cases hv

theorem sim_buildArr {len n : Nat} {el : TypeId} {parts : Array (Nat × Operand)} {ps : List (Nat × Nat × Src)} {zv : AV} (H : HRel R Old w0 E h w) (hE : EnvRel E e a.tmps) (hz : cZero P t = some zv)
    (ht : P.underlying t = some (.array len el)) (hn : sizeP P el = some n) (hp : cParts (fun i => some (i * n, n)) parts.toList = some ps) (hv : op_build zv.cells ps e h = some (v, h')) :
    Sim R Old w0 E h' id v ((execOp a.eval (mkO dst (.build t parts) ty pos after g)).run P w) := by
  unfold op_build at hv
  split at hv
  · rename_i cs hcs
    cases hv
    obtain ⟨zx, hzx, hzr⟩ := run_zero (E := E) hz w
    obtain ⟨zs', h1, h2⟩ := fill_rel (place' := fun i => some (i * n, n)) hE (fun i q hq => hq) parts.toList ps zv.cells cs zx.cells hp hcs hzr.cells
    refine .val H (x := .agg zs') ?_ ?_
    · simp only [execOp, Instr.build, Sem.run_bind, hzx, Result.andThen_ok, run_underlying ht, run_sizeOf hn, map_pairs, h1, Sem.run_pure]
    · have := VRel.agg _ _ h2
      simpa using this
  · cases hv

theorem cyc_toList (z : Array Value) (n : Nat) : ((Array.range (n * z.size)).map fun i => z[i % z.size]!).toList = (List.replicate n z.toList).flatten := by
  rw [Array.toList_map, Array.toList_range]
  induction n with
  | zero => simp
  | succ n ih =>
    rw [List.replicate_succ', List.flatten_append, ← ih, Nat.add_mul, Nat.one_mul, List.range_add, List.map_append]
    congr 1
    simp only [List.flatten_cons, List.flatten_nil, List.append_nil, List.map_map]
    apply List.ext_getElem
    · simp
    · intro i h1 h2
      simp at h1
      simp [Nat.mod_eq_of_lt h1, h1]

theorem VsRel.replicate {vs : List AV} {xs : List Value} (hr : VsRel E vs xs) : ∀ n, VsRel E (List.replicate n vs).flatten (List.replicate n xs).flatten
  | 0 => .nil
  | n + 1 => by simp only [List.replicate_succ, List.flatten_cons]; exact hr.append (hr.replicate n)

theorem new_slice {xs ys : List Value} {id len esz cap : Nat} {w1 : World} (hc : len ≤ cap) (hs : cap * esz ≤ (xs ++ ys).length) :
    VRel (E.add id (w1.heap.size, 0) (xs ++ ys).length (w1.heap.size + 1)) (.slice id 0 len esz) (.slice (some ⟨w1.heap.size, 0, none⟩) len cap) ∨ E.M ≠ w1.heap.size := by
  by_cases hM : E.M = w1.heap.size
  · left
    refine .slice _ _ _ _ _ _ (.inr rfl) (.inr ⟨by simp [Emb.at_, Emb.add], hc, by simp [Emb.add], ?_⟩)
    simp only [Emb.add, hM, if_true]
    simpa using hs
  · exact .inr hM

theorem sim_buildSlice {len n : Nat} {el : TypeId} {parts : Array (Nat × Operand)} {ps : List (Nat × Nat × Src)} {zv : AV} (H : HRel R Old w0 E h w) (hE : EnvRel E e a.tmps) (hid : ¬ E.here id) (hnx : id < h.next)
    (hz : cZero P el = some zv) (ht : P.underlying t = some (.slice el)) (hn : sizeP P el = some n) (hsm : len * n ≤ 16777216) (hzl : zv.cells.length = n)
    (hp : cParts (fun i => some (i * n, n)) parts.toList = some ps) (hv : op_buildSlice ((List.replicate len zv.cells).flatten) n len ps e h id = some (v, h')) :
    Sim R Old w0 E h' id v ((execOp a.eval (mkO dst (.buildSlice t len parts) ty pos after g)).run P w) := by
  unfold op_buildSlice at hv
  split at hv
  · rename_i cs hcs
    cases hv
    obtain ⟨zx, hzx, hzr⟩ := run_zero (E := E) hz w
    have hzn : zx.cells.size = n := by have := hzr.cells.length; simp at this; omega
    -- the zero cells, whatever their number
    have hzero : ∃ z : Array Value, ((len * n = 0 ∧ z = #[]) ∨ (¬ len * n = 0 ∧ z = zx.cells)) ∧
        VsRel E ((List.replicate len zv.cells).flatten) ((Array.range (len * n)).map (z[· % z.size]!)).toList := by
      by_cases hc : len * n = 0
      · refine ⟨#[], .inl ⟨hc, rfl⟩, ?_⟩
        rw [hc]
        have : (List.replicate len zv.cells).flatten = [] := by
          apply List.eq_nil_of_length_eq_zero
          simp [hzl]; rcases Nat.mul_eq_zero.1 hc with h | h <;> simp [h]
        rw [this]; simp; exact .nil
      · refine ⟨zx.cells, .inr ⟨hc, rfl⟩, ?_⟩
        rw [← hzn, cyc_toList]
        exact hzr.cells.replicate len
    obtain ⟨z, hz1, hz2⟩ := hzero
    obtain ⟨zs', h1, h2⟩ := fill_rel (place' := fun i => some (i * n, n)) hE (fun i q hq => hq) parts.toList ps _ cs _ hp hcs hz2
    have hn' := H.newCells (t := el) (m := .live []) (ys := []) hid hnx h2
    have e1 : (zs'.toList ++ []).toArray = zs' := by simp
    rw [e1] at hn'
    have hsize : zs'.toList.length = len * n := by
      have hfill : ∀ (parts : List (Nat × Nat × Src)) (cs cs' : List AV), fillL e cs parts = some cs' → cs'.length = cs.length := by
        intro parts
        induction parts with
        | nil => intro cs cs' h; simp [fillL] at h; rw [h]
        | cons p parts ih =>
          obtain ⟨o, s, q⟩ := p
          intro cs cs' h
          simp only [fillL] at h
          split at h
          · cases h
          · split at h
            · rename_i hc
              rw [ih _ _ h, spliceL_length (by omega)]
            · cases h
      rw [← h2.length, hfill _ _ _ hcs]; simp [hzl]
    refine .new hid (by have := H.M; omega) hn' (x := .slice (some ⟨w.heap.size, 0, none⟩) len len) ?_ ?_
    · have hnot : ¬ (len * n > 2 ^ 24) := by omega
      rcases hz1 with ⟨hc, rfl⟩ | ⟨hc, rfl⟩
      · simp only [execOp, Instr.buildSlice, Sem.run_bind, run_underlying ht, Result.andThen_ok, run_sizeOf hn, if_neg hnot, if_pos hc, map_pairs, h1, newRow, run_newObj, Sem.run_pure]
        rfl
      · simp only [execOp, Instr.buildSlice, Sem.run_bind, run_underlying ht, Result.andThen_ok, run_sizeOf hn, if_neg hnot, if_neg hc, hzx, map_pairs, h1, newRow, run_newObj, Sem.run_pure]
        rfl
    · rcases new_slice (E := E) (xs := zs'.toList) (ys := []) (id := id) (len := len) (esz := n) (cap := len) (w1 := w) (Nat.le_refl _) (by simp at hsize ⊢; omega) with h3 | h3
      · exact h3
      · exact absurd H.M h3
  · cases hv

theorem sim_makeMap {kt el : TypeId} (H : HRel R Old w0 E h w) (hid : ¬ E.here id) (hnx : id < h.next) (hv : op_makeMap h id = some (v, h')) (_ht : P.underlying t = some (.map kt el)) :
    Sim R Old w0 E h' id v ((execOp a.eval (mkO dst (.makeMap t none) ty pos after g)).run P w) := by
  unfold op_makeMap at hv
  cases hv
  have hM := H.M
  have hn := H.new (obj := .map #[] 0) (size := 0) (o := .map []) hid hnx ⟨#[], 0, by simp only [Emb.add]; exact World.alloc_heap_new w _, .nil, rfl, rfl⟩
  refine .new hid (by omega) hn (x := .map (some w.heap.size)) (by simp [execOp, Instr.makeMap]) ?_
  have key := VRel.map (E := E.add id (w.heap.size, 0) 0 (w.heap.size + 1)) id (Or.inr rfl)
  rwa [show ((E.add id (w.heap.size, 0) 0 (w.heap.size + 1)).ρ id).1 = w.heap.size by simp [Emb.add]] at key

theorem IntKind.i64_wrap_small {n : Int} (h1 : 0 ≤ n) (h2 : n ≤ 1073741824) : IntKind.i64.wrap n = n := by
  have hm : n % (2 ^ 64 : Int) = n := Int.emod_eq_of_lt h1 (by omega)
  simp [IntKind.wrap, IntKind.bits, IntKind.signed]
  omega

theorem sim_makeSlice {n : Nat} {el : TypeId} {i : TypeInfo} {zv : AV} (H : HRel R Old w0 E h w) (hE : EnvRel E e a.tmps) (hid : ¬ E.here id) (hnx : id < h.next)
    (hz : cZero P el = some zv) (ht : P.underlying t = some (.slice el)) (hi : P.info? el = some i) (hn : i.size = n) (hb : i.bytes ≤ 65536) (hzl : zv.cells.length = n) (hx : cSrc x = some sx) (hy : cSrc y = some sy)
    (hv : op_makeSlice zv.cells n sx sy e h id = some (v, h')) : Sim R Old w0 E h' id v ((execOp a.eval (mkO dst (.makeSlice t x y) ty pos after g)).run P w) := by
  unfold op_makeSlice at hv
  split at hv
  · rename_i k1 l k2 c h1 h2
    have r1 := src_rel hE hx h1
    have r2 := src_rel hE hy h2
    generalize hxv : a.eval x = xv at r1
    generalize hyv : a.eval y = yv at r2
    cases r1; cases r2
    split at hv
    · rename_i hc
      cases hv
      obtain ⟨hc1, hc2, hc3⟩ := hc
      unfold Ab.maxLen at hc3
      have hsn : sizeP P el = some n := by simp [sizeP, hi, hn]
      obtain ⟨zx, hzx, hzr⟩ := run_zero (E := E) hz w
      have hzn : zx.cells.size = n := by have := hzr.cells.length; simp at this; omega
      have w1 := IntKind.i64_wrap_small (n := l) hc1 (by omega)
      have w2 := IntKind.i64_wrap_small (n := c) (by omega) (by omega)
      have hzero : ∃ z : Array Value, ((c.toNat * n = 0 ∧ z = #[]) ∨ (¬ c.toNat * n = 0 ∧ z = zx.cells)) ∧
          VsRel E ((List.replicate c.toNat zv.cells).flatten) ((Array.range (c.toNat * n)).map (z[· % z.size]!)).toList := by
        by_cases hc : c.toNat * n = 0
        · refine ⟨#[], .inl ⟨hc, rfl⟩, ?_⟩
          rw [hc]
          have : (List.replicate c.toNat zv.cells).flatten = [] := by
            apply List.eq_nil_of_length_eq_zero
            simp [hzl]; rcases Nat.mul_eq_zero.1 hc with h | h <;> simp [h]
          rw [this]; simp; exact .nil
        · refine ⟨zx.cells, .inr ⟨hc, rfl⟩, ?_⟩
          rw [← hzn, cyc_toList]
          exact hzr.cells.replicate c.toNat
      obtain ⟨z, hz1, hz2⟩ := hzero
      have hn' := H.newCells (t := el) (m := .live []) (ys := []) hid hnx hz2
      have e1 : (((Array.range (c.toNat * n)).map (z[· % z.size]!)).toList ++ []).toArray = (Array.range (c.toNat * n)).map (z[· % z.size]!) := Array.ext' (by simp)
      rw [e1] at hn'
      have hsize : ((Array.range (c.toNat * n)).map (z[· % z.size]!)).toList.length = c.toNat * n := by simp
      refine .new hid (by have := H.M; omega) hn' (x := .slice (some ⟨w.heap.size, 0, none⟩) l.toNat c.toNat) ?_ ?_
      · have hbig : ¬ ((i.bytes : Int) * c > 2 ^ 48) := by
          have : (i.bytes : Int) * c ≤ 65536 * 1073741824 := Int.mul_le_mul (by omega) hc3 (by omega) (by omega)
          omega
        have hbig' : ¬ (281474976710656 < (i.bytes : Int) * c) := by omega
        have g1 : ¬ c < 0 := by omega
        have g2 : ¬ l < 0 := by omega
        have g3 : ¬ l > c := by omega
        have g4 : ¬ ((decide (c < 0) || decide ((i.bytes : Int) * c > 2 ^ 48)) = true ∨ l < 0 ∨ l > c) := by
          simp only [Bool.or_eq_true, decide_eq_true_eq]; omega
        rcases hz1 with ⟨hc, rfl⟩ | ⟨hc, rfl⟩
        · simp only [execOp, hxv, hyv, Instr.makeSlice, Sem.run_bind, run_underlying ht, Result.andThen_ok, asInt, asIntOf, Sem.run_pure, run_typeInfo hi, w1, w2]
          simp [g1, g2, g3, hbig', run_sizeOf hsn, hc, newRow]
        · simp only [execOp, hxv, hyv, Instr.makeSlice, Sem.run_bind, run_underlying ht, Result.andThen_ok, asInt, asIntOf, Sem.run_pure, run_typeInfo hi, w1, w2]
          simp [g1, g2, g3, hbig', run_sizeOf hsn, hc, hzx, newRow]
      · rcases new_slice (E := E) (xs := ((Array.range (c.toNat * n)).map (z[· % z.size]!)).toList) (ys := []) (id := id) (len := l.toNat) (esz := n) (cap := c.toNat) (w1 := w) (by omega) (by simp) with h3 | h3
        · exact h3
        · exact absurd H.M h3
    · cases hv
  · cases hv

end ops
end Go.Ab
