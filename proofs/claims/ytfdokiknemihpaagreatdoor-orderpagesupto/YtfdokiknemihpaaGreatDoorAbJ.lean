/- append, copy, conversions between strings and bytes, arrays as slices. -/
import Derived.Test.YtfdokiknemihpaaGreatDoorAbI
namespace Go.Ab
variable {P : Program} {R : CodeRel} {Old : Nat → Prop} {w0 w : World} {E : Emb} {h : Heap} {a : Act} {e : Env}

/-- The cells of a slice. -/
theorem load_slice {b off n z cap : Nat} {ad : Addr} {vs : List AV} (H : HRel R Old w0 E h w)
    (hr : (n = 0 ∧ cap = 0) ∨ (ad = E.at_ b off ∧ n ≤ cap ∧ (E.ρ b).1 < E.M ∧ (E.ρ b).2 + off + cap * z ≤ E.sz (E.ρ b).1)) (hg : getRow h b off (n * z) = some vs) :
    vs.length = n * z ∧ ∃ xs : List Value, (loadCells ad (n * z)).run P w = .ok xs.toArray w ∧ VsRel E vs xs := by
  rcases hr with ⟨rfl, _⟩ | ⟨rfl, _⟩
  · rw [Nat.zero_mul] at hg ⊢
    unfold getRow at hg
    split at hg
    · split at hg
      · cases hg; exact ⟨by simp, [], by simp [loadCells, loadCellsFrom], by simpa using VsRel.nil⟩
      · cases hg
    · cases hg
  · exact load_row H hg

theorem lenOf_rel {esz n : Nat} {u : AV} {x : Value} {new : List AV} (hs : srcCells h esz u = some (n, new)) (hr : VRel E u x) (w : World) : (Builtin.lenOf x).run P w = .ok n w := by
  cases hr <;> simp only [srcCells] at hs <;> first | (cases hs; done) | skip
  · rename_i s l hl
    split at hs <;> cases hs
    have : s.size = l.length := by rw [← hl, List.length_map, Array.length_toList]; rfl
    simp [Builtin.lenOf, this]
  · cases hs; simp [Builtin.lenOf]
  · split at hs
    · split at hs
      · cases hs
      · cases hs; simp [Builtin.lenOf]
    · cases hs

theorem byte_rel (s : List UInt8) : VsRel E ((s.map UInt8.toNat).map byteV) (s.map fun b => Value.int .u8 b.toNat) := by
  induction s with
  | nil => exact .nil
  | cons b s ih => exact .cons _ _ _ _ (.int _ _) ih

theorem firstCells_rel {esz n : Nat} {u : AV} {x : Value} {new : List AV} (H : HRel R Old w0 E h w) (hs : srcCells h esz u = some (n, new)) (hr : VRel E u x) :
    new.length = n * esz ∧ ∃ xs : List Value, (Builtin.firstCells esz n x).run P w = .ok xs.toArray w ∧ VsRel E new xs := by
  cases hr <;> simp only [srcCells] at hs <;> first | (cases hs; done) | skip
  · rename_i s l hl
    split at hs
    · rename_i he
      cases hs
      have hsz : s.size = l.length := by rw [← hl, List.length_map, Array.length_toList]; rfl
      refine ⟨by rw [he]; simp, s.data.toList.map fun b => Value.int .u8 b.toNat, ?_, ?_⟩
      · simp only [Builtin.firstCells, Sem.run_pure]
        congr 1
        have : (s.extract 0 l.length).data = s.data := by
          rw [ByteArray.data_extract, ← hsz]
          exact Array.extract_size
        rw [this]
        exact Array.ext' (by simp)
      · rw [← hl]; exact byte_rel _
    · cases hs
  · cases hs; exact ⟨by simp, [], by simp [Builtin.firstCells], .nil⟩
  · rename_i b off m z ad cap hb hr
    split at hs
    · rename_i hze
      subst hze
      split at hs
      · cases hs
      · rename_i r hrow
        cases hs
        obtain ⟨g1, xs, g2, g3⟩ := load_slice (P := P) H hr hrow
        exact ⟨g1, xs, by simp [Builtin.firstCells, g2], g3⟩
    · cases hs

theorem growBy_le (n : Nat) : ∀ (r c : Nat), c < n → Builtin.growBy n r c ≤ n + (n + 768) / 4
  | 0, c, hc => by simp [Builtin.growBy]; omega
  | r + 1, c, hc => by
    simp only [Builtin.growBy]
    rw [if_neg (by omega)]
    by_cases h2 : c + (c + 768) / 4 < n
    · exact growBy_le n r _ h2
    · cases r with
      | zero => simp only [Builtin.growBy]; omega
      | succ r => simp only [Builtin.growBy]; rw [if_pos (by omega)]; omega

theorem nextslicecap_le {need old : Nat} (h : old < need) : Builtin.nextslicecap need old ≤ 2 * need + 512 := by
  unfold Builtin.nextslicecap
  split
  · omega
  · split
    · omega
    · have := growBy_le need 4 old h; omega

theorem cap_ge (need old : Nat) (el : TypeId) (t : Nat) : need ≤ (Question.appendCap need old el).cut t := by simp [Question.cut]

/-- Growing: a new block, whatever its capacity. -/
theorem append_grow {id esz need sCap sLen : Nat} {el : TypeId} {i : TypeInfo} {base : Option Addr} {x : Value} {oldv newv : List AV} {xo xn : List Value} {ps : List Nat} {args : Array Value} {ats : Array TypeId} {t0 t1 : TypeId} {d1 : TypeDesc} {n : Nat}
    (H : HRel R Old w0 E h w) (hid : ¬ E.here id) (hnx : id < h.next) (hat0 : ats[0]? = some t0) (hat1 : ats[1]? = some t1) (ht0 : P.underlying t0 = some (.slice el)) (ht1 : P.underlying t1 = some d1) (hd1 : ∀ k, d1 ≠ .int k)
    (hi : P.info? el = some i) (hsz : i.size = esz) (hb : i.bytes ≤ 65536) (hz : i.zero.any (fun v => v.cells.size == i.size) = true) (ha0 : args[0]? = some (.slice base sLen sCap)) (ha1 : args[1]? = some x)
    (hlen : (Builtin.lenOf x).run P w = .ok n w) (hneed : need = sLen + n) (hlt : sCap < need) (hmax : need ≤ 1073741824)
    (hold : (Builtin.firstCells esz sLen (.slice base sLen sCap)).run P w.drew = .ok xo.toArray w.drew) (hnew : (Builtin.firstCells esz n x).run P w.drew = .ok xn.toArray w.drew)
    (ho : VsRel E oldv xo) (hn : VsRel E newv xn) (hol : oldv.length = sLen * esz) (hnl : newv.length = n * esz) (ty : TypeId) (hty : ∀ p ∈ ps, E.here p) :
    ∃ y w' E', (Builtin.append_ ats ty args).run P w = .ok y w' ∧ E.Le E' ∧ HRel R Old w0 E' (h.set id (some (.cells (.live ps) (oldv ++ newv)))) w' ∧ VRel E' (.slice id 0 need esz) y ∧ (∀ b, E'.here b → E.here b ∨ b = id) := by
  obtain ⟨zv, hzv, hzsz⟩ : ∃ zv, i.zero = some zv ∧ zv.cells.size = esz := by
    cases hzz : i.zero with
    | none => simp [hzz] at hz
    | some zv => exact ⟨zv, rfl, by simpa [hzz, hsz] using hz⟩
  have hcap := nextslicecap_le hlt
  have hbig : ¬ (Builtin.nextslicecap need sCap * i.bytes > 2 ^ 48) := by
    have : Builtin.nextslicecap need sCap * i.bytes ≤ (2 * 1073741824 + 512) * 65536 := Nat.mul_le_mul (by omega) hb
    omega
  obtain ⟨cap, hcapdef⟩ : ∃ c, c = (Question.appendCap need sCap el).cut (w.tape w.drawn (Question.appendCap need sCap el)) := ⟨_, rfl⟩
  have hcg : need ≤ cap := by rw [hcapdef]; exact cap_ge _ _ _ _
  let w1 : World := w.drew
  have H1 : HRel R Old w0 E h w1 := H.of_heap rfl
  let rest := Builtin.zeroCells zv.cells (cap - need)
  have hnc := H1.newCells (t := el) (m := .live ps) (ys := rest.toList) (id := id) hid hnx (ho.append hn) (fun qs us e p hp => by cases e; exact hty p hp)
  have earr : ((xo ++ xn) ++ rest.toList).toArray = xo.toArray ++ xn.toArray ++ rest := Array.ext' (by simp)
  rw [earr] at hnc
  refine ⟨.slice (some ⟨w.heap.size, 0, none⟩) need cap, w1.alloc (.cells (xo.toArray ++ xn.toArray ++ rest) el), _, ?_, Emb.le_add hid (by have := H.M; simp [w1]; omega), hnc, ?_, fun b hb => hb⟩
  · subst hneed
    have h5 : ¬ (sLen + n ≤ sCap) := by omega
    have h6 : ¬ (((sLen + n : Nat) : Int) > IntKind.i64.max) := by simp [IntKind.max, IntKind.signed, IntKind.bits]; omega
    have hm : (match d1 with | .int _ => true | _ => false) = false := by cases d1 <;> first | rfl | exact absurd rfl (hd1 _)
    have hcond : ¬ (((sLen + n : Nat) : Int) > IntKind.i64.max ∧ (False ∨ i.bytes = 0)) := fun hh => h6 hh.1
    have hch : (choose (.appendCap (sLen + n) sCap el)).run P w = .ok cap w.drew := by
      simp only [run_choose, Question.forced, Bool.false_eq_true, if_false, ← hcapdef]; rfl
    have g1 := hold
    have g2 := hnew
    unfold Builtin.append_
    simp only [hat0, ha0, ha1, Sem.run_bind, run_underlying ht0, Result.andThen_ok, run_sizeOf (show sizeP P el = some esz by simp [sizeP, hi, hsz]), hat1, run_underlying ht1, Sem.run_pure]
    simp only [Bool.false_eq_true, if_false, Sem.run_bind, hlen, Result.andThen_ok, Bool.not_false, if_true]
    rw [if_neg h5]
    simp only [Sem.run_bind, run_typeInfo hi, Result.andThen_ok]
    rw [if_neg hcond]
    simp only [Sem.run_bind, run_typeInfo hi, Result.andThen_ok]
    rw [if_neg hbig]
    simp only [Sem.run_bind, hch, Result.andThen_ok, run_typeInfo hi, run_askRoom, g1, g2, zeroValue, hzv, Sem.run_pure, newRow, run_newObj]
    rfl
  · have hsl := new_slice (E := E) (xs := xo ++ xn) (ys := rest.toList) (id := id) (len := need) (esz := esz) (cap := cap) (w1 := w1) hcg (by
      have e1 := ho.length
      have e2 := hn.length
      simp only [List.length_append, Array.length_toList, rest, Builtin.zeroCells, Array.size_map, Array.size_range, hzsz, ← e1, ← e2, hol, hnl]
      rw [← Nat.add_mul, ← hneed, ← Nat.add_mul]
      exact Nat.mul_le_mul_right _ (by omega))
    rcases hsl with h3 | h3
    · exact h3
    · exact absurd H1.M h3

/-- The run where there is room (or nothing to append). -/
theorem append_room {esz need sCap sLen n : Nat} {el : TypeId} {i : TypeInfo} {base : Option Addr} {x : Value} {xn : Array Value} {args : Array Value} {ats : Array TypeId} {t0 t1 : TypeId} {d1 : TypeDesc} {w' : World}
    (hat0 : ats[0]? = some t0) (hat1 : ats[1]? = some t1) (ht0 : P.underlying t0 = some (.slice el)) (ht1 : P.underlying t1 = some d1) (hd1 : ∀ k, d1 ≠ .int k)
    (hi : P.info? el = some i) (hsz : i.size = esz) (ha0 : args[0]? = some (.slice base sLen sCap)) (ha1 : args[1]? = some x) (hlen : (Builtin.lenOf x).run P w = .ok n w) (hneed : need = sLen + n) (hle : need ≤ sCap)
    (hnew : (Builtin.firstCells esz n x).run P w = .ok xn w) (hst : ∀ ad, base = some ad → (storeCells (ad.add (sLen * esz)) xn.toList).run P w = .ok () w') (hno : base = none → w' = w) (ty : TypeId) :
    (Builtin.append_ ats ty args).run P w = .ok (.slice base need sCap) w' := by
  subst hneed
  have hm : (match d1 with | .int _ => true | _ => false) = false := by cases d1 <;> first | rfl | exact absurd rfl (hd1 _)
  unfold Builtin.append_
  simp only [hat0, ha0, ha1, Sem.run_bind, run_underlying ht0, Result.andThen_ok, run_sizeOf (show sizeP P el = some esz by simp [sizeP, hi, hsz]), hat1, run_underlying ht1, Sem.run_pure]
  simp only [Bool.false_eq_true, if_false, Sem.run_bind, hlen, Result.andThen_ok, Bool.not_false, if_true]
  rw [if_pos hle]
  simp only [Sem.run_bind, hnew, Result.andThen_ok]
  cases base with
  | none => rw [hno rfl]; rfl
  | some ad => simp only [Sem.run_bind, hst ad rfl, Result.andThen_ok, Sem.run_pure]

theorem srcCells_zero {esz : Nat} {u : AV} {x : Value} {new : List AV} (hs : srcCells h esz u = some (0, new)) (hr : VRel E u x) (H : HRel R Old w0 E h w) : (Builtin.firstCells esz 0 x).run P w = .ok #[] w := by
  obtain ⟨h1, xs, h2, h3⟩ := firstCells_rel (P := P) H hs hr
  have : xs = [] := List.eq_nil_of_length_eq_zero (by rw [← h3.length, h1]; simp)
  subst this
  exact h2

section ops
variable {dst : Option Tmp} {ty : TypeId} {pos : String} {after : Array Edge} {g : Option (Nat × Bool)} {id : Nat} {h' : Heap} {v : AV} {t yt : TypeId} {x y z : Operand} {sx sy sz : Src}

theorem sim_growZ {esz : Nat} {el : TypeId} {i : TypeInfo} {ats : Array TypeId} {t0 t1 : TypeId} {kd : IntKind} {zv : AV} (H : HRel R Old w0 E h w) (hE : EnvRel E e a.tmps) (hid : ¬ E.here id) (hnx : id < h.next) (hx : cSrc x = some sx) (hy : cSrc y = some sy)
    (hat0 : ats[0]? = some t0) (hat1 : ats[1]? = some t1) (ht0 : P.underlying t0 = some (.slice el)) (ht1 : P.underlying t1 = some (.int kd)) (hzz : cZero P el = some zv)
    (hi : P.info? el = some i) (hsz : i.size = esz) (hb : i.bytes ≤ 65536) (hz : i.zero.any (fun v => v.cells.size == i.size) = true) (hzl : zv.cells.length = esz) (hpos : 0 < esz) (hv : op_growZ zv.cells esz sx sy e h id = some (v, h')) :
    Sim R Old w0 E h' id v ((execOp a.eval (mkO dst (.call ⟨.builtin .append, #[x, y], ats⟩) ty pos after g)).run P w) := by
  have hrun : ∀ y' w', (Builtin.append_ ats ty #[a.eval x, a.eval y]).run P w = .ok y' w' → (execOp a.eval (mkO dst (.call ⟨.builtin .append, #[x, y], ats⟩) ty pos after g)).run P w = .ok (.value y') w' := fun y' w' hh => by
    simp [execOp, resolve, invoke, builtin, hh]
  unfold op_growZ at hv
  split at hv
  · rename_i kk k h1 h2
    have r1 := src_rel hE hx h1
    have r2 := src_rel hE hy h2
    generalize hxv : a.eval x = xv at r1 hrun
    generalize hyv : a.eval y = yv at r2 hrun
    cases r1; cases r2
    obtain ⟨zx, hzx, hzr⟩ := run_zero (E := E) hzz w.drew
    have hzn : zx.cells.size = esz := by have := hzr.cells.length; simp at this; omega
    have hm : ((TypeDesc.int kd) matches .int _) = true := rfl
    split at hv
    · rename_i hk0
      cases hv
      subst hk0
      refine .val H (hrun _ _ ?_) .nilslice
      unfold Builtin.append_
      simp [hat0, hat1, run_underlying ht0, run_underlying ht1, run_sizeOf (show sizeP P el = some esz by simp [sizeP, hi, hsz]), asInt, asIntOf, run_typeInfo hi, IntKind.i64_wrap_small (n := 0) (by omega) (by omega)]
    · rename_i hk0
      split at hv
      · rename_i hk
        cases hv
        obtain ⟨hk1, hk2⟩ := hk
        unfold Ab.maxLen at hk2
        obtain ⟨n, rfl⟩ : ∃ n : Nat, k = n := ⟨k.toNat, by omega⟩
        have hwrap := IntKind.i64_wrap_small (n := (n : Int)) (by omega) (by omega)
        obtain ⟨zv', hzv, hzsz⟩ : ∃ zv, i.zero = some zv ∧ zv.cells.size = esz := by
          cases hzz : i.zero with
          | none => simp [hzz] at hz
          | some zv => exact ⟨zv, rfl, by simpa [hzz, hsz] using hz⟩
        have hzeq : (zeroValue el).run P w.drew = .ok zv' w.drew := by simp [zeroValue, run_typeInfo hi, hzv]
        have : zx = zv' := by rw [hzx] at hzeq; cases hzeq; rfl
        subst this
        obtain ⟨cap, hcapdef⟩ : ∃ c, c = (Question.appendCap n 0 el).cut (w.tape w.drawn (Question.appendCap n 0 el)) := ⟨_, rfl⟩
        have hcg : n ≤ cap := by rw [hcapdef]; exact cap_ge _ _ _ _
        let w1 : World := w.drew
        have H1 : HRel R Old w0 E h w1 := H.of_heap rfl
        let rest := Builtin.zeroCells zx.cells (cap - n)
        have hrel : VsRel E ((List.replicate n zv.cells).flatten) (Builtin.zeroCells zx.cells n).toList := by
          unfold Builtin.zeroCells
          rw [hzn, ← hzn, cyc_toList]
          exact hzr.cells.replicate n
        have hnc := H1.newCells (t := el) (m := .live []) (ys := rest.toList) (id := id) hid hnx hrel
        have earr : ((Builtin.zeroCells zx.cells n).toList ++ rest.toList).toArray = #[] ++ Builtin.zeroCells zx.cells n ++ rest := Array.ext' (by simp)
        rw [earr] at hnc
        have hbig : ¬ (Builtin.nextslicecap n 0 * i.bytes > 2 ^ 48) := by
          have h0 : Builtin.nextslicecap n 0 = n := by unfold Builtin.nextslicecap; rw [if_pos (by omega)]
          rw [h0]
          have : n * i.bytes ≤ 1073741824 * 65536 := Nat.mul_le_mul (by omega) hb
          omega
        have hbig2 : ¬ ((n : Int) * i.bytes > 2 ^ 48) := by
          have : (n : Int) * i.bytes ≤ 1073741824 * 65536 := Int.mul_le_mul (by omega) (by omega) (by omega) (by omega)
          omega
        have hch : (choose (.appendCap n 0 el)).run P w = .ok cap w.drew := by
          simp only [run_choose, Question.forced, Bool.false_eq_true, if_false, ← hcapdef]; rfl
        refine ⟨_, .slice (some ⟨w.heap.size, 0, none⟩) n cap, w1.alloc (.cells (#[] ++ Builtin.zeroCells zx.cells n ++ rest) el), _, hrun _ _ ?_, .inl rfl, Emb.le_add hid (by have := H.M; simp [w1]; omega), hnc, ?_, fun b hb => hb⟩
        · have h5 : ¬ (0 + n ≤ 0) := by omega
          have h6 : ¬ (((0 + n : Nat) : Int) > IntKind.i64.max) := by simp [IntKind.max, IntKind.signed, IntKind.bits]; omega
          have h7 : ¬ ((n : Int) < 0) := by omega
          have h8 : ¬ (n * esz = 0) := by rw [Nat.mul_eq_zero]; omega
          unfold Builtin.append_
          simp only [List.getElem?_toArray, List.getElem?_cons_zero, List.getElem?_cons_succ, hat0, Sem.run_bind, run_underlying ht0, Result.andThen_ok, run_sizeOf (show sizeP P el = some esz by simp [sizeP, hi, hsz]), hat1, run_underlying ht1, Sem.run_pure, if_true, asInt, asIntOf, hwrap]
          rw [if_neg h7]
          simp only [Sem.run_bind, run_typeInfo hi, Result.andThen_ok]
          rw [if_neg hbig2]
          simp only [Sem.run_bind, Sem.run_pure, Result.andThen_ok, Int.toNat_natCast]
          rw [if_neg h5]
          simp only [Sem.run_bind, run_typeInfo hi, Result.andThen_ok]
          rw [if_neg (fun hh => h6 hh.1)]
          simp only [Nat.zero_add, Sem.run_bind, run_typeInfo hi, Result.andThen_ok]
          rw [if_neg hbig]
          simp only [Sem.run_bind, hch, Result.andThen_ok, run_typeInfo hi, run_askRoom, Builtin.firstCells, Sem.run_pure, Bool.not_true, Bool.false_eq_true, if_false]
          rw [if_neg h8]
          simp only [Sem.run_bind, hzeq, Result.andThen_ok, Sem.run_pure, newRow, run_newObj]
          rfl
        · have hsl := new_slice (E := E) (xs := (Builtin.zeroCells zx.cells n).toList) (ys := rest.toList) (id := id) (len := n) (esz := esz) (cap := cap) (w1 := w1) hcg (by
            simp only [Array.length_toList, rest, Builtin.zeroCells, Array.size_map, Array.size_range, hzn, List.length_append]
            rw [← Nat.add_mul]
            exact Nat.mul_le_mul_right _ (by omega))
          rcases hsl with h3 | h3
          · exact h3
          · exact absurd H1.M h3
      · cases hv
  · cases hv

theorem sim_append {esz : Nat} {el : TypeId} {i : TypeInfo} {ats : Array TypeId} {t0 t1 : TypeId} {d1 : TypeDesc} (H : HRel R Old w0 E h w) (hE : EnvRel E e a.tmps) (hid : ¬ E.here id) (hnx : id < h.next) (hx : cSrc x = some sx) (hy : cSrc y = some sy)
    (hat0 : ats[0]? = some t0) (hat1 : ats[1]? = some t1) (ht0 : P.underlying t0 = some (.slice el)) (ht1 : P.underlying t1 = some d1) (hd1 : ∀ k, d1 ≠ .int k)
    (hi : P.info? el = some i) (hsz : i.size = esz) (hb : i.bytes ≤ 65536) (hz : i.zero.any (fun v => v.cells.size == i.size) = true) (hv : op_append esz sx sy e h id = some (v, h')) :
    Sim R Old w0 E h' id v ((execOp a.eval (mkO dst (.call ⟨.builtin .append, #[x, y], ats⟩) ty pos after g)).run P w) := by
  have hrun : ∀ y' w', (Builtin.append_ ats ty #[a.eval x, a.eval y]).run P w = .ok y' w' → (execOp a.eval (mkO dst (.call ⟨.builtin .append, #[x, y], ats⟩) ty pos after g)).run P w = .ok (.value y') w' := fun y' w' hh => by
    simp [execOp, resolve, invoke, builtin, hh]
  unfold op_append at hv
  split at hv
  · rename_i u1 u2 h1 h2
    have r1 := src_rel hE hx h1
    have r2 := src_rel hE hy h2
    generalize hxv : a.eval x = xv at r1 hrun
    generalize hyv : a.eval y = yv at r2 hrun
    unfold appendA at hv
    split at hv
    · -- an empty slice that is not nil
      rename_i hz0
      have hz0' : ∃ b off ad cap, u2 = .slice b off 0 esz ∧ yv = .slice (some ad) 0 cap := by
        cases r2 <;> simp only [zeroSl] at hz0 <;> first | (cases hz0; done) | skip
        simp only [Bool.and_eq_true, Nat.beq_eq] at hz0
        obtain ⟨rfl, rfl⟩ := hz0
        exact ⟨_, _, _, _, rfl, rfl⟩
      obtain ⟨b0, off0, ad0, cap0, rfl, rfl⟩ := hz0'
      have hlen : (Builtin.lenOf (.slice (some ad0) 0 cap0)).run P w = .ok 0 w := rfl
      have hf : (Builtin.firstCells esz 0 (.slice (some ad0) 0 cap0)).run P w = .ok #[] w := by simp [Builtin.firstCells, loadCells, loadCellsFrom]
      cases r1 <;> simp only at hv <;> first | (cases hv; done) | skip
      · cases hv
        exact .val H (hrun _ _ (append_room (P := P) (w' := w) hat0 hat1 ht0 ht1 hd1 hi hsz (args := #[.slice none 0 0, .slice (some ad0) 0 cap0]) rfl rfl hlen rfl (Nat.le_refl _) hf (fun _ hh => by cases hh) (fun _ => rfl) ty)) .nilslice
      · rename_i b off len z ad cap hb' hr
        split at hv
        · cases hv
          have hle : len + 0 ≤ cap := by rcases hr with hr | hr <;> omega
          exact .val H (hrun _ _ (append_room (P := P) (w' := w) hat0 hat1 ht0 ht1 hd1 hi hsz (args := #[.slice (some ad) len cap, .slice (some ad0) 0 cap0]) rfl rfl hlen rfl hle hf (fun _ _ => by simp [storeCells]) (fun hh => by cases hh) ty)) (.slice _ _ _ _ _ _ hb' hr)
        · cases hv
    split at hv
    · cases hv
    · rename_i n new hsrc
      have hlen := lenOf_rel (P := P) hsrc r2 w
      split at hv
      · -- nothing to append
        rename_i hn0
        subst hn0
        have hf := srcCells_zero (P := P) hsrc r2 H
        cases r1 <;> simp only at hv <;> first | (cases hv; done) | skip
        · cases hv
          exact .val H (hrun _ _ (append_room (P := P) (w' := w) hat0 hat1 ht0 ht1 hd1 hi hsz (args := #[.slice none 0 0, yv]) rfl rfl hlen rfl (Nat.le_refl _) hf (fun _ hh => by cases hh) (fun _ => rfl) ty)) .nilslice
        · rename_i b off len z ad cap hb' hr
          split at hv
          · cases hv
            have hle : len + 0 ≤ cap := by rcases hr with hr | hr <;> omega
            exact .val H (hrun _ _ (append_room (P := P) (w' := w) hat0 hat1 ht0 ht1 hd1 hi hsz (args := #[.slice (some ad) len cap, yv]) rfl rfl hlen rfl hle hf (fun _ _ => by simp [storeCells]) (fun hh => by cases hh) ty)) (.slice _ _ _ _ _ _ hb' hr)
          · cases hv
      · rename_i hn0
        cases r1 <;> simp only at hv <;> first | (cases hv; done) | skip
        · -- onto a nil slice
          split at hv
          · rename_i hmax
            cases hv
            obtain ⟨f1, xs, f2, f3⟩ := firstCells_rel (P := P) (w := w.drew) (H.of_heap rfl) hsrc r2
            obtain ⟨y', w', E', e1, e2, e3, e4, e5⟩ := append_grow (P := P) (id := id) (need := n) (sCap := 0) (sLen := 0) (base := none) (ps := []) (args := #[.slice none 0 0, yv]) (oldv := []) (xo := []) H hid hnx hat0 hat1 ht0 ht1 hd1 hi hsz hb hz rfl rfl hlen (by omega) (by omega)
              (by unfold Ab.maxLen at hmax; exact hmax) (by simp [Builtin.firstCells]) f2 .nil f3 (by simp) f1 ty (fun p hp => by cases hp)
            exact ⟨_, y', w', E', hrun _ _ e1, .inl rfl, e2, e3, e4, e5⟩
          · cases hv
        · -- onto a slice of a live block
          rename_i b off len z ad cap hb' hr
          split at hv
          · rename_i hcz
            obtain ⟨hze, hmax⟩ := hcz
            subst hze
            unfold Ab.maxLen at hmax
            split at hv
            · rename_i ps vs hbo
              obtain ⟨hbe, hbm, c, ce, fz, a1, a2, a3, a4, a5⟩ := H.objs _ _ hbo
              have hno : ¬ Old (E.ρ b).1 := H.away _ _ hbo rfl
              have hidb : id ≠ b := fun e => hid (e ▸ hbe)
              -- what is left of the heap, and what the new row holds
              have main : ∀ (h1 : Heap) (row : List AV) (ps' : List Nat), ¬ new.all AV.one = false → off + len * z ≤ vs.length → row = (vs.drop off).take (len * z) → h1.next = h.next → HRel R Old w0 E h1 w → (∀ p ∈ ps', E.here p) →
                  (∀ b' o', h1.get b' = some o' → (E.ρ b').1 = (E.ρ b).1 → ∃ us, o' = .cells .stale us ∧ b' ∈ ps' ∧ (E.ρ b').2 + us.length ≤ (E.ρ b).2 + off + len * z) →
                  Sim R Old w0 E (h1.set id (some (.cells (.live ps') (row ++ new)))) id (.slice id 0 (len + n) z) ((execOp a.eval (mkO dst (.call ⟨.builtin .append, #[x, y], ats⟩) ty pos after g)).run P w) := by
                intro h1 row ps' hone hle hrow hnext H1 hty hall
                have hgr : getRow h b off (len * z) = some row := by unfold getRow; rw [hbo]; simp [hle, hrow]
                by_cases hroom : len + n ≤ cap
                · -- in place
                  rcases hr with hr | ⟨rfl, r2', r3, r4⟩
                  · omega
                  · obtain ⟨f1, xs, f2, f3⟩ := firstCells_rel (P := P) H hsrc r2
                    have hmul : len * z + n * z ≤ cap * z := by rw [← Nat.add_mul]; exact Nat.mul_le_mul_right _ hroom
                    have h1s : ∀ q ∈ xs, q.oneCell' = true := fun q hq => by
                      obtain ⟨k, hk, rfl⟩ := List.mem_iff_getElem.1 hq
                      have hk' : k < new.length := by rw [f3.length]; exact hk
                      obtain ⟨q', hq', hv'⟩ := f3.get k new[k] (List.getElem?_eq_getElem hk')
                      rw [List.getElem?_eq_getElem hk] at hq'
                      cases hq'
                      rw [← hv'.one]
                      exact List.all_eq_true.1 (by simpa using hone) _ (List.getElem_mem hk')
                    obtain ⟨c', w', s1, s2, s3, s4, s5, s6, s7⟩ := run_storeCells_any (P := P) (E.ρ b).1 ce fz xs 0 ((E.ρ b).2 + (off + len * z)) c w a1 (by rw [← f3.length, f1]; omega) (a5 ps rfl) h1s
                    have hst : (storeCells ((E.at_ b off).add (len * z)) xs.toArray.toList).run P w = .ok () w' := by rw [at_add]; exact s1
                    have hap := append_room (P := P) (w' := w') hat0 hat1 ht0 ht1 hd1 hi hsz (args := #[.slice (some (E.at_ b off)) len cap, yv]) rfl rfl hlen rfl hroom f2 (fun ad' hh => by cases hh; exact hst) (fun hh => by cases hh) ty
                    have hrl : row.length = len * z := by rw [hrow]; simp; omega
                    have hx := f3.length
                    have Hn := H1.extend (id := id) (r := (E.ρ b).1) (sh := (E.ρ b).2 + off) (ps := ps') (vs := row ++ new) (c' := c') (w' := w') (k0 := (E.ρ b).2 + off + len * z) hid (by rw [hnext]; exact hnx) hbm hno
                      (fun b' o' hg he => by
                        obtain ⟨us, e1, e2, e3⟩ := hall b' o' hg he
                        exact ⟨us, e1, e2, e3, by rw [List.length_append, hrl]; omega⟩) s2 s4 a1 s3 s5
                      (fun i hi => by rw [s6, if_neg (by omega)]) a2 (by rw [List.length_append, hrl, f1]; omega)
                      (fun i v hi => by
                        by_cases hil : i < row.length
                        · rw [List.getElem?_append_left hil, hrow, List.getElem?_take, if_pos (by omega), List.getElem?_drop] at hi
                          obtain ⟨q, hq, hv'⟩ := a4 _ _ hi
                          refine ⟨q, ?_, hv'⟩
                          rw [s6, if_neg (by omega), ← hq]; congr 1; omega
                        · rw [List.getElem?_append_right (by omega)] at hi
                          obtain ⟨q, hq, hv'⟩ := f3.get _ _ hi
                          have hlt : i - row.length < xs.length := (List.getElem?_eq_some_iff.1 hq).1
                          refine ⟨q, ?_, hv'⟩
                          rw [s6, if_pos (by omega), ← hq]; congr 1; omega) (a5 ps rfl) hty s7
                    refine .new hid (Nat.le_refl _) Hn (hrun _ _ hap) ?_
                    have := VRel.slice (E := E.add id ((E.ρ b).1, (E.ρ b).2 + off) 0 E.M) id 0 (len + n) z (E.at_ b off) cap (Or.inr rfl) (.inr ⟨by simp [Emb.at_, Emb.add], hroom, by simpa [Emb.add] using hbm, by
                      simp only [Emb.add, if_true]
                      rw [if_neg (by omega)]
                      omega⟩)
                    exact this
                · -- a new block
                  obtain ⟨f1, xs, f2, f3⟩ := firstCells_rel (P := P) (w := w.drew) (H.of_heap rfl) hsrc r2
                  have hcc : len ≤ cap := by rcases hr with hr | hr <;> omega
                  obtain ⟨g1, xo, g2, g3⟩ := load_slice (P := P) (w := w.drew) (H.of_heap rfl) hr hgr
                  obtain ⟨y', w', E', e1, e2, e3, e4, e5⟩ := append_grow (P := P) (id := id) (need := len + n) (sCap := cap) (sLen := len) (base := some ad) (ps := ps') (args := #[.slice (some ad) len cap, yv]) H1 hid (by rw [hnext]; exact hnx) hat0 hat1 ht0 ht1 hd1 hi hsz hb hz rfl rfl hlen rfl (by omega)
                    hmax (by simp only [Builtin.firstCells]; exact g2) f2 g3 f3 g1 f1 ty hty
                  exact ⟨_, y', w', E', hrun _ _ e1, .inl rfl, e2, e3, e4, e5⟩
              split at hv
              · cases hv
              rename_i hone
              split at hv
              · rename_i hend
                cases hv
                have hd : (vs.drop off).take (len * z) = vs.drop off := List.take_of_length_le (by simp; omega)
                refine main _ _ (b :: ps) hone (by omega) hd.symm rfl ?_ (fun p hp => (List.mem_cons.1 hp).elim (fun hh => hh ▸ hbe) (fun hh => H.tidy _ _ hbo ps vs rfl p hh)) ?_
                · refine H.less rfl fun b' o' hg => ?_
                  rw [Heap.get_set] at hg
                  split at hg
                  · rename_i e; subst e; cases hg
                    refine .inr ⟨ps, vs, hbo, rfl, fun b2 o2 hne hg2 he => ?_⟩
                    rw [Heap.get_set, if_neg (Ne.symm hne)] at hg2
                    have hs := (H.sep b b2 _ o2 (Ne.symm hne) hbo hg2 he.symm).1
                    cases o2 with
                    | cells m us => cases m with
                      | live _ => exact hs.elim
                      | stale => rfl
                      | ro => exact hs.elim
                    | _ => exact hs.elim
                  · exact .inl hg
                · intro b' o' hg he
                  rw [Heap.get_set] at hg
                  split at hg
                  · rename_i e; subst e; cases hg
                    exact ⟨vs, rfl, by simp, by omega⟩
                  · rename_i hne
                    have hs := (H.sep b b' _ o' hne hbo hg he.symm).1
                    cases o' with
                    | cells m us => cases m with
                      | live _ => exact hs.elim
                      | stale => exact ⟨us, rfl, by simp [show b' ∈ ps from hs], by have := H.fit _ _ _ _ _ hbo hg he; omega⟩
                      | ro => exact hs.elim
                    | _ => exact hs.elim
              · split at hv
                · rename_i hle
                  cases hv
                  refine main _ _ [] hone hle rfl (by simp) ?_ (fun p hp => by cases hp) ?_
                  · refine H.less (by simp) fun b' o' hg => ?_
                    rw [Heap.get_set] at hg
                    split at hg
                    · cases hg
                    · rw [Heap.get_eraseAll] at hg
                      split at hg
                      · cases hg
                      · exact .inl hg
                  · intro b' o' hg he
                    rw [Heap.get_set] at hg
                    split at hg
                    · cases hg
                    · rename_i hne
                      rw [Heap.get_eraseAll] at hg
                      split at hg
                      · cases hg
                      · rename_i hnp
                        have hs := (H.sep b b' _ o' hne hbo hg he.symm).1
                        cases o' with
                        | cells m us => cases m with
                          | live _ => exact hs.elim
                          | stale => exact absurd hs hnp
                          | ro => exact hs.elim
                        | _ => exact hs.elim
                · cases hv
            · cases hv
          · cases hv
  · cases hv

end ops
end Go.Ab
