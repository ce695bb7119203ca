/- Ranges over maps, and functions of the library that have no text. -/
import Derived.Test.YtfdokiknemihpaaGreatDoorAbL
import Derived.Lib.Bytealg
namespace Go.Ab
variable {P : Program} {R : CodeRel} {Old : Nat → Prop} {w0 w : World} {E : Emb} {h : Heap} {a : Act} {e : Env}

theorem EntsRel.get : ∀ {es : List (AV × AV)} {ms : List MapEntry}, EntsRel E es ms → ∀ (i : Nat) (k v : AV), es[i]? = some (k, v) → ∃ m, ms[i]? = some m ∧ VRel E k m.key ∧ VRel E v m.val
  | _, _, .nil, i, k, v, h => by simp at h
  | _, _, .cons k v m es ms hk hv h, 0, k', v', hh => by simp at hh; obtain ⟨rfl, rfl⟩ := hh; exact ⟨m, rfl, hk, hv⟩
  | _, _, .cons k v m es ms hk hv h, i + 1, k', v', hh => by simpa using h.get i k' v' (by simpa using hh)

section ops
variable {dst : Option Tmp} {ty : TypeId} {pos : String} {after : Array Edge} {g : Option (Nat × Bool)} {id : Nat} {h' : Heap} {v : AV} {t yt : TypeId} {x y z : Operand} {sx sy sz : Src}

/-! ### Ranges over maps -/
theorem sim_rangeM {kt el : TypeId} (H : HRel R Old w0 E h w) (hE : EnvRel E e a.tmps) (hid : ¬ E.here id) (hnx : id < h.next) (hx : cSrc x = some sx) (ht : P.underlying t = some (.map kt el)) (hv : op_rangeM sx e h id = some (v, h')) :
    Sim R Old w0 E h' id v ((execOp a.eval (mkO dst (.range t x) ty pos after g)).run P w) := by
  unfold op_rangeM at hv
  split at hv
  · rename_i r hu
    split at hv
    · rename_i es hm
      cases hv
      have r1 := src_rel hE hx hu
      generalize hxv : a.eval x = xv at r1
      cases r1 with
      | map _ hr =>
        obtain ⟨_, hrm, ms, clock, a1, a2, rfl, a4⟩ := H.objs _ _ hm
        have hM := H.M
        have hne : r ≠ id := fun hh => hid (hh ▸ hr)
        have Hn := H.new (size := 0) (obj := .mapIter (some (E.ρ r).1) es.length #[] es.length) (o := .mapIter r es.length []) hid hnx
          ⟨by simp [Emb.add], .inl hr, #[], by simp only [Emb.add, if_neg hne]; simp only [if_true]; exact World.alloc_heap_new w _, rfl⟩
        refine .new hid (by omega) Hn (x := .pointer (some ⟨w.heap.size, 0, none⟩)) ?_ ?_
        · simp [execOp, hxv, Instr.range, run_underlying ht, getObj, Sem.run, a1]
        · have key := VRel.ptr (E := E.add id (w.heap.size, 0) 0 (w.heap.size + 1)) id 0 (Or.inr rfl)
          rwa [show (E.add id (w.heap.size, 0) 0 (w.heap.size + 1)).at_ id 0 = ⟨w.heap.size, 0, none⟩ by simp [Emb.at_, Emb.add]] at key
    · cases hv
  · cases hv

theorem find_born' {l : List MapEntry} {n i : Nat} (hb : l.map MapEntry.born = List.range n) {m : MapEntry} (hm : l[i]? = some m) : m.born = i ∧ l.find? (fun x => x.born == i) = some m := by
  have hi : i < l.length := (List.getElem?_eq_some_iff.1 hm).1
  have hlen : l.length = n := by have := congrArg List.length hb; simpa using this
  have hbi : ∀ (j : Nat) (x : MapEntry), l[j]? = some x → x.born = j := fun j x hx => by
    have h1 : (l.map MapEntry.born)[j]? = some x.born := by rw [List.getElem?_map, hx]; rfl
    have hj : j < l.length := (List.getElem?_eq_some_iff.1 hx).1
    rw [hb, List.getElem?_range (by omega)] at h1
    exact (Option.some.inj h1).symm
  refine ⟨hbi i m hm, ?_⟩
  rw [List.find?_eq_some_iff_append]
  refine ⟨by simp [hbi i m hm], l.take i, l.drop (i + 1), ?_, fun x hx => ?_⟩
  · rw [show m = l[i] from (Option.some.inj ((List.getElem?_eq_getElem hi).symm.trans hm)).symm]
    exact (List.take_append_drop i l).symm.trans (by rw [List.drop_eq_getElem_cons hi])
  · obtain ⟨j, hj, rfl⟩ := List.getElem_of_mem hx
    simp only [List.length_take] at hj
    have : (l.take i)[j] = l[j] := by simp
    rw [this]
    have := hbi j l[j] (List.getElem?_eq_getElem (by omega))
    simp [this]; omega

theorem sim_entry (H : HRel R Old w0 E h w) (hE : EnvRel E e a.tmps) (hx : cSrc x = some sx) (hv : op_entry sx e h = some (v, h')) :
    Sim R Old w0 E h' id v ((execOp a.eval (mkO dst (.entry x) ty pos after g)).run P w) := by
  unfold op_entry at hv
  split at hv
  · rename_i r hu
    have r1 := src_rel hE hx hu
    generalize hxv : a.eval x = xv at r1
    split at hv
    · rename_i m n i seen hm
      split at hv
      · rename_i es hes
        split at hv
        · rename_i hn
          split at hv
          · rename_i k y hi
            cases hv
            obtain ⟨_, _, hz, _, seen', b1, b2⟩ := H.objs _ _ hm
            obtain ⟨_, _, ms, clock, a1, a2, rfl, a4⟩ := H.objs _ _ hes
            subst hn
            obtain ⟨me, c1, c2, c3⟩ := a2.get i k y hi
            obtain ⟨f1, f2⟩ := find_born' a4 c1
            have hback : seen'.back? = some i := by
              rw [Array.back?_eq_getElem?, ← Array.getElem?_toList, b2]
              have : seen'.size = (i :: seen).reverse.length := by rw [← b2]; simp
              rw [this]; simp
            have hfind : ms.find? (fun x => x.born == i) = some me := by rw [← Array.find?_toList]; exact f2
            cases r1 with
            | ptr _ _ hb =>
              refine .val H (x := .tuple #[me.key, me.val]) ?_ (.tuple _ [_, _] (.cons _ _ _ _ c2 (.cons _ _ _ _ c3 .nil)))
              have hat : E.at_ r 0 = ⟨(E.ρ r).1, 0, none⟩ := by simp [Emb.at_, hz]
              simp [execOp, hxv, hat, Instr.entry, getObj, Sem.run, b1, a1, hback, hfind, Result.andThen]
          · cases hv
        · cases hv
      · cases hv
    · cases hv
  · cases hv

/-- The step of a range over a map, as the model carries it out. -/
theorem next_step {r m n : Nat} {seen : List Nat} {es : List (AV × AV)} {xv : Value} (H : HRel R Old w0 E h w) (hx : VRel E (.ptr r 0) xv) (hm : h.get r = some (.mapIter m n seen)) (hes : h.get m = some (.map es)) (hn : es.length = n) (ty : TypeId) :
    (∃ i k y x1 x2 w', es[i]? = some (k, y) ∧ i ∉ seen ∧ (Instr.next xv false ty).run P w = .ok (.tuple #[.bool true, x1, x2]) w' ∧ VRel E k x1 ∧ VRel E y x2 ∧ HRel R Old w0 E (h.set r (some (.mapIter m n (i :: seen)))) w') ∨
      ((∀ i, i < n → i ∈ seen) ∧ (Instr.next xv false ty).run P w = .ok (.tuple #[.bool false]) w) := by
  subst hn
  obtain ⟨_, hrm, hz, hme, seen', b1, b2⟩ := H.objs _ _ hm
  obtain ⟨_, _, ms, clock, a1, a2, rfl, a4⟩ := H.objs _ _ hes
  have hat : xv = .pointer (some ⟨(E.ρ r).1, 0, none⟩) := by
    cases hx
    simp [Emb.at_, hz]
  subst hat
  have hM := H.M
  have hlt : (E.ρ r).1 < w.heap.size := by omega
  have hmlen : ms.toList.length = es.length := a2.length.symm
  have hborn : ∀ (j : Nat) (x : MapEntry), ms.toList[j]? = some x → x.born = j := fun j x hj => (find_born' a4 hj).1
  have hlts : ∀ x ∈ ms.toList, x.born < es.length := fun x hx' => by
    obtain ⟨j, hj, rfl⟩ := List.getElem_of_mem hx'
    rw [hborn j _ (List.getElem?_eq_getElem hj)]; omega
  have htest : (!seen'.isEmpty && !ms.isEmpty && ms.all (fun x => decide (x.born ≥ es.length))) = false := by
    cases he : ms.isEmpty with
    | true => simp
    | false =>
      have h0 : 0 < ms.size := by
        rcases Nat.eq_zero_or_pos ms.size with h0 | h0
        · simp [Array.isEmpty, h0] at he
        · exact h0
      have : ms.all (fun x => decide (x.born ≥ es.length)) = false := by
        rw [Bool.eq_false_iff]
        intro hh
        rw [Array.all_eq_true_iff_forall_mem] at hh
        have h1 := hh ms[0] (Array.getElem_mem h0)
        have h2 := hlts ms[0] (by simp)
        simp at h1; omega
      simp [this]
  have hcont : ∀ j, seen'.contains j = decide (j ∈ seen) := fun j => by
    rw [← Array.contains_toList, b2]
    simp [List.contains_eq_mem]
  obtain ⟨left, hleft⟩ : ∃ l, l = ms.filter fun e => !seen'.contains e.born := ⟨_, rfl⟩
  have hmem : ∀ x ∈ left.toList, x ∈ ms.toList ∧ x.born ∉ seen := fun x hx' => by
    rw [hleft] at hx'
    simp only [Array.toList_filter, List.mem_filter, hcont, Bool.not_eq_true', decide_eq_false_iff_not] at hx'
    exact hx'
  have hold : left.filter (fun x => decide (x.born < es.length)) = left := Array.filter_eq_self.2 (fun x hx' => by simpa using hlts x (hmem x (by simpa using hx')).1)
  have hnew : left.filter (fun x => decide (x.born ≥ es.length)) = #[] := by
    rw [Array.filter_eq_empty_iff]
    intro x hx'
    have := hlts x (hmem x (by simpa using hx')).1
    simp; omega
  have hobj : w.heap[(E.ρ r).1]? = some (.mapIter (some (E.ρ m).1) es.length seen' es.length) := b1
  simp only [Instr.next, getObj, Sem.run_bind, Sem.run, hobj, a1, Result.andThen, htest, Bool.false_eq_true, if_false, ← hleft, hold, hnew, Array.append_empty]
  by_cases h0 : left.size = 0
  · right
    have : left = #[] := Array.eq_empty_of_size_eq_zero h0
    subst this
    refine ⟨fun i hi => ?_, ?_⟩
    · have hi' : i < ms.toList.length := by omega
      have hb := hborn i ms.toList[i] (List.getElem?_eq_getElem hi')
      by_cases hc : i ∈ seen
      · exact hc
      · exfalso
        have : ms.toList[i] ∈ (ms.filter fun e => !seen'.contains e.born).toList := by
          simp only [Array.toList_filter, List.mem_filter, hcont, Bool.not_eq_true', decide_eq_false_iff_not]
          exact ⟨List.getElem_mem _, by rw [hb]; exact hc⟩
        rw [← hleft] at this
        simp at this
    · simp [choose, Sem.run, Question.forced]
  · left
    have hne : left.isEmpty = false := by simp [Array.isEmpty, h0]
    simp only [hne, Bool.false_eq_true, if_false, Array.empty_append, Array.size_map]
    have hch : ∃ (j : Nat) (w1 : World), j < left.size ∧ (w1.heap = w.heap ∧ Side w w1) ∧ (choose (Question.mapNext left.size)).run P w = .ok j w1 := by
      by_cases hf : left.size ≤ 1
      · exact ⟨0, w, by omega, ⟨rfl, .refl _⟩, by simp [choose, Sem.run, Question.forced, hf]⟩
      · exact ⟨_, w.drew, Nat.mod_lt _ (by omega), ⟨rfl, ⟨rfl, rfl, rfl⟩⟩, by
          simp only [choose, Sem.run, Question.forced, decide_eq_true_eq, hf, if_false, Question.cut]
          rfl⟩
    obtain ⟨j, w1, hj, ⟨hal, hsd⟩, hrun⟩ := hch
    obtain ⟨g1, g2⟩ := hmem left[j] (by simp)
    obtain ⟨i, hi, hie⟩ := List.getElem_of_mem g1
    have hbi := hborn i ms.toList[i] (List.getElem?_eq_getElem hi)
    rw [hie] at hbi
    have hi' : i < es.length := by omega
    obtain ⟨me, c1, c2, c3⟩ := a2.get i es[i].1 es[i].2 (by rw [List.getElem?_eq_getElem hi'])
    rw [List.getElem?_eq_getElem hi, hie] at c1
    cases c1
    have H1 : HRel R Old w0 E h w1 := H.of_heap hal hsd
    have Hn := H1.putObj (o' := .mapIter m es.length (i :: seen)) (obj := .mapIter (some (E.ρ m).1) es.length (seen'.push i) es.length) hm rfl (fun _ _ => by simp) rfl
      ⟨hz, hme, _, World.putObj_heap_same (by rw [hal]; exact hlt), by simp [b2]⟩
    refine ⟨i, es[i].1, es[i].2, left[j].key, left[j].val, _, by rw [List.getElem?_eq_getElem hi'], by rw [← hbi]; exact g2, ?_, c2, c3, Hn⟩
    have hset : ∀ o, (setObj (E.ρ r).1 o).run P w1 = .ok () (w1.putObj (E.ρ r).1 o) := fun o => by simp [setObj, Sem.run, hal, hobj, World.putObj]
    simp only [hrun, Array.getElem?_map, Array.getElem?_eq_getElem hj, Option.map_some, Sem.run_bind, hset, Result.andThen, hbi]
    rfl

/-! ### Functions without a text -/
theorem byteIdx_eq (c : Nat) (hc : c < 256) : ∀ (l : List UInt8) (i : Nat), byteIdx c (l.map UInt8.toNat) i = if Lib.indexByte l c.toUInt8 = -1 then -1 else Lib.indexByte l c.toUInt8 + i
  | [], i => by simp [byteIdx, Lib.indexByte]
  | b :: l, i => by
    have hb : Nat.beq b.toNat c = (b == c.toUInt8) := by
      rw [Bool.eq_iff_iff, Nat.beq_eq, beq_iff_eq]
      constructor
      · intro hh; rw [← hh]; simp
      · intro hh; rw [hh]; exact Nat.mod_eq_of_lt hc
    have hge := Lib.indexByte_ge l c.toUInt8
    simp only [List.map_cons, byteIdx, Lib.indexByte, hb]
    by_cases hbc : (b == c.toUInt8) = true
    · simp only [hbc, if_true]; simp
    · have hbc : (b == c.toUInt8) = false := by simpa using hbc
      simp only [hbc, Bool.false_eq_true, if_false]
      rw [byteIdx_eq c hc l (i + 1)]
      by_cases h1 : Lib.indexByte l c.toUInt8 = -1
      · simp [h1]
      · have h1' : (Lib.indexByte l c.toUInt8 == -1) = false := by simpa using h1
        simp only [h1, if_false, h1', Bool.false_eq_true]
        rw [if_neg (by omega)]
        simp; omega

theorem byteCount_eq (c : Nat) (hc : c < 256) : ∀ (l : List UInt8), byteCount c (l.map UInt8.toNat) = Lib.countByte l c.toUInt8
  | [] => rfl
  | b :: l => by
    have hb : Nat.beq b.toNat c = (b == c.toUInt8) := by
      rw [Bool.eq_iff_iff, Nat.beq_eq, beq_iff_eq]
      constructor
      · intro hh; rw [← hh]; simp
      · intro hh; rw [hh]; exact Nat.mod_eq_of_lt hc
    simp only [List.map_cons, byteCount, hb, Lib.countByte, List.count_cons]
    rw [byteCount_eq c hc l]
    by_cases hbc : (b == c.toUInt8) = true
    · simp only [hbc, if_true]; rfl
    · have hbc : (b == c.toUInt8) = false := by simpa using hbc
      simp only [hbc, Bool.false_eq_true, if_false]; rfl

def extName : Ext → String
  | .index => "internal/bytealg.IndexByteString"
  | .count => "internal/bytealg.CountString"

theorem extOf_some {f : Nat} {x : Ext} (hx : extOf P f = some x) : ∃ fn, P.funcs[f]? = some fn ∧ fn.body = none ∧ fn.origin = "" ∧ fn.name = extName x := by
  unfold extOf at hx
  split at hx
  · rename_i fn hf
    split at hx
    · rename_i hb
      split at hx
      · rename_i ho
        split at hx
        · rename_i hn; cases hx; exact ⟨fn, hf, hb, by simpa using ho, (by simp only [beq_iff_eq] at hn; exact hn)⟩
        · split at hx
          · rename_i hn; cases hx; exact ⟨fn, hf, hb, by simpa using ho, (by simp only [beq_iff_eq] at hn; exact hn)⟩
          · cases hx
      · cases hx
    · cases hx
  · cases hx

theorem sim_ext {x : Ext} {f : Nat} {args : Array Operand} {ss : List Src} {ats : Array TypeId} (H : HRel R Old w0 E h w) (hE : EnvRel E e a.tmps) (hf : extOf P f = some x) (hs : cSrcs args.toList = some ss) (hv : op_ext x ss e h = some (v, h')) :
    Sim R Old w0 E h' id v ((execOp a.eval (mkO dst (.call ⟨.value (.func f), args, ats⟩) ty pos after g)).run P w) := by
  unfold op_ext at hv
  split at hv
  · rename_i vs hvs
    split at hv
    · rename_i u hu
      cases hv
      obtain ⟨fn, h1, h2, h3, h4⟩ := extOf_some hf
      have hrel := srcs_rel hE hs hvs
      have hxs : args.map a.eval = (args.toList.map a.eval).toArray := Array.ext' (by simp)
      have hb : fn.body.isNone = true := by rw [h2]; rfl
      have run : ∀ (en : Array Value → Sem Value) (y : Value), Extern.findNext fn = none → Extern.find fn = some en → (fn.name == "runtime.NumGoroutine") = false → (en (args.map a.eval)).run P w = .ok y w →
          (execOp a.eval (mkO dst (.call ⟨.value (.func f), args, ats⟩) ty pos after g)).run P w = .ok (.value y) w := fun en y e1 e2 e3 e4 => by
        simp only [execOp, resolve, show a.eval (.func f) = Value.func (.func f) #[] #[] from rfl, Sem.run_bind, Deferred.ofValue, Sem.run_pure, Result.andThen_ok, invoke, Array.empty_append, Array.append_empty]
        have := run_callFunc_extern (P := P) h1 e3 hb e1 e2 (args.map a.eval) w
        rw [e4] at this
        simpa [Result.andThen] using this
      have two : ∀ (s : List Nat) (c : Int), vs = [.str s, .int .u8 c] → ∃ s' : ByteArray, args.map a.eval = #[.string s', .int .u8 c] ∧ s'.data.toList.map UInt8.toNat = s := fun s c e0 => by
        subst e0
        rw [hxs]
        generalize args.toList.map a.eval = l at hrel
        cases hrel with
        | cons _ _ _ _ h5 h6 => cases h5 with
          | str s' _ hs' => cases h6 with
            | cons _ _ _ _ h7 h8 => cases h7; cases h8; exact ⟨s', rfl, hs'⟩
      have hc8 : ∀ c : Int, (c.toNat % 256).toUInt8 = c.toNat.toUInt8 := fun c => by
        apply UInt8.toNat_inj.1
        simp
      cases x with
      | index =>
        obtain ⟨s, c, e7, e8⟩ : ∃ s c, vs = [.str s, .int .u8 c] ∧ v = .int .i64 (byteIdx (c.toNat % 256) s 0) := by
          unfold extA at hu
          simp only at hu
          split at hu
          · cases hu; exact ⟨_, _, rfl, rfl⟩
          · cases hu
        subst e7; subst e8
        obtain ⟨s', e5, e6⟩ := two s c rfl
        have := run Extern.BytealgIndexByte.indexByte _ (by unfold Extern.findNext; rw [h4, h3]; rfl) (by unfold Extern.find; rw [h4, h3]; rfl) (by rw [h4]; rfl) (by rw [e5]; exact Lib.run_indexByteString s' c w)
        refine .val H this ?_
        rw [← e6, byteIdx_eq _ (Nat.mod_lt _ (by omega)), hc8]
        have hge := Lib.indexByte_ge s'.data.toList c.toNat.toUInt8
        have : (if Lib.indexByte s'.data.toList c.toNat.toUInt8 = -1 then -1 else Lib.indexByte s'.data.toList c.toNat.toUInt8 + ((0 : Nat) : Int)) = Lib.indexByte s'.data.toList c.toNat.toUInt8 := by
          split
          · rename_i hh; exact hh.symm
          · simp
        rw [this]
        exact .int _ _
      | count =>
        obtain ⟨s, c, e7, e8⟩ : ∃ s c, vs = [.str s, .int .u8 c] ∧ v = .int .i64 (byteCount (c.toNat % 256) s) := by
          unfold extA at hu
          simp only at hu
          split at hu
          · cases hu; exact ⟨_, _, rfl, rfl⟩
          · cases hu
        subst e7; subst e8
        obtain ⟨s', e5, e6⟩ := two s c rfl
        have := run Extern.BytealgCount.count _ (by unfold Extern.findNext; rw [h4, h3]; rfl) (by unfold Extern.find; rw [h4, h3]; rfl) (by rw [h4]; rfl) (by rw [e5]; exact Lib.run_countString s' c w)
        refine .val H this ?_
        rw [← e6, byteCount_eq _ (Nat.mod_lt _ (by omega)), hc8]
        exact .int _ _
    · cases hv
  · cases hv

end ops
end Go.Ab
