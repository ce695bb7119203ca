/- More operations: ==, fields, indexes, slices, lengths. -/
import Derived.Test.YtfdokiknemihpaaGreatDoorAbG
namespace Go.Ab
variable {P : Program} {R : CodeRel} {Old : Nat → Prop} {w0 w : World} {E : Emb} {h : Heap} {a : Act} {e : Env}

def aggD : TypeDesc → Bool
  | .struct _ => true
  | .array _ _ => true
  | _ => false
theorem isAggP_of {t : TypeId} {d : TypeDesc} (hu : P.underlying t = some d) : isAggP P t = some (aggD d) := by
  unfold isAggP; rw [hu]; cases d <;> rfl

def TagTy (P : Program) (t : TypeId) : EqT → Prop
  | .leaf l => LeafTy P t l
  | .ptr => ∃ el, P.underlying t = some (.pointer el)
  | .slice => ∃ el, P.underlying t = some (.slice el)
  | .map => ∃ k el, P.underlying t = some (.map k el)
  | .func => ∃ p r v, P.underlying t = some (.func p r v)
  | .agg ls => leafsP P 20 t = some ls ∧ isAggP P t = some true

/-- The values that == compares, by the tag of their type. -/
theorem eqA_rel {t : TypeId} {tg : EqT} {u1 u2 : AV} {x1 x2 : Value} {b : Bool}
    (ht : TagTy P t tg)
    (hl : eqA tg u1 u2 = some b) (r1 : VRel E u1 x1) (r2 : VRel E u2 x2) (w : World) : (Op.equal t x1 x2).run P w = .ok b w := by
  unfold Op.equal Op.maxDepth
  cases tg with
  | leaf l => exact leafEq_rel hl r1 r2 ht _ w
  | ptr =>
    obtain ⟨el, ht⟩ := ht
    cases r1 <;> cases r2 <;> simp only [eqA] at hl <;> first | (cases hl; done) | skip
    all_goals (cases hl; unfold Op.equalIn; simp [run_underlying ht])
  | slice =>
    obtain ⟨el, ht⟩ := ht
    cases r1 <;> cases r2 <;> simp only [eqA] at hl <;> first | (cases hl; done) | skip
    all_goals (cases hl; unfold Op.equalIn; simp [run_underlying ht])
  | map =>
    obtain ⟨k, el, ht⟩ := ht
    cases r1 <;> cases r2 <;> simp only [eqA] at hl <;> first | (cases hl; done) | skip
    all_goals (cases hl; unfold Op.equalIn; simp [run_underlying ht])
  | func =>
    obtain ⟨p, r, v, ht⟩ := ht
    cases r1 <;> cases r2 <;> simp only [eqA] at hl <;> first | (cases hl; done) | skip
    all_goals (cases hl; unfold Op.equalIn; simp [run_underlying ht])
  | agg ls =>
    cases r1 <;> cases r2 <;> simp only [eqA] at hl <;> first | (cases hl; done) | skip
    rename_i h1 _ _ h2
    exact (eqAt 20 t ls ht.1 10000 (by omega) _ _ _ _ _ b w h1 h2 hl).1 ht.2

theorem eqTag_ok {t : TypeId} {tg : EqT} (ht : eqTag P t = some tg) :
    TagTy P t tg ∧ (∀ ls, tg = .agg ls → P.eqGuardType P.depth t = false) := by
  unfold eqTag at ht
  split at ht
  · rename_i hu; cases ht; exact ⟨hu, fun _ h => by cases h⟩
  · rename_i hu; cases ht; exact ⟨⟨_, hu⟩, fun _ h => by cases h⟩
  · rename_i hu; cases ht; exact ⟨hu, fun _ h => by cases h⟩
  · rename_i hu; cases ht; exact ⟨⟨_, hu⟩, fun _ h => by cases h⟩
  · rename_i hu; cases ht; exact ⟨⟨_, hu⟩, fun _ h => by cases h⟩
  · rename_i hu; cases ht; exact ⟨⟨_, _, hu⟩, fun _ h => by cases h⟩
  · rename_i hu; cases ht; exact ⟨⟨_, _, _, hu⟩, fun _ h => by cases h⟩
  · rename_i hu
    split at ht
    · cases ht
    · rename_i hg
      simp only [Option.map_eq_some_iff] at ht
      obtain ⟨ls, hl, rfl⟩ := ht
      exact ⟨⟨hl, by rw [isAggP_of hu]; rfl⟩, fun _ _ => by simpa using hg⟩
  · rename_i hu
    split at ht
    · cases ht
    · rename_i hg
      simp only [Option.map_eq_some_iff] at ht
      obtain ⟨ls, hl, rfl⟩ := ht
      exact ⟨⟨hl, by rw [isAggP_of hu]; rfl⟩, fun _ _ => by simpa using hg⟩
  · cases ht

theorem keyTag_ok {t : TypeId} {tg : EqT} (ht : keyTag P t = some tg) : (∃ l, tg = .leaf l ∧ LeafTy P t l) ∨ (∃ ls, tg = .agg ls ∧ leafsP P 20 t = some ls ∧ isAggP P t = some true) := by
  unfold keyTag at ht
  split at ht
  · rename_i hu; cases ht; exact .inl ⟨_, rfl, hu⟩
  · rename_i hu; cases ht; exact .inl ⟨_, rfl, _, hu⟩
  · rename_i hu; cases ht; exact .inl ⟨_, rfl, hu⟩
  · rename_i hu
    simp only [Option.map_eq_some_iff] at ht
    obtain ⟨ls, hl, rfl⟩ := ht
    exact .inr ⟨_, rfl, hl, by rw [isAggP_of hu]; rfl⟩
  · rename_i hu
    simp only [Option.map_eq_some_iff] at ht
    obtain ⟨ls, hl, rfl⟩ := ht
    exact .inr ⟨_, rfl, hl, by rw [isAggP_of hu]; rfl⟩
  · cases ht

/-- '==' and '!=' on related values. -/
theorem run_eq {t : TypeId} {tg : EqT} {u1 u2 : AV} {x1 x2 : Value} {b : Bool} (x y : Operand) (ht : eqTag P t = some tg) (hl : eqA tg u1 u2 = some b) (r1 : VRel E u1 x1) (r2 : VRel E u2 x2) (w : World) :
    (do eqGuard .eql t x y x1 x2; binOp .eql t x1 x2).run P w = .ok (.bool b) w ∧ (do eqGuard .neq t x y x1 x2; binOp .neq t x1 x2).run P w = .ok (.bool (!b)) w := by
  obtain ⟨h1, h2⟩ := eqTag_ok ht
  have he := eqA_rel h1 hl r1 r2 w
  cases tg with
  | agg ls =>
    have hg := h2 ls rfl
    cases r1 <;> cases r2 <;> simp only [eqA] at hl <;> first | (cases hl; done) | skip
    simp only [Sem.run_bind, run_eqGuard_agg w _ t x y _ _ hg, Result.andThen_ok, binOp, he, Sem.run_pure, and_self]
  | leaf l =>
    cases r1 <;> cases r2 <;> cases l <;> simp only [eqA, leafEq] at hl <;> first | (cases hl; done) | skip
    · simp [eqGuard, binOp, he]
    · split at hl
      · rename_i hk; subst hk; cases hl
        simp only [Sem.run_bind, eqGuard_int, Result.andThen_ok, binOp, ne_eq, not_true_eq_false, if_false, Op.intCmp, Sem.run_pure]
        first | exact ⟨rfl, rfl⟩ | exact ⟨trivial, rfl⟩ | trivial
      · cases hl
    · cases hl
      rename_i q1 _ _ q2
      have e1 := strRel_inj q1 q2
      simp only [Sem.run_bind, eqGuard_str, Result.andThen_ok, binOp, Op.stringOp, e1, Sem.run_pure, and_self]
  | _ => cases r1 <;> cases r2 <;> simp only [eqA] at hl <;> first | (cases hl; done) | (simp [eqGuard, binOp, he])

section ops
variable {dst : Option Tmp} {ty : TypeId} {pos : String} {after : Array Edge} {g : Option (Nat × Bool)} {id : Nat} {h' : Heap} {v : AV} {t yt : TypeId} {x y z : Operand} {sx sy sz : Src}

theorem sim_eq {neg : Bool} {tg : EqT} (H : HRel R Old w0 E h w) (hE : EnvRel E e a.tmps) (hx : cSrc x = some sx) (hy : cSrc y = some sy) (ht : eqTag P t = some tg) (hv : op_eq neg tg sx sy e h = some (v, h')) :
    Sim R Old w0 E h' id v ((execOp a.eval (mkO dst (.binOp (if neg then .neq else .eql) t x y yt) ty pos after g)).run P w) := by
  unfold op_eq at hv
  split at hv
  · rename_i u1 u2 h1 h2
    split at hv
    · rename_i r hr
      cases hv
      have := run_eq (P := P) x y ht hr (src_rel hE hx h1) (src_rel hE hy h2) w
      cases neg
      · have h3 := this.1
        simp only [Sem.run_bind] at h3
        exact .val H (by simp only [execOp, Sem.run_bind, Bool.false_eq_true, if_false, h3, Result.andThen_ok, Sem.run_pure]) (.bool _)
      · have h3 := this.2
        simp only [Sem.run_bind] at h3
        exact .val H (by simp only [execOp, Sem.run_bind, if_true, h3, Result.andThen_ok, Sem.run_pure]) (.bool _)
    · cases hv
  · cases hv

theorem run_fieldPlace {ad : Addr} {f : Field} {n : Nat} (hn : sizeP P f.type = some (n + 1)) (w : World) : (fieldPlace ad f).run P w = .ok (ad.add f.offset) w := by
  simp [fieldPlace, run_sizeOf hn]

theorem at_add (E : Emb) (b off n : Nat) : (E.at_ b off).add n = E.at_ b (off + n) := by
  simp only [Emb.at_, addr_add, Nat.add_assoc]

theorem sim_fieldAddr {fields : Array Field} {f : Nat} {fd : Field} {n : Nat} (H : HRel R Old w0 E h w) (hE : EnvRel E e a.tmps) (hx : cSrc x = some sx) (ht : P.underlying t = some (.struct fields))
    (hf : fields[f]? = some fd) (hn : sizeP P fd.type = some (n + 1)) (hv : op_fieldAddr fd.offset sx e h = some (v, h')) :
    Sim R Old w0 E h' id v ((execOp a.eval (mkO dst (.fieldAddr t x f) ty pos after g)).run P w) := by
  unfold op_fieldAddr at hv
  split at hv
  · rename_i b off hu
    cases hv
    have h1 := src_rel hE hx hu
    generalize hxv : a.eval x = xv at h1
    cases h1
    rename_i hb
    refine .val H (x := .pointer (some (E.at_ b (off + fd.offset)))) ?_ (.ptr _ _ hb)
    simp [execOp, hxv, Instr.fieldAt, run_underlying ht, hf, Instr.sureAddr, run_fieldPlace hn, at_add]
  · cases hv

/-- A part of an aggregate. -/
theorem run_partL {t : TypeId} {b : Bool} {n off : Nat} {cs : List AV} {ds : List Value} {u : AV} (hb : isAggP P t = some b) (hn : sizeP P t = some n) (hr : VsRel E cs ds) (hp : partL b cs off n = some u) (w : World) :
    ∃ x, (part t ds.toArray off).run P w = .ok x w ∧ VRel E u x := by
  unfold partL at hp
  cases b with
  | true =>
    simp only [if_true] at hp
    split at hp
    · cases hp
      exact ⟨_, run_part_agg hb hn w, .agg _ _ ((hr.drop off).take n)⟩
    · cases hp
  | false =>
    simp only [Bool.false_eq_true, if_false] at hp
    obtain ⟨x, hx, hv⟩ := hr.get off u hp
    exact ⟨x, run_part_one hb hx w, hv⟩

theorem sim_field {fields : Array Field} {f : Nat} {fd : Field} {n : Nat} {b : Bool} (H : HRel R Old w0 E h w) (hE : EnvRel E e a.tmps) (hx : cSrc x = some sx) (ht : P.underlying t = some (.struct fields))
    (hf : fields[f]? = some fd) (hb : isAggP P fd.type = some b) (hn : sizeP P fd.type = some n) (hv : op_field fd.offset n b sx e h = some (v, h')) :
    Sim R Old w0 E h' id v ((execOp a.eval (mkO dst (.field t x f) ty pos after g)).run P w) := by
  unfold op_field at hv
  split at hv
  · rename_i cs hu
    have h1 := src_rel hE hx hu
    generalize hxv : a.eval x = xv at h1
    cases h1 with
    | agg _ ds hr =>
      split at hv
      · rename_i u hp
        cases hv
        obtain ⟨y, hy, hv'⟩ := run_partL (P := P) hb hn hr hp w
        exact .val H (by simp [execOp, hxv, Instr.field, run_underlying ht, hf, asAgg, hy]) hv'
      · cases hv
  · cases hv

theorem sim_index {n esz : Nat} {el : TypeId} {b : Bool} (H : HRel R Old w0 E h w) (hE : EnvRel E e a.tmps) (hx : cSrc x = some sx) (hy : cSrc y = some sy) (ht : P.underlying t = some (.array n el))
    (hb : isAggP P el = some b) (hn : sizeP P el = some esz) (hv : op_index n esz b sx sy e h = some (v, h')) :
    Sim R Old w0 E h' id v ((execOp a.eval (mkO dst (.index t x y) ty pos after g)).run P w) := by
  unfold op_index at hv
  split at hv
  · rename_i cs k j hu1 hu2
    have h1 := src_rel hE hx hu1
    have h2 := src_rel hE hy hu2
    generalize hxv : a.eval x = xv at h1
    generalize hyv : a.eval y = yv at h2
    cases h2
    cases h1 with
    | agg _ ds hr =>
      split at hv
      · rename_i hj
        split at hv
        · rename_i u hp
          cases hv
          obtain ⟨q, hq, hv'⟩ := run_partL (P := P) hb hn hr hp w
          exact .val H (by simp [execOp, hxv, hyv, Instr.index, asIntOf, run_underlying ht, hj, run_sizeOf hn, hq]) hv'
        · cases hv
      · cases hv
  · cases hv

theorem sim_indexStr (H : HRel R Old w0 E h w) (hE : EnvRel E e a.tmps) (hx : cSrc x = some sx) (hy : cSrc y = some sy) (ht : P.underlying t = some .string) (hv : op_indexStr sx sy e h = some (v, h')) :
    Sim R Old w0 E h' id v ((execOp a.eval (mkO dst (.index t x y) ty pos after g)).run P w) := by
  unfold op_indexStr at hv
  split at hv
  · rename_i s k j hu1 hu2
    have h1 := src_rel hE hx hu1
    have h2 := src_rel hE hy hu2
    generalize hxv : a.eval x = xv at h1
    generalize hyv : a.eval y = yv at h2
    cases h2
    cases h1 with
    | str s' _ hs =>
      split at hv
      · rename_i hj
        split at hv
        · rename_i b hb
          cases hv
          have hb' : ∃ c : UInt8, s'[j.toNat]? = some c ∧ c.toNat = b := by
            rw [← hs, List.getElem?_map] at hb
            simp only [Option.map_eq_some_iff] at hb
            obtain ⟨c, hc, rfl⟩ := hb
            refine ⟨c, ?_, rfl⟩
            rw [Array.getElem?_toList] at hc
            obtain ⟨hlt, hc'⟩ := Array.getElem?_eq_some_iff.1 hc
            have hlt' : j.toNat < s'.size := hlt
            rw [getElem?_pos s' j.toNat hlt']
            exact congrArg some hc'
          obtain ⟨c, hc, rfl⟩ := hb'
          exact .val H (x := .int .u8 c.toNat) (by simp [execOp, hxv, hyv, Instr.index, asIntOf, run_underlying ht, hj, hc]) (.int _ _)
        · cases hv
      · cases hv
  · cases hv

theorem sim_idxSl {esz : Nat} {el : TypeId} (H : HRel R Old w0 E h w) (hE : EnvRel E e a.tmps) (hx : cSrc x = some sx) (hy : cSrc y = some sy) (ht : P.underlying t = some (.slice el)) (hn : sizeP P el = some esz)
    (hv : op_idxSl esz sx sy e h = some (v, h')) : Sim R Old w0 E h' id v ((execOp a.eval (mkO dst (.indexAddr t x y) ty pos after g)).run P w) := by
  unfold op_idxSl at hv
  split at hv
  · rename_i b off n z k j hu1 hu2
    have h1 := src_rel hE hx hu1
    have h2 := src_rel hE hy hu2
    generalize hxv : a.eval x = xv at h1
    generalize hyv : a.eval y = yv at h2
    cases h2
    cases h1 with
    | slice _ _ _ _ ad cap hb hr =>
      split at hv
      · rename_i hj
        cases hv
        rcases hr with hr | ⟨rfl, hr⟩
        · omega
        · refine .val H (x := .pointer (some (E.at_ b (off + j.toNat * esz)))) ?_ (.ptr _ _ hb)
          simp [execOp, hxv, hyv, Instr.indexAt, asIntOf, run_underlying ht, hj.2, run_sizeOf hn, at_add]
      · cases hv
  · cases hv

theorem sim_idxArr {n esz : Nat} {el : TypeId} (H : HRel R Old w0 E h w) (hE : EnvRel E e a.tmps) (hx : cSrc x = some sx) (hy : cSrc y = some sy) (ht : P.underlying t = some (.array n el)) (hn : sizeP P el = some esz)
    (hv : op_idxArr n esz sx sy e h = some (v, h')) : Sim R Old w0 E h' id v ((execOp a.eval (mkO dst (.indexAddr t x y) ty pos after g)).run P w) := by
  unfold op_idxArr at hv
  split at hv
  · rename_i b off k j hu1 hu2
    have h1 := src_rel hE hx hu1
    have h2 := src_rel hE hy hu2
    generalize hxv : a.eval x = xv at h1
    generalize hyv : a.eval y = yv at h2
    cases h2
    cases h1
    rename_i hb
    split at hv
    · rename_i hj
      cases hv
      refine .val H (x := .pointer (some (E.at_ b (off + j.toNat * esz)))) ?_ (.ptr _ _ hb)
      simp [execOp, hxv, hyv, Instr.indexAt, asIntOf, run_underlying ht, hj, Instr.sureAddr, run_sizeOf hn, at_add]
    · cases hv
  · cases hv

/-! ### Bounds -/
theorem optSrc_rel (hE : EnvRel E e a.tmps) {o : Option Operand} {s : Option Src} {u : Option AV} (hs : cOpt o = some s) (hu : optSrc e s = some u) :
    (o = none ∧ u = none) ∨ ∃ q av, o = some q ∧ u = some av ∧ VRel E av (a.eval q) := by
  cases o with
  | none => simp only [cOpt, Option.some.injEq] at hs; subst hs; simp only [optSrc, Option.some.injEq] at hu; exact .inl ⟨rfl, hu.symm⟩
  | some q =>
    simp only [cOpt, Option.map_eq_some_iff] at hs
    obtain ⟨s', hs', rfl⟩ := hs
    simp only [optSrc] at hu
    split at hu
    · cases hu
    · rename_i av hav
      cases hu
      exact .inr ⟨q, av, rfl, rfl, src_rel hE hs' hav⟩

theorem bounds_rel (hE : EnvRel E e a.tmps) {len l u cap : Nat} {lo hi : Option Operand} {sl sh : Option Src} (hl : cOpt lo = some sl) (hh : cOpt hi = some sh) (hb : bounds e len sl sh = some (l, u)) (hc : len ≤ cap) (w : World) (isSl : Bool) :
    (Instr.sliceBounds isSl len cap (lo.map a.eval) (hi.map a.eval) none).run P w = .ok (l, u, cap) w ∧ l ≤ u ∧ u ≤ len := by
  unfold bounds at hb
  split at hb
  · cases hb
  · rename_i hv hhv
    split at hb
    · cases hb
    · rename_i hn hnn
      split at hb
      · cases hb
      · rename_i lv hlv
        split at hb
        · cases hb
        · rename_i ln hln
          cases hb
          have hu : ((match hi.map a.eval with | some v => (Instr.sliceBound v cap (if isSl then .sliceAcap else .sliceAlen)).run P w | none => .ok len w) = .ok u w) ∧ u ≤ len := by
            rcases optSrc_rel hE hh hhv with ⟨rfl, rfl⟩ | ⟨q, av, rfl, rfl, hr⟩
            · simp only [natOf, Option.some.injEq] at hnn; subst hnn; exact ⟨rfl, Nat.le_refl _⟩
            · generalize hq : a.eval q = qv at hr
              cases hr <;> simp only [natOf] at hnn <;> first | (cases hnn; done) | skip
              split at hnn
              · rename_i k i hi
                cases hnn
                have h3 : 0 ≤ i ∧ i ≤ (cap : Int) := by omega
                exact ⟨by simp [hq, Instr.sliceBound, asIntOf, h3], by omega⟩
              · cases hnn
          have hlo : ((match lo.map a.eval with | some v => (Instr.sliceBound v u .sliceB).run P w | none => .ok 0 w) = .ok l w) ∧ l ≤ u := by
            rcases optSrc_rel hE hl hlv with ⟨rfl, rfl⟩ | ⟨q, av, rfl, rfl, hr⟩
            · simp only [natOf, Option.some.injEq] at hln; subst hln; exact ⟨rfl, Nat.zero_le _⟩
            · generalize hq : a.eval q = qv at hr
              cases hr <;> simp only [natOf] at hln <;> first | (cases hln; done) | skip
              split at hln
              · rename_i k i hi
                cases hln
                exact ⟨by simp [hq, Instr.sliceBound, asIntOf, hi], by omega⟩
              · cases hln
          refine ⟨?_, hlo.2, hu.2⟩
          unfold Instr.sliceBounds
          have h1 := hu.1
          have h2 := hlo.1
          cases hi <;> cases lo <;> simp_all

theorem sim_sliceStr {lo hi : Option Operand} {sl sh : Option Src} (H : HRel R Old w0 E h w) (hE : EnvRel E e a.tmps) (hx : cSrc x = some sx) (hl : cOpt lo = some sl) (hh : cOpt hi = some sh) (ht : P.underlying t = some .string)
    (hv : op_sliceStr sx sl sh e h = some (v, h')) : Sim R Old w0 E h' id v ((execOp a.eval (mkO dst (.slice t x lo hi none) ty pos after g)).run P w) := by
  unfold op_sliceStr at hv
  split at hv
  · rename_i s hu1
    have h1 := src_rel hE hx hu1
    generalize hxv : a.eval x = xv at h1
    cases h1 with
    | str s' _ hs =>
      split at hv
      · rename_i l u hb
        cases hv
        have hlen : s.length = s'.size := by rw [← hs, List.length_map, Array.length_toList]; rfl
        rw [hlen] at hb
        obtain ⟨h2, h3, h4⟩ := bounds_rel (P := P) (E := E) hE hl hh hb (Nat.le_refl _) w false
        refine .val H (x := .string (s'.extract l u)) ?_ (.str _ _ ?_)
        · simp [execOp, hxv, Instr.sliceAt, run_underlying ht, Instr.slice, h2]
        · rw [ByteArray.data_extract, Array.toList_extract, List.extract_eq_take_drop, List.map_take, List.map_drop, hs]
      · cases hv
  · cases hv

theorem slice_zero_cap {b off len z l u cap : Nat} {ad : Addr} (hb : E.here b) (hr : (len = 0 ∧ cap = 0) ∨ (ad = E.at_ b off ∧ len ≤ cap ∧ (E.ρ b).1 < E.M ∧ (E.ρ b).2 + off + cap * z ≤ E.sz (E.ρ b).1)) (h1 : l ≤ u) (h2 : u ≤ len) :
    VRel E (.slice b (off + l * z) (u - l) z) (.slice (if cap = l then some ad else (some ad).map (·.add (l * z))) (u - l) (cap - l)) := by
  by_cases hc : cap = l
  · rw [if_pos hc]
    have : u - l = 0 := by rcases hr with hr | hr <;> omega
    rw [this, hc, Nat.sub_self]
    exact .slice _ _ _ _ _ _ hb (.inl ⟨rfl, rfl⟩)
  · rw [if_neg hc]
    rcases hr with hr | ⟨rfl, h3, h4, h5⟩
    · omega
    · simp only [Option.map_some]
      refine .slice _ _ _ _ _ _ hb (.inr ⟨at_add _ _ _ _, by omega, h4, ?_⟩)
      have : (cap - l) * z + l * z = cap * z := by rw [← Nat.add_mul]; congr 1; omega
      omega

theorem sim_sliceSl {esz : Nat} {el : TypeId} {lo hi : Option Operand} {sl sh : Option Src} (H : HRel R Old w0 E h w) (hE : EnvRel E e a.tmps) (hx : cSrc x = some sx) (hl : cOpt lo = some sl) (hh : cOpt hi = some sh)
    (ht : P.underlying t = some (.slice el)) (hn : sizeP P el = some esz) (hv : op_sliceSl esz sx sl sh e h = some (v, h')) :
    Sim R Old w0 E h' id v ((execOp a.eval (mkO dst (.slice t x lo hi none) ty pos after g)).run P w) := by
  unfold op_sliceSl at hv
  split at hv
  · rename_i hu1
    have h1 := src_rel hE hx hu1
    generalize hxv : a.eval x = xv at h1
    cases h1
    split at hv
    · rename_i p hb
      cases hv
      obtain ⟨h2, h3, h4⟩ := bounds_rel (P := P) (E := E) hE hl hh (l := p.1) (u := p.2) hb (Nat.le_refl _) w true
      refine .val H (x := .slice none 0 0) ?_ .nilslice
      simp only [execOp, hxv, Instr.sliceAt, Sem.run_bind, run_underlying ht, Result.andThen_ok, Instr.slice, Option.map_none, h2, run_sizeOf hn, Sem.run_pure, Option.map_none, ite_self]
      rw [show p.2 - p.1 = 0 from by omega, Nat.zero_sub]
    · cases hv
  · rename_i b off n z hu1
    have h1 := src_rel hE hx hu1
    generalize hxv : a.eval x = xv at h1
    cases h1 with
    | slice _ _ _ _ ad cap hb hr =>
      split at hv
      · rename_i hz
        subst hz
        split at hv
        · rename_i l u hbd
          cases hv
          have hlc : n ≤ cap := by rcases hr with hr | hr <;> omega
          obtain ⟨h2, h3, h4⟩ := bounds_rel (P := P) (E := E) hE hl hh hbd hlc w true
          refine .val H ?_ (slice_zero_cap hb hr h3 h4)
          simp only [execOp, hxv, Instr.sliceAt, Sem.run_bind, run_underlying ht, Result.andThen_ok, Instr.slice, Option.map_none, h2, run_sizeOf hn, Sem.run_pure]
        · cases hv
      · cases hv
  · cases hv

theorem sim_lenStr (H : HRel R Old w0 E h w) (hE : EnvRel E e a.tmps) (hx : cSrc x = some sx) {ats : Array TypeId} (ht : ats[0]?.bind P.underlying = some .string)
    (hv : op_len .str sx e h = some (v, h')) : Sim R Old w0 E h' id v ((execOp a.eval (mkO dst (.call ⟨.builtin .len, #[x], ats⟩) ty pos after g)).run P w) := by
  simp only [Option.bind_eq_some_iff] at ht
  obtain ⟨t, ht1, ht2⟩ := ht
  unfold op_len at hv
  split at hv
  · rename_i u hu
    have h1 := src_rel hE hx hu
    generalize hxv : a.eval x = xv at h1
    cases h1 <;> simp only [lenA] at hv <;> first | (cases hv; done) | skip
    rename_i s l hs
    cases hv
    have hlen : l.length = s.size := by rw [← hs, List.length_map, Array.length_toList]; rfl
    rw [hlen]
    exact .val H (x := goInt s.size) (by simp [execOp, resolve, hxv, invoke, builtin, Builtin.len_, ht1, run_underlying ht2]) (.int _ _)
  · cases hv

theorem sim_lenSl (H : HRel R Old w0 E h w) (hE : EnvRel E e a.tmps) (hx : cSrc x = some sx) {ats : Array TypeId} {el : TypeId} (ht : ats[0]?.bind P.underlying = some (.slice el))
    (hv : op_len .slice sx e h = some (v, h')) : Sim R Old w0 E h' id v ((execOp a.eval (mkO dst (.call ⟨.builtin .len, #[x], ats⟩) ty pos after g)).run P w) := by
  simp only [Option.bind_eq_some_iff] at ht
  obtain ⟨t, ht1, ht2⟩ := ht
  unfold op_len at hv
  split at hv
  · rename_i u hu
    have h1 := src_rel hE hx hu
    generalize hxv : a.eval x = xv at h1
    cases h1 <;> simp only [lenA] at hv <;> first | (cases hv; done) | skip
    · cases hv
      exact .val H (x := goInt 0) (by simp [execOp, resolve, hxv, invoke, builtin, Builtin.len_, ht1, run_underlying ht2]) (.int _ _)
    · cases hv
      exact .val H (x := goInt _) (by simp [execOp, resolve, hxv, invoke, builtin, Builtin.len_, ht1, run_underlying ht2]) (.int _ _)
  · cases hv

theorem EntsRel.length : ∀ {es : List (AV × AV)} {ms : List MapEntry}, EntsRel E es ms → es.length = ms.length
  | _, _, .nil => rfl
  | _, _, .cons _ _ _ _ _ _ _ h => by simp [h.length]

theorem sim_lenMap (H : HRel R Old w0 E h w) (hE : EnvRel E e a.tmps) (hx : cSrc x = some sx) {ats : Array TypeId} {kt el : TypeId} (ht : ats[0]?.bind P.underlying = some (.map kt el))
    (hv : op_len .map sx e h = some (v, h')) : Sim R Old w0 E h' id v ((execOp a.eval (mkO dst (.call ⟨.builtin .len, #[x], ats⟩) ty pos after g)).run P w) := by
  simp only [Option.bind_eq_some_iff] at ht
  obtain ⟨t, ht1, ht2⟩ := ht
  unfold op_len at hv
  split at hv
  · rename_i u hu
    have h1 := src_rel hE hx hu
    generalize hxv : a.eval x = xv at h1
    cases h1 <;> simp only [lenA] at hv <;> first | (cases hv; done) | skip
    · cases hv
      exact .val H (x := goInt 0) (by simp [execOp, resolve, hxv, invoke, builtin, Builtin.len_, ht1, run_underlying ht2]) (.int _ _)
    · rename_i r hr
      cases hm : h.get r with
      | none => simp [hm] at hv
      | some o => cases o <;> simp only [hm] at hv <;> first | (cases hv; done) | skip
                  rename_i es
                  cases hv
                  obtain ⟨_, _, ms, clock, a1, a2, _⟩ := H.objs _ _ hm
                  have hlen := a2.length
                  rw [hlen]
                  exact .val H (x := goInt ms.toList.length) (by simp [execOp, resolve, hxv, invoke, builtin, Builtin.len_, ht1, run_underlying ht2, getObj, Sem.run, a1]) (.int _ _)
  · cases hv

theorem sim_cap (H : HRel R Old w0 E h w) (hE : EnvRel E e a.tmps) (hx : cSrc x = some sx) {ats : Array TypeId} {el : TypeId} (ht : ats[0]?.bind P.underlying = some (.slice el))
    (hv : op_len .cap sx e h = some (v, h')) : Sim R Old w0 E h' id v ((execOp a.eval (mkO dst (.call ⟨.builtin .cap, #[x], ats⟩) ty pos after g)).run P w) := by
  simp only [Option.bind_eq_some_iff] at ht
  obtain ⟨t, ht1, ht2⟩ := ht
  unfold op_len at hv
  split at hv
  · rename_i u hu
    have h1 := src_rel hE hx hu
    generalize hxv : a.eval x = xv at h1
    cases h1 <;> simp only [lenA] at hv <;> first | (cases hv; done) | skip
    cases hv
    exact .val H (x := goInt 0) (by simp [execOp, resolve, hxv, invoke, builtin, Builtin.cap_, ht1, run_underlying ht2]) (.int _ _)
  · cases hv

theorem sim_lenK {n : Nat} (H : HRel R Old w0 E h w) {ats : Array TypeId} (hu : ats[0]?.bind P.underlying = some (.array n t) ∨ ∃ arr, ats[0]?.bind P.underlying = some (.pointer arr) ∧ P.underlying arr = some (.array n t))
    (hv : op_lenK n h = some (v, h')) : Sim R Old w0 E h' id v ((execOp a.eval (mkO dst (.call ⟨.builtin .len, #[x], ats⟩) ty pos after g)).run P w) := by
  unfold op_lenK at hv
  cases hv
  rcases hu with hu | ⟨arr, hu, harr⟩
  · simp only [Option.bind_eq_some_iff] at hu
    obtain ⟨q, h1, h2⟩ := hu
    exact .val H (x := goInt n) (by simp [execOp, resolve, invoke, builtin, Builtin.len_, h1, run_underlying h2]) (.int _ _)
  · simp only [Option.bind_eq_some_iff] at hu
    obtain ⟨q, h1, h2⟩ := hu
    exact .val H (x := goInt n) (by simp [execOp, resolve, invoke, builtin, Builtin.len_, h1, run_underlying h2, run_underlying harr]) (.int _ _)

theorem sim_min (H : HRel R Old w0 E h w) (hE : EnvRel E e a.tmps) (hx : cSrc x = some sx) (hy : cSrc y = some sy) {ats : Array TypeId} (hv : op_minmax false sx sy e h = some (v, h')) :
    Sim R Old w0 E h' id v ((execOp a.eval (mkO dst (.call ⟨.builtin .min, #[x, y], ats⟩) ty pos after g)).run P w) := by
  unfold op_minmax at hv
  split at hv
  · rename_i k m k' n h1 h2
    have r1 := src_rel hE hx h1
    have r2 := src_rel hE hy h2
    generalize hxv : a.eval x = xv at r1
    generalize hyv : a.eval y = yv at r2
    cases r1; cases r2
    split at hv
    · cases hv
      exact .val H (by simp [execOp, resolve, hxv, hyv, invoke, builtin, Builtin.min_, Builtin.min2]) (.int _ _)
    · cases hv
  · cases hv

theorem sim_max (H : HRel R Old w0 E h w) (hE : EnvRel E e a.tmps) (hx : cSrc x = some sx) (hy : cSrc y = some sy) {ats : Array TypeId} (hv : op_minmax true sx sy e h = some (v, h')) :
    Sim R Old w0 E h' id v ((execOp a.eval (mkO dst (.call ⟨.builtin .max, #[x, y], ats⟩) ty pos after g)).run P w) := by
  unfold op_minmax at hv
  split at hv
  · rename_i k m k' n h1 h2
    have r1 := src_rel hE hx h1
    have r2 := src_rel hE hy h2
    generalize hxv : a.eval x = xv at r1
    generalize hyv : a.eval y = yv at r2
    cases r1; cases r2
    split at hv
    · cases hv
      exact .val H (by simp [execOp, resolve, hxv, hyv, invoke, builtin, Builtin.max_, Builtin.max2]) (.int _ _)
    · cases hv
  · cases hv

end ops
end Go.Ab
