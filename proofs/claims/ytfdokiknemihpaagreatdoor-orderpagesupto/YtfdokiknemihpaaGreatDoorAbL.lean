/- Maps. -/
import Derived.Test.YtfdokiknemihpaaGreatDoorAbK
namespace Go.Ab
variable {P : Program} {R : CodeRel} {Old : Nat → Prop} {w0 w : World} {E : Emb} {h : Heap} {a : Act} {e : Env}

theorem run_part_any {t : TypeId} {b : Bool} {n off : Nat} {xs : List Value} (hb : isAggP P t = some b) (hn : sizeP P t = some n) (h1 : off + n ≤ xs.length) (hb1 : b = false → n = 1) (w : World) :
    ∃ v, (part t xs.toArray off).run P w = .ok v w ∧ (b = true → ∃ ys : List Value, v = .agg ys.toArray ∧ ys.length = n) := by
  cases b with
  | true => exact ⟨_, run_part_agg hb hn w, fun _ => ⟨_, rfl, by simp; omega⟩⟩
  | false =>
    have := hb1 rfl
    subst this
    have hlt : off < xs.length := by omega
    exact ⟨_, run_part_one hb (List.getElem?_eq_getElem hlt) w, fun h => by cases h⟩

def KeyOKAt (P : Program) (d : Nat) : Prop :=
  ∀ t ls, leafsP P d t = some ls → ∀ D, d ≤ D → ∀ (em : Bool) (w : World),
    (isAggP P t = some true → ∀ xs : List Value, xs.length = ls.length → (Instr.checkKey em D t (.agg xs.toArray)).run P w = .ok () w) ∧
    (isAggP P t = some false → ls.length = 1 ∧ ∀ v, (Instr.checkKey em D t v).run P w = .ok () w)

theorem keyOKAt (d : Nat) : KeyOKAt P d := by
  induction d with
  | zero => intro t ls hl; simp [leafsP] at hl
  | succ d ih =>
    intro t ls hl D hD em w
    obtain ⟨D, rfl⟩ : ∃ k, D = k + 1 := ⟨D - 1, by omega⟩
    -- one part
    have hpart : ∀ (t' : TypeId) (ls' : List Leaf) (xs : List Value) (off : Nat), leafsP P d t' = some ls' → sizeP P t' = some ls'.length → off + ls'.length ≤ xs.length →
        ∃ v, (part t' xs.toArray off).run P w = .ok v w ∧ (Instr.checkKey em D t' v).run P w = .ok () w := fun t' ls' xs off h1 h2 h3 => by
      obtain ⟨c, hc⟩ := leafsP_isAgg h1
      have key := ih t' ls' h1 D (by omega) em w
      obtain ⟨v, hv, hv'⟩ := run_part_any (P := P) hc h2 h3 (fun hf => (key.2 (hf ▸ hc)).1) w
      refine ⟨v, hv, ?_⟩
      cases c with
      | true =>
        obtain ⟨ys, rfl, hy⟩ := hv' rfl
        exact key.1 hc ys hy
      | false => exact (key.2 hc).2 v
    simp only [leafsP] at hl
    split at hl
    · rename_i hu; cases hl
      exact ⟨fun hf => by simp [isAggP, hu] at hf, fun _ => ⟨rfl, fun v => by unfold Instr.checkKey; simp [run_underlying hu]⟩⟩
    · rename_i k hu; cases hl
      exact ⟨fun hf => by simp [isAggP, hu] at hf, fun _ => ⟨rfl, fun v => by unfold Instr.checkKey; simp [run_underlying hu]⟩⟩
    · rename_i hu; cases hl
      exact ⟨fun hf => by simp [isAggP, hu] at hf, fun _ => ⟨rfl, fun v => by unfold Instr.checkKey; simp [run_underlying hu]⟩⟩
    · rename_i fields hu
      split at hl
      · cases hl
      · refine ⟨fun _ xs hx => ?_, fun hf => by simp [isAggP, hu] at hf⟩
        unfold Instr.checkKey
        simp only [Sem.run_bind, run_underlying hu, Result.andThen_ok]
        rw [← Array.forIn_toList]
        have hloop : ∀ (F : Field → PUnit → Sem (ForInStep PUnit)), (∀ f, f.name ≠ "_" → ∀ v, (part f.type xs.toArray f.offset).run P w = .ok v w → (Instr.checkKey em D f.type v).run P w = .ok () w → (F f PUnit.unit).run P w = .ok (ForInStep.yield PUnit.unit) w) →
            ∀ (fs : List Field) (acc : List Leaf), fieldsL P (leafsP P d) fs acc = some ls → (forIn fs PUnit.unit F).run P w = .ok PUnit.unit w ∧ acc.length ≤ ls.length := by
          intro F hF fs
          induction fs with
          | nil => intro acc h; simp only [fieldsL, Option.some.injEq] at h; subst h; exact ⟨by simp, Nat.le_refl _⟩
          | cons f fs ih2 =>
            intro acc h
            simp only [fieldsL] at h
            split at h
            · rename_i hf
              split at h
              · rename_i ls1 i hl1 hi
                split at h
                · rename_i hsz
                  obtain ⟨h1, h2⟩ := ih2 _ h
                  rw [List.length_append] at h2
                  have hs : sizeP P f.type = some ls1.length := by simp [sizeP, hi, hsz]
                  obtain ⟨v, hv, hck⟩ := hpart f.type ls1 xs f.offset hl1 hs (by rw [hf.2, hx]; exact h2)
                  refine ⟨?_, by omega⟩
                  simp only [List.forIn_cons, Sem.run_bind, hF f hf.1 v hv hck, Result.andThen_ok]
                  exact h1
                · cases h
              · cases h
            · cases h
        have gen : ∀ (F : Field → PUnit → Sem (ForInStep PUnit)), (∀ f, f.name ≠ "_" → ∀ v, (part f.type xs.toArray f.offset).run P w = .ok v w → (Instr.checkKey em D f.type v).run P w = .ok () w → (F f PUnit.unit).run P w = .ok (ForInStep.yield PUnit.unit) w) →
            ((forIn fields.toList PUnit.unit F).run P w).andThen (fun _ w' => (pure () : Sem Unit).run P w') = .ok () w := fun F hF => by rw [(hloop F hF fields.toList [] hl).1]; rfl
        refine gen _ ?_
        intro f hn v hv hck
        simp [hn, hv, hck]
    · rename_i len el hu
      split at hl
      · rename_i ls1 i hl1 hi
        split at hl
        · rename_i hsz
          cases hl
          refine ⟨fun _ xs hx => ?_, fun hf => by simp [isAggP, hu] at hf⟩
          have hs : sizeP P el = some ls1.length := by simp [sizeP, hi, hsz]
          have hxl : xs.length = len * ls1.length := by rw [hx]; simp
          unfold Instr.checkKey
          simp only [Sem.run_bind, run_underlying hu, Result.andThen_ok]
          rw [Std.Legacy.Range.forIn_eq_forIn_range']
          simp only [Std.Legacy.Range.size, Nat.sub_zero, Nat.add_sub_cancel, Nat.div_one]
          have hloop : ∀ (F : Nat → PUnit → Sem (ForInStep PUnit)), (∀ i v, (part el xs.toArray (i * ls1.length)).run P w = .ok v w → (Instr.checkKey em D el v).run P w = .ok () w → (F i PUnit.unit).run P w = .ok (ForInStep.yield PUnit.unit) w) →
              ∀ (n s : Nat), s + n ≤ len → (forIn (List.range' s n 1) PUnit.unit F).run P w = .ok PUnit.unit w := by
            intro F hF n
            induction n with
            | zero => intro s _; simp
            | succ n ih2 =>
              intro s hsn
              obtain ⟨v, hv, hck⟩ := hpart el ls1 xs (s * ls1.length) hl1 hs (by
                rw [hxl, ← Nat.succ_mul]; exact Nat.mul_le_mul_right _ (by omega))
              rw [List.range'_succ]
              simp only [List.forIn_cons, Sem.run_bind, hF s v hv hck, Result.andThen_ok]
              exact ih2 (s + 1) (by omega)
          have gen : ∀ (F : Nat → PUnit → Sem (ForInStep PUnit)), (∀ i v, (part el xs.toArray (i * ls1.length)).run P w = .ok v w → (Instr.checkKey em D el v).run P w = .ok () w → (F i PUnit.unit).run P w = .ok (ForInStep.yield PUnit.unit) w) →
              ((forIn (List.range' 0 len 1) PUnit.unit F).run P w).andThen (fun _ w' => (pure () : Sem Unit).run P w') = .ok () w := fun F hF => by rw [hloop F hF len 0 (by omega)]; rfl
          refine gen _ ?_
          intro i v hv hck
          simp only [Sem.run_bind, run_sizeOf hs, Result.andThen_ok, hv, hck, Sem.run_pure]
        · cases hl
      · cases hl
    · cases hl

theorem checkKey_ok {t : TypeId} {tg : EqT} {u : AV} {x : Value} (ht : keyTag P t = some tg) (hf : keyFits tg u = true) (hr : VRel E u x) (em : Bool) (w : World) : (Instr.checkKey em 10000 t x).run P w = .ok () w := by
  rcases keyTag_ok ht with ⟨l, rfl, hl⟩ | ⟨ls, rfl, hl, ha⟩
  · unfold Instr.checkKey
    cases l with
    | bool => simp [run_underlying (show P.underlying t = some .bool from hl)]
    | int => obtain ⟨k, hk⟩ := hl; simp [run_underlying hk]
    | str => simp [run_underlying (show P.underlying t = some .string from hl)]
  · cases hr <;> simp only [keyFits] at hf <;> first | (cases hf; done) | skip
    rename_i cs ds hds
    exact (keyOKAt 20 t ls hl 10000 (by omega) em w).1 ha ds (by rw [← hds.length]; simpa using hf)

/-! ### Keys that are equal -/
theorem leafEq_true {l : Leaf} {u1 u2 : AV} {x1 x2 : Value} (hl : leafEq l u1 u2 = some true) (r1 : VRel E u1 x1) (r2 : VRel E u2 x2) : x1 = x2 ∧ ∀ n, Instr.sameBits n x1 x2 = true := by
  cases l with
  | bool =>
    cases r1 <;> cases r2 <;> simp only [leafEq] at hl <;> first | (cases hl; done) | skip
    rename_i a b
    have : a = b := by simpa using hl
    subst this
    exact ⟨rfl, fun n => by cases n <;> simp [Instr.sameBits]⟩
  | int =>
    cases r1 <;> cases r2 <;> simp only [leafEq] at hl <;> first | (cases hl; done) | skip
    split at hl
    · rename_i hk
      subst hk
      have := by simpa using hl
      subst this
      exact ⟨rfl, fun n => by cases n <;> simp [Instr.sameBits]⟩
    · cases hl
  | str =>
    cases r1 <;> cases r2 <;> simp only [leafEq] at hl <;> first | (cases hl; done) | skip
    rename_i s1 l1 q1 s2 l2 q2
    have he : l1 = l2 := by simpa using hl
    subst he
    have : s1 = s2 := by rw [← toBA_rel q1, ← toBA_rel q2]
    subst this
    exact ⟨rfl, fun n => by cases n <;> simp [Instr.sameBits, beq_toListBytes]⟩

theorem leafsEq_true : ∀ {ls : List Leaf} {us vs : List AV} {xs ys : List Value}, leafsEq ls us vs = some true → VsRel E us xs → VsRel E vs ys → xs = ys ∧ ∀ n, (xs.zip ys).all (fun (x, y) => Instr.sameBits n x y) = true
  | [], [], [], _, _, _, .nil, .nil => ⟨rfl, fun _ => rfl⟩
  | [], _ :: _, _, _, _, h, _, _ => by simp [leafsEq] at h
  | [], [], _ :: _, _, _, h, _, _ => by simp [leafsEq] at h
  | _ :: _, [], _, _, _, h, _, _ => by simp [leafsEq] at h
  | _ :: _, _ :: _, [], _, _, h, _, _ => by simp [leafsEq] at h
  | l :: ls, u :: us, v :: vs, _, _, h, .cons _ x _ xs h1 h1s, .cons _ y _ ys h2 h2s => by
    simp only [leafsEq] at h
    split at h
    · cases h
    · rename_i c hc
      split at h
      · cases h
      · rename_i r hr
        simp only [Option.some.injEq, Bool.and_eq_true] at h
        rw [h.1] at hc
        rw [h.2] at hr
        obtain ⟨e1, e2⟩ := leafEq_true hc h1 h2
        obtain ⟨e3, e4⟩ := leafsEq_true hr h1s h2s
        refine ⟨by rw [e1, e3], fun n => ?_⟩
        simp only [List.zip_cons_cons, List.all_cons, e2 n, e4 n, Bool.and_self]

theorem eqA_true {t : TypeId} {tg : EqT} {u1 u2 : AV} {x1 x2 : Value} (ht : keyTag P t = some tg) (hl : eqA tg u1 u2 = some true) (r1 : VRel E u1 x1) (r2 : VRel E u2 x2) : x1 = x2 ∧ Instr.sameBits 10000 x2 x1 = true := by
  rcases keyTag_ok ht with ⟨l, rfl, _⟩ | ⟨ls, rfl, _, _⟩
  · obtain ⟨e1, e2⟩ := leafEq_true hl r1 r2
    subst e1
    exact ⟨rfl, e2 _⟩
  · cases r1 <;> cases r2 <;> simp only [eqA] at hl <;> first | (cases hl; done) | skip
    rename_i h1 _ _ h2
    obtain ⟨e1, e2⟩ := leafsEq_true hl h1 h2
    subst e1
    exact ⟨rfl, by simp only [Instr.sameBits]; simpa using e2 9999⟩

/-! ### Looking for a key -/
def FoundRel (E : Emb) (i : Nat) (ms : List MapEntry) (x : Value) : Option (Nat × AV) → Option (Nat × Value) → Prop
  | none, none => True
  | some (j, v), some (j', y) => j = j' ∧ i ≤ j ∧ VRel E v y ∧ ∃ m, ms[j - i]? = some m ∧ Instr.sameBits 10000 m.key x = true
  | _, _ => False

theorem findNow_rel {t : TypeId} {l : Leaf} {d : TypeDesc} (hd : P.underlying t = some d) (ht : LeafTy P t l) {u : AV} {x : Value} (hr : VRel E u x) :
    ∀ {es : List (AV × AV)} {ms : List MapEntry} (i : Nat) {r : Option (Nat × AV)}, EntsRel E es ms → findKeyA (.leaf l) u es i = some r →
      ∃ r', Instr.findNow d x ms i = some r' ∧ FoundRel E i ms x r r' := by
  intro es
  induction es with
  | nil =>
    intro ms i r he hf
    cases he
    simp only [findKeyA, Option.some.injEq] at hf
    subst hf
    exact ⟨none, rfl, trivial⟩
  | cons p es ih =>
    obtain ⟨k, v⟩ := p
    intro ms i r he hf
    cases he with
    | cons _ _ m _ ms hk hv he =>
      simp only [findKeyA] at hf
      have hnow : ∀ b, leafEq l u k = some b → Instr.sameNow d x m.key = some b := by
        intro b hb
        cases l with
        | bool =>
          rw [show d = .bool by have := hd.symm.trans ht; simpa using this]
          generalize m.key = mk at hk
          cases hr <;> cases hk <;> simp only [leafEq] at hb <;> first | (cases hb; done) | exact hb
        | int =>
          obtain ⟨kk, hkk⟩ := ht
          rw [show d = .int kk by have := hd.symm.trans hkk; simpa using this]
          generalize m.key = mk at hk
          cases hr <;> cases hk <;> simp only [leafEq] at hb <;> first | (cases hb; done) | exact hb
        | str =>
          rw [show d = .string by have := hd.symm.trans ht; simpa using this]
          generalize m.key = mk at hk
          cases hr <;> cases hk <;> simp only [leafEq] at hb <;> first | (cases hb; done) | skip
          rename_i q1 _ _ q2
          simp only [Instr.sameNow, beq_toListBytes, strRel_inj q1 q2]
          exact hb
      split at hf
      · cases hf
      · rename_i hb
        cases hf
        have h1 := hnow true hb
        have hsm := leafEq_true hb hr hk
        refine ⟨some (i, m.val), by simp [Instr.findNow, h1], rfl, Nat.le_refl _, hv, m, by simp, ?_⟩
        have h2 := hsm.2 10000
        rw [hsm.1] at h2 ⊢
        exact h2
      · rename_i hb
        have h1 := hnow false hb
        obtain ⟨r', g1, g2⟩ := ih (i + 1) he hf
        refine ⟨r', by simp [Instr.findNow, h1, g1], ?_⟩
        cases r with
        | none => cases r' <;> exact g2
        | some q => cases r' with
          | none => exact g2
          | some q' =>
            obtain ⟨k1, k2, k3, m', k4, k5⟩ := g2
            refine ⟨k1, by omega, k3, m', ?_, k5⟩
            obtain ⟨dd, hdd⟩ : ∃ dd, q.1 - i = dd + 1 := ⟨q.1 - i - 1, by omega⟩
            rw [hdd, List.getElem?_cons_succ, ← k4]
            congr 1; omega

theorem findAsking_rel {t : TypeId} {tg : EqT} (ht : TagTy P t tg) (hk0 : keyTag P t = some tg) {u : AV} {x : Value} (hr : VRel E u x) (w : World) :
    ∀ {es : List (AV × AV)} {ms : List MapEntry} (i : Nat) {r : Option (Nat × AV)}, EntsRel E es ms → findKeyA tg u es i = some r →
      ∃ r', (Instr.findAsking t x ms i).run P w = .ok r' w ∧ FoundRel E i ms x r r' := by
  intro es
  induction es with
  | nil =>
    intro ms i r he hf
    cases he
    simp only [findKeyA, Option.some.injEq] at hf
    subst hf
    exact ⟨none, rfl, trivial⟩
  | cons p es ih =>
    obtain ⟨k, v⟩ := p
    intro ms i r he hf
    cases he with
    | cons _ _ m _ ms hk hv he =>
      simp only [findKeyA] at hf
      split at hf
      · cases hf
      · rename_i hb
        cases hf
        have h1 := eqA_rel ht hb hr hk w
        exact ⟨some (i, m.val), by simp [Instr.findAsking, h1], rfl, Nat.le_refl _, hv, m, by simp, (eqA_true hk0 hb hr hk).2⟩
      · rename_i hb
        have h1 := eqA_rel ht hb hr hk w
        obtain ⟨r', g1, g2⟩ := ih (i + 1) he hf
        refine ⟨r', by simp [Instr.findAsking, h1, g1], ?_⟩
        cases r with
        | none => cases r' <;> exact g2
        | some q => cases r' with
          | none => exact g2
          | some q' =>
            obtain ⟨k1, k2, k3, m', k4, k5⟩ := g2
            refine ⟨k1, by omega, k3, m', ?_, k5⟩
            obtain ⟨dd, hdd⟩ : ∃ dd, q.1 - i = dd + 1 := ⟨q.1 - i - 1, by omega⟩
            rw [hdd, List.getElem?_cons_succ, ← k4]
            congr 1; omega

theorem findKey_rel {t : TypeId} {tg : EqT} (ht : keyTag P t = some tg) {u : AV} {x : Value} (hr : VRel E u x) (w : World) {es : List (AV × AV)} {ms : List MapEntry} {r : Option (Nat × AV)} (he : EntsRel E es ms)
    (hf : findKeyA tg u es 0 = some r) :
    ∃ r', (Instr.findKey t x ms).run P w = .ok r' w ∧ FoundRel E 0 ms x r r' := by
  rcases keyTag_ok ht with ⟨l, rfl, hl⟩ | ⟨ls, rfl, hl, ha⟩
  · have hd : ∃ d, P.underlying t = some d := by cases l with
      | bool => exact ⟨_, hl⟩
      | int => obtain ⟨k, hk⟩ := hl; exact ⟨_, hk⟩
      | str => exact ⟨_, hl⟩
    obtain ⟨d, hd⟩ := hd
    obtain ⟨r', g1, g2⟩ := findNow_rel hd hl hr 0 he hf
    exact ⟨r', by simp [Instr.findKey, run_underlying hd, g1], g2⟩
  · obtain ⟨d, hd⟩ : ∃ d, P.underlying t = some d := by
      unfold isAggP at ha
      cases hu : P.underlying t with
      | none => simp [hu] at ha
      | some d => exact ⟨d, rfl⟩
    obtain ⟨r', g1, g2⟩ := findAsking_rel (tg := .agg ls) ⟨hl, ha⟩ ht hr w 0 he hf
    have hagg : aggD d = true := by rw [isAggP_of hd] at ha; simpa using ha
    cases ms with
    | nil =>
      cases he
      simp only [findKeyA, Option.some.injEq] at hf
      subst hf
      exact ⟨none, by simp [Instr.findKey, run_underlying hd, Instr.findNow], trivial⟩
    | cons m ms =>
      refine ⟨r', ?_, g2⟩
      have : Instr.findNow d x (m :: ms) 0 = none := by
        have : Instr.sameNow d x m.key = none := by cases d <;> simp_all [aggD, Instr.sameNow]
        simp [Instr.findNow, this]
      simp [Instr.findKey, run_underlying hd, this, g1]

theorem EntsRel.snoc {k v : AV} {m : MapEntry} (hk : VRel E k m.key) (hv : VRel E v m.val) : ∀ {es : List (AV × AV)} {ms : List MapEntry}, EntsRel E es ms → EntsRel E (es ++ [(k, v)]) (ms ++ [m])
  | _, _, .nil => .cons _ _ _ _ _ hk hv .nil
  | _, _, .cons k' v' m' es ms h1 h2 h3 => .cons _ _ _ _ _ h1 h2 (h3.snoc hk hv)

theorem born_modify {f : MapEntry → MapEntry} (hf : ∀ m, (f m).born = m.born) : ∀ {ms : List MapEntry} {i : Nat}, (ms.modify i f).map MapEntry.born = ms.map MapEntry.born
  | [], i => by simp
  | m :: ms, 0 => by simp [hf]
  | m :: ms, i + 1 => by simp [born_modify hf]

theorem EntsRel.modify {k v : AV} {x y : Value} (hk : VRel E k x) (hv : VRel E v y) : ∀ {es : List (AV × AV)} {ms : List MapEntry} (i : Nat), EntsRel E es ms → i < ms.length →
    EntsRel E (es.take i ++ (k, v) :: es.drop (i + 1)) (ms.modify i fun m => { m with key := x, val := y })
  | _, _, i, .nil, h => by simp at h
  | _, _, 0, .cons k' v' m' es ms h1 h2 h3, _ => by simp; exact .cons _ _ _ _ _ hk hv h3
  | _, _, i + 1, .cons k' v' m' es ms h1 h2 h3, h => by
    simp only [List.take_succ_cons, List.drop_succ_cons, List.modify_succ_cons, List.cons_append]
    exact .cons _ _ _ _ _ h1 h2 (h3.modify hk hv i (by simpa using h))

section ops
variable {dst : Option Tmp} {ty : TypeId} {pos : String} {after : Array Edge} {g : Option (Nat × Bool)} {id : Nat} {h' : Heap} {v : AV} {t yt : TypeId} {x y z : Operand} {sx sy sz : Src}

theorem sim_lookup {kt el : TypeId} {tg : EqT} {zv : AV} {ok : Bool} (H : HRel R Old w0 E h w) (hE : EnvRel E e a.tmps) (hx : cSrc x = some sx) (hy : cSrc y = some sy) (ht : P.underlying t = some (.map kt el)) (hk : keyTag P kt = some tg)
    (hz : cZero P el = some zv) (hv : op_lookup tg zv ok sx sy e h = some (v, h')) : Sim R Old w0 E h' id v ((execOp a.eval (mkO dst (.lookup t x y ok) ty pos after g)).run P w) := by
  unfold op_lookup at hv
  split at hv
  · rename_i u1 u2 h1 h2
    have r1 := src_rel hE hx h1
    have r2 := src_rel hE hy h2
    generalize hxv : a.eval x = xv at r1
    generalize hyv : a.eval y = yv at r2
    split at hv
    · rename_i u hu
      cases hv
      -- the entries
      have hes : ∃ es ms, lookupA h tg zv ok u1 u2 = lookIn tg zv ok u2 es ∧ EntsRel E es ms ∧
          ((xv = .map none ∧ ms = []) ∨ ∃ r clock mm, xv = .map (some r) ∧ (getObj r).run P w = .ok (.map mm clock) w ∧ mm.toList = ms) := by
        cases r1 <;> simp only [lookupA, mapEs] at hu <;> first | (cases hu; done) | skip
        · exact ⟨[], [], rfl, .nil, .inl ⟨rfl, rfl⟩⟩
        · rename_i r hr
          cases hm : h.get r with
          | none => simp [hm] at hu
          | some o => cases o with
            | map es =>
              obtain ⟨_, _, ms, clock, a1, a2, _⟩ := H.objs _ _ hm
              exact ⟨es, ms.toList, by simp only [lookupA, mapEs, hm], a2, .inr ⟨_, clock, ms, rfl, by simp [getObj, Sem.run, a1], rfl⟩⟩
            | _ => simp [hm] at hu
      obtain ⟨es, ms, hle, her, hms⟩ := hes
      rw [hle] at hu
      unfold lookIn at hu
      split at hu
      · cases hu
      · rename_i hfit
        have hfit' : keyFits tg u2 = true := by simpa using hfit
        obtain ⟨zx, hzx, hzr⟩ := run_zero (E := E) hz w
        split at hu
        · cases hu
        · rename_i j vv hf
          cases hu
          obtain ⟨r', g1, g2⟩ := findKey_rel (P := P) hk r2 w her hf
          cases r' with
          | none => exact g2.elim
          | some q =>
            obtain ⟨j', yy⟩ := q
            obtain ⟨k1, _, k2, k3⟩ := g2
            refine .val H (x := if ok then .tuple #[yy, .bool true] else yy) ?_ ?_
            · rcases hms with ⟨rfl, rfl⟩ | ⟨r, clock, mm, rfl, hg, rfl⟩
              · simp [Instr.findKey] at g1; cases her; simp [findKeyA] at hf
              · simp [execOp, hxv, hyv, Instr.lookup, run_underlying ht, hg, checkKey_ok hk hfit' r2, g1]
            · cases ok
              · exact k2
              · exact .tuple _ [_, _] (.cons _ _ _ _ k2 (.cons _ _ _ _ (.bool _) .nil))
        · rename_i hf
          cases hu
          obtain ⟨r', g1, g2⟩ := findKey_rel (P := P) hk r2 w her hf
          cases r' with
          | some q => exact g2.elim
          | none =>
            refine .val H (x := if ok then .tuple #[zx, .bool false] else zx) ?_ ?_
            · rcases hms with ⟨rfl, rfl⟩ | ⟨r, clock, mm, rfl, hg, rfl⟩
              · simp [execOp, hxv, hyv, Instr.lookup, run_underlying ht, checkKey_ok hk hfit' r2, g1, hzx]
              · simp [execOp, hxv, hyv, Instr.lookup, run_underlying ht, hg, checkKey_ok hk hfit' r2, g1, hzx]
            · cases ok
              · exact hzr
              · exact .tuple _ [_, _] (.cons _ _ _ _ hzr (.cons _ _ _ _ (.bool _) .nil))
    · cases hv
  · cases hv

theorem sim_mapUpdate {kt el : TypeId} {tg : EqT} (H : HRel R Old w0 E h w) (hE : EnvRel E e a.tmps) (hx : cSrc x = some sx) (hy : cSrc y = some sy) (hz : cSrc z = some sz) (ht : P.underlying t = some (.map kt el)) (hk : keyTag P kt = some tg)
    (hv : op_mapUpdate tg sx sy sz e h = some (v, h')) :
    Sim R Old w0 E h' id v ((execOp a.eval (mkO dst (.mapUpdate t x y z) ty pos after g)).run P w) ∧ Sim R Old w0 E h' id v ((execOp a.eval (mkO dst (.insert t x y z) ty pos after g)).run P w) := by
  unfold op_mapUpdate at hv
  split at hv
  · rename_i u1 u2 u3 h1 h2 h3
    have r1 := src_rel hE hx h1
    have r2 := src_rel hE hy h2
    have r3 := src_rel hE hz h3
    generalize hxv : a.eval x = xv at r1
    generalize hyv : a.eval y = yv at r2
    generalize hzv : a.eval z = zv at r3
    split at hv
    · rename_i h2' hu
      cases hv
      have main : ∃ w', (Instr.mapUpdate t xv yv zv).run P w = .ok () w' ∧ HRel R Old w0 E h' w' := by
        cases r1 <;> simp only [mapUpdateA] at hu <;> first | (cases hu; done) | skip
        rename_i r hr
        cases hm : h.get r with
        | none => simp [hm] at hu
        | some o => cases o with
          | map es =>
            simp only [hm] at hu
            obtain ⟨_, hrm, ms, clock, a1, a2, a3, a4⟩ := H.objs _ _ hm
            have hlt : (E.ρ r).1 < w.heap.size := (Array.getElem?_eq_some_iff.1 a1).1
            have hget : (getObj (E.ρ r).1).run P w = .ok (.map ms clock) w := by simp [getObj, Sem.run, a1]
            have hset : ∀ o, (setObj (E.ρ r).1 o).run P w = .ok () (w.putObj (E.ρ r).1 o) := fun o => by simp [setObj, Sem.run, a1, World.putObj]
            split at hu
            · cases hu
            · rename_i hfit
              have hck := checkKey_ok (P := P) hk (show keyFits tg u2 = true by simpa using hfit) r2 false w
              split at hu
              · cases hu
              · rename_i i vv hf
                cases hu
                obtain ⟨r', g1, g2⟩ := findKey_rel (P := P) hk r2 w a2 hf
                cases r' with
                | none => exact g2.elim
                | some q =>
                  obtain ⟨i', yy⟩ := q
                  obtain ⟨rfl, _, k2, m, k4, hsame⟩ := g2
                  have hil : i < ms.toList.length := (List.getElem?_eq_some_iff.1 k4).1
                  have hmi : ms[i]? = some m := by simpa using k4
                  have H' := H.putObj (o' := .map (es.take i ++ (u2, u3) :: es.drop (i + 1))) (obj := .map (ms.modify i fun e => { e with key := yv, val := zv }) clock) hm rfl (fun _ _ => by simp) rfl
                    ⟨_, _, World.putObj_heap_same hlt, by rw [Array.toList_modify]; exact a2.modify r2 r3 i hil, by rw [a3]; have := a2.length; simp; omega, by
                      rw [Array.toList_modify, born_modify (f := fun e => { e with key := yv, val := zv }) (fun _ => rfl), a4]; have := a2.length; congr 1; simp; omega⟩
                  refine ⟨_, ?_, H'⟩
                  simp [Instr.mapUpdate, run_underlying ht, hget, hck, g1, hmi, Instr.keyThatStays, hsame, hset]
              · rename_i hf
                cases hu
                obtain ⟨r', g1, g2⟩ := findKey_rel (P := P) hk r2 w a2 hf
                cases r' with
                | some q => exact g2.elim
                | none =>
                  have H' := H.putObj (o' := .map (es ++ [(u2, u3)])) (obj := .map (ms.push { key := yv, val := zv, born := clock }) (clock + 1)) hm rfl (fun _ _ => by simp) rfl
                    ⟨_, _, World.putObj_heap_same hlt, by rw [Array.toList_push]; exact EntsRel.snoc r2 r3 a2, by rw [a3]; simp, by rw [Array.toList_push, List.map_append, a4, List.length_append, List.length_singleton, List.range_succ, a3]; rfl⟩
                  refine ⟨_, ?_, H'⟩
                  simp [Instr.mapUpdate, run_underlying ht, hget, hck, g1, hset]
          | _ => simp [hm] at hu
      obtain ⟨w', hw, H'⟩ := main
      exact ⟨.unit H' (by simp [execOp, hxv, hyv, hzv, hw]), .unit H' (by simp [execOp, hxv, hyv, hzv, hw])⟩
    · cases hv
  · cases hv

end ops
end Go.Ab
