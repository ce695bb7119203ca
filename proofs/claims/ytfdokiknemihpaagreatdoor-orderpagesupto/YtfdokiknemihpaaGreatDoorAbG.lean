/- Comparison of structs and arrays; parts of values. -/
import Derived.Test.YtfdokiknemihpaaGreatDoorAbF
namespace Go.Ab
variable {P : Program} {R : CodeRel} {Old : Nat → Prop} {w0 w : World} {E : Emb} {h : Heap} {a : Act} {e : Env}

theorem leafsEq_split : ∀ (l1 l2 : List Leaf) (us vs : List AV) (b : Bool), leafsEq (l1 ++ l2) us vs = some b →
    ∃ b1 b2, leafsEq l1 (us.take l1.length) (vs.take l1.length) = some b1 ∧ leafsEq l2 (us.drop l1.length) (vs.drop l1.length) = some b2 ∧ b = (b1 && b2)
  | [], l2, us, vs, b, hb => ⟨true, b, by simp [leafsEq], by simpa using hb, by simp⟩
  | l :: l1, l2, us, vs, b, hb => by
    cases us with
    | nil => simp [leafsEq] at hb
    | cons u us => cases vs with
      | nil => simp [leafsEq] at hb
      | cons v vs =>
        simp only [List.cons_append, leafsEq] at hb
        split at hb
        · cases hb
        · rename_i c hc
          split at hb
          · cases hb
          · rename_i r hr
            cases hb
            obtain ⟨b1, b2, e1, e2, e3⟩ := leafsEq_split l1 l2 us vs r hr
            refine ⟨c && b1, b2, ?_, by simpa using e2, by rw [e3, Bool.and_assoc]⟩
            simp [leafsEq, hc, e1]

theorem run_part_one {t : TypeId} {xs : List Value} {off : Nat} {x : Value} (ht : isAggP P t = some false) (hx : xs[off]? = some x) (w : World) : (part t xs.toArray off).run P w = .ok x w := by
  simp [part, run_isAgg ht, hx]

theorem run_part_agg {t : TypeId} {xs : List Value} {off n : Nat} (ht : isAggP P t = some true) (hn : sizeP P t = some n) (w : World) :
    (part t xs.toArray off).run P w = .ok (.agg ((xs.drop off).take n).toArray) w := by
  simp only [part, Sem.run_bind, run_isAgg ht, Result.andThen_ok, if_true, run_sizeOf hn, Sem.run_pure]
  rw [List.extract_toArray, List.extract_eq_take_drop, Nat.add_sub_cancel_left]

def eqElems (d : Nat) (el : TypeId) (n : Nat) (xs ys : Array Value) : List Nat → Sem Bool
  | [] => pure true
  | i :: is => do
      let a ← part el xs (i * n)
      let b ← part el ys (i * n)
      let r ← Op.equalIn d el a b
      if (!r) = true then pure false else eqElems d el n xs ys is

theorem run_equalIn_array (d len : Nat) (t el : TypeId) (n : Nat) (xs ys : Array Value) (ht : P.underlying t = some (.array len el)) (hn : sizeP P el = some n) (w : World) :
    (Op.equalIn (d + 1) t (.agg xs) (.agg ys)).run P w = (eqElems d el n xs ys (List.range' 0 len 1)).run P w := by
  simp only [Op.equalIn, Sem.run_bind, run_underlying ht, Result.andThen_ok, run_sizeOf hn]
  rw [Std.Legacy.Range.forIn_eq_forIn_range']
  simp only [Std.Legacy.Range.size, Nat.sub_zero, Nat.add_sub_cancel, Nat.div_one]
  generalize List.range' 0 len 1 = is
  induction is generalizing w with
  | nil => simp [eqElems]
  | cons i is ih =>
    simp only [List.forIn_cons, eqElems, Sem.run_bind, Sem.run_ite]
    generalize (part el xs (i * n)).run P w = r1
    cases r1 with
    | ok a w1 =>
      simp only [Result.andThen_ok]
      generalize (part el ys (i * n)).run P w1 = r2
      cases r2 with
      | ok b w2 =>
        simp only [Result.andThen_ok]
        generalize (Op.equalIn d el a b).run P w2 = r3
        cases r3 with
        | ok r w3 =>
          cases r
          · simp only [Result.andThen_ok, Bool.not_false, if_true, Sem.run_pure]
          · simp only [Result.andThen_ok, Bool.not_true, Bool.false_eq_true, if_false, Sem.run_pure]
            exact ih w3
        | halt x w3 => simp [Result.andThen]
      | halt x w2 => simp [Result.andThen]
    | halt x w1 => simp [Result.andThen]

/-- What is compared: the values of a type whose leaves are known, each cell of its kind. -/
def EqAt (P : Program) (d : Nat) : Prop :=
  ∀ t ls, leafsP P d t = some ls → ∀ D, d ≤ D → ∀ (E : Emb) (us vs : List AV) (xs ys : List Value) (b : Bool) (w : World), VsRel E us xs → VsRel E vs ys → leafsEq ls us vs = some b →
    (isAggP P t = some true → (Op.equalIn D t (.agg xs.toArray) (.agg ys.toArray)).run P w = .ok b w) ∧
    (isAggP P t = some false → ∃ x y, xs = [x] ∧ ys = [y] ∧ (Op.equalIn D t x y).run P w = .ok b w)

theorem leafsEq_length : ∀ {ls : List Leaf} {us vs : List AV} {b : Bool}, leafsEq ls us vs = some b → us.length = ls.length ∧ vs.length = ls.length
  | [], [], [], _, _ => ⟨rfl, rfl⟩
  | [], _ :: _, _, _, h => by simp [leafsEq] at h
  | [], [], _ :: _, _, h => by simp [leafsEq] at h
  | _ :: _, [], _, _, h => by simp [leafsEq] at h
  | _ :: _, _ :: _, [], _, h => by simp [leafsEq] at h
  | l :: ls, u :: us, v :: vs, b, h => by
    simp only [leafsEq] at h
    split at h
    · cases h
    · split at h
      · cases h
      · rename_i r hr
        have := leafsEq_length hr
        simp [this.1, this.2]

theorem leafsP_isAgg {d : Nat} {t : TypeId} {ls : List Leaf} (hl : leafsP P d t = some ls) : ∃ b, isAggP P t = some b := by
  cases d with
  | zero => simp [leafsP] at hl
  | succ d =>
    simp only [leafsP] at hl
    unfold isAggP
    split at hl <;> first | (cases hl; done) | (rename_i hu; rw [hu]; exact ⟨_, rfl⟩)

/-- A part of two values, compared. -/
theorem eq_part {d : Nat} (hd : EqAt P d) {t : TypeId} {ls : List Leaf} (hl : leafsP P d t = some ls) (hs : sizeP P t = some ls.length) {D : Nat} (hD : d ≤ D) {us vs : List AV} {xs ys : List Value}
    (h1 : VsRel E us xs) (h2 : VsRel E vs ys) {off : Nat} {b : Bool} (hb : leafsEq ls ((us.drop off).take ls.length) ((vs.drop off).take ls.length) = some b) (w : World) :
    ∃ p q, (part t xs.toArray off).run P w = .ok p w ∧ (part t ys.toArray off).run P w = .ok q w ∧ (Op.equalIn D t p q).run P w = .ok b w := by
  obtain ⟨c, hc⟩ := leafsP_isAgg hl
  have h3 := (h1.drop off).take ls.length
  have h4 := (h2.drop off).take ls.length
  have key := hd t ls hl D hD E _ _ _ _ b w h3 h4 hb
  cases c with
  | true => exact ⟨_, _, run_part_agg hc hs w, run_part_agg hc hs w, key.1 hc⟩
  | false =>
    obtain ⟨x, y, e1, e2, e3⟩ := key.2 hc
    have g : ∀ (zs : List Value) (z : Value), (zs.drop off).take ls.length = [z] → zs[off]? = some z := fun zs z hz => by
      have : ((zs.drop off).take ls.length)[0]? = some z := by rw [hz]; rfl
      rw [List.getElem?_take] at this
      split at this
      · simpa [List.getElem?_drop] using this
      · cases this
    exact ⟨x, y, run_part_one hc (g _ _ e1) w, run_part_one hc (g _ _ e2) w, e3⟩

theorem eq_fields {d : Nat} (hd : EqAt P d) {D : Nat} (hD : d ≤ D) {us vs : List AV} {xs ys : List Value} (h1 : VsRel E us xs) (h2 : VsRel E vs ys) (w : World) :
    ∀ (fs : List Field) (acc ls : List Leaf) (b : Bool), fieldsL P (leafsP P d) fs acc = some ls → ∀ rest, ls = acc ++ rest → leafsEq rest (us.drop acc.length) (vs.drop acc.length) = some b →
      (Op.eqFields D xs.toArray ys.toArray fs).run P w = .ok b w := by
  intro fs
  induction fs with
  | nil =>
    intro acc ls b hl rest hrest hb
    simp only [fieldsL, Option.some.injEq] at hl
    subst hl
    have : rest = [] := by simpa using hrest
    subst this
    have hlen := leafsEq_length hb
    have e1 : us.drop acc.length = [] := List.eq_nil_of_length_eq_zero hlen.1
    have e2 : vs.drop acc.length = [] := List.eq_nil_of_length_eq_zero hlen.2
    rw [e1, e2] at hb
    simp [leafsEq] at hb
    simp [Op.eqFields, hb]
  | cons f fs ih =>
    intro acc ls b hl rest hrest hb
    simp only [fieldsL] at hl
    split at hl
    · rename_i hf
      split at hl
      · rename_i ls1 i hl1 hi
        split at hl
        · rename_i hsz
          have hex : ∀ (fs : List Field) (acc ls : List Leaf), fieldsL P (leafsP P d) fs acc = some ls → ∃ r, ls = acc ++ r := by
            intro fs
            induction fs with
            | nil => intro acc ls h; simp [fieldsL] at h; exact ⟨[], by simp [h]⟩
            | cons f fs ih' =>
              intro acc ls h
              simp only [fieldsL] at h
              split at h
              · split at h
                · split at h
                  · obtain ⟨r, hr⟩ := ih' _ _ h; exact ⟨_, by rw [hr, List.append_assoc]⟩
                  · cases h
                · cases h
              · cases h
          obtain ⟨r2, hr2⟩ := hex _ _ _ hl
          have hr : rest = ls1 ++ r2 := by
            rw [hr2, List.append_assoc] at hrest
            exact (List.append_cancel_left hrest).symm
          subst hr
          obtain ⟨b1, b2, hb1, hb2, rfl⟩ := leafsEq_split _ _ _ _ _ hb
          have hs : sizeP P f.type = some ls1.length := by simp [sizeP, hi, hsz]
          rw [← hf.2] at hb1
          obtain ⟨p, q, hp, hq, he⟩ := eq_part hd hl1 hs hD h1 h2 hb1 w
          have ih1 := ih (acc ++ ls1) ls b2 hl r2 hr2 (by rw [List.length_append, ← List.drop_drop, ← List.drop_drop]; exact hb2)
          simp only [Op.eqFields, if_pos hf.1, Sem.run_bind, hp, hq, he, Result.andThen_ok, Sem.run_ite, ih1]
          cases b1 <;> simp
        · cases hl
      · cases hl
    · cases hl

theorem eq_elems {d : Nat} (hd : EqAt P d) {D : Nat} (hD : d ≤ D) {el : TypeId} {ls : List Leaf} (hl : leafsP P d el = some ls) (hs : sizeP P el = some ls.length) {us vs : List AV} {xs ys : List Value}
    (h1 : VsRel E us xs) (h2 : VsRel E vs ys) (w : World) : ∀ (n s : Nat) (b : Bool), leafsEq (List.replicate n ls).flatten (us.drop (s * ls.length)) (vs.drop (s * ls.length)) = some b →
      (eqElems D el ls.length xs.toArray ys.toArray (List.range' s n 1)).run P w = .ok b w := by
  intro n
  induction n with
  | zero =>
    intro s b hb
    simp at hb
    have hlen := leafsEq_length hb
    have e1 : us.drop (s * ls.length) = [] := List.eq_nil_of_length_eq_zero hlen.1
    have e2 : vs.drop (s * ls.length) = [] := List.eq_nil_of_length_eq_zero hlen.2
    rw [e1, e2] at hb
    simp [leafsEq] at hb
    simp [eqElems, hb]
  | succ n ih =>
    intro s b hb
    rw [List.replicate_succ, List.flatten_cons] at hb
    obtain ⟨b1, b2, hb1, hb2, rfl⟩ := leafsEq_split _ _ _ _ _ hb
    obtain ⟨p, q, hp, hq, he⟩ := eq_part hd hl hs hD h1 h2 hb1 w
    have ih1 := ih (s + 1) b2 (by rw [Nat.add_mul, Nat.one_mul, ← List.drop_drop, ← List.drop_drop]; exact hb2)
    rw [List.range'_succ]
    simp only [eqElems, Sem.run_bind, hp, hq, he, Result.andThen_ok, Sem.run_ite, ih1]
    cases b1 <;> simp

theorem eqAt (d : Nat) : EqAt P d := by
  induction d with
  | zero => intro t ls hl; simp [leafsP] at hl
  | succ d ih =>
    intro t ls hl D hD E us vs xs ys b w h1 h2 hb
    obtain ⟨D, rfl⟩ : ∃ k, D = k + 1 := ⟨D - 1, by omega⟩
    have leaf : ∀ (l : Leaf), ls = [l] → LeafTy P t l →
        ∃ x y, xs = [x] ∧ ys = [y] ∧ (Op.equalIn (D + 1) t x y).run P w = .ok b w := fun l hll ht => by
      subst hll
      have hlen := leafsEq_length hb
      cases h1 with
      | nil => simp at hlen
      | cons u x us xs hu hus => cases h2 with
        | nil => simp at hlen
        | cons v y vs ys hv hvs =>
          have e1 : us = [] := List.eq_nil_of_length_eq_zero (by simpa using hlen.1)
          have e2 : vs = [] := List.eq_nil_of_length_eq_zero (by simpa using hlen.2)
          subst e1; subst e2
          cases hus; cases hvs
          refine ⟨x, y, rfl, rfl, ?_⟩
          simp only [leafsEq] at hb
          split at hb
          · cases hb
          · rename_i c hc
            have : b = c := by simpa [eq_comm] using hb
            subst this
            exact leafEq_rel hc hu hv ht D w
    simp only [leafsP] at hl
    split at hl
    · rename_i hu; cases hl
      exact ⟨fun hf => by simp [isAggP, hu] at hf, fun _ => leaf .bool rfl hu⟩
    · rename_i k hu; cases hl
      exact ⟨fun hf => by simp [isAggP, hu] at hf, fun _ => leaf .int rfl ⟨k, hu⟩⟩
    · rename_i hu; cases hl
      exact ⟨fun hf => by simp [isAggP, hu] at hf, fun _ => leaf .str rfl hu⟩
    · rename_i fields hu
      split at hl
      · cases hl
      · rename_i hst
        refine ⟨fun _ => ?_, fun hf => by simp [isAggP, hu] at hf⟩
        have hfo : P.fieldsOf t = fields := by simp [Program.fieldsOf, hu]
        rw [run_equalIn_struct w D t xs.toArray ys.toArray (by rw [hfo]; exact hu) (by simpa using hst), hfo]
        exact eq_fields ih (by omega) h1 h2 w fields.toList [] ls b hl ls rfl (by simpa using hb)
    · rename_i len el hu
      split at hl
      · rename_i ls1 i hl1 hi
        split at hl
        · rename_i hsz
          cases hl
          refine ⟨fun _ => ?_, fun hf => by simp [isAggP, hu] at hf⟩
          have hs : sizeP P el = some ls1.length := by simp [sizeP, hi, hsz]
          rw [run_equalIn_array D len t el ls1.length xs.toArray ys.toArray hu hs w]
          exact eq_elems ih (by omega) hl1 hs h1 h2 w len 0 b (by simpa using hb)
        · cases hl
      · cases hl
    · cases hl

end Go.Ab
