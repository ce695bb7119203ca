/- How printed functions are written; a context's functions as a tree. -/
import Derived.Test.YtfdokiknemihpaaGreatDoorAbB
import Derived.KernelRfl
namespace Go.Ab

/-! ### How printed operations are written -/
abbrev oD (d : Nat) (k : OpK) : AOp := ⟨some d, none, k, []⟩
abbrev oN (k : OpK) : AOp := ⟨none, none, k, []⟩
abbrev oG (d t : Nat) (b : Bool) (k : OpK) : AOp := ⟨some d, some (t, b), k, []⟩

/-! ### A context's functions -/
inductive FT where
  | e
  | n (k : Nat) (F : AFunc) (l r : FT)

def FT.get : FT → Nat → Option AFunc
  | .e, _ => none
  | .n k F l r, i => match Nat.beq i k with
    | true => some F
    | false => match Nat.blt i k with
      | true => l.get i
      | false => r.get i

def FT.All (p : Nat → AFunc → Prop) : FT → Prop
  | .e => True
  | .n k F l r => p k F ∧ l.All p ∧ r.All p

theorem FT.all_get {p : Nat → AFunc → Prop} : ∀ {t : FT}, t.All p → ∀ {i : Nat} {F : AFunc}, t.get i = some F → p i F
  | .e, _, _, _, h => by cases h
  | .n k F l r, ha, i, F', h => by
    obtain ⟨h1, h2, h3⟩ := ha
    simp only [FT.get] at h
    split at h
    · rename_i hb
      cases h
      rw [Nat.eq_of_beq_eq_true hb]
      exact h1
    · split at h
      · exact FT.all_get h2 h
      · exact FT.all_get h3 h

/-- A function of the program, as it is in a context. -/
abbrev FnOK (P : Program) (pure : List Nat) (f : Nat) (F : AFunc) : Prop := ∃ fn kr kl, P.funcs[f]? = some fn ∧ compF P pure kr kl fn = some F

end Go.Ab
