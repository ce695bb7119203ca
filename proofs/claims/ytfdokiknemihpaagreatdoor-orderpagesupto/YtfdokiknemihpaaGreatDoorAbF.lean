/- More operations: arithmetic, comparison, parts of values, addresses, slices. -/
import Derived.Test.YtfdokiknemihpaaGreatDoorAbE
import Derived.Laws.StructEq
namespace Go.Ab
variable {P : Program} {R : CodeRel} {Old : Nat → Prop} {w0 w : World} {E : Emb} {h : Heap} {a : Act} {e : Env}

theorem strRel_inj {s t : ByteArray} {l m : List Nat} (h1 : s.data.toList.map UInt8.toNat = l) (h2 : t.data.toList.map UInt8.toNat = m) : (s.toList == t.toList) = (l == m) := by
  rw [ByteArray.toList_eq, ByteArray.toList_eq]
  subst h1; subst h2
  rw [Bool.eq_iff_iff]
  simp only [beq_iff_eq]
  constructor
  · intro he; rw [he]
  · intro he
    exact (List.map_inj_right (fun _ _ hh => UInt8.toNat_inj.1 hh)).1 he

theorem bytesLt_rel : ∀ (x y : List UInt8), Op.bytesLess x y = bytesLt (x.map UInt8.toNat) (y.map UInt8.toNat)
  | x, [] => by cases x <;> rfl
  | [], _ :: _ => rfl
  | a :: x, b :: y => by
    simp only [Op.bytesLess, List.map_cons, bytesLt, bytesLt_rel x y]
    congr 1
    · congr 1
      rw [Bool.eq_iff_iff]; simp [UInt8.toNat_inj]

section ops
variable {dst : Option Tmp} {ty : TypeId} {pos : String} {after : Array Edge} {g : Option (Nat × Bool)} {id : Nat} {h' : Heap} {v : AV} {t yt : TypeId} {x y z : Operand} {sx sy sz : Src}

theorem eqGuard_int (op : BinOp) (t : TypeId) (x y : Operand) (k k' : IntKind) (m n : Int) (w : World) : (eqGuard op t x y (.int k m) (.int k' n)).run P w = .ok () w := by
  cases op <;> simp [eqGuard]
theorem eqGuard_str (op : BinOp) (t : TypeId) (x y : Operand) (m n : ByteArray) (w : World) : (eqGuard op t x y (.string m) (.string n)).run P w = .ok () w := by
  cases op <;> simp [eqGuard]

theorem sim_bin {op : BinOp} (H : HRel R Old w0 E h w) (hE : EnvRel E e a.tmps) (hx : cSrc x = some sx) (hy : cSrc y = some sy) (hv : op_bin op sx sy e h = some (v, h')) :
    Sim R Old w0 E h' id v ((execOp a.eval (mkO dst (.binOp op t x y yt) ty pos after g)).run P w) := by
  unfold op_bin at hv
  split at hv
  · rename_i u1 u2 h1 h2
    have r1 := src_rel hE hx h1
    have r2 := src_rel hE hy h2
    generalize hxv : a.eval x = xv at r1
    generalize hyv : a.eval y = yv at r2
    split at hv
    · rename_i u hu
      cases hv
      unfold binOpA at hu
      split at hu
      · rename_i k m k' n
        cases r1; cases r2
        split at hu
        · rename_i hsh
          unfold binShift at hu
          split at hu
          · cases hu
          · rename_i hneg
            split at hu <;> cases hu
            · exact .val H (by simp only [execOp, hxv, hyv, Sem.run_bind, eqGuard_int, Result.andThen_ok, binOp, Op.shift, if_neg hneg, Sem.run_pure]) (.int _ _)
            · exact .val H (by simp only [execOp, hxv, hyv, Sem.run_bind, eqGuard_int, Result.andThen_ok, binOp, Op.shift, if_neg hneg, Sem.run_pure]) (.int _ _)
        · split at hu
          · rename_i hsh hk
            subst hk
            unfold binInt at hu
            split at hu <;> first | (cases hu; done) | skip
            all_goals first
              | (cases hu; refine .val H ?_ (.int _ _); simp only [execOp, hxv, hyv, Sem.run_bind, eqGuard_int, Result.andThen_ok, binOp, ne_eq, not_true_eq_false, if_false, Op.intArith, Sem.run_pure]; done)
              | (cases hu; refine .val H ?_ (.int _ _); simp only [execOp, hxv, hyv, Sem.run_bind, eqGuard_int, Result.andThen_ok, binOp, ne_eq, not_true_eq_false, if_false, Op.intBits, Sem.run_pure]; done)
              | (cases hu; refine .val H ?_ (.bool _); simp only [execOp, hxv, hyv, Sem.run_bind, eqGuard_int, Result.andThen_ok, binOp, ne_eq, not_true_eq_false, if_false, Op.intCmp, Sem.run_pure]; done)
              | (split at hu
                 · cases hu
                 · rename_i hz; cases hu
                   exact .val H (by simp only [execOp, hxv, hyv, Sem.run_bind, eqGuard_int, Result.andThen_ok, binOp, ne_eq, not_true_eq_false, if_false, Op.intDiv, if_neg hz, Sem.run_pure]) (.int _ _))
          · cases hu
      · rename_i m n
        cases r1 with
        | str s1 _ q1 =>
          cases r2 with
          | str s2 _ q2 =>
            have e1 := strRel_inj q1 q2
            have e2 : Op.bytesLess s1.toList s2.toList = bytesLt m n := by
              rw [ByteArray.toList_eq, ByteArray.toList_eq, bytesLt_rel, q1, q2]
            unfold binStr at hu
            split at hu
            · split at hu
              · rename_i hle
                cases hu
                have hs1 : s1.size = m.length := by rw [← q1, List.length_map, Array.length_toList]; rfl
                have hs2 : s2.size = n.length := by rw [← q2, List.length_map, Array.length_toList]; rfl
                have hb : ¬ (((s1.size + s2.size : Nat) : Int) > IntKind.i64.max) := by
                  rw [hs1, hs2]; unfold Ab.maxLen at hle; simp [IntKind.max, IntKind.signed, IntKind.bits]; omega
                refine .val H (x := .string (s1 ++ s2)) ?_ (.str _ _ ?_)
                · simp only [execOp, hxv, hyv, Sem.run_bind, eqGuard_str, Result.andThen_ok, binOp, Op.stringOp, if_neg hb, Sem.run_pure]
                · rw [ByteArray.data_append, Array.toList_append, List.map_append, q1, q2]
              · cases hu
            · cases hu; exact .val H (by simp only [execOp, hxv, hyv, Sem.run_bind, eqGuard_str, Result.andThen_ok, binOp, Op.stringOp, e2, Sem.run_pure]) (.bool _)
            · cases hu; exact .val H (by simp only [execOp, hxv, hyv, Sem.run_bind, eqGuard_str, Result.andThen_ok, binOp, Op.stringOp, e1, e2, Sem.run_pure]) (.bool _)
            · cases hu; exact .val H (by simp only [execOp, hxv, hyv, Sem.run_bind, eqGuard_str, Result.andThen_ok, binOp, Op.stringOp, e1, e2, Sem.run_pure]) (.bool _)
            · cases hu; exact .val H (by simp only [execOp, hxv, hyv, Sem.run_bind, eqGuard_str, Result.andThen_ok, binOp, Op.stringOp, e2, Sem.run_pure]) (.bool _)
            · cases hu
      · cases hu
    · cases hv
  · cases hv

/-! ### Comparison -/
def LeafTy (P : Program) (t : TypeId) : Leaf → Prop
  | .bool => P.underlying t = some .bool
  | .int => ∃ k, P.underlying t = some (.int k)
  | .str => P.underlying t = some .string

theorem leafEq_rel {t : TypeId} {l : Leaf} {u1 u2 : AV} {x1 x2 : Value} {b : Bool} (hl : leafEq l u1 u2 = some b) (r1 : VRel E u1 x1) (r2 : VRel E u2 x2)
    (ht : LeafTy P t l) (d : Nat) (w : World) :
    (Op.equalIn (d + 1) t x1 x2).run P w = .ok b w := by
  cases l with
  | bool =>
    cases r1 <;> cases r2 <;> simp only [leafEq] at hl <;> first | (cases hl; done) | skip
    cases hl
    exact run_equalIn_bool' w d t _ _ ht
  | int =>
    obtain ⟨k, hk⟩ := ht
    cases r1 <;> cases r2 <;> simp only [leafEq] at hl <;> first | (cases hl; done) | skip
    split at hl
    · rename_i hkk; subst hkk; cases hl
      exact run_equalIn_int w d t _ _ _ _ hk
    · cases hl
  | str =>
    cases r1 <;> cases r2 <;> simp only [leafEq] at hl <;> first | (cases hl; done) | skip
    cases hl
    rename_i q1 _ _ q2
    rw [run_equalIn_string w d t _ _ ht, strRel_inj q1 q2]

end ops
end Go.Ab
