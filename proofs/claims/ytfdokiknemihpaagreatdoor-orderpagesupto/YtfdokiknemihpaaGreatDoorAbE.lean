/- Each operation that is no call: the abstract machine's step and the model's come to the same. -/
import Derived.Test.YtfdokiknemihpaaGreatDoorAbD
namespace Go.Ab
variable {P : Program} {R : CodeRel} {Old : Nat → Prop} {w0 w : World} {E : Emb} {h : Heap} {a : Act} {e : Env}

/-! ### Constants and operands -/
theorem ofV1_rel {x : Value} {v : AV} (hv : ofV1 x = some v) : VRel E v x := by
  unfold ofV1 at hv
  split at hv <;> first | cases hv | skip
  · exact .bool _
  · exact .int _ _
  · exact .str _ _ rfl
  · exact .nilptr
  · exact .nilslice
  · exact .nilmap
  · exact .nilfunc
  · exact .nilIface

theorem ofV1s_rel : ∀ {xs : List Value} {vs : List AV}, ofV1s xs = some vs → VsRel E vs xs
  | [], vs, h => by simp [ofV1s] at h; subst h; exact .nil
  | x :: xs, vs, h => by
    simp only [ofV1s] at h
    split at h
    · cases h
    · rename_i v hv
      split at h
      · cases h
      · rename_i vs' hvs
        cases h
        exact .cons _ _ _ _ (ofV1_rel hv) (ofV1s_rel hvs)

theorem ofValue_rel {x : Value} {v : AV} (hv : ofValue x = some v) : VRel E v x := by
  unfold ofValue at hv
  split at hv
  · simp only [Option.map_eq_some_iff] at hv
    obtain ⟨l, hl, rfl⟩ := hv
    have := ofV1s_rel (E := E) hl
    rename_i cs
    exact .agg _ cs.toList this
  · simp only [Option.map_eq_some_iff] at hv
    obtain ⟨l, hl, rfl⟩ := hv
    have := ofV1s_rel (E := E) hl
    rename_i cs
    exact .tuple _ cs.toList this
  · exact ofV1_rel hv

theorem src_rel (hE : EnvRel E e a.tmps) {x : Operand} {s : Src} {v : AV} (hs : cSrc x = some s) (hv : e.src s = some v) : VRel E v (a.eval x) := by
  cases x with
  | tmp t =>
    simp only [cSrc, Option.some.injEq] at hs
    subst hs
    obtain ⟨y, hy, hr⟩ := hE t v hv
    simpa [Act.eval, hy] using hr
  | const c =>
    simp only [cSrc, Option.map_eq_some_iff] at hs
    obtain ⟨u, hu, rfl⟩ := hs
    simp only [Env.src, Option.some.injEq] at hv
    subst hv
    exact ofValue_rel hu
  | global g => simp [cSrc] at hs
  | func f =>
    simp only [cSrc, Option.some.injEq] at hs
    subst hs
    simp only [Env.src, Option.some.injEq] at hv
    subst hv
    exact .func f [] [] [] [] .nil .nil

theorem srcs_rel (hE : EnvRel E e a.tmps) : ∀ {xs : List Operand} {ss : List Src} {vs : List AV}, cSrcs xs = some ss → e.srcs ss = some vs → VsRel E vs (xs.map a.eval)
  | [], ss, vs, hs, hv => by simp [cSrcs] at hs; subst hs; simp [Env.srcs] at hv; subst hv; exact .nil
  | x :: xs, ss, vs, hs, hv => by
    simp only [cSrcs] at hs
    split at hs
    · cases hs
    · rename_i s h1
      split at hs
      · cases hs
      · rename_i ss' h2
        cases hs
        simp only [Env.srcs] at hv
        split at hv
        · cases hv
        · rename_i v h3
          split at hv
          · cases hv
          · rename_i vs' h4
            cases hv
            exact .cons _ _ _ _ (src_rel hE h1 h3) (srcs_rel hE h2 h4)

/-! ### Types -/
theorem run_underlying {t : TypeId} {d : TypeDesc} (ht : P.underlying t = some d) (w : World) : (underlying t).run P w = .ok d w := by
  simp [underlying, ht]

theorem run_typeInfo {t : TypeId} {i : TypeInfo} (ht : P.info? t = some i) (w : World) : (typeInfo t).run P w = .ok i w := by
  simp [typeInfo, ht]

theorem run_sizeOf {t : TypeId} {n : Nat} (ht : sizeP P t = some n) (w : World) : (sizeOf t).run P w = .ok n w := by
  simp only [sizeP, Option.map_eq_some_iff] at ht
  obtain ⟨i, hi, rfl⟩ := ht
  simp [sizeOf, run_typeInfo hi]

theorem run_isAgg {t : TypeId} {b : Bool} (ht : isAggP P t = some b) (w : World) : (isAgg t).run P w = .ok b w := by
  unfold isAggP at ht
  split at ht <;> first | cases ht | skip
  · rename_i hu; simp [isAgg, run_underlying hu]
  · rename_i hu; simp [isAgg, run_underlying hu]
  · rename_i d h1 h2 hu
    simp only [isAgg, Sem.run_bind, run_underlying hu, Result.andThen]
    cases d <;> first | rfl | exact (h1 _ rfl).elim | exact (h2 _ _ rfl).elim

theorem run_zero {t : TypeId} {z : AV} (ht : cZero P t = some z) (w : World) : ∃ x, (zeroValue t).run P w = .ok x w ∧ VRel E z x := by
  unfold cZero at ht
  split at ht
  · rename_i i hi
    split at ht
    · rename_i v hz
      exact ⟨v, by simp [zeroValue, run_typeInfo hi, hz], ofValue_rel ht⟩
    · cases ht
  · cases ht

/-! ### What a step comes to -/
def Sim (R : CodeRel) (Old : Nat → Prop) (w0 : World) (E : Emb) (h' : Heap) (id : Nat) (v : AV) (r : Result Next) : Prop :=
  ∃ nx x w' E', r = .ok nx w' ∧ (nx = .value x ∨ (nx = .skip ∧ x = undef)) ∧ E.Le E' ∧ HRel R Old w0 E' h' w' ∧ VRel E' v x ∧ (∀ b, E'.here b → E.here b ∨ b = id)

theorem Sim.val {r : Result Next} {x : Value} {v : AV} {id : Nat} (H : HRel R Old w0 E h w) (hr : r = .ok (.value x) w) (hv : VRel E v x) : Sim R Old w0 E h id v r :=
  ⟨_, x, w, E, hr, .inl rfl, .refl _, H, hv, fun _ hb => .inl hb⟩

theorem Sim.new {r : Result Next} {x : Value} {v : AV} {id : Nat} {p : Nat × Nat} {size M : Nat} {h' : Heap} {w' : World} (hid : ¬ E.here id) (hM : E.M ≤ M)
    (H : HRel R Old w0 (E.add id p size M) h' w') (hr : r = .ok (.value x) w') (hv : VRel (E.add id p size M) v x) : Sim R Old w0 E h' id v r :=
  ⟨_, x, w', _, hr, .inl rfl, Emb.le_add hid hM, H, hv, fun _ hb => hb⟩

theorem VRel.undef : VRel E .undef Go.undef := .tuple [] [] .nil

theorem Sim.unit {r : Result Next} {id : Nat} {h' : Heap} {w' : World} (H : HRel R Old w0 E h' w') (hr : r = .ok .skip w') : Sim R Old w0 E h' id .undef r :=
  ⟨_, Go.undef, w', E, hr, .inr ⟨rfl, rfl⟩, .refl _, H, .undef, fun _ hb => .inl hb⟩

/-- An operation's own text. -/
abbrev mkO (dst : Option Tmp) (op : Op) (t : TypeId) (pos : String) (after : Array Edge) (g : Option (Nat × Bool)) : Oper := ⟨dst, op, t, pos, after, g⟩

section ops
variable {dst : Option Tmp} {ty : TypeId} {pos : String} {after : Array Edge} {g : Option (Nat × Bool)} {id : Nat} {h' : Heap} {v : AV} {t : TypeId} {x y z : Operand} {sx sy sz : Src}

theorem sim_move (H : HRel R Old w0 E h w) (hE : EnvRel E e a.tmps) (hx : cSrc x = some sx) (hv : op_mov sx e h = some (v, h')) :
    Sim R Old w0 E h' id v ((execOp a.eval (mkO dst (.move x) ty pos after g)).run P w) ∧ Sim R Old w0 E h' id v ((execOp a.eval (mkO dst (.assign x) ty pos after g)).run P w) := by
  unfold op_mov at hv
  split at hv
  · rename_i u hu
    cases hv
    exact ⟨.val H rfl (src_rel hE hx hu), .val H rfl (src_rel hE hx hu)⟩
  · cases hv

theorem sim_pick (H : HRel R Old w0 E h w) (hE : EnvRel E e a.tmps) (hx : cSrc x = some sx) (hy : cSrc y = some sy) (hz : cSrc z = some sz) (hv : op_pick sx sy sz e h = some (v, h')) :
    Sim R Old w0 E h' id v ((execOp a.eval (mkO dst (.pick x y z) ty pos after g)).run P w) := by
  unfold op_pick at hv
  split at hv
  · rename_i hc
    have h1 := src_rel hE hx hc
    generalize hcv : a.eval x = cv at h1
    cases h1
    split at hv
    · rename_i u hu; cases hv
      exact .val H (by simp [execOp, hcv, asBool]) (src_rel hE hy hu)
    · cases hv
  · rename_i hc
    have h1 := src_rel hE hx hc
    generalize hcv : a.eval x = cv at h1
    cases h1
    split at hv
    · rename_i u hu; cases hv
      exact .val H (by simp [execOp, hcv, asBool]) (src_rel hE hz hu)
    · cases hv
  · cases hv

theorem sim_alloc (H : HRel R Old w0 E h w) (hid : ¬ E.here id) (hnx : id < h.next) {zv : AV} (hz : cZero P t = some zv) (hv : op_alloc zv.cells h id = some (v, h')) :
    Sim R Old w0 E h' id v ((execOp a.eval (mkO dst (.alloc t) ty pos after g)).run P w) := by
  unfold op_alloc at hv
  cases hv
  obtain ⟨x, hx, hr⟩ := run_zero (E := E) hz w
  have hn := H.newCells (t := t) (m := .live []) (ys := []) hid hnx hr.cells
  have e1 : (x.cells.toList ++ []).toArray = x.cells := by simp
  rw [e1] at hn
  refine .new hid (by have := H.M; omega) hn (x := .pointer (some ⟨w.heap.size, 0, none⟩)) ?_ ?_
  · simp [execOp, Instr.alloc, hx, newVar, newRow]
  · have : (⟨w.heap.size, 0, none⟩ : Addr) = (E.add id (w.heap.size, 0) (x.cells.toList ++ []).length (w.heap.size + 1)).at_ id 0 := by simp [Emb.at_, Emb.add]
    rw [this]; exact .ptr id 0 (.inr rfl)

theorem sim_box (H : HRel R Old w0 E h w) (hE : EnvRel E e a.tmps) (hid : ¬ E.here id) (hnx : id < h.next) (hx : cSrc x = some sx) (hv : op_box sx e h id = some (v, h')) :
    Sim R Old w0 E h' id v ((execOp a.eval (mkO dst (.box t x) ty pos after g)).run P w) := by
  unfold op_box at hv
  split at hv
  · rename_i u hu
    cases hv
    have hn := H.newCells (t := t) (m := .live []) (ys := []) hid hnx (src_rel hE hx hu).cells
    have e1 : ((a.eval x).cells.toList ++ []).toArray = (a.eval x).cells := by simp
    rw [e1] at hn
    refine .new hid (by have := H.M; omega) hn (x := .pointer (some ⟨w.heap.size, 0, none⟩)) ?_ ?_
    · simp [execOp, Instr.box, newVar, newRow]
    · have : (⟨w.heap.size, 0, none⟩ : Addr) = (E.add id (w.heap.size, 0) ((a.eval x).cells.toList ++ []).length (w.heap.size + 1)).at_ id 0 := by simp [Emb.at_, Emb.add]
      rw [this]; exact .ptr id 0 (.inr rfl)
  · cases hv

theorem sim_load1 (H : HRel R Old w0 E h w) (hE : EnvRel E e a.tmps) (hx : cSrc x = some sx) (ht : isAggP P t = some false) (hv : op_load1 sx e h = some (v, h')) :
    Sim R Old w0 E h' id v ((execOp a.eval (mkO dst (.load t x) ty pos after g)).run P w) := by
  unfold op_load1 at hv
  split at hv
  · rename_i b off hb
    have h1 := src_rel hE hx hb
    generalize hxv : a.eval x = xv at h1
    cases h1
    split at hv
    · rename_i u hu
      cases hv
      obtain ⟨y, hy, hr⟩ := load_cell H hu
      exact .val H (by simp [execOp, hxv, Instr.loadAt, Instr.sureAddr, loadVar, run_isAgg ht, hy]) hr
    · cases hv
  · cases hv

theorem sim_loadN {n : Nat} (H : HRel R Old w0 E h w) (hE : EnvRel E e a.tmps) (hx : cSrc x = some sx) (ht : isAggP P t = some true) (hn : sizeP P t = some n) (hv : op_loadN n sx e h = some (v, h')) :
    Sim R Old w0 E h' id v ((execOp a.eval (mkO dst (.load t x) ty pos after g)).run P w) := by
  unfold op_loadN at hv
  split at hv
  · rename_i b off hb
    have h1 := src_rel hE hx hb
    generalize hxv : a.eval x = xv at h1
    cases h1
    split at hv
    · rename_i u hu
      cases hv
      obtain ⟨hl, xs, hy, hr⟩ := load_row (P := P) H hu
      exact .val H (by simp [execOp, hxv, Instr.loadAt, Instr.sureAddr, loadVar, run_isAgg ht, run_sizeOf hn, hy]) (.agg _ _ hr)
    · cases hv
  · cases hv

theorem sim_store {n : Nat} (H : HRel R Old w0 E h w) (hE : EnvRel E e a.tmps) (hx : cSrc x = some sx) (hy : cSrc y = some sy) (hn : sizeP P t = some n) (hv : op_store n sx sy e h = some (v, h')) :
    Sim R Old w0 E h' id v ((execOp a.eval (mkO dst (.store t x y) ty pos after g)).run P w) := by
  unfold op_store at hv
  split at hv
  · rename_i b off u hb hu
    have h1 := src_rel hE hx hb
    have h2 := src_rel hE hy hu
    generalize hxv : a.eval x = xv at h1
    generalize hyv : a.eval y = yv at h2
    cases h1
    split at hv
    · rename_i hlen
      split at hv
      · rename_i h2' hset
        cases hv
        obtain ⟨w', hw', H'⟩ := store_row (P := P) H hset h2.cells
        have hsz : yv.cells.size = n := by have := h2.cells.length; simp at this; omega
        exact .unit H' (by simp [execOp, hxv, hyv, Instr.storeAt, Instr.sureAddr, storeVar, run_sizeOf hn, hsz, hw'])
      · cases hv
    · cases hv
  · cases hv

theorem sim_nilCheck (H : HRel R Old w0 E h w) (hE : EnvRel E e a.tmps) (hx : cSrc x = some sx) (hv : op_nilCheck sx e h = some (v, h')) :
    Sim R Old w0 E h' id v ((execOp a.eval (mkO dst (.nilCheck x) ty pos after g)).run P w) := by
  unfold op_nilCheck at hv
  split at hv
  · cases hv
  · cases hv
  · cases hv
  · rename_i u n1 n2 n3 hu
    cases hv
    have h1 := src_rel hE hx hu
    refine .val H (x := a.eval x) ?_ h1
    generalize hxv : a.eval x = xv at h1
    simp only [execOp, hxv]
    cases h1 <;> first | rfl | exact (n1 rfl).elim | exact (n2 rfl).elim | exact (n3 rfl).elim
  · cases hv

theorem sim_un {op : UnOp} (H : HRel R Old w0 E h w) (hE : EnvRel E e a.tmps) (hx : cSrc x = some sx) (hv : op_un op sx e h = some (v, h')) :
    Sim R Old w0 E h' id v ((execOp a.eval (mkO dst (.unOp op t x) ty pos after g)).run P w) := by
  unfold op_un at hv
  split at hv
  · rename_i u hu
    have h1 := src_rel hE hx hu
    generalize hxv : a.eval x = xv at h1
    split at hv
    · rename_i r hr
      cases hv
      unfold unOpA at hr
      split at hr <;> first | cases hr | skip
      · cases h1; exact .val H (by simp [execOp, hxv, Op.unary, Op.intArith]) (.int _ _)
      · cases h1; exact .val H (by simp only [execOp, hxv, Op.unary, Op.intBits]; rfl) (.int _ _)
      · cases h1; exact .val H (by simp [execOp, hxv, Op.unary]) (.bool _)
    · cases hv
  · cases hv

theorem sim_convInt {k k' : IntKind} {src dt : TypeId} (H : HRel R Old w0 E h w) (hE : EnvRel E e a.tmps) (hx : cSrc x = some sx) (h1 : P.underlying src = some (.int k')) (h2 : P.underlying dt = some (.int k))
    (hv : op_convInt k sx e h = some (v, h')) : Sim R Old w0 E h' id v ((execOp a.eval (mkO dst (.convert src dt x) ty pos after g)).run P w) := by
  unfold op_convInt at hv
  split at hv
  · rename_i kk n hu
    cases hv
    have h3 := src_rel hE hx hu
    generalize hxv : a.eval x = xv at h3
    cases h3
    exact .val H (by simp [execOp, hxv, convert, run_underlying h1, run_underlying h2, Conv.intToInt]) (.int _ _)
  · cases hv

theorem sim_iface {d : TypeDesc} (H : HRel R Old w0 E h w) (hE : EnvRel E e a.tmps) (hx : cSrc x = some sx) (ht : P.underlying t = some d) (hd : ∀ ms, d ≠ .interface ms) (hv : op_iface t sx e h = some (v, h')) :
    Sim R Old w0 E h' id v ((execOp a.eval (mkO dst (.makeInterface t x) ty pos after g)).run P w) := by
  unfold op_iface at hv
  split at hv
  · rename_i u hu
    cases hv
    refine .val H (x := .iface t (a.eval x)) ?_ (.iface _ _ _ (src_rel hE hx hu))
    simp only [execOp, Instr.makeInterface, Sem.run_bind, run_underlying ht, Result.andThen]
    cases d <;> first | rfl | exact absurd rfl (hd _)
  · cases hv

theorem sim_makeFunc {f : Nat} {xs ys : Array Operand} {sxs sys : List Src} (H : HRel R Old w0 E h w) (hE : EnvRel E e a.tmps) (hx : cSrcs xs.toList = some sxs) (hy : cSrcs ys.toList = some sys)
    (hv : op_makeFunc f sxs sys e h = some (v, h')) : Sim R Old w0 E h' id v ((execOp a.eval (mkO dst (.makeFunc (.func f) xs ys) ty pos after g)).run P w) := by
  unfold op_makeFunc at hv
  split at hv
  · rename_i u1 u2 h1 h2
    cases hv
    refine .val H (x := .func (.func f) (xs.map a.eval) (ys.map a.eval)) (by simp [execOp, Instr.makeFunc]) ?_
    have r1 := srcs_rel hE hx h1
    have r2 := srcs_rel hE hy h2
    have e1 : xs.map a.eval = (xs.toList.map a.eval).toArray := Array.ext' (by simp)
    have e2 : ys.map a.eval = (ys.toList.map a.eval).toArray := Array.ext' (by simp)
    rw [e1, e2]
    exact .func f _ _ _ _ r1 r2
  · cases hv

theorem sim_extract {i : Nat} (H : HRel R Old w0 E h w) (hE : EnvRel E e a.tmps) (hx : cSrc x = some sx) (hv : op_extract i sx e h = some (v, h')) :
    Sim R Old w0 E h' id v ((execOp a.eval (mkO dst (.extract x i) ty pos after g)).run P w) := by
  unfold op_extract at hv
  split at hv
  · rename_i vs hu
    have h1 := src_rel hE hx hu
    generalize hxv : a.eval x = xv at h1
    cases h1 with
    | tuple _ ds hr =>
      split at hv
      · rename_i u hi
        cases hv
        obtain ⟨y, hy, hr'⟩ := hr.get i _ hi
        exact .val H (by simp [execOp, hxv, Instr.extract, hy]) hr'
      · cases hv
  · cases hv

end ops
end Go.Ab
