/- Operations, calls and regions of the model, by the abstract machine's. -/
import Derived.Test.YtfdokiknemihpaaGreatDoorAbM
import Derived.Test.YtfdokiknemihpaaGreatDoorAbN
import Derived.OrdersIn
import Derived.RangeFuncCalls
import Derived.RangeFuncNested
namespace Go.Ab

/-- A summary of a function that looks at no heap and leaves it. -/
def pureSpec (g : List AV → Option AV) : Spec := fun args h K => match g args with
  | some v => K v h
  | none => False

def PureOK (c : Ctx) (pure : List Nat) : Prop := ∀ f ∈ pure, ∃ g, c.sums f = some (pureSpec g)

def CR (c : Ctx) (P : Program) : CodeRel := fun nt code ac => ∃ pure kr kl b, comp P nt pure kr kl b code = ac ∧ PureOK c pure

/-- All functions are let in; a round, or none. -/
def FW (r : Option Nat) : Fence := { Fence.wide with round := r }
theorem FW_room (r : Option Nat) (n : Nat) : (FW r).room n := fun _ h => by simp [FW, Fence.wide] at h
theorem FW_fn (r : Option Nat) (f : FuncId) : (FW r).fn f := trivial

def HasBody (P : Program) (f : Nat) : Prop := ∃ fn c, P.funcs[f]? = some fn ∧ fn.body = some c ∧ (fn.name == "runtime.NumGoroutine") = false

theorem run_callFunc {P : Program} {f : Nat} (hb : HasBody P f) (args : Array Value) (w : World) : (callFunc f args).run P w = .ok (.enter f args) w := by
  obtain ⟨fn, c, h1, h2, h3⟩ := hb
  have h3' : ¬ fn.name = "runtime.NumGoroutine" := by simpa using h3
  simp [callFunc, h1, h2, h3']

section
variable {c : Ctx} {P : Program} {Old : Nat → Prop} {w0 w : World} {E : Emb} {h : Heap} {a : Act} {e : Env}

/-- What a call that returns leaves. -/
def RetPost (R : CodeRel) (Old : Nat → Prop) (w0 : World) (E : Emb) (h : Heap) (K : AV → Heap → Prop) : Ending → World → Prop
  | .returned x, w' => ∃ v h' E', K v h' ∧ E.Le E' ∧ HRel R Old w0 E' h' w' ∧ VRel E' v x ∧ (∀ b, E'.here b → E.here b ∨ h.next ≤ b) ∧ h.next ≤ h'.next
  | _, _ => False

def roundTmps (L : Loop) (xs : Array Value) : Array Value := (L.params.zip xs).foldl (fun tmps (t, a) => tmps.setIfInBounds t a) L.tmps

/-- The meaning of calls is sound. -/
def CallSound (c : Ctx) (P : Program) (call : CallP) : Prop :=
  ∀ fv args h K, call fv args h K → ∀ (Old : Nat → Prop) (w0 w : World) (E : Emb) (fx : Value) (xs : List Value), HRel (CR c P) Old w0 E h w → VRel E fv fx → VsRel E args xs →
    (∃ f first cap, fx = .func (.func f) first cap ∧ HasBody P f ∧ CallsIn (FW none) 0 P f (first ++ xs.toArray ++ cap) w (RetPost (CR c P) Old w0 E h K)) ∨
    (∃ l L, fx = .func (.yield l) #[] #[] ∧ w.heap[l]? = some (.loop L) ∧ xs.length = L.params.size ∧ RoundIn (FW none) 0 P l L.fn (roundTmps L xs.toArray) L.assign L.body w (RetPost (CR c P) Old w0 E h K))

theorem semAt_of {o : Oper} {k : OpK} (hk : cOp P o = some k) (r : Option Nat) (ρ : Operand → Value) : o.semAt r ρ = execOp ρ o := by
  refine Oper.semAt_eq _ _ _ fun cc hc => ?_
  unfold cOp at hk
  rw [hc] at hk
  cases hk

/-- What an operation leaves. -/
structure OpPost (c : Ctx) (P : Program) (Old : Nat → Prop) (w0 : World) (E : Emb) (h : Heap) (id nt : Nat) (a : Act) (E' : Emb) (h' : Heap) (w' : World) (e' : Env) (a' : Act) : Prop where
  le : E.Le E'
  rel : HRel (CR c P) Old w0 E' h' w'
  env : EnvRel E' e' a'.tmps
  size : nt ≤ a'.tmps.size
  defers : a'.defers = a.defers
  fresh : ∀ b, E'.here b → E.here b ∨ b = id ∨ h.next ≤ b
  next : h.next ≤ h'.next

theorem put_defers (a : Act) (d : Option Tmp) (v : Value) : (a.put d v).defers = a.defers := by cases d <;> rfl

theorem setRow_next {h h' : Heap} {b off : Nat} {xs : List AV} (hs : setRow h b off xs = some h') : h'.next = h.next := by
  unfold setRow at hs
  split at hs
  · split at hs
    · cases hs; simp
    · cases hs
  · cases hs

theorem appendA_next {h h' : Heap} {id esz : Nat} {s x v : AV} (hs : appendA h id esz s x = some (v, h')) : h'.next = h.next := by
  unfold appendA at hs
  split at hs
  · split at hs
    · cases hs; rfl
    · split at hs
      · cases hs; rfl
      · cases hs
    · cases hs
  split at hs
  · cases hs
  · split at hs
    · split at hs
      · cases hs; rfl
      · split at hs
        · cases hs; rfl
        · cases hs
      · cases hs
    · split at hs
      · split at hs
        · cases hs; rfl
        · cases hs
      · split at hs
        · split at hs
          · split at hs
            · cases hs
            · split at hs
              · cases hs; rfl
              · split at hs
                · cases hs; simp
                · cases hs
          · cases hs
        · cases hs
      · cases hs

theorem aeval_next {k : OpK} {e : Env} {h h' : Heap} {id : Nat} {v : AV} (hv : aeval k e h id = some (v, h')) : h'.next = h.next := by
  have hv := wide_eval hv
  generalize k.wide = k at hv
  cases k <;> simp only [aeval] at hv
  case append esz s x =>
    unfold op_append at hv
    split at hv
    · exact appendA_next hv
    · cases hv
  case appendX esz s x =>
    unfold op_appendX at hv
    split at hv
    · exact appendA_next (appendXA_append hv)
    · cases hv
  case store n x y =>
    unfold op_store at hv
    split at hv
    · split at hv
      · split at hv
        · rename_i hs; cases hv; exact setRow_next hs
        · cases hv
      · cases hv
    · cases hv
  case copy n x y =>
    unfold op_copy at hv
    split at hv
    · split at hv
      · split at hv
        · cases hv; rfl
        · cases hv
      · split at hv
        · split at hv
          · split at hv
            · rename_i hs; cases hv; exact setRow_next hs
            · cases hv
          · cases hv
        · cases hv
      · cases hv
    · cases hv
  case mapUpdate tg m kx x =>
    unfold op_mapUpdate at hv
    split at hv
    · split at hv
      · rename_i h2 hs
        cases hv
        unfold mapUpdateA at hs
        split at hs
        · split at hs
          · split at hs
            · cases hs
            · split at hs
              · cases hs
              · cases hs; rfl
              · cases hs; rfl
          · cases hs
        · cases hs
      · cases hv
    · cases hv
  case next x =>
    unfold op_next at hv
    split at hv
    · unfold nextA at hv
      split at hv
      · split at hv
        · split at hv
          · cases hv; rfl
          · cases hv; rfl
        · cases hv
      · cases hv
    · cases hv
  all_goals
    first
      | (cases hv; done)
      | (simp only [op_mov, op_pick, op_alloc, op_box, op_build, op_buildSlice, op_load1, op_loadN, op_nilCheck, op_bin, op_eq, op_un, op_convInt, op_strBytes, op_bytesStr, op_iface, op_makeFunc, op_makeMap, op_makeSlice,
          op_sliceStr, op_sliceSl, op_sliceArr, op_fieldAddr, op_field, op_idxSl, op_idxArr, op_index, op_indexStr, op_lookup, op_extract, op_len, op_lenK, op_minmax, op_range, op_rangeM, op_entry, op_ext, op_growZ] at hv
         repeat' (split at hv)
         all_goals first | (cases hv; done) | (cases hv; rfl))

/-- A call of a function value, as the model carries it out. -/
theorem call_wp {call : CallP} (hcs : CallSound c P call) {o : Oper} {cl : Call} {dst : Option Nat} {nt id : Nat} {r : Option Nat} (ho : o.op = .call cl) (hod : o.dst = dst) (hd : cDst nt dst = true) {fv : AV} {fx : Value} {args : List AV} {K : Env → Heap → Prop}
    (H : HRel (CR c P) Old w0 E h w) (hE : EnvRel E e a.tmps) (hs : nt ≤ a.tmps.size) (hfv : VRel E fv fx) (hargs : VsRel E args (cl.args.toList.map a.eval))
    {f0 : Operand} (hcallee : cl.callee = .value f0 ∧ a.eval f0 = fx) (hh : call fv args h (fun v h' => K (e.putD dst v) h')) {next : Act → World → Prop} {Q : Exit → Act → World → Prop}
    (hnext : ∀ E' h' w' e' a', OpPost c P Old w0 E h id nt a E' h' w' e' a' → K e' h' → next a' w') : o.wpIn (FW r) 0 P a w next Q := by
  have hres : (resolve a.eval cl o.type).run P w = (Deferred.ofValue fx (cl.args.map a.eval)).run P w := by
    obtain ⟨callee, args', ats⟩ := cl
    obtain ⟨h1, h2⟩ := hcallee
    simp only at h1
    subst h1
    simp only [resolve, h2]
  have hxs : cl.args.map a.eval = (cl.args.toList.map a.eval).toArray := Array.ext' (by simp)
  have fin : ∀ (x : Value) (w' : World), RetPost (CR c P) Old w0 E h (fun v h' => K (e.putD dst v) h') (.returned x) w' → next (a.put o.dst x) w' := fun x w' hp => by
      obtain ⟨v, h', E', hk, h1, h2, h3, h4, h5⟩ := hp
      have hput := (hE.mono h1).put (a := a) hs hd h3
      exact hnext E' h' w' _ _ ⟨h1, h2, by rw [hod]; exact hput.1, by rw [hod]; exact hput.2, put_defers _ _ _, fun b hb => (h4 b hb).imp (fun hh => hh) .inr, h5⟩ hk
  have hex : execOp a.eval o = (do let d ← resolve a.eval cl o.type; invoke d.target d.args) := by
    obtain ⟨dst', op, ty, pos, after, g⟩ := o
    simp only at ho
    subst ho
    rfl
  have hsem : o.semAt (FW r).round a.eval = execOp a.eval o := Oper.semAt_eq _ _ _ (by simp [ho])
  refine ⟨fun f _ => FW_fn r f, ?_⟩
  rw [hsem, hex]
  simp only [Sem.run_bind, hres]
  rcases hcs fv args h _ hh Old w0 w E fx _ H hfv hargs with ⟨f, first, cap, rfl, hb, hcall⟩ | ⟨l, L, rfl, hl, hlen, hround⟩
  · simp only [Deferred.ofValue, Sem.run_pure, Result.andThen_ok, invoke, hxs, run_callFunc hb]
    refine ⟨fun hf => by simp [FW, Fence.wide] at hf, ?_⟩
    exact CallsIn.mono (show CallsIn (FW r) (0 - 1) P f _ w _ from hcall) (fun e' w' hp => by cases e' with | returned x => exact fin x w' hp | panicked ch => exact hp.elim | outgrown => exact hp.elim)
  · have hy := run_yield (P := P) (args := (cl.args.toList.map a.eval).toArray) hl (by simpa using hlen)
    simp only [Deferred.ofValue, Sem.run_pure, Result.andThen_ok, invoke, hxs, Array.empty_append, hy]
    refine ⟨fun hf => by simp [FW, Fence.wide] at hf, ?_⟩
    exact RoundIn.mono (show RoundIn (FW r) (0 - 1) P l L.fn _ L.assign L.body w _ from hround) (fun e' w' hp => by cases e' with | returned x => exact fin x w' hp | panicked ch => exact hp.elim | outgrown => exact hp.elim)

/-- The abstract text of an operation. -/
structure OpOf (P : Program) (nt : Nat) (ops : Array Oper) (o : Oper) (ao : AOp) : Prop where
  dst : ao.dst = o.dst
  dstOK : cDst nt o.dst = true
  guard : cGuard ops o.guard = some ao.guard
  k : ∃ k, cOp P o = some k ∧ (ao.k = k ∨ ∃ n s x, k = .append n s x ∧ ao.k = .appendX n s x)

theorem wanted_of {nt : Nat} {ops : Array Oper} {o : Oper} {ao : AOp} (hop : OpOf P nt ops o ao) (hE : EnvRel E e a.tmps) {b : Bool} (hg : guardA ao.guard e = some b) : Region.wanted o (yielded ops a.tmps) = b := by
  have h1 := hop.guard
  unfold cGuard at h1
  unfold Region.wanted
  cases hgo : o.guard with
  | none =>
    rw [hgo] at h1
    simp only [Option.some.injEq] at h1
    rw [← h1] at hg
    simp only [guardA, Option.some.injEq] at hg
    exact hg
  | some q =>
    obtain ⟨j, want⟩ := q
    rw [hgo] at h1
    simp only at h1
    split at h1
    · rename_i t ht
      simp only [Option.some.injEq] at h1
      rw [← h1] at hg
      simp only [guardA] at hg
      unfold yielded
      simp only [ht, Option.bind_some]
      split at hg
      · rename_i bb hb
        obtain ⟨x, hx, hr⟩ := hE t _ hb
        cases hr
        cases hg
        rw [hx]
        cases bb <;> cases want <;> rfl
      · rename_i v hnb hb
        obtain ⟨x, hx, hr⟩ := hE t _ hb
        cases hg
        rw [hx]
        cases hr <;> first | (simp; done) | exact (hnb _ rfl).elim
      · cases hg
    · cases h1

theorem cOp_isCall {o : Oper} {k : OpK} (hk : cOp P o = some k) (hc : k.isCall = true) : (∃ cl, o.op = .call cl ∧ cCall P cl = some k) ∨ ∃ it s, o.op = .next it false ∧ cSrc it = some s ∧ k = .callv (.k (.func .next [] [])) [s] := by
  obtain ⟨dst, op, ty, pos, after, g⟩ := o
  unfold cOp at hk
  cases op <;> simp only at hk <;> first | (cases hk; done) | skip
  case call cl => exact .inl ⟨cl, rfl, hk⟩
  case next it b =>
    cases b <;> simp only at hk
    · obtain ⟨s, hs, rfl⟩ := map_some' hk; exact .inr ⟨it, s, rfl, hs, rfl⟩
    · obtain ⟨s, hs, rfl⟩ := map_some' hk; simp [OpK.isCall] at hc
  all_goals
    exfalso
    repeat' (split at hk)
    all_goals
      first
        | (cases hk; done)
        | (cases hk; simp [OpK.isCall] at hc; done)
        | (rename_i heq _; cases heq; done)
        | (rename_i heq; cases heq; done)
        | (rename_i heq _ _; cases heq; done)
        | (rename_i heq _ _ _; cases heq; done)
        | (obtain ⟨_, _, rfl⟩ := map_some' hk; simp [OpK.isCall] at hc; done)

theorem cCall_call {cl : Call} {f : Nat} {args : List Src} (hk : cCall P cl = some (.call f args)) : cl.callee = .value (.func f) ∧ cSrcs cl.args.toList = some args := by
  obtain ⟨callee, cargs, ats⟩ := cl
  unfold cCall at hk
  cases callee with
  | value o =>
    cases o <;> simp only at hk
    · split at hk <;> cases hk
    · split at hk <;> cases hk
    · split at hk <;> cases hk
    · split at hk
      · obtain ⟨ss, h1, h2⟩ := map_some' hk; cases h2
      · obtain ⟨ss, h1, h2⟩ := map_some' hk; cases h2; exact ⟨rfl, h1⟩
  | invoke r m => cases hk
  | builtin b =>
    simp only at hk
    unfold cBuiltin at hk
    repeat' (split at hk)
    all_goals first | (cases hk; done) | (obtain ⟨_, _, h2⟩ := map_some' hk; cases h2)

theorem cCall_callv {cl : Call} {f : Src} {args : List Src} (hk : cCall P cl = some (.callv f args)) : ∃ o, cl.callee = .value o ∧ cSrc o = some f ∧ cSrcs cl.args.toList = some args := by
  obtain ⟨callee, cargs, ats⟩ := cl
  unfold cCall at hk
  cases callee with
  | value o =>
    cases o <;> simp only at hk
    · split at hk
      · rename_i h1 h2; cases hk; exact ⟨_, rfl, h1, h2⟩
      · cases hk
    · split at hk
      · rename_i h1 h2; cases hk; exact ⟨_, rfl, h1, h2⟩
      · cases hk
    · split at hk
      · rename_i h1 h2; cases hk; exact ⟨_, rfl, h1, h2⟩
      · cases hk
    · split at hk <;> (obtain ⟨ss, h1, h2⟩ := map_some' hk; cases h2)
  | invoke r m => cases hk
  | builtin b =>
    simp only at hk
    unfold cBuiltin at hk
    repeat' (split at hk)
    all_goals first | (cases hk; done) | (obtain ⟨_, _, h2⟩ := map_some' hk; cases h2)

/-- How a range over a map goes on. -/
def NextLike (call : CallP) : Prop := ∀ first cap args h K, call (.func .next first cap) args h K → nextP args h K

/-- One operation. -/
theorem oper_wp {call : CallP} (hcs : CallSound c P call) (hnl : NextLike call) {nt id i : Nat} {ops : Array Oper} {o : Oper} {ao : AOp} {r : Option Nat} (hop : OpOf P nt ops o ao) (hi : ops[i]? = some o) (H : HRel (CR c P) Old w0 E h w) (hE : EnvRel E e a.tmps) (hs : nt ≤ a.tmps.size)
    (hid : ¬ E.here id) (hnx : id < h.next) {K : Env → Heap → Prop} (hh : aOp call id ao e h K) {next : Act → World → Prop} {Q : Exit → Act → World → Prop}
    (hnext : ∀ E' h' w' e' a', OpPost c P Old w0 E h id nt a E' h' w' e' a' → K e' h' → next a' w') : wpOpIn (FW r) 0 P ops Q i next a w := by
  unfold wpOpIn
  rw [hi]
  simp only
  unfold aOp at hh
  split at hh
  · exact hh.elim
  · rename_i hg
    rw [wanted_of hop hE hg]
    refine ⟨fun f _ => FW_fn r f, ?_⟩
    have hput := hE.put (a := a) hs (hop.dst ▸ hop.dstOK : cDst nt ao.dst = true) VRel.undef
    rw [← hop.dst]
    exact hnext E h w _ _ ⟨.refl _, H, hput.1, hput.2, put_defers _ _ _, fun b hb => .inl hb, Nat.le_refl _⟩ hh
  · rename_i hg
    rw [wanted_of hop hE hg]
    simp only [if_true]
    obtain ⟨k, hk, hwide⟩ := hop.k
    have hodst : cDst nt ao.dst = true := hop.dst ▸ hop.dstOK
    split at hh
    · rename_i f args hak
      have hkk : k = .call f args := by rcases hwide with hw | ⟨n, s, x, _, hw⟩ <;> rw [hak] at hw <;> first | exact hw.symm | cases hw
      subst hkk
      split at hh
      · rename_i vs hvs
        obtain ⟨cl, h1, h2⟩ : ∃ cl, o.op = .call cl ∧ cCall P cl = some (.call f args) := by
          rcases cOp_isCall hk rfl with h1 | ⟨_, _, _, _, h1⟩
          · exact h1
          · cases h1
        obtain ⟨h3, h4⟩ := cCall_call h2
        exact call_wp hcs (r := r) (id := id) h1 hop.dst.symm hodst H hE hs (.func f [] [] [] [] .nil .nil) (srcs_rel hE h4 hvs) ⟨h3, rfl⟩ hh hnext
      · exact hh.elim
    · rename_i f args hak
      have hkk : k = .callv f args := by rcases hwide with hw | ⟨n, s, x, _, hw⟩ <;> rw [hak] at hw <;> first | exact hw.symm | cases hw
      subst hkk
      split at hh
      · rename_i fv vs hfv hvs
        rcases cOp_isCall hk rfl with ⟨cl, h1, h2⟩ | ⟨it, s, h1, h2, h3⟩
        rotate_left
        · cases h3
          cases hfv
          have hnp := hnl _ _ _ _ _ hh
          simp only [Env.srcs] at hvs
          cases hsv : e.src s with
          | none => rw [hsv] at hvs; cases hvs
          | some u =>
            rw [hsv] at hvs
            cases hvs
            unfold nextP at hnp
            split at hnp
            · rename_i rr hvv
              cases hvv
              split at hnp
              · rename_i m n seen hm
                split at hnp
                · rename_i es hes
                  obtain ⟨hn, hk1, hk2⟩ := hnp
                  have hxr := src_rel hE h2 hsv
                  have hex : execOp a.eval o = (do let v ← Instr.next (a.eval it) false o.type; pure (.value v)) := by
                    obtain ⟨dst', op, ty, pos, after, g⟩ := o
                    simp only at h1
                    subst h1
                    rfl
                  refine ⟨fun f _ => FW_fn r f, ?_⟩
                  rw [semAt_of hk, hex]
                  rcases next_step (P := P) H hxr hm hes hn o.type with ⟨i, kk, y, x1, x2, w', e1, e2, e3, e4, e5, e6⟩ | ⟨e1, e2⟩
                  · simp only [Sem.run_bind, e3, Result.andThen_ok, Sem.run_pure]
                    have hput := hE.put (a := a) hs hop.dstOK (VRel.tuple [.bool true, kk, y] [.bool true, x1, x2] (.cons _ _ _ _ (.bool true) (.cons _ _ _ _ e4 (.cons _ _ _ _ e5 .nil))))
                    have hpost : OpPost c P Old w0 E h id nt a E (h.set rr (some (.mapIter m n (i :: seen)))) w' (e.putD ao.dst (.tuple [.bool true, kk, y])) (a.put o.dst (.tuple #[.bool true, x1, x2])) :=
                      ⟨.refl _, e6, by rw [hop.dst]; exact hput.1, hput.2, put_defers _ _ _, fun b hb => .inl hb, Nat.le_refl _⟩
                    exact hnext _ _ _ _ _ hpost (hk1 i kk y e1 e2)
                  · simp only [Sem.run_bind, e2, Result.andThen_ok, Sem.run_pure]
                    have hput := hE.put (a := a) hs hop.dstOK (VRel.tuple [.bool false] [.bool false] (.cons _ _ _ _ (.bool false) .nil))
                    have hpost : OpPost c P Old w0 E h id nt a E h w (e.putD ao.dst (.tuple [.bool false])) (a.put o.dst (.tuple #[.bool false])) :=
                      ⟨.refl _, H, by rw [hop.dst]; exact hput.1, hput.2, put_defers _ _ _, fun b hb => .inl hb, Nat.le_refl _⟩
                    exact hnext _ _ _ _ _ hpost (hk2 e1)
                · exact hnp.elim
              · exact hnp.elim
            · exact hnp.elim
        obtain ⟨oo, h3, h4, h5⟩ := cCall_callv h2
        exact call_wp hcs (r := r) (id := id) h1 hop.dst.symm hodst H hE hs (src_rel hE h4 hfv) (srcs_rel hE h5 hvs) ⟨h3, rfl⟩ hh hnext
      · exact hh.elim
    · rename_i n1 n2
      split at hh
      · rename_i v h' hv
        have hv' : aeval k e h id = some (v, h') := by
          rcases hwide with hw | ⟨n, s, x, hk2, hw⟩
          · rw [← hw]; exact hv
          · have := wide_eval hv
            rw [hw] at this
            rw [hk2]
            exact this
        have hnc : k.isCall = false := by
          rcases hwide with hw | ⟨n, s, x, hk2, hw⟩
          · cases k <;> first | rfl | exact (n1 _ _ hw).elim | exact (n2 _ _ hw).elim
          · rw [hk2]; rfl
        obtain ⟨nx, x, w', E', e1, e2, e3, e4, e5, e6⟩ := op_sim (R := CR c P) (Old := Old) (w0 := w0) hk hnc H hE hid hnx hv'
        refine ⟨fun f _ => FW_fn r f, ?_⟩
        rw [semAt_of hk, e1]
        have hput := (hE.mono e3).put (a := a) hs hop.dstOK e5
        have hpost : OpPost c P Old w0 E h id nt a E' h' w' (e.putD ao.dst v) (a.put o.dst x) := ⟨e3, e4, by rw [hop.dst]; exact hput.1, hput.2, put_defers _ _ _, fun b hb => (e6 b hb).imp (fun hh => hh) .inl, by rw [aeval_next hv]; exact Nat.le_refl _⟩
        rcases e2 with rfl | ⟨rfl, rfl⟩
        · exact hnext _ _ _ _ _ hpost hh
        · exact hnext _ _ _ _ _ hpost hh
      · exact hh.elim

/-- Operations with their blocks' names. -/
def aOpsL (call : CallP) : List (Nat × AOp) → Env → Heap → (Env → Heap → Prop) → Prop
  | [], e, h, K => K e h
  | p :: r, e, h, K => aOp call p.1 p.2 e h (fun e' h' => chksA p.2.chk e' h' ∧ aOpsL call r e' h' K)

def named : Nat → List AOp → List (Nat × AOp)
  | _, [] => []
  | id, o :: os => (id, o) :: named (id + 1) os

theorem aOps_named {call : CallP} : ∀ (os : List AOp) (id : Nat) (e : Env) (h : Heap) (K : Env → Heap → Prop), aOps call id os e h K = aOpsL call (named id os) e h K
  | [], _, _, _, _ => rfl
  | o :: os, id, e, h, K => by
    simp only [aOps, named, aOpsL]
    congr 1
    funext e' h'
    rw [aOps_named os (id + 1) e' h' K]

/-- What a row of operations leaves. -/
structure OpsPost (c : Ctx) (P : Program) (Old : Nat → Prop) (w0 : World) (E : Emb) (h : Heap) (nt : Nat) (a : Act) (names : List Nat) (E' : Emb) (h' : Heap) (w' : World) (e' : Env) (a' : Act) : Prop where
  le : E.Le E'
  rel : HRel (CR c P) Old w0 E' h' w'
  env : EnvRel E' e' a'.tmps
  size : nt ≤ a'.tmps.size
  defers : a'.defers = a.defers
  fresh : ∀ b, E'.here b → E.here b ∨ b ∈ names ∨ h.next ≤ b
  next : h.next ≤ h'.next

theorem cOps_get {nt : Nat} {all : Array Oper} : ∀ {os : List Oper} {as : List AOp}, cOps P nt all os = some as → as.length = os.length ∧ ∀ (i : Nat) (o : Oper), os[i]? = some o → ∃ ao, as[i]? = some ao ∧ ao.dst = o.dst ∧ cDst nt o.dst = true ∧ cGuard all o.guard = some ao.guard ∧ cOp P o = some ao.k
  | [], as, h => by simp only [cOps, Option.some.injEq] at h; subst h; exact ⟨rfl, fun i o hi => by simp at hi⟩
  | o :: os, as, h => by
    simp only [cOps] at h
    split at h
    · rename_i g k r h1 h2 h3
      split at h
      · rename_i hd
        cases h
        obtain ⟨g1, g2⟩ := cOps_get h3
        refine ⟨by simp [g1], fun i o' hi => ?_⟩
        cases i with
        | zero => simp only [List.getElem?_cons_zero, Option.some.injEq] at hi; subst hi; exact ⟨_, rfl, rfl, hd, h1, h2⟩
        | succ i => simpa using g2 i o' (by simpa using hi)
      · cases h
    · cases h

theorem cOps_chk {nt : Nat} {all : Array Oper} : ∀ {os : List Oper} {as : List AOp}, cOps P nt all os = some as → ∀ x ∈ as, x.chk = []
  | [], as, h => by simp only [cOps, Option.some.injEq] at h; subst h; intro x hx; cases hx
  | o :: os, as, h => by
    simp only [cOps] at h
    split at h
    · rename_i g k r h1 h2 h3
      split at h
      · cases h
        intro x hx
        rcases List.mem_cons.1 hx with rfl | hx
        · rfl
        · exact cOps_chk h3 x hx
      · cases h
    · cases h

/-- A region in the order of its text. -/
theorem ops_wp {call : CallP} (hcs : CallSound c P call) (hnl : NextLike call) {nt : Nat} {ops : Array Oper} {r : Option Nat} {Q : Exit → Act → World → Prop} :
    ∀ (rest : List Oper) (k : Nat) (as : List AOp) (id : Nat) {E : Emb} {h : Heap} {w : World} {a : Act} {e : Env}, (∀ i : Nat, rest[i]? = ops[k + i]?) → k + rest.length = ops.size → as.length = rest.length →
      (∀ (i : Nat) (o : Oper), rest[i]? = some o → ∃ ao : AOp, as[i]? = some ao ∧ OpOf P nt ops o ao) → HRel (CR c P) Old w0 E h w → EnvRel E e a.tmps → nt ≤ a.tmps.size → (∀ j, id ≤ j → j < id + as.length → ¬ E.here j) → id + as.length ≤ h.next →
      ∀ {K : Env → Heap → Prop}, aOps call id as e h K → (∀ E' h' w' e' a', E.Le E' → HRel (CR c P) Old w0 E' h' w' → EnvRel E' e' a'.tmps → nt ≤ a'.tmps.size → a'.defers = a.defers → (∀ b, E'.here b → E.here b ∨ id ≤ b) → h.next ≤ h'.next → K e' h' → Q .normal a' w') →
      wpOpsIn (FW r) 0 P ops Q (List.range' k rest.length 1) a w := by
  intro rest
  induction rest with
  | nil =>
    intro k as id E h w a e _ _ hlen _ H hE hs _ _ K hh hq
    have : as = [] := List.eq_nil_of_length_eq_zero hlen
    subst this
    exact hq E h w e a (.refl _) H hE hs rfl (fun b hb => .inl hb) (Nat.le_refl _) hh
  | cons o rest ih =>
    intro k as id E h w a e hget hsz hlen hof H hE hs hfree hnx K hh hq
    cases as with
    | nil => simp at hlen
    | cons ao as =>
      obtain ⟨ao', hao, hop⟩ := hof 0 o rfl
      simp only [List.getElem?_cons_zero, Option.some.injEq] at hao
      subst hao
      have hko : ops[k]? = some o := by have := hget 0; simp at this; exact this.symm
      rw [List.length_cons, List.range'_succ, wpOpsIn_cons]
      simp only [List.length_cons] at hfree hnx hlen hsz
      refine oper_wp hcs hnl hop hko H hE hs (hfree id (Nat.le_refl _) (by omega)) (by omega) hh ?_
      intro E1 h1 w1 e1 a1 hp hh1
      refine ih (k + 1) as (id + 1) (fun i => by have := hget (i + 1); simp only [List.getElem?_cons_succ] at this; rw [this]; congr 1; omega) (by omega) (by omega)
        (fun i o' hi => by simpa using hof (i + 1) o' (by simpa using hi)) hp.rel hp.env hp.size (fun j h1' h2' hj => ?_) (Nat.le_trans (by omega) hp.next) hh1.2 ?_
      · rcases hp.fresh j hj with h3 | h3 | h3
        · exact hfree j (by omega) (by omega) h3
        · omega
        · omega
      · intro E2 h2 w2 e2 a2 g1 g2 g3 g4 g5 g6 g7 g8
        refine hq E2 h2 w2 e2 a2 (hp.le.trans g1) g2 g3 g4 (g5.trans hp.defers) (fun b hb => ?_) (Nat.le_trans hp.next g7) g8
        rcases g6 b hb with h3 | h3
        · rcases hp.fresh b h3 with h4 | h4 | h4
          · exact .inl h4
          · exact .inr (by omega)
          · exact .inr (by omega)
        · exact .inr (by omega)

end
end Go.Ab
