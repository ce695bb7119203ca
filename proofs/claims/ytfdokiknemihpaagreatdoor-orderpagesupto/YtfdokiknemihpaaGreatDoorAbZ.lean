/- The same functions, written so that the kernel runs them with less room: each case is a closed function. -/
import Derived.Test.YtfdokiknemihpaaGreatDoorAbN
namespace Go.Ab

abbrev RhsF := CallF → Env → Heap → Nat → Option (AV × Heap)
def rhsF (k : OpK) : RhsF :=
  match k with
  | .mov x => fun _ e h _ => op_mov x e h
  | .pick c a b => fun _ e h _ => op_pick c a b e h
  | .alloc zs => fun _ _ h id => op_alloc zs h id
  | .box x => fun _ e h id => op_box x e h id
  | .build zs parts => fun _ e h _ => op_build zs parts e h
  | .buildSlice zs esz len parts => fun _ e h id => op_buildSlice zs esz len parts e h id
  | .load1 a => fun _ e h _ => op_load1 a e h
  | .loadN n a => fun _ e h _ => op_loadN n a e h
  | .store n a x => fun _ e h _ => op_store n a x e h
  | .nilCheck x => fun _ e h _ => op_nilCheck x e h
  | .bin op x y => fun _ e h _ => op_bin op x y e h
  | .eq neg tg x y => fun _ e h _ => op_eq neg tg x y e h
  | .un op x => fun _ e h _ => op_un op x e h
  | .convInt k x => fun _ e h _ => op_convInt k x e h
  | .strBytes x => fun _ e h id => op_strBytes x e h id
  | .bytesStr x => fun _ e h _ => op_bytesStr x e h
  | .iface t x => fun _ e h _ => op_iface t x e h
  | .makeFunc f first cap => fun _ e h _ => op_makeFunc f first cap e h
  | .makeMap => fun _ _ h id => op_makeMap h id
  | .makeSlice zs esz l c => fun _ e h id => op_makeSlice zs esz l c e h id
  | .sliceStr x lo hi => fun _ e h _ => op_sliceStr x lo hi e h
  | .sliceSl esz x lo hi => fun _ e h _ => op_sliceSl esz x lo hi e h
  | .sliceArr n esz x lo hi => fun _ e h _ => op_sliceArr n esz x lo hi e h
  | .fieldAddr off x => fun _ e h _ => op_fieldAddr off x e h
  | .field off n isAgg x => fun _ e h _ => op_field off n isAgg x e h
  | .idxSl esz x i => fun _ e h _ => op_idxSl esz x i e h
  | .idxArr n esz x i => fun _ e h _ => op_idxArr n esz x i e h
  | .index n esz isAgg x i => fun _ e h _ => op_index n esz isAgg x i e h
  | .indexStr x i => fun _ e h _ => op_indexStr x i e h
  | .lookup tg zero ok m k => fun _ e h _ => op_lookup tg zero ok m k e h
  | .mapUpdate tg m k v => fun _ e h _ => op_mapUpdate tg m k v e h
  | .extract i x => fun _ e h _ => op_extract i x e h
  | .len tg x => fun _ e h _ => op_len tg x e h
  | .lenK n => fun _ _ h _ => op_lenK n h
  | .minmax mx x y => fun _ e h _ => op_minmax mx x y e h
  | .append esz s x => fun _ e h id => op_append esz s x e h id
  | .appendX esz s x => fun _ e h id => op_appendX esz s x e h id
  | .growZ zs esz s n => fun _ e h id => op_growZ zs esz s n e h id
  | .copy esz d s => fun _ e h _ => op_copy esz d s e h
  | .range x => fun _ e h id => op_range x e h id
  | .next it => fun _ e h _ => op_next it e h
  | .rangeM x => fun _ e h id => op_rangeM x e h id
  | .entry it => fun _ e h _ => op_entry it e h
  | .ext f args => fun _ e h _ => op_ext f args e h
  | .call f args => fun call e h _ => xCall call (some (.func (.fn f) [] [])) (e.srcs args) h
  | .callv f args => fun call e h _ => xCall call (e.src f) (e.srcs args) h

theorem rhsF_eq (call : CallF) (k : OpK) (e : Env) (h : Heap) (id : Nat) : rhsF k call e h id = xRhs call k e h id := by
  cases k <;> rfl

def opF2 (r : Option Bool) : (Option Nat) → OpK → CallF → Nat → Env → Heap → Option (Env × Heap) :=
  match r with
  | none => fun _ _ _ _ _ _ => none
  | some b => match b with
    | false => fun d _ _ _ e h => some (e.putD d .undef, h)
    | true => fun d k call id e h => xPut e d (rhsF k call e h id)
def opF (o : AOp) : CallF → Nat → Env → Heap → Option (Env × Heap) :=
  match o.guard with
  | none => fun call id e h => xPut e o.dst (rhsF o.k call e h id)
  | some g => fun call id e h => opF2 (guardA (some g) e) o.dst o.k call id e h
theorem opF_eq (call : CallF) (id : Nat) (o : AOp) (e : Env) (h : Heap) : opF o call id e h = xOp call id o e h := by
  unfold opF xOp
  cases hg : o.guard with
  | none => simp only [guardA, rhsF_eq]
  | some g =>
    simp only
    cases guardA (some g) e with
    | none => rfl
    | some b => cases b <;> simp [opF2, rhsF_eq]

def chkF (cs : List Chk) : Env → Heap → Bool :=
  match cs with
  | [] => fun _ _ => true
  | c :: cs => fun e h => chksX (c :: cs) e h
theorem chkF_eq (cs : List Chk) (e : Env) (h : Heap) : chkF cs e h = chksX cs e h := by cases cs <;> rfl

def opsF : List AOp → CallF → Nat → Env → Heap → Option (Env × Heap)
  | [] => fun _ _ e h => some (e, h)
  | o :: os => fun call id e h => xNext (opF o call id e h) fun e' h' => match chkF o.chk e' h' with
    | true => opsF os call (id + 1) e' h'
    | false => none
theorem opsF_eq (call : CallF) : ∀ (os : List AOp) (id : Nat) (e : Env) (h : Heap), opsF os call id e h = xOps call id os e h
  | [], _, _, _ => rfl
  | o :: os, id, e, h => by
    simp only [opsF, xOps, opF_eq, chkF_eq]
    congr 1
    funext e' h'
    cases chksX o.chk e' h' with
    | true => exact opsF_eq call os (id + 1) e' h'
    | false => rfl

abbrev StepF := XCtx → XF → Option Nat → Env → Heap → Option (Ex × Env × Heap)
def stepF (code : AC) : StepF :=
  match code with
  | .skip => fun _ _ _ e h => some (.normal, e, h)
  | .ops none os => fun c rec _ e h => normX (opsF os (callX c rec) h.next e (h.bump os.length))
  | .ops (some kp) os => fun c rec _ e h => normK kp (opsF os (callX c rec) h.next e (h.bump os.length))
  | .seq a b => fun _ rec rd e h => seqX rec rd b (rec rd a e h)
  | .cond s t f => fun _ rec rd e h => condX rec rd t f e h (e.src s)
  | .block id body => fun _ rec rd e h => blockX id (rec rd body e h)
  | .loop body => fun _ rec rd e h => seqX rec rd (.loop body) (rec rd body e h)
  | .exit id => fun _ _ _ e h => some (.exit id, e, h)
  | .ret => fun _ _ _ e h => some (.ret, e, h)
  | .keep s => fun _ _ _ e h => some (.normal, e.keep s, h)
  | .rangeFunc f ps asg body => fun c rec rd e h => rangeX c rec rd (e.src f) ps asg body e h
theorem stepF_eq (c : XCtx) (rec : XF) (rd : Option Nat) (code : AC) (e : Env) (h : Heap) : stepF code c rec rd e h = execStep c rec rd code e h := by
  cases code with
  | ops kp os => cases kp <;> simp [stepF, execStep, opsF_eq]
  | _ => rfl

def execF (c : XCtx) : Nat → XF
  | 0 => fun _ _ _ _ => none
  | n + 1 => fun rd code e h => stepF code c (execF c n) rd e h
theorem execF_eq (c : XCtx) : ∀ n, execF c n = exec c n
  | 0 => rfl
  | n + 1 => by
    funext rd code e h
    show stepF code c (execF c n) rd e h = execStep c (exec c n) rd code e h
    rw [execF_eq c n, stepF_eq]
end Go.Ab
