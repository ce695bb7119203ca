/- The compiler from the model's code to the abstract machine's; every function of it is run by the kernel over a loaded program. -/
import Derived.Test.YtfdokiknemihpaaGreatDoorAbA
import GoSem.Core.Layout
namespace Go.Ab

def ofV1 : Value → Option AV
  | .bool b => some (.bool b)
  | .int k n => some (.int k n)
  | .string s => some (.str (s.data.toList.map UInt8.toNat))
  | .pointer none => some .nilptr
  | .slice none 0 0 => some .nilslice
  | .map none => some .nilmap
  | .nilFunc => some .nilfunc
  | .nilIface => some .nilIface
  | _ => none

def ofV1s : List Value → Option (List AV)
  | [] => some []
  | v :: vs => match ofV1 v with
    | none => none
    | some a => match ofV1s vs with
      | none => none
      | some as => some (a :: as)

def ofValue : Value → Option AV
  | .agg cs => (ofV1s cs.toList).map .agg
  | .tuple cs => (ofV1s cs.toList).map .tuple
  | v => ofV1 v

def cSrc : Operand → Option Src
  | .tmp t => some (.t t)
  | .const v => (ofValue v).map .k
  | .global _ => none
  | .func f => some (.k (.func (.fn f) [] []))

def cSrcs : List Operand → Option (List Src)
  | [] => some []
  | o :: os => match cSrc o with
    | none => none
    | some s => match cSrcs os with
      | none => none
      | some ss => some (s :: ss)

def cOpt : Option Operand → Option (Option Src)
  | none => some none
  | some o => (cSrc o).map some

def cZero (P : Program) (t : TypeId) : Option AV :=
  match P.info? t with
  | some i => match i.zero with
    | some v => ofValue v
    | none => none
  | none => none

/-- The cells of a struct's fields, one behind the other. -/
def fieldsL (P : Program) (g : TypeId → Option (List Leaf)) : List Field → List Leaf → Option (List Leaf)
  | [], acc => some acc
  | f :: fs, acc => if f.name ≠ "_" ∧ f.offset = acc.length then
      (match g f.type, P.info? f.type with
       | some ls, some i => if i.size = ls.length then fieldsL P g fs (acc ++ ls) else none
       | _, _ => none)
    else none

/-- A type whose values are compared cell by cell: what the cells are. -/
def leafsP (P : Program) : Nat → TypeId → Option (List Leaf)
  | 0, _ => none
  | d + 1, t => match P.underlying t with
    | some .bool => some [.bool]
    | some (.int _) => some [.int]
    | some .string => some [.str]
    | some (.struct fields) =>
      if P.stoodInHeld t then none else fieldsL P (leafsP P d) fields.toList []
    | some (.array len elem) => match leafsP P d elem, P.info? elem with
      | some ls, some i => if i.size = ls.length then some (List.replicate len ls).flatten else none
      | _, _ => none
    | _ => none

def eqTag (P : Program) (t : TypeId) : Option EqT :=
  match P.underlying t with
  | some .bool => some (.leaf .bool)
  | some (.int _) => some (.leaf .int)
  | some .string => some (.leaf .str)
  | some (.pointer _) => some .ptr
  | some (.slice _) => some .slice
  | some (.map _ _) => some .map
  | some (.func _ _ _) => some .func
  | some (.struct _) | some (.array _ _) => if P.eqGuardType P.depth t then none else (leafsP P 20 t).map .agg
  | _ => none

def keyTag (P : Program) (t : TypeId) : Option EqT :=
  match P.underlying t with
  | some .bool => some (.leaf .bool)
  | some (.int _) => some (.leaf .int)
  | some .string => some (.leaf .str)
  | some (.struct _) | some (.array _ _) => (leafsP P 20 t).map .agg
  | _ => none

def isAggP (P : Program) (t : TypeId) : Option Bool :=
  match P.underlying t with
  | some (.struct _) => some true
  | some (.array _ _) => some true
  | some _ => some false
  | none => none

def sizeP (P : Program) (t : TypeId) : Option Nat := (P.info? t).map (·.size)

def cParts (place : Nat → Option (Nat × Nat)) : List (Nat × Operand) → Option (List (Nat × Nat × Src))
  | [] => some []
  | (i, o) :: rest => match place i, cSrc o, cParts place rest with
    | some (off, sz), some s, some r => some ((off, sz, s) :: r)
    | _, _, _ => none

def fieldPlaces (P : Program) (fields : Array Field) (i : Nat) : Option (Nat × Nat) :=
  match fields[i]? with
  | some f => (sizeP P f.type).map fun n => (f.offset, n)
  | none => none

def allSized (P : Program) (fields : Array Field) : Bool := fields.toList.all fun f => (P.info? f.type).isSome

def cBuiltin (P : Program) (b : Builtin) (argTypes : Array TypeId) (args : List Operand) : Option OpK :=
  match b, args with
  | .len, [x] => match argTypes[0]?.bind P.underlying with
    | some .string => (cSrc x).map (.len .str)
    | some (.slice _) => (cSrc x).map (.len .slice)
    | some (.map _ _) => (cSrc x).map (.len .map)
    | some (.array n _) => some (.lenK n)
    | some (.pointer arr) => (match P.underlying arr with
      | some (.array n _) => some (.lenK n)
      | _ => none)
    | _ => none
  | .cap, [x] => match argTypes[0]?.bind P.underlying with
    | some (.slice _) => (cSrc x).map (.len .cap)
    | _ => none
  | .append, [s, x] => match argTypes[0]?.bind P.underlying with
    | some (.slice elem) => (match P.info? elem, argTypes[1]?.bind P.underlying, cSrc s, cSrc x with
      | some i, some d, some s', some x' =>
        if i.bytes ≤ 65536 ∧ i.zero.any (fun v => v.cells.size == i.size) then (match d with
          | .int _ => (match cZero P elem with
            | some z => if z.cells.length = i.size ∧ 0 < i.size then some (.growZ z.cells i.size s' x') else none
            | none => none)
          | _ => some (.append i.size s' x')) else none
      | _, _, _, _ => none)
    | _ => none
  | .copy, [d, s] => match argTypes[0]?.bind P.underlying with
    | some (.slice elem) => (match P.info? elem, cSrc d, cSrc s with
      | some i, some d', some s' => some (.copy i.size d' s')
      | _, _, _ => none)
    | _ => none
  | .min, [x, y] => (match cSrc x, cSrc y with | some a, some b => some (.minmax false a b) | _, _ => none)
  | .max, [x, y] => (match cSrc x, cSrc y with | some a, some b => some (.minmax true a b) | _, _ => none)
  | _, _ => none

/-- A function without a text that is known. -/
def extOf (P : Program) (f : Nat) : Option Ext :=
  match P.funcs[f]? with
  | some fn => match fn.body with
    | none => if fn.origin == "" then (if fn.name == "internal/bytealg.IndexByteString" then some .index else if fn.name == "internal/bytealg.CountString" then some .count else none) else none
    | some _ => none
  | none => none

def cCall (P : Program) (c : Call) : Option OpK :=
  match c.callee with
  | .value (.func f) => (match extOf P f with
    | some x => (cSrcs c.args.toList).map (.ext x)
    | none => (cSrcs c.args.toList).map (.call f))
  | .value o => (match cSrc o, cSrcs c.args.toList with
    | some s, some ss => some (.callv s ss)
    | _, _ => none)
  | .builtin b => cBuiltin P b c.argTypes c.args.toList
  | .invoke _ _ => none

def cOp (P : Program) (o : Oper) : Option OpK :=
  match o.op with
  | .move x | .assign x => (cSrc x).map .mov
  | .pick c a b => (match cSrc c, cSrc a, cSrc b with
    | some c', some a', some b' => some (.pick c' a' b')
    | _, _, _ => none)
  | .alloc t => (cZero P t).map fun z => .alloc z.cells
  | .box _ x => (cSrc x).map .box
  | .build t parts => (match cZero P t, P.underlying t with
    | some z, some (.struct fields) =>
      if allSized P fields then (cParts (fieldPlaces P fields) parts.toList).map (.build z.cells) else none
    | some z, some (.array _ elem) => (match sizeP P elem with
      | some n => (cParts (fun i => some (i * n, n)) parts.toList).map (.build z.cells)
      | none => none)
    | _, _ => none)
  | .buildSlice t len parts => (match P.underlying t with
    | some (.slice elem) => (match cZero P elem, sizeP P elem with
      | some z, some n =>
        if len * n ≤ 16777216 ∧ z.cells.length = n then
          (cParts (fun i => some (i * n, n)) parts.toList).map (.buildSlice ((List.replicate len z.cells).flatten) n len)
        else none
      | _, _ => none)
    | _ => none)
  | .load t a => (match isAggP P t, sizeP P t, cSrc a with
    | some true, some n, some s => some (.loadN n s)
    | some false, some _, some s => some (.load1 s)
    | _, _, _ => none)
  | .store t a x => (match sizeP P t, cSrc a, cSrc x with
    | some n, some s, some v => some (.store n s v)
    | _, _, _ => none)
  | .nilCheck x => (cSrc x).map .nilCheck
  | .binOp op t x y _ => (match cSrc x, cSrc y with
    | some a, some b => (match op with
      | .eql => (eqTag P t).map fun tg => .eq false tg a b
      | .neq => (eqTag P t).map fun tg => .eq true tg a b
      | op => some (.bin op a b))
    | _, _ => none)
  | .unOp op _ x => (cSrc x).map (.un op)
  | .convert src dst x => (match cSrc x with
    | none => none
    | some s => match P.underlying src, P.underlying dst with
      | some (.int _), some (.int k) => some (.convInt k s)
      | some .string, some .string => some (.sliceStr s none none)
      | some .string, some (.slice e) => (match P.underlying e with
        | some (.int .u8) => some (.strBytes s)
        | _ => none)
      | some (.slice e), some .string => (match P.underlying e with
        | some (.int .u8) => some (.bytesStr s)
        | _ => none)
      | _, _ => none)
  | .makeInterface t x => (match P.underlying t with
    | some (.interface _) => none
    | some _ => (cSrc x).map (.iface t)
    | none => none)
  | .makeFunc (.func f) first captured => (match cSrcs first.toList, cSrcs captured.toList with
    | some a, some b => some (.makeFunc f a b)
    | _, _ => none)
  | .makeMap t none => (match P.underlying t with
    | some (.map _ _) => some .makeMap
    | _ => none)
  | .makeSlice t l c => (match P.underlying t with
    | some (.slice elem) => (match P.info? elem, cZero P elem, cSrc l, cSrc c with
      | some i, some z, some l', some c' => if i.bytes ≤ 65536 ∧ z.cells.length = i.size then some (.makeSlice z.cells i.size l' c') else none
      | _, _, _, _ => none)
    | _ => none)
  | .slice t x lo hi none => (match cSrc x, cOpt lo, cOpt hi with
    | some s, some l, some h => (match P.underlying t with
      | some .string => some (.sliceStr s l h)
      | some (.slice elem) => (sizeP P elem).map fun n => .sliceSl n s l h
      | some (.array n elem) => (sizeP P elem).map fun z => .sliceArr n z s l h
      | some (.pointer arr) => (match P.underlying arr with
        | some (.array n elem) => (sizeP P elem).map fun z => .sliceArr n z s l h
        | _ => none)
      | _ => none)
    | _, _, _ => none)
  | .fieldAddr t x f => (match P.underlying t with
    | some (.struct fields) => (match fields[f]? with
      | some fd => (match sizeP P fd.type, cSrc x with
        | some (_ + 1), some s => some (.fieldAddr fd.offset s)
        | _, _ => none)
      | none => none)
    | _ => none)
  | .field t x f => (match P.underlying t with
    | some (.struct fields) => (match fields[f]? with
      | some fd => (match isAggP P fd.type, sizeP P fd.type, cSrc x with
        | some b, some n, some s => some (.field fd.offset n b s)
        | _, _, _ => none)
      | none => none)
    | _ => none)
  | .indexAddr t x i => (match cSrc x, cSrc i, P.underlying t with
    | some s, some j, some (.slice elem) => (sizeP P elem).map fun n => .idxSl n s j
    | some s, some j, some (.array n elem) => (sizeP P elem).map fun z => .idxArr n z s j
    | _, _, _ => none)
  | .index t x i => (match cSrc x, cSrc i, P.underlying t with
    | some s, some j, some .string => some (.indexStr s j)
    | some s, some j, some (.array n elem) => (match isAggP P elem, sizeP P elem with
      | some b, some z => some (.index n z b s j)
      | _, _ => none)
    | _, _, _ => none)
  | .lookup t m k ok => (match P.underlying t with
    | some (.map key elem) => (match keyTag P key, cZero P elem, cSrc m, cSrc k with
      | some tg, some z, some m', some k' => some (.lookup tg z ok m' k')
      | _, _, _, _ => none)
    | _ => none)
  | .mapUpdate t m k v | .insert t m k v => (match P.underlying t with
    | some (.map key _) => (match keyTag P key, cSrc m, cSrc k, cSrc v with
      | some tg, some m', some k', some v' => some (.mapUpdate tg m' k' v')
      | _, _, _, _ => none)
    | _ => none)
  | .extract x i => (cSrc x).map (.extract i)
  | .range t x => (match P.underlying t with
    | some .string => (cSrc x).map .range
    | some (.map _ _) => (cSrc x).map .rangeM
    | _ => none)
  | .next it true => (cSrc it).map .next
  | .next it false => (cSrc it).map fun s => .callv (.k (.func .next [] [])) [s]
  | .entry it => (cSrc it).map .entry
  | .call c => cCall P c
  | _ => none

def cGuard (ops : Array Oper) : Option (Nat × Bool) → Option (Option (Nat × Bool))
  | none => some none
  | some (j, want) => match (ops[j]?).bind (·.dst) with
    | some t => some (some (t, want))
    | none => none

def cDst (nt : Nat) : Option Nat → Bool
  | none => true
  | some d => Nat.blt d nt

def cOps (P : Program) (nt : Nat) (all : Array Oper) : List Oper → Option (List AOp)
  | [] => some []
  | o :: os => match cGuard all o.guard, cOp P o, cOps P nt all os with
    | some g, some k, some r => if cDst nt o.dst then some ({ dst := o.dst, guard := g, k := k } :: r) else none
    | _, _, _ => none

/-! ### Regions that draw: which operations may change places -/
/-- 0: looks at no heap, makes nothing · 1: looks at the heap only · 2: makes a block of its own (append: and marks the old one) · 3: all else. -/
def OpK.cls : OpK → Nat
  | .mov _ | .pick _ _ _ | .build _ _ | .nilCheck _ | .bin _ _ _ | .eq _ _ _ _ | .un _ _ | .convInt _ _ | .iface _ _ | .makeFunc _ _ _
  | .sliceStr _ _ _ | .sliceSl _ _ _ _ | .fieldAddr _ _ | .field _ _ _ _ | .idxSl _ _ _ | .idxArr _ _ _ _ | .index _ _ _ _ _
  | .indexStr _ _ | .extract _ _ | .lenK _ | .minmax _ _ _ | .ext _ _ => 0
  | .load1 _ | .loadN _ _ | .lookup _ _ _ _ _ | .len _ _ | .bytesStr _ => 1
  | .alloc _ | .buildSlice _ _ _ _ | .appendX _ _ _ => 2
  | .sliceArr _ _ _ _ _ | .box _ | .makeMap | .makeSlice _ _ _ _ | .strBytes _ | .range _
  | .growZ _ _ _ _ | .store _ _ _ | .mapUpdate _ _ _ _ | .copy _ _ _ | .append _ _ _ | .next _ | .rangeM _ | .entry _ | .call _ _ | .callv _ _ => 3

/-- A block that nobody knows of is made, and nothing is looked at. -/
def OpK.fresh : OpK → Bool
  | .alloc _ | .buildSlice _ _ _ _ => true
  | _ => false

/-- The block that a value names itself. -/
def topB : AV → List Nat
  | .ptr b _ => [b]
  | .slice b _ _ _ => [b]
  | .map r => [r]
  | _ => []

/-- What is looked through, by operations of the classes 1 and 2. -/
def OpK.ptrs : OpK → List Src
  | .load1 a | .loadN _ a | .bytesStr a | .len .map a => [a]
  | .lookup _ _ _ m _ => [m]
  | .appendX _ s x => [s, x]
  | _ => []

def srcLow : Src → Bool
  | .t _ => true
  | .k v => (topB v).isEmpty

def srcT : Src → List Nat
  | .t n => [n]
  | .k _ => []
def optT : Option Src → List Nat
  | none => []
  | some s => srcT s

def OpK.reads : OpK → List Nat
  | .mov x | .box x | .load1 x | .loadN _ x | .nilCheck x | .un _ x | .convInt _ x | .strBytes x | .bytesStr x | .iface _ x | .fieldAddr _ x | .field _ _ _ x
  | .extract _ x | .len _ x | .range x | .next x | .rangeM x | .entry x => srcT x
  | .pick c a b => srcT c ++ srcT a ++ srcT b
  | .alloc _ | .makeMap | .lenK _ => []
  | .build _ ps | .buildSlice _ _ _ ps => ps.flatMap fun p => srcT p.2.2
  | .store _ a x | .bin _ a x | .eq _ _ a x | .makeSlice _ _ a x | .idxSl _ a x | .idxArr _ _ a x | .index _ _ _ a x | .indexStr a x | .lookup _ _ _ a x
  | .minmax _ a x | .append _ a x | .appendX _ a x | .growZ _ _ a x | .copy _ a x => srcT a ++ srcT x
  | .makeFunc _ a b => (a ++ b).flatMap srcT
  | .sliceStr x lo hi | .sliceSl _ x lo hi | .sliceArr _ _ x lo hi => srcT x ++ optT lo ++ optT hi
  | .mapUpdate _ m k v => srcT m ++ srcT k ++ srcT v
  | .call _ args | .ext _ args => args.flatMap srcT
  | .callv f args => srcT f ++ args.flatMap srcT

def guardT : Option (Nat × Bool) → List Nat
  | some (t, _) => [t]
  | none => []
/-- What an operation reads when it runs. -/
def AOp.own (o : AOp) : List Nat := o.k.reads ++ guardT o.guard
def Chk.reads (c : Chk) : List Nat := c.d :: (c.k.reads ++ guardT c.guard)
def AOp.reads (o : AOp) : List Nat := o.own ++ o.chk.flatMap Chk.reads

def dstOff (d : Option Nat) (l : List Nat) : Bool :=
  match d with
  | none => true
  | some t => !l.contains t

def clsP (pure : List Nat) (o : AOp) : Nat :=
  if o.chk.isEmpty then
    match o.k with
    | .call f _ => if pure.contains f then 0 else 3
    | k => if k.ptrs.all srcLow then k.cls else 3
  else 3

def opAt (as : List AOp) (j : Nat) : AOp := (as[j]?).getD { dst := none, guard := none, k := .lenK 0 }
def entry (x : AOp) : Option Chk :=
  match x.dst with
  | some d => some ⟨d, x.guard, x.k⟩
  | none => none

/-- Which operations are right ahead of each, by the edges that bind in any order. -/
def precs (ops : List Oper) : List (List Nat) :=
  ops.map fun o => (o.after.toList.filter fun e => Region.binds .any e).map (·.on)

/-- Which are ahead of each, directly or not. -/
def closeOver : List (List Nat) → List (List Nat) → List (List Nat)
  | acc, [] => acc
  | acc, ps :: rest => closeOver (acc ++ [ps ++ ps.flatMap fun p => acc.getD p []]) rest

/-- An order: in levels; what is of class 3 comes as early as it may, and new blocks behind it. (An append counts as the narrower operation.) -/
def late (pure : List Nat) (o : AOp) : Bool :=
  match o.k with
  | .append _ _ _ => false
  | _ => clsP pure o == 3
def upTo (n r : Nat) : Nat := n + (r + 3 - n % 3) % 3
def level1 (pure : List Nat) (acc : List Nat) (p : AOp × List Nat) : List Nat :=
  let m := p.2.foldl (fun m p => max m (acc.getD p 0)) 0
  acc ++ [if late pure p.1 then upTo m 1 else if p.1.k.fresh && p.1.guard.isNone then upTo m 2 else m]
def levels (pure : List Nat) (as : List AOp) (ps : List (List Nat)) : List Nat := (as.zip ps).foldl (level1 pure) []
def canon (pure : List Nat) (ps : List (List Nat)) (as : List AOp) : List Nat :=
  let ls := levels pure as ps
  (List.range (3 * as.length + 3)).flatMap fun k => (List.range as.length).filter fun i => ls.getD i 0 == k

def permOK (n : Nat) (σ : List Nat) : Bool :=
  Nat.beq σ.length n && ((List.range n).all fun i => σ.contains i) && (σ.all (Nat.blt · n)) && (List.range n).all fun k => (List.range k).all fun j => !(σ.getD j 0 == σ.getD k 0)

/-- Is the operation at j, ahead of that at k in the order σ, bound to be ahead? -/
def bound (c : List (List Nat)) (σ : List Nat) (j k : Nat) : Bool := (c.getD (σ.getD k 0) []).contains (σ.getD j 0)

/-- An append that may change places with something that looks at the heap: as the narrower operation. -/
def xify (pure : List Nat) (c : List (List Nat)) (σ : List Nat) (as : List AOp) : List AOp :=
  as.zipIdx.map fun (o, i) => match o.k with
    | .append n s x => if (List.range as.length).any fun j => j != i && !bound c σ j i && !bound c σ i j && clsP pure (opAt as j) != 0
        then { o with k := .appendX n s x } else o
    | _ => o

/-- A load that is read again behind an operation of class 3. -/
def needs (pure : List Nat) (c : List (List Nat)) (σ : List Nat) (as : List AOp) (j k : Nat) : Bool :=
  clsP pure (opAt as k) == 3 && clsP pure (opAt as j) == 1 && !bound c σ j k && (opAt as j).dst.isSome && dstOff (opAt as j).dst (opAt as j).own

def withChk (pure : List Nat) (c : List (List Nat)) (σ : List Nat) (as : List AOp) : List AOp :=
  as.zipIdx.map fun (o, k) => { o with chk := (List.range k).filterMap fun j => if needs pure c σ as j k then entry (opAt as j) else none }

/-- May y, behind x, come ahead of it? chk: y reads x again. -/
def swapOK (pure : List Nat) (chk : Bool) (x y : AOp) : Bool :=
  dstOff x.dst y.own && dstOff y.dst x.reads && (match x.dst, y.dst with | some a, some b => a != b | _, _ => true) &&
  (chk || clsP pure x == 0 || clsP pure y == 0 || (Nat.ble (clsP pure x) 2 && Nat.ble (clsP pure y) 2) || (y.k.fresh && y.guard.isNone))

/-- All pairs j < k of which j is not bound to be ahead of k change places; nothing is written that a load ahead has read or written. -/
def drawOK (pure : List Nat) (c : List (List Nat)) (σ : List Nat) (as0 as : List AOp) : Bool :=
  (List.range as.length).all fun k => (List.range k).all fun j =>
    (clsP pure (opAt as j) != 1 || (dstOff (opAt as k).dst (opAt as j).own && (match (opAt as j).dst, (opAt as k).dst with | some a, some b => a != b | _, _ => true))) &&
    (bound c σ j k || swapOK pure (needs pure c σ as0 j k) (opAt as j) (opAt as k))

/-- Edges lead back, and c has all that is ahead of each. -/
def precsOK (ps : List (List Nat)) (c : List (List Nat)) : Bool :=
  (List.range ps.length).all fun i => (ps.getD i []).all (Nat.blt · i) &&
    (c.getD i []).all fun q => (ps.getD i []).contains q || (ps.getD i []).any fun p => (c.getD p []).contains q

abbrev Hints := List (Nat × List Nat)

def hint (hs : Hints) (k : Nat) : Option (List Nat) := (hs.find? fun p => p.1 == k).map (·.2)

def withKeep (x : Option (List Nat)) (a : AC) : AC :=
  match x with
  | some s => .seq a (.keep s)
  | none => a

/-- The operations in a canonical order, with what is read again. -/
def inOrder (pure : List Nat) (c : List (List Nat)) (σ : List Nat) (as : List AOp) : List AOp := xify pure c σ (σ.map (opAt as))

/-- What never runs: code that the abstract machine does not take. -/
def stuck : AC := .ops none [{ dst := none, guard := none, k := .nilCheck (.k .nilptr) }]

def drawn (pure : List Nat) (s : List Nat) (ps c : List (List Nat)) (σ : List Nat) (as : List AOp) : AC :=
  if precsOK ps c && permOK as.length σ && drawOK pure c σ (inOrder pure c σ as) (withChk pure c σ (inOrder pure c σ as)) then .ops (some s) (withChk pure c σ (inOrder pure c σ as)) else stuck

/-- kr: what to keep behind a region, by its number; kl: what to keep at a loop's head, by the number of the innermost block around it. -/
def comp (P : Program) (nt : Nat) (pure : List Nat) (kr kl : Hints) : Nat → Code → AC
  | _, .skip => .skip
  | _, .region id ops draw =>
    match cOps P nt ops ops.toList with
    | none => stuck
    | some as => match draw with
      | false => withKeep (hint kr id) (.ops none as)
      | true => match hint kr id with
        | none => stuck
        | some s => drawn pure s (precs ops.toList) (closeOver [] (precs ops.toList)) (canon pure (precs ops.toList) as) as
  | b, .seq x y => .seq (comp P nt pure kr kl b x) (comp P nt pure kr kl b y)
  | b, .cond c t f => match cSrc c with
    | some s => .cond s (comp P nt pure kr kl b t) (comp P nt pure kr kl b f)
    | none => stuck
  | _, .block id body => .block id (comp P nt pure kr kl id body)
  | b, .loop body => match hint kl b with
    | some s => .loop (.seq (.keep s) (comp P nt pure kr kl b body))
    | none => .loop (comp P nt pure kr kl b body)
  | b, .rangeFunc f ps asg body => match cSrc f with
    | some s => if ps.toList.all (Nat.blt · nt) then .rangeFunc s ps.toList (comp P nt pure kr kl b asg) (comp P nt pure kr kl b body) else stuck
    | none => stuck
  | _, .exit id => .exit id
  | b, .scope body => comp P nt pure kr kl b body
  | _, .label _ => .skip
  | _, .ret => .ret
  | _, .goto _ => stuck
  | _, .refuse _ => stuck

def cRes (P : Program) : ResultVar → Option ARes
  | .tmp t => some (.tmp t)
  | .cell a t => match isAggP P t, sizeP P t with
    | some true, some n => some (.cellN a n)
    | some false, some _ => some (.cell1 a)
    | _, _ => none

def cRess (P : Program) : List ResultVar → Option (List ARes)
  | [] => some []
  | r :: rs => match cRes P r, cRess P rs with
    | some a, some l => some (a :: l)
    | _, _ => none

def compF (P : Program) (pure : List Nat) (kr kl : Hints) (fn : Func) : Option AFunc :=
  match fn.body with
  | none => none
  | some c => match cRess P fn.results.toList with
    | some r => if fn.name == "runtime.NumGoroutine" then none else some { body := comp P fn.ntmps pure kr kl 0 c, results := r }
    | none => none

end Go.Ab
