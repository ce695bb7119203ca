/- The abstract machine: values without capacities, a heap of abstract blocks, code with its types resolved; its meaning as a weakest precondition (awp) and as a function (exec). -/
import GoSem.Machine.Exec
import GoSem.Core.Utf8
namespace Go.Ab

/-- What a function value names. -/
inductive AFn where
  | fn (f : Nat)
  | yield (l : Nat)
  | next
  deriving Repr, DecidableEq

/-- Abstract values: strings are lists of byte codes, slices bear no capacity, addresses are those of abstract blocks. -/
inductive AV where
  | bool (b : Bool)
  | int (k : IntKind) (n : Int)
  | str (s : List Nat)
  | nilptr
  | ptr (b off : Nat)
  | nilslice
  | slice (b off len esz : Nat)
  | nilmap
  | map (r : Nat)
  | nilfunc
  | func (fn : AFn) (first captured : List AV)
  | nilIface
  | iface (t : Nat) (v : AV)
  | agg (cs : List AV)
  | tuple (vs : List AV)
  deriving Repr, Inhabited

abbrev AV.undef : AV := .tuple []

def AV.cells : AV → List AV
  | .agg cs => cs
  | v => [v]

def AV.one : AV → Bool
  | .agg _ | .tuple _ => false
  | _ => true

abbrev Env := List (Nat × AV)

def Env.get : Env → Nat → Option AV
  | [], _ => none
  | p :: e, t => match Nat.beq p.1 t with
    | true => some p.2
    | false => Env.get e t
theorem Env.get_nil (t : Nat) : Env.get [] t = none := rfl
theorem Env.get_cons (k : Nat) (v : AV) (e : Env) (t : Nat) : Env.get ((k, v) :: e) t = if k = t then some v else Env.get e t := by
  show (match Nat.beq k t with | true => some v | false => Env.get e t) = _
  by_cases h : k = t
  · subst h; simp
  · rw [if_neg h, show Nat.beq k t = false from by rw [← Bool.not_eq_true, Nat.beq_eq]; exact h]

def Env.put (e : Env) (t : Nat) (v : AV) : Env := (t, v) :: e

def Env.putD (e : Env) (d : Option Nat) (v : AV) : Env :=
  match d with
  | some t => (t, v) :: e
  | none => e

def Env.keep (e : Env) : List Nat → Env
  | [] => []
  | s :: ss => match Env.get e s with
    | some v => (s, v) :: Env.keep e ss
    | none => Env.keep e ss
theorem Env.keep_nil (e : Env) : e.keep [] = [] := rfl
theorem Env.keep_cons (e : Env) (s : Nat) (ss : List Nat) : e.keep (s :: ss) = match e.get s with
    | some v => (s, v) :: e.keep ss
    | none => e.keep ss := rfl

def Env.putAll : Env → List Nat → List AV → Env
  | e, t :: ts, v :: vs => Env.putAll ((t, v) :: e) ts vs
  | e, _, _ => e

inductive Src where
  | t (n : Nat)
  | k (v : AV)
  deriving Repr, Inhabited

def Env.src (e : Env) : Src → Option AV
  | .t n => e.get n
  | .k v => some v

def Env.srcs (e : Env) : List Src → Option (List AV)
  | [] => some []
  | s :: ss => match e.src s with
    | none => none
    | some v => match Env.srcs e ss with
      | none => none
      | some vs => some (v :: vs)

/-- What a cell that is compared holds. -/
inductive Leaf where
  | bool | int | str
  deriving Repr, DecidableEq

/-- Of which kind the values are that == compares. -/
inductive EqT where
  | leaf (l : Leaf)
  | ptr | slice | map | func
  | agg (ls : List Leaf)
  deriving Repr, Inhabited

/-- Of which kind the value is whose length is asked. -/
inductive LenT where
  | str | slice | map | cap
  deriving Repr, DecidableEq, Inhabited

/-- Functions of the library that have no text of their own. -/
inductive Ext where
  | index | count
  deriving Repr, DecidableEq, Inhabited

inductive OpK where
  | mov (x : Src)
  | pick (c a b : Src)
  | alloc (zs : List AV)
  | box (x : Src)
  | build (zs : List AV) (parts : List (Nat × Nat × Src))
  | buildSlice (zs : List AV) (esz len : Nat) (parts : List (Nat × Nat × Src))
  | load1 (a : Src)
  | loadN (n : Nat) (a : Src)
  | store (n : Nat) (a x : Src)
  | nilCheck (x : Src)
  | bin (op : BinOp) (x y : Src)
  | eq (neg : Bool) (tg : EqT) (x y : Src)
  | un (op : UnOp) (x : Src)
  | convInt (k : IntKind) (x : Src)
  | strBytes (x : Src)
  | bytesStr (x : Src)
  | iface (t : Nat) (x : Src)
  | makeFunc (f : Nat) (first captured : List Src)
  | makeMap
  | makeSlice (zs : List AV) (esz : Nat) (l c : Src)
  | sliceStr (x : Src) (lo hi : Option Src)
  | sliceSl (esz : Nat) (x : Src) (lo hi : Option Src)
  | sliceArr (n esz : Nat) (x : Src) (lo hi : Option Src)
  | fieldAddr (off : Nat) (x : Src)
  | field (off n : Nat) (isAgg : Bool) (x : Src)
  | idxSl (esz : Nat) (x i : Src)
  | idxArr (n esz : Nat) (x i : Src)
  | index (n esz : Nat) (isAgg : Bool) (x i : Src)
  | indexStr (x i : Src)
  | lookup (tg : EqT) (zero : AV) (ok : Bool) (m k : Src)
  | mapUpdate (tg : EqT) (m k v : Src)
  | extract (i : Nat) (x : Src)
  | len (tg : LenT) (x : Src)
  | lenK (n : Nat)
  | minmax (mx : Bool) (x y : Src)
  | append (esz : Nat) (s x : Src)
  | appendX (esz : Nat) (s x : Src)
  | growZ (zs : List AV) (esz : Nat) (s n : Src)
  | copy (esz : Nat) (d s : Src)
  | range (x : Src)
  | next (it : Src)
  | rangeM (x : Src)
  | entry (it : Src)
  | ext (f : Ext) (args : List Src)
  | call (f : Nat) (args : List Src)
  | callv (f : Src) (args : List Src)
  deriving Repr, Inhabited

/-- Something read that must read the same again. -/
structure Chk where
  d : Nat
  guard : Option (Nat × Bool)
  k : OpK
  deriving Repr, Inhabited

structure AOp where
  dst : Option Nat
  guard : Option (Nat × Bool)
  k : OpK
  chk : List Chk := []
  deriving Repr, Inhabited

inductive Ex where
  | normal
  | exit (id : Nat)
  | ret
  deriving Repr, DecidableEq, Inhabited

inductive AC where
  | skip
  | ops (kp : Option (List Nat)) (os : List AOp)
  | seq (a b : AC)
  | cond (c : Src) (t f : AC)
  | block (id : Nat) (body : AC)
  | loop (body : AC)
  | exit (id : Nat)
  | ret
  | keep (s : List Nat)
  | rangeFunc (f : Src) (params : List Nat) (assign body : AC)
  deriving Repr, Inhabited

inductive ARes where
  | tmp (t : Nat)
  | cell1 (t : Nat)
  | cellN (t n : Nat)
  deriving Repr, Inhabited

structure AFunc where
  body : AC
  results : List ARes
  deriving Repr, Inhabited

/-- How a block of cells may be used: written; only read, until its child is written; only read, for good. -/
inductive Mode where
  | live (parents : List Nat)
  | stale
  | ro
  deriving Repr, DecidableEq, Inhabited

inductive AObj where
  | cells (m : Mode) (vs : List AV)
  | map (es : List (AV × AV))
  | strIter (s : List Nat) (pos : Nat)
  | mapIter (m n : Nat) (seen : List Nat)
  | loop (st : LoopState) (pend : Option Ex) (env : Env) (params : List Nat) (assign body : AC)
  deriving Inhabited

/-! ### The heap: a trie by the number's binary digits -/
inductive Tr where
  | leaf
  | node (v : Option AObj) (l r : Tr)

def Tr.val : Tr → Option AObj
  | .leaf => none
  | .node v _ _ => v
def Tr.left : Tr → Tr
  | .leaf => .leaf
  | .node _ l _ => l
def Tr.right : Tr → Tr
  | .leaf => .leaf
  | .node _ _ r => r

/-- The number 0 lies at the root; n + 1 to the left or right by its last digit. Fuel: the number of digits. -/
def Tr.getF : Nat → Tr → Nat → Option AObj
  | 0, _, _ => none
  | d + 1, t, n => match t with
    | .leaf => none
    | .node v l r => match n with
      | 0 => v
      | m + 1 => match Nat.mod m 2 with
        | 0 => Tr.getF d l (Nat.div m 2)
        | _ => Tr.getF d r (Nat.div m 2)

def Tr.setF : Nat → Tr → Nat → Option AObj → Tr
  | 0, t, _, _ => t
  | d + 1, t, n, o => match n with
    | 0 => .node o t.left t.right
    | m + 1 => match Nat.mod m 2 with
      | 0 => .node t.val (Tr.setF d t.left (Nat.div m 2) o) t.right
      | _ => .node t.val t.left (Tr.setF d t.right (Nat.div m 2) o)

structure Heap where
  tr : Tr
  next : Nat

/-- Each step halves the number: b + 1 steps are enough. -/
def Heap.get (h : Heap) (b : Nat) : Option AObj := Tr.getF (b + 1) h.tr b
def Heap.set (h : Heap) (b : Nat) (o : Option AObj) : Heap := { h with tr := Tr.setF (b + 1) h.tr b o }
def Heap.bump (h : Heap) (n : Nat) : Heap := { h with next := h.next + n }
def Heap.empty : Heap := { tr := .leaf, next := 0 }

def Heap.eraseAll (h : Heap) : List Nat → Heap
  | [] => h
  | b :: bs => Heap.eraseAll (h.set b none) bs

/-! ### Operations -/
def leafEq : Leaf → AV → AV → Option Bool
  | .bool, .bool a, .bool b => some (a == b)
  | .int, .int k a, .int k' b => if k = k' then some (a == b) else none
  | .str, .str a, .str b => some (a == b)
  | _, _, _ => none

def leafsEq : List Leaf → List AV → List AV → Option Bool
  | [], [], [] => some true
  | l :: ls, x :: xs, y :: ys => match leafEq l x y with
    | none => none
    | some a => match leafsEq ls xs ys with
      | none => none
      | some r => some (a && r)
  | _, _, _ => none

def eqA : EqT → AV → AV → Option Bool
  | .leaf l, x, y => leafEq l x y
  | .ptr, .nilptr, .nilptr => some true
  | .ptr, .nilptr, .ptr _ _ => some false
  | .ptr, .ptr _ _, .nilptr => some false
  | .slice, .nilslice, .nilslice => some true
  | .slice, .nilslice, .slice _ _ _ _ => some false
  | .slice, .slice _ _ _ _, .nilslice => some false
  | .map, .nilmap, .nilmap => some true
  | .map, .nilmap, .map _ => some false
  | .map, .map _, .nilmap => some false
  | .func, .nilfunc, .nilfunc => some true
  | .func, .nilfunc, .func _ _ _ => some false
  | .func, .func _ _ _, .nilfunc => some false
  | .agg ls, .agg xs, .agg ys => leafsEq ls xs ys
  | _, _, _ => none

def bytesLt : List Nat → List Nat → Bool
  | _, [] => false
  | [], _ :: _ => true
  | a :: x, b :: y => decide (a < b) || (a == b && bytesLt x y)

def maxLen : Nat := 1073741824

def binInt (op : BinOp) (k : IntKind) (x y : Int) : Option AV :=
  match op with
  | .add => some (.int k (k.wrap (x + y)))
  | .sub => some (.int k (k.wrap (x - y)))
  | .mul => some (.int k (k.wrap (x * y)))
  | .quo => if y = 0 then none else some (.int k (k.wrap (x.tdiv y)))
  | .rem => if y = 0 then none else some (.int k (x.tmod y))
  | .and => some (.int k (k.wrap (BitVec.ofInt k.bits x &&& BitVec.ofInt k.bits y).toNat))
  | .or => some (.int k (k.wrap (BitVec.ofInt k.bits x ||| BitVec.ofInt k.bits y).toNat))
  | .xor => some (.int k (k.wrap (BitVec.ofInt k.bits x ^^^ BitVec.ofInt k.bits y).toNat))
  | .andNot => some (.int k (k.wrap (BitVec.ofInt k.bits x &&& ~~~BitVec.ofInt k.bits y).toNat))
  | .lss => some (.bool (decide (x < y)))
  | .leq => some (.bool (decide (x ≤ y)))
  | .gtr => some (.bool (decide (x > y)))
  | .geq => some (.bool (decide (x ≥ y)))
  | _ => none

def binShift (op : BinOp) (k : IntKind) (x : Int) (y : Int) : Option AV :=
  if y < 0 then none
  else match op with
    | .shl => some (.int k (k.wrap (x * 2 ^ (min y.toNat k.bits))))
    | .shr => some (.int k (x.fdiv (2 ^ (min y.toNat k.bits))))
    | _ => none

def binStr (op : BinOp) (x y : List Nat) : Option AV :=
  match op with
  | .add => if x.length + y.length ≤ maxLen then some (.str (x ++ y)) else none
  | .lss => some (.bool (bytesLt x y))
  | .leq => some (.bool (bytesLt x y || x == y))
  | .gtr => some (.bool (!(bytesLt x y || x == y)))
  | .geq => some (.bool (!(bytesLt x y)))
  | _ => none

def isShift : BinOp → Bool
  | .shl | .shr => true
  | _ => false

def binOpA (op : BinOp) (x y : AV) : Option AV :=
  match x, y with
  | .int k a, .int k' b => if isShift op then binShift op k a b else if k = k' then binInt op k a b else none
  | .str a, .str b => binStr op a b
  | _, _ => none

def unOpA (op : UnOp) (x : AV) : Option AV :=
  match op, x with
  | .neg, .int k n => some (.int k (k.wrap (0 - n)))
  | .xor, .int k n => some (.int k (k.wrap (BitVec.ofInt k.bits (if k.signed then -1 else k.max) ^^^ BitVec.ofInt k.bits n).toNat))
  | .not, .bool b => some (.bool (!b))
  | _, _ => none

/-- Parts laid over cells. -/
def spliceL (cells : List AV) (off : Nat) (vs : List AV) : List AV := cells.take off ++ vs ++ cells.drop (off + vs.length)

def fillL (e : Env) : List AV → List (Nat × Nat × Src) → Option (List AV)
  | cells, [] => some cells
  | cells, (off, size, s) :: rest => match e.src s with
    | none => none
    | some v => if v.cells.length = size ∧ off + size ≤ cells.length then fillL e (spliceL cells off v.cells) rest else none

def getRow (h : Heap) (b off n : Nat) : Option (List AV) :=
  match h.get b with
  | some (.cells _ vs) => if off + n ≤ vs.length then some ((vs.drop off).take n) else none
  | _ => none

def getCell (h : Heap) (b off : Nat) : Option AV :=
  match h.get b with
  | some (.cells _ vs) => vs[off]?
  | _ => none

/-- Cells are stored into a live block: what its parents held is forgotten. -/
def setRow (h : Heap) (b off : Nat) (xs : List AV) : Option Heap :=
  match h.get b with
  | some (.cells (.live ps) vs) =>
    if off + xs.length ≤ vs.length ∧ xs.all AV.one = true then some ((h.eraseAll ps).set b (some (.cells (.live []) (spliceL vs off xs)))) else none
  | _ => none

def partL (isAgg : Bool) (cs : List AV) (off n : Nat) : Option AV :=
  if isAgg then (if off + n ≤ cs.length then some (.agg ((cs.drop off).take n)) else none) else cs[off]?

def natOf (len : Nat) (d : Nat) : Option AV → Option Nat
  | none => some d
  | some (.int _ i) => if 0 ≤ i ∧ i ≤ (len : Int) then some i.toNat else none
  | some _ => none

def optSrc (e : Env) : Option Src → Option (Option AV)
  | none => some none
  | some s => match e.src s with
    | none => none
    | some v => some (some v)

/-- The bounds of a slice expression over something of a length: low and high, low ≤ high ≤ length. -/
def bounds (e : Env) (len : Nat) (lo hi : Option Src) : Option (Nat × Nat) :=
  match optSrc e hi with
  | none => none
  | some hv => match natOf len len hv with
    | none => none
    | some h => match optSrc e lo with
      | none => none
      | some lv => match natOf h 0 lv with
        | none => none
        | some l => some (l, h)

def findKeyA (tg : EqT) (k : AV) : List (AV × AV) → Nat → Option (Option (Nat × AV))
  | [], _ => some none
  | (k', v) :: es, i => match eqA tg k k' with
    | none => none
    | some true => some (some (i, v))
    | some false => findKeyA tg k es (i + 1)

def toBA (l : List Nat) : ByteArray := ⟨(l.map UInt8.ofNat).toArray⟩

def byteV (n : Nat) : AV := .int .u8 n

def asByte : AV → Option Nat
  | .int .u8 n => some (n.toNat % 256)
  | _ => none

def asBytes : List AV → Option (List Nat)
  | [] => some []
  | v :: vs => match asByte v with
    | none => none
    | some b => match asBytes vs with
      | none => none
      | some bs => some (b :: bs)

/-- The cells that an append or a copy takes from its source, and how many elements they are. -/
def srcCells (h : Heap) (esz : Nat) : AV → Option (Nat × List AV)
  | .nilslice => some (0, [])
  | .slice b off n z => if z = esz then (match getRow h b off (n * esz) with
    | none => none
    | some r => some (n, r)) else none
  | .str s => if esz = 1 then some (s.length, s.map byteV) else none
  | _ => none

/-- An empty slice that is not nil: there is nothing to look at. -/
def zeroSl (esz : Nat) : AV → Bool
  | .slice _ _ n z => Nat.beq n 0 && Nat.beq z esz
  | _ => false
theorem zeroSl_src {h : Heap} {esz n : Nat} {x : AV} {r : List AV} (hz : zeroSl esz x = true) (hs : srcCells h esz x = some (n, r)) : n = 0 := by
  cases x <;> simp only [zeroSl] at hz <;> first | (cases hz; done) | skip
  simp only [Bool.and_eq_true, Nat.beq_eq] at hz
  unfold srcCells at hs
  simp only at hs
  split at hs
  · split at hs
    · cases hs
    · cases hs; exact hz.1
  · cases hs

/-- append: nothing to append: the slice itself; else a new block id, the old one stale (or, where it is cut into, gone). -/
def appendA (h : Heap) (id esz : Nat) (s x : AV) : Option (AV × Heap) :=
  if zeroSl esz x = true then (match s with | .nilslice => some (s, h) | .slice _ _ _ z => (if z = esz then some (s, h) else none) | _ => none) else
  match srcCells h esz x with
  | none => none
  | some (n, new) =>
    if n = 0 then (match s with | .nilslice => some (s, h) | .slice _ _ _ z => (if z = esz then some (s, h) else none) | _ => none) else
    match s with
    | .nilslice => if n ≤ maxLen then some (.slice id 0 n esz, h.set id (some (.cells (.live []) new))) else none
    | .slice b off len z =>
      if z = esz ∧ len + n ≤ maxLen then
        match h.get b with
        | some (.cells (.live ps) vs) =>
          if new.all AV.one = false then none
          else if off + len * esz = vs.length then
            some (.slice id 0 (len + n) esz, (h.set b (some (.cells .stale vs))).set id (some (.cells (.live (b :: ps)) ((vs.drop off) ++ new))))
          else if off + len * esz ≤ vs.length then
            some (.slice id 0 (len + n) esz, ((h.eraseAll ps).set b none).set id (some (.cells (.live []) ((vs.drop off).take (len * esz) ++ new))))
          else none
        | _ => none
      else none
    | _ => none

/-- append at the end of what the block holds, or of nothing. -/
def appendXA (h : Heap) (id esz : Nat) (s x : AV) : Option (AV × Heap) :=
  if zeroSl esz x = true then (match s with | .nilslice => some (s, h) | .slice _ _ _ z => (if z = esz then some (s, h) else none) | _ => none) else
  match srcCells h esz x with
  | none => none
  | some (n, new) =>
    if n = 0 then (match s with | .nilslice => some (s, h) | .slice _ _ _ z => (if z = esz then some (s, h) else none) | _ => none) else
    match s with
    | .nilslice => if n ≤ maxLen then some (.slice id 0 n esz, h.set id (some (.cells (.live []) new))) else none
    | .slice b off len z =>
      if z = esz ∧ len + n ≤ maxLen then
        match h.get b with
        | some (.cells (.live ps) vs) =>
          if new.all AV.one = false then none
          else if off + len * esz = vs.length then
            some (.slice id 0 (len + n) esz, (h.set b (some (.cells .stale vs))).set id (some (.cells (.live (b :: ps)) ((vs.drop off) ++ new))))
          else none
        | _ => none
      else none
    | _ => none

theorem appendXA_append {h : Heap} {id esz : Nat} {s x v : AV} {h' : Heap} (hx : appendXA h id esz s x = some (v, h')) : appendA h id esz s x = some (v, h') := by
  unfold appendXA at hx
  unfold appendA
  split at hx
  · rename_i hz; rw [if_pos hz]; exact hx
  rename_i hz
  rw [if_neg hz]
  split at hx
  · cases hx
  · rename_i hs
    split at hx
    · rename_i hn; rw [if_pos hn]; exact hx
    · rename_i hn
      rw [if_neg hn]
      split at hx
      · exact hx
      · split at hx
        · rename_i hc
          rw [if_pos hc]
          split at hx
          · split at hx
            · cases hx
            · rename_i h1
              rw [if_neg h1]
              split at hx
              · rename_i h2; rw [if_pos h2]; exact hx
              · cases hx
          · cases hx
        · cases hx
      · cases hx

def lenA (h : Heap) : LenT → AV → Option AV
  | .str, .str s => some (.int .i64 s.length)
  | .slice, .nilslice => some (.int .i64 0)
  | .slice, .slice _ _ n _ => some (.int .i64 n)
  | .cap, .nilslice => some (.int .i64 0)
  | .map, .nilmap => some (.int .i64 0)
  | .map, .map r => match h.get r with
    | some (.map es) => some (.int .i64 es.length)
    | _ => none
  | _, _ => none

/-- Has a key as many cells as its type? -/
def keyFits : EqT → AV → Bool
  | .leaf _, _ => true
  | .agg ls, .agg cs => cs.length == ls.length
  | _, _ => false

def mapEs (h : Heap) : AV → Option (List (AV × AV))
  | .nilmap => some []
  | .map r => match h.get r with
    | some (.map es) => some es
    | _ => none
  | _ => none

def lookIn (tg : EqT) (zero : AV) (ok : Bool) (k : AV) (es : List (AV × AV)) : Option AV :=
  if !(keyFits tg k) then none else match findKeyA tg k es 0 with
    | none => none
    | some (some (_, v)) => some (if ok then .tuple [v, .bool true] else v)
    | some none => some (if ok then .tuple [zero, .bool false] else zero)

def lookupA (h : Heap) (tg : EqT) (zero : AV) (ok : Bool) (m k : AV) : Option AV :=
  match mapEs h m with
  | none => none
  | some es => lookIn tg zero ok k es

def mapUpdateA (h : Heap) (tg : EqT) (m k v : AV) : Option Heap :=
  match m with
  | .map r => match h.get r with
    | some (.map es) => if !(keyFits tg k) then none else match findKeyA tg k es 0 with
      | none => none
      | some (some (i, _)) => some (h.set r (some (.map (es.take i ++ (k, v) :: es.drop (i + 1)))))
      | some none => some (h.set r (some (.map (es ++ [(k, v)]))))
    | _ => none
  | _ => none

def nextA (h : Heap) : AV → Option (AV × Heap)
  | .ptr r 0 => match h.get r with
    | some (.strIter s pos) =>
      if pos < s.length then
        let d := Utf8.decode (toBA s) pos
        some (.tuple [.bool true, .int .i64 pos, .int .i32 d.1], h.set r (some (.strIter s (pos + d.2))))
      else some (.tuple [.bool false], h)
    | _ => none
  | _ => none

/-- The place of a byte's first instance, or -1. -/
def byteIdx (c : Nat) : List Nat → Nat → Int
  | [], _ => -1
  | b :: l, i => match Nat.beq b c with
    | true => (i : Int)
    | false => byteIdx c l (i + 1)
def byteCount (c : Nat) : List Nat → Nat
  | [] => 0
  | b :: l => match Nat.beq b c with
    | true => byteCount c l + 1
    | false => byteCount c l
def extA (f : Ext) (vs : List AV) : Option AV :=
  match f with
  | .index => match vs with
    | [.str s, .int .u8 c] => some (.int .i64 (byteIdx (c.toNat % 256) s 0))
    | _ => none
  | .count => match vs with
    | [.str s, .int .u8 c] => some (.int .i64 (byteCount (c.toNat % 256) s))
    | _ => none

def op_mov (x : Src) (e : Env) (h : Heap) : Option (AV × Heap) :=
  match e.src x with
    | some v => some (v, h)
    | none => none

def op_pick (c : Src) (a : Src) (b : Src) (e : Env) (h : Heap) : Option (AV × Heap) :=
  match e.src c with
    | some (.bool true) => (match e.src a with | some v => some (v, h) | none => none)
    | some (.bool false) => (match e.src b with | some v => some (v, h) | none => none)
    | _ => none

def op_alloc (zs : List AV) (h : Heap) (id : Nat) : Option (AV × Heap) :=
  some (.ptr id 0, h.set id (some (.cells (.live []) zs)))

def op_box (x : Src) (e : Env) (h : Heap) (id : Nat) : Option (AV × Heap) :=
  match e.src x with
    | some v => some (.ptr id 0, h.set id (some (.cells (.live []) v.cells)))
    | none => none

def op_build (zs : List AV) (parts : List (Nat × Nat × Src)) (e : Env) (h : Heap) : Option (AV × Heap) :=
  match fillL e zs parts with
    | some cs => some (.agg cs, h)
    | none => none

def op_buildSlice (zs : List AV) (esz : Nat) (len : Nat) (parts : List (Nat × Nat × Src)) (e : Env) (h : Heap) (id : Nat) : Option (AV × Heap) :=
  match fillL e zs parts with
    | some cs => some (.slice id 0 len esz, h.set id (some (.cells (.live []) cs)))
    | none => none

def op_load1 (a : Src) (e : Env) (h : Heap) : Option (AV × Heap) :=
  match e.src a with
    | some (.ptr b off) => (match getCell h b off with | some v => some (v, h) | none => none)
    | _ => none

def op_loadN (n : Nat) (a : Src) (e : Env) (h : Heap) : Option (AV × Heap) :=
  match e.src a with
    | some (.ptr b off) => (match getRow h b off n with | some vs => some (.agg vs, h) | none => none)
    | _ => none

def op_store (n : Nat) (a : Src) (x : Src) (e : Env) (h : Heap) : Option (AV × Heap) :=
  match e.src a, e.src x with
    | some (.ptr b off), some v => if v.cells.length = n then (match setRow h b off v.cells with | some h' => some (.undef, h') | none => none) else none
    | _, _ => none

def op_nilCheck (x : Src) (e : Env) (h : Heap) : Option (AV × Heap) :=
  match e.src x with
    | some .nilptr | some .nilIface | some .nilfunc => none
    | some v => some (v, h)
    | none => none

def op_bin (op : BinOp) (x : Src) (y : Src) (e : Env) (h : Heap) : Option (AV × Heap) :=
  match e.src x, e.src y with
    | some a, some b => (match binOpA op a b with | some v => some (v, h) | none => none)
    | _, _ => none

def op_eq (neg : Bool) (tg : EqT) (x : Src) (y : Src) (e : Env) (h : Heap) : Option (AV × Heap) :=
  match e.src x, e.src y with
    | some a, some b => (match eqA tg a b with | some r => some (.bool (if neg then !r else r), h) | none => none)
    | _, _ => none

def op_un (op : UnOp) (x : Src) (e : Env) (h : Heap) : Option (AV × Heap) :=
  match e.src x with
    | some a => (match unOpA op a with | some v => some (v, h) | none => none)
    | none => none

def op_convInt (k : IntKind) (x : Src) (e : Env) (h : Heap) : Option (AV × Heap) :=
  match e.src x with
    | some (.int _ n) => some (.int k (k.wrap n), h)
    | _ => none

def op_strBytes (x : Src) (e : Env) (h : Heap) (id : Nat) : Option (AV × Heap) :=
  match e.src x with
    | some (.str s) => if s.length ≤ maxLen then some (.slice id 0 s.length 1, h.set id (some (.cells (.live []) (s.map byteV)))) else none
    | _ => none

def op_bytesStr (x : Src) (e : Env) (h : Heap) : Option (AV × Heap) :=
  match e.src x with
    | some .nilslice => some (.str [], h)
    | some (.slice b off n _) => (match getRow h b off n with
      | some vs => (match asBytes vs with | some bs => some (.str bs, h) | none => none)
      | none => none)
    | _ => none

def op_iface (t : Nat) (x : Src) (e : Env) (h : Heap) : Option (AV × Heap) :=
  match e.src x with
    | some v => some (.iface t v, h)
    | none => none

def op_makeFunc (f : Nat) (first : List Src) (cap : List Src) (e : Env) (h : Heap) : Option (AV × Heap) :=
  match e.srcs first, e.srcs cap with
    | some a, some b => some (.func (.fn f) a b, h)
    | _, _ => none

def op_makeMap (h : Heap) (id : Nat) : Option (AV × Heap) :=
  some (.map id, h.set id (some (.map [])))

def op_makeSlice (zs : List AV) (esz : Nat) (l : Src) (c : Src) (e : Env) (h : Heap) (id : Nat) : Option (AV × Heap) :=
  match e.src l, e.src c with
    | some (.int _ n), some (.int _ m) =>
      if 0 ≤ n ∧ n ≤ m ∧ m ≤ maxLen then
        some (.slice id 0 n.toNat esz, h.set id (some (.cells (.live []) ((List.replicate m.toNat zs).flatten))))
      else none
    | _, _ => none

def op_sliceStr (x : Src) (lo : Option Src) (hi : Option Src) (e : Env) (h : Heap) : Option (AV × Heap) :=
  match e.src x with
    | some (.str s) => (match bounds e s.length lo hi with | some (l, u) => some (.str ((s.drop l).take (u - l)), h) | none => none)
    | _ => none

def op_sliceSl (esz : Nat) (x : Src) (lo : Option Src) (hi : Option Src) (e : Env) (h : Heap) : Option (AV × Heap) :=
  match e.src x with
    | some .nilslice => (match bounds e 0 lo hi with | some _ => some (.nilslice, h) | none => none)
    | some (.slice b off n z) => if z = esz then (match bounds e n lo hi with | some (l, u) => some (.slice b (off + l * esz) (u - l) esz, h) | none => none) else none
    | _ => none

def op_sliceArr (n : Nat) (esz : Nat) (x : Src) (lo : Option Src) (hi : Option Src) (e : Env) (h : Heap) : Option (AV × Heap) :=
  match e.src x with
    | some (.ptr b off) => (match bounds e n lo hi with
    | some (l, u) => if (getRow h b off (n * esz)).isSome = true then some (.slice b (off + l * esz) (u - l) esz, h) else none
    | none => none)
    | _ => none

def op_fieldAddr (off : Nat) (x : Src) (e : Env) (h : Heap) : Option (AV × Heap) :=
  match e.src x with
    | some (.ptr b o) => some (.ptr b (o + off), h)
    | _ => none

def op_field (off : Nat) (n : Nat) (isAgg : Bool) (x : Src) (e : Env) (h : Heap) : Option (AV × Heap) :=
  match e.src x with
    | some (.agg cs) => (match partL isAgg cs off n with | some v => some (v, h) | none => none)
    | _ => none

def op_idxSl (esz : Nat) (x : Src) (i : Src) (e : Env) (h : Heap) : Option (AV × Heap) :=
  match e.src x, e.src i with
    | some (.slice b off n z), some (.int _ j) => if z = esz ∧ 0 ≤ j ∧ j < n then some (.ptr b (off + j.toNat * esz), h) else none
    | _, _ => none

def op_idxArr (n : Nat) (esz : Nat) (x : Src) (i : Src) (e : Env) (h : Heap) : Option (AV × Heap) :=
  match e.src x, e.src i with
    | some (.ptr b off), some (.int _ j) => if 0 ≤ j ∧ j < n then some (.ptr b (off + j.toNat * esz), h) else none
    | _, _ => none

def op_index (n : Nat) (esz : Nat) (isAgg : Bool) (x : Src) (i : Src) (e : Env) (h : Heap) : Option (AV × Heap) :=
  match e.src x, e.src i with
    | some (.agg cs), some (.int _ j) => if 0 ≤ j ∧ j < n then (match partL isAgg cs (j.toNat * esz) esz with | some v => some (v, h) | none => none) else none
    | _, _ => none

def op_indexStr (x : Src) (i : Src) (e : Env) (h : Heap) : Option (AV × Heap) :=
  match e.src x, e.src i with
    | some (.str s), some (.int _ j) => if 0 ≤ j then (match s[j.toNat]? with | some b => some (byteV b, h) | none => none) else none
    | _, _ => none

def op_lookup (tg : EqT) (zero : AV) (ok : Bool) (m : Src) (k : Src) (e : Env) (h : Heap) : Option (AV × Heap) :=
  match e.src m, e.src k with
    | some mv, some kv => (match lookupA h tg zero ok mv kv with | some v => some (v, h) | none => none)
    | _, _ => none

def op_mapUpdate (tg : EqT) (m : Src) (k : Src) (v : Src) (e : Env) (h : Heap) : Option (AV × Heap) :=
  match e.src m, e.src k, e.src v with
    | some mv, some kv, some vv => (match mapUpdateA h tg mv kv vv with | some h' => some (.undef, h') | none => none)
    | _, _, _ => none

def op_extract (i : Nat) (x : Src) (e : Env) (h : Heap) : Option (AV × Heap) :=
  match e.src x with
    | some (.tuple vs) => (match vs[i]? with | some v => some (v, h) | none => none)
    | _ => none

def op_len (tg : LenT) (x : Src) (e : Env) (h : Heap) : Option (AV × Heap) :=
  match e.src x with
    | some v => (match lenA h tg v with | some r => some (r, h) | none => none)
    | none => none

def op_lenK (n : Nat) (h : Heap) : Option (AV × Heap) :=
  some (.int .i64 n, h)

def op_minmax (mx : Bool) (x : Src) (y : Src) (e : Env) (h : Heap) : Option (AV × Heap) :=
  match e.src x, e.src y with
    | some (.int k a), some (.int k' b) => if k = k' then some (.int k (if mx then (if b > a then b else a) else (if b < a then b else a)), h) else none
    | _, _ => none

def op_append (esz : Nat) (s : Src) (x : Src) (e : Env) (h : Heap) (id : Nat) : Option (AV × Heap) :=
  match e.src s, e.src x with
    | some sv, some xv => appendA h id esz sv xv
    | _, _ => none

def op_appendX (esz : Nat) (s : Src) (x : Src) (e : Env) (h : Heap) (id : Nat) : Option (AV × Heap) :=
  match e.src s, e.src x with
    | some sv, some xv => appendXA h id esz sv xv
    | _, _ => none

/-- append(s, make([]E, n)...), s nil. -/
def op_growZ (zs : List AV) (esz : Nat) (s : Src) (n : Src) (e : Env) (h : Heap) (id : Nat) : Option (AV × Heap) :=
  match e.src s, e.src n with
    | some .nilslice, some (.int _ k) =>
      if k = 0 then some (.nilslice, h)
      else if 0 < k ∧ k ≤ maxLen then some (.slice id 0 k.toNat esz, h.set id (some (.cells (.live []) ((List.replicate k.toNat zs).flatten))))
      else none
    | _, _ => none

def op_copy (esz : Nat) (d : Src) (s : Src) (e : Env) (h : Heap) : Option (AV × Heap) :=
  match e.src d, e.src s with
    | some dv, some sv => (match dv with
      | .nilslice => (match srcCells h esz sv with | some _ => some (.int .i64 0, h) | none => none)
      | .slice b off n z =>
        if z = esz then (match srcCells h esz sv with
          | some (m, cs) => (match setRow h b off (cs.take (min m n * esz)) with | some h' => some (.int .i64 (min m n : Nat), h') | none => none)
          | none => none) else none
      | _ => none)
    | _, _ => none

def op_range (x : Src) (e : Env) (h : Heap) (id : Nat) : Option (AV × Heap) :=
  match e.src x with
    | some (.str s) => some (.ptr id 0, h.set id (some (.strIter s 0)))
    | _ => none

def op_next (it : Src) (e : Env) (h : Heap) : Option (AV × Heap) :=
  match e.src it with
    | some v => nextA h v
    | none => none

def op_rangeM (x : Src) (e : Env) (h : Heap) (id : Nat) : Option (AV × Heap) :=
  match e.src x with
    | some (.map r) => (match h.get r with
      | some (.map es) => some (.ptr id 0, h.set id (some (.mapIter r es.length [])))
      | _ => none)
    | _ => none

def op_entry (it : Src) (e : Env) (h : Heap) : Option (AV × Heap) :=
  match e.src it with
    | some (.ptr r 0) => (match h.get r with
      | some (.mapIter m n (i :: _)) => (match h.get m with
        | some (.map es) => if es.length = n then (match es[i]? with | some (k, v) => some (.tuple [k, v], h) | none => none) else none
        | _ => none)
      | _ => none)
    | _ => none

def op_ext (f : Ext) (args : List Src) (e : Env) (h : Heap) : Option (AV × Heap) :=
  match e.srcs args with
    | some vs => (match extA f vs with | some v => some (v, h) | none => none)
    | none => none

/-- One operation that is no call: what it yields, and the heap behind it; id: the new block's name, where one is made. -/
def aeval (k : OpK) (e : Env) (h : Heap) (id : Nat) : Option (AV × Heap) :=
  match k with
  | .mov x => op_mov x e h
  | .pick c a b => op_pick c a b e h
  | .alloc zs => op_alloc zs h id
  | .box x => op_box x e h id
  | .build zs parts => op_build zs parts e h
  | .buildSlice zs esz len parts => op_buildSlice zs esz len parts e h id
  | .load1 a => op_load1 a e h
  | .loadN n a => op_loadN n a e h
  | .store n a x => op_store n a x e h
  | .nilCheck x => op_nilCheck x e h
  | .bin op x y => op_bin op x y e h
  | .eq neg tg x y => op_eq neg tg x y e h
  | .un op x => op_un op x e h
  | .convInt k x => op_convInt k x e h
  | .strBytes x => op_strBytes x e h id
  | .bytesStr x => op_bytesStr x e h
  | .iface t x => op_iface t x e h
  | .makeFunc f first cap => op_makeFunc f first cap e h
  | .makeMap => op_makeMap h id
  | .makeSlice zs esz l c => op_makeSlice zs esz l c e h id
  | .sliceStr x lo hi => op_sliceStr x lo hi e h
  | .sliceSl esz x lo hi => op_sliceSl esz x lo hi e h
  | .sliceArr n esz x lo hi => op_sliceArr n esz x lo hi e h
  | .fieldAddr off x => op_fieldAddr off x e h
  | .field off n isAgg x => op_field off n isAgg x e h
  | .idxSl esz x i => op_idxSl esz x i e h
  | .idxArr n esz x i => op_idxArr n esz x i e h
  | .index n esz isAgg x i => op_index n esz isAgg x i e h
  | .indexStr x i => op_indexStr x i e h
  | .lookup tg zero ok m k => op_lookup tg zero ok m k e h
  | .mapUpdate tg m k v => op_mapUpdate tg m k v e h
  | .extract i x => op_extract i x e h
  | .len tg x => op_len tg x e h
  | .lenK n => op_lenK n h
  | .minmax mx x y => op_minmax mx x y e h
  | .append esz s x => op_append esz s x e h id
  | .appendX esz s x => op_appendX esz s x e h id
  | .growZ zs esz s n => op_growZ zs esz s n e h id
  | .copy esz d s => op_copy esz d s e h
  | .range x => op_range x e h id
  | .next it => op_next it e h
  | .rangeM x => op_rangeM x e h id
  | .entry it => op_entry it e h
  | .ext f args => op_ext f args e h
  | .call _ _ => none
  | .callv _ _ => none

/-- Does an operation run? Nothing: it can't be told. -/
def guardA (g : Option (Nat × Bool)) (e : Env) : Option Bool :=
  match g with
  | none => some true
  | some (t, want) => match e.get t with
    | some (.bool b) => some (b == want)
    | some _ => some false
    | none => none

/-- How a function value's call is met. -/
abbrev CallP := AV → List AV → Heap → (AV → Heap → Prop) → Prop

def aOp (call : CallP) (id : Nat) (o : AOp) (e : Env) (h : Heap) (K : Env → Heap → Prop) : Prop :=
  match guardA o.guard e with
  | none => False
  | some false => K (e.putD o.dst .undef) h
  | some true => match o.k with
    | .call f args => (match e.srcs args with
      | some vs => call (.func (.fn f) [] []) vs h (fun v h' => K (e.putD o.dst v) h')
      | none => False)
    | .callv f args => (match e.src f, e.srcs args with
      | some fv, some vs => call fv vs h (fun v h' => K (e.putD o.dst v) h')
      | _, _ => False)
    | k => match aeval k e h id with
      | some (v, h') => K (e.putD o.dst v) h'
      | none => False

/-- What was read reads the same again. -/
def chkA (c : Chk) (e : Env) (h : Heap) : Prop :=
  match guardA c.guard e with
  | none => False
  | some false => True
  | some true => match aeval c.k e h h.next with
    | some (v, _) => e.get c.d = some v
    | none => False
def chksA : List Chk → Env → Heap → Prop
  | [], _, _ => True
  | c :: cs, e, h => chkA c e h ∧ chksA cs e h

def aOps (call : CallP) : Nat → List AOp → Env → Heap → (Env → Heap → Prop) → Prop
  | _, [], e, h, K => K e h
  | id, o :: os, e, h, K => aOp call id o e h (fun e' h' => chksA o.chk e' h' ∧ aOps call (id + 1) os e' h' K)

def resA (e : Env) (h : Heap) : ARes → Option AV
  | .tmp t => e.get t
  | .cell1 t => match e.get t with
    | some (.ptr b off) => getCell h b off
    | _ => none
  | .cellN t n => match e.get t with
    | some (.ptr b off) => (match getRow h b off n with | some vs => some (.agg vs) | none => none)
    | _ => none

def ressA (e : Env) (h : Heap) : List ARes → Option (List AV)
  | [] => some []
  | r :: rs => match resA e h r with
    | none => none
    | some v => match ressA e h rs with
      | none => none
      | some vs => some (v :: vs)

def packRes : List AV → AV
  | [v] => v
  | vs => .tuple vs

def initEnv : Nat → List AV → Env
  | _, [] => []
  | i, v :: vs => (i, v) :: initEnv (i + 1) vs

abbrev Spec := List AV → Heap → (AV → Heap → Prop) → Prop
abbrev WP := Option Nat → AC → Env → Heap → (Ex → Env → Heap → Prop) → Prop

/-- What is known of functions: summaries first, then bodies. -/
structure Ctx where
  sums : Nat → Option Spec
  funcs : Nat → Option AFunc

def endRoundA (x : Ex) : LoopState × Option Ex × Bool :=
  match x with
  | .normal => (.ready, none, true)
  | x => (.done, some x, false)

/-- A range over a map goes on, with whichever entry is left. -/
def nextP (args : List AV) (h : Heap) (K : AV → Heap → Prop) : Prop :=
  match args with
  | [.ptr r 0] => match h.get r with
    | some (.mapIter m n seen) => match h.get m with
      | some (.map es) => es.length = n ∧ (∀ i k v, es[i]? = some (k, v) → i ∉ seen → K (.tuple [.bool true, k, v]) (h.set r (some (.mapIter m n (i :: seen))))) ∧
          ((∀ i, i < n → i ∈ seen) → K (.tuple [.bool false]) h)
      | _ => False
    | _ => False
  | _ => False

def callA (c : Ctx) (rec : WP) : CallP := fun fv args h K =>
  match fv with
  | .func .next _ _ => nextP args h K
  | .func (.fn f) first cap =>
    (match c.sums f with
     | some s => s (first ++ args ++ cap) h K
     | none => match c.funcs f with
       | none => False
       | some F => rec none F.body (initEnv 0 (first ++ args ++ cap)) h fun x e' h' =>
           match x with
           | .exit _ => False
           | _ => match ressA e' h' F.results with
             | some vs => K (packRes vs) h'
             | none => False)
  | .func (.yield l) first _ =>
    (match h.get l with
     | some (.loop _ _ env ps asg body) =>
       (first ++ args).length = ps.length ∧ rec (some l) asg (env.putAll ps (first ++ args)) h fun x e1 h1 =>
         match x with
         | .normal => (match h1.get l with
           | some (.loop .ready pend1 env1 ps1 asg1 body1) =>
             rec (some l) body e1 (h1.set l (some (.loop .busy pend1 env1 ps1 asg1 body1))) fun x2 _ h2 =>
               match h2.get l with
               | some (.loop _ _ env2 ps2 asg2 body2) =>
                 let r := endRoundA x2
                 K (.bool r.2.2) (h2.set l (some (.loop r.1 r.2.1 env2 ps2 asg2 body2)))
               | _ => False
           | _ => False)
         | _ => False
     | _ => False)
  | _ => False

/-- In a round of a loop the loop's record lies there. -/
def roundThere (h : Heap) : Option Nat → Prop
  | none => True
  | some l => ∃ st pend env ps asg body, h.get l = some (.loop st pend env ps asg body)

def awpStep (c : Ctx) (rec : WP) : WP := fun rd code e h Q =>
  match code with
  | .skip => Q .normal e h
  | .ops none os => aOps (callA c rec) h.next os e (h.bump os.length) (fun e' h' => Q .normal e' h')
  | .ops (some kp) os => aOps (callA c rec) h.next os e (h.bump os.length) (fun e' h' => Q .normal (e'.keep kp) h')
  | .seq a b => rec rd a e h fun x e' h' => match x with
    | .normal => rec rd b e' h' Q
    | x => Q x e' h'
  | .cond s t f => match e.src s with
    | some (.bool b) => rec rd (match b with | true => t | false => f) e h Q
    | _ => False
  | .block id body => rec rd body e h fun x e' h' => if x = .exit id then Q .normal e' h' else Q x e' h'
  | .loop body => rec rd body e h fun x e' h' => match x with
    | .normal => rec rd (.loop body) e' h' Q
    | x => Q x e' h'
  | .exit id => Q (.exit id) e h
  | .ret => Q .ret e h
  | .keep s => Q .normal (e.keep s) h
  | .rangeFunc f ps asg body => match e.src f with
    | some (.func (.fn g) first cap) => roundThere h rd ∧
      callA c rec (.func (.fn g) first cap) [.func (.yield h.next) [] []] ((h.set h.next (some (.loop .ready none e ps asg body))).bump 1) fun _ h2 =>
        match h2.get h.next with
        | some (.loop st pend env ps' asg' body') =>
          st ≠ .busy ∧ (match pend with
            | none => Q .normal e (h2.set h.next (some (.loop .exhausted pend env ps' asg' body')))
            | some x => x ≠ .normal ∧ Q x e (h2.set h.next (some (.loop .exhausted pend env ps' asg' body'))))
        | _ => False
    | _ => False

/-- The weakest precondition of code, within so many nested steps. -/
def awp (c : Ctx) : Nat → WP
  | 0 => fun _ _ _ _ _ => False
  | n + 1 => awpStep c (awp c n)
theorem awp_zero (c : Ctx) (rd : Option Nat) (code : AC) (e : Env) (h : Heap) (Q : Ex → Env → Heap → Prop) : awp c 0 rd code e h Q = False := rfl
theorem awp_succ (c : Ctx) (n : Nat) : awp c (n + 1) = awpStep c (awp c n) := rfl

def acall (c : Ctx) (n : Nat) : CallP := callA c (awp c n)

/-! ### The same as a function -/
abbrev CallF := AV → List AV → Heap → Option (AV × Heap)

def xPut (e : Env) (d : Option Nat) (r : Option (AV × Heap)) : Option (Env × Heap) :=
  match r with
  | some (v, h') => some (e.putD d v, h')
  | none => none

def xCall (call : CallF) (fv : Option AV) (args : Option (List AV)) (h : Heap) : Option (AV × Heap) :=
  match fv, args with
  | some fv, some vs => call fv vs h
  | _, _ => none

def xRhs (call : CallF) (k : OpK) (e : Env) (h : Heap) (id : Nat) : Option (AV × Heap) :=
  match k with
  | .call f args => xCall call (some (.func (.fn f) [] [])) (e.srcs args) h
  | .callv f args => xCall call (e.src f) (e.srcs args) h
  | k => aeval k e h id

def xOp (call : CallF) (id : Nat) (o : AOp) (e : Env) (h : Heap) : Option (Env × Heap) :=
  match guardA o.guard e with
  | none => none
  | some false => some (e.putD o.dst .undef, h)
  | some true => xPut e o.dst (xRhs call o.k e h id)

def xNext (r : Option (Env × Heap)) (k : Env → Heap → Option (Env × Heap)) : Option (Env × Heap) :=
  match r with
  | some (e', h') => k e' h'
  | none => none

/-! Are two values the same? Fuel: how deep they go. -/
def natsSame : List Nat → List Nat → Bool
  | [], [] => true
  | a :: l, b :: m => match Nat.beq a b with
    | true => natsSame l m
    | false => false
  | _, _ => false
def intSame : Int → Int → Bool
  | .ofNat a, .ofNat b => Nat.beq a b
  | .negSucc a, .negSucc b => Nat.beq a b
  | _, _ => false
def sameL (f : AV → AV → Bool) : List AV → List AV → Bool
  | [], [] => true
  | a :: l, b :: m => match f a b with
    | true => sameL f l m
    | false => false
  | _, _ => false
def fnSame : AFn → AFn → Bool
  | .fn a, .fn b => Nat.beq a b
  | .yield a, .yield b => Nat.beq a b
  | .next, .next => true
  | _, _ => false
def AV.sameF : Nat → AV → AV → Bool
  | 0, _, _ => false
  | n + 1, a, b => match a, b with
    | .bool x, .bool y => match x, y with
      | true, true => true
      | false, false => true
      | _, _ => false
    | .int k x, .int k' y => if k = k' then intSame x y else false
    | .str x, .str y => natsSame x y
    | .nilptr, .nilptr => true
    | .ptr a o, .ptr a' o' => Nat.beq a a' && Nat.beq o o'
    | .nilslice, .nilslice => true
    | .slice a o l z, .slice a' o' l' z' => Nat.beq a a' && Nat.beq o o' && Nat.beq l l' && Nat.beq z z'
    | .nilmap, .nilmap => true
    | .map a, .map b => Nat.beq a b
    | .nilfunc, .nilfunc => true
    | .func f a c, .func f' a' c' => fnSame f f' && sameL (AV.sameF n) a a' && sameL (AV.sameF n) c c'
    | .nilIface, .nilIface => true
    | .iface t v, .iface t' v' => Nat.beq t t' && AV.sameF n v v'
    | .agg l, .agg l' => sameL (AV.sameF n) l l'
    | .tuple l, .tuple l' => sameL (AV.sameF n) l l'
    | _, _ => false

def chkX (c : Chk) (e : Env) (h : Heap) : Bool :=
  match guardA c.guard e with
  | none => false
  | some false => true
  | some true => match aeval c.k e h h.next with
    | some (v, _) => match e.get c.d with
      | some u => AV.sameF 8 u v
      | none => false
    | none => false
def chksX : List Chk → Env → Heap → Bool
  | [], _, _ => true
  | c :: cs, e, h => match chkX c e h with
    | true => chksX cs e h
    | false => false

def xOps (call : CallF) : Nat → List AOp → Env → Heap → Option (Env × Heap)
  | _, [], e, h => some (e, h)
  | id, o :: os, e, h => xNext (xOp call id o e h) fun e' h' => match chksX o.chk e' h' with
    | true => xOps call (id + 1) os e' h'
    | false => none
theorem xOps_nil (call : CallF) (id : Nat) (e : Env) (h : Heap) : xOps call id [] e h = some (e, h) := rfl
theorem xOps_cons (call : CallF) (id : Nat) (o : AOp) (os : List AOp) (e : Env) (h : Heap) :
    xOps call id (o :: os) e h = xNext (xOp call id o e h) fun e' h' => match chksX o.chk e' h' with
    | true => xOps call (id + 1) os e' h'
    | false => none := rfl

abbrev Fun := List AV → Heap → Option (AV × Heap)
abbrev XF := Option Nat → AC → Env → Heap → Option (Ex × Env × Heap)

structure XCtx where
  sums : Nat → Option Fun
  funcs : Nat → Option AFunc

def retX (rs : List ARes) (r : Option (Ex × Env × Heap)) : Option (AV × Heap) :=
  match r with
  | none => none
  | some (x, e', h') => match x with
    | .exit _ => none
    | _ => match ressA e' h' rs with
      | some vs => some (packRes vs, h')
      | none => none

def callFX (c : XCtx) (rec : XF) (f : Nat) (args : List AV) (h : Heap) : Option (AV × Heap) :=
  match c.sums f with
  | some s => s args h
  | none => match c.funcs f with
    | none => none
    | some F => retX F.results (rec none F.body (initEnv 0 args) h)

def yieldX (rec : XF) (l : Nat) (args : List AV) (h : Heap) : Option (AV × Heap) :=
    (match h.get l with
     | some (.loop _ _ env ps asg body) =>
       if args.length = ps.length then
         match rec (some l) asg (env.putAll ps args) h with
         | some (.normal, e1, h1) => (match h1.get l with
           | some (.loop .ready pend1 env1 ps1 asg1 body1) =>
             (match rec (some l) body e1 (h1.set l (some (.loop .busy pend1 env1 ps1 asg1 body1))) with
              | none => none
              | some (x2, _, h2) => match h2.get l with
                | some (.loop _ _ env2 ps2 asg2 body2) =>
                  let r := endRoundA x2
                  some (.bool r.2.2, h2.set l (some (.loop r.1 r.2.1 env2 ps2 asg2 body2)))
                | _ => none)
           | _ => none)
         | _ => none
       else none
     | _ => none)

def callX (c : XCtx) (rec : XF) : CallF := fun fv args h =>
  match fv with
  | .func (.fn f) first cap => callFX c rec f (first ++ args ++ cap) h
  | .func (.yield l) first _ => yieldX rec l (first ++ args) h
  | _ => none

def seqX (rec : XF) (rd : Option Nat) (b : AC) (r : Option (Ex × Env × Heap)) : Option (Ex × Env × Heap) :=
  match r with
  | some (.normal, e', h') => rec rd b e' h'
  | r => r

def blockX (id : Nat) (r : Option (Ex × Env × Heap)) : Option (Ex × Env × Heap) :=
  match r with
  | some (x, e', h') => if x = .exit id then some (.normal, e', h') else some (x, e', h')
  | none => none

def condX (rec : XF) (rd : Option Nat) (t f : AC) (e : Env) (h : Heap) (v : Option AV) : Option (Ex × Env × Heap) :=
  match v with
  | some (.bool b) => rec rd (match b with | true => t | false => f) e h
  | _ => none

def normX (r : Option (Env × Heap)) : Option (Ex × Env × Heap) :=
  match r with
  | some (e', h') => some (.normal, e', h')
  | none => none

def normK (kp : List Nat) (r : Option (Env × Heap)) : Option (Ex × Env × Heap) :=
  match r with
  | some (e', h') => some (.normal, e'.keep kp, h')
  | none => none

def roundThereX (h : Heap) : Option Nat → Bool
  | none => true
  | some l => match h.get l with
    | some (.loop _ _ _ _ _ _) => true
    | _ => false

def rangeEndX (l : Nat) (e : Env) (r : Option (AV × Heap)) : Option (Ex × Env × Heap) :=
  match r with
  | none => none
  | some (_, h2) => match h2.get l with
    | some (.loop st pend env ps' asg' body') =>
      if st = .busy then none else
      (match pend with
        | none => some (.normal, e, h2.set l (some (.loop .exhausted pend env ps' asg' body')))
        | some .normal => none
        | some x => some (x, e, h2.set l (some (.loop .exhausted pend env ps' asg' body'))))
    | _ => none

def rangeX (c : XCtx) (rec : XF) (rd : Option Nat) (fv : Option AV) (ps : List Nat) (asg body : AC) (e : Env) (h : Heap) : Option (Ex × Env × Heap) :=
  match fv with
  | some (.func (.fn g) first cap) => if roundThereX h rd then rangeEndX h.next e (callX c rec (.func (.fn g) first cap) [.func (.yield h.next) [] []] ((h.set h.next (some (.loop .ready none e ps asg body))).bump 1)) else none
  | _ => none

def execStep (c : XCtx) (rec : XF) : XF := fun rd code e h =>
  match code with
  | .skip => some (.normal, e, h)
  | .ops none os => normX (xOps (callX c rec) h.next os e (h.bump os.length))
  | .ops (some kp) os => normK kp (xOps (callX c rec) h.next os e (h.bump os.length))
  | .seq a b => seqX rec rd b (rec rd a e h)
  | .cond s t f => condX rec rd t f e h (e.src s)
  | .block id body => blockX id (rec rd body e h)
  | .loop body => seqX rec rd (.loop body) (rec rd body e h)
  | .exit id => some (.exit id, e, h)
  | .ret => some (.ret, e, h)
  | .keep s => some (.normal, e.keep s, h)
  | .rangeFunc f ps asg body => rangeX c rec rd (e.src f) ps asg body e h

def exec (c : XCtx) : Nat → XF
  | 0 => fun _ _ _ _ => none
  | n + 1 => execStep c (exec c n)
theorem exec_zero (c : XCtx) (rd : Option Nat) (code : AC) (e : Env) (h : Heap) : exec c 0 rd code e h = none := rfl
theorem exec_succ (c : XCtx) (n : Nat) : exec c (n + 1) = execStep c (exec c n) := rfl

end Go.Ab
