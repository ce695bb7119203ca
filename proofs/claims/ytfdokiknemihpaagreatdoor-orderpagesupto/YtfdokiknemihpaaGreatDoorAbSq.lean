/- What some functions of the program compute, as functions that the kernel runs: bytes' classes, squeezed texts. -/
import Derived.Test.YtfdokiknemihpaaGreatDoorAbA
namespace Go.Ab

/-! ### Classes of bytes -/
def isMark (c : Nat) : Bool :=
  match c with
  | 33 | 34 | 39 | 40 | 41 | 44 | 45 | 46 | 47 | 58 | 59 | 63 => true
  | _ => false
def classN (c : Nat) : Nat :=
  match Nat.ble 97 c && Nat.ble c 122 with
  | true => 1
  | false => match Nat.ble 65 c && Nat.ble c 90 with
    | true => 2
    | false => match Nat.ble 48 c && Nat.ble c 57 with
      | true => 3
      | false => match isMark c with
        | true => 4
        | false => match Nat.beq c 32 with
          | true => 5
          | false => match Nat.beq c 10 with
            | true => 6
            | false => 0
def classG (args : List AV) : Option AV :=
  match args with
  | [.int .u8 (.ofNat c)] => match Nat.blt c 256 with
    | true => some (.int .i64 (.ofNat (classN c)))
    | false => none
  | _ => none

/-! ### Nodes -/
structure Nd where
  kind : Int
  text : List Nat
  at_ : Int
  size : Int
  deriving Repr, DecidableEq, Inhabited
def Nd.cells (n : Nd) : List AV := [.int .u8 n.kind, .str n.text, .int .i64 n.at_, .int .i64 n.size]

def flowK (k : Int) : Bool :=
  match k with
  | .ofNat 49 | .ofNat 50 | .ofNat 51 | .ofNat 112 | .ofNat 105 | .ofNat 99 | .ofNat 110 => true
  | _ => false

def popW (i : Nat) : List (Nat × Int) → List (Nat × Int)
  | [] => []
  | (o, s) :: r => match decide (IntKind.i64.wrap ((o : Int) + s) ≤ (i : Int)) with
    | true => popW i r
    | false => (o, s) :: r
def topO : List (Nat × Int) → Nat
  | [] => 0
  | (o, _) :: _ => o
/-- In which flow each node is. -/
def ownGo : Nat → List Nd → List (Nat × Int) → List Nat
  | _, [], _ => []
  | i, n :: ns, st => topO (popW i st) :: ownGo (i + 1) ns (match flowK n.kind with | true => (i, n.size) :: popW i st | false => popW i st)

def whiteN (c : Nat) : Bool := Nat.beq c 32 || Nat.beq c 10
/-- A text's bytes, one by one: what is kept (turned round), where it begins, what the flow has told. -/
structure Sq where
  b : List Nat
  at_ : Int
  said : Nat × Nat
def Sq.keep (s : Sq) (i : Nat) (at0 : Int) (j c : Nat) : Sq :=
  { b := c :: s.b, at_ := (match s.b with | [] => IntKind.i64.wrap (at0 + (j : Int)) | _ => s.at_), said := (c, i) }
def sqText (i : Nat) (at0 : Int) : Nat → List Nat → Sq → Sq
  | _, [], s => s
  | j, c :: cs, s => sqText i at0 (j + 1) cs (match whiteN c with
    | false => s.keep i at0 j c
    | true => match Nat.beq s.said.1 0 || Nat.beq s.said.1 32 with
      | true => s
      | false => s.keep i at0 j 32)

def flGet (o : Nat) : List (Nat × (Nat × Nat)) → Option (Nat × Nat)
  | [] => none
  | (p, x) :: r => match Nat.beq o p with
    | true => some x
    | false => flGet o r
def flSet (o : Nat) (x : Nat × Nat) : List (Nat × (Nat × Nat)) → List (Nat × (Nat × Nat))
  | [] => [(o, x)]
  | (p, y) :: r => match Nat.beq o p with
    | true => (p, x) :: r
    | false => (p, y) :: flSet o x r
def getOr (x : Option (Nat × Nat)) : Nat × Nat := match x with | some y => y | none => (0, 0)

/-- All texts squeezed, and what the flows have told last. -/
def sqGo : Nat → List Nd → List Nat → List (Nat × (Nat × Nat)) → List Nd × List (Nat × (Nat × Nat))
  | i, n :: ns, o :: os, fl => match decide (n.kind = 46) with
    | false => let r := sqGo (i + 1) ns os fl
      (n :: r.1, r.2)
    | true => let s := sqText i n.at_ 0 n.text ⟨[], n.at_, getOr (flGet o fl)⟩
      let r := sqGo (i + 1) ns os (flSet o s.said fl)
      ({ n with text := s.b.reverse, at_ := s.at_ } :: r.1, r.2)
  | _, _, _, fl => ([], fl)

def trimSp (l : List Nat) : List Nat := match l.reverse with
  | 32 :: r => r.reverse
  | _ => l
def trimAt : Nat → List Nd → List Nd
  | _, [] => []
  | 0, n :: ns => { n with text := trimSp n.text } :: ns
  | i + 1, n :: ns => n :: trimAt i ns
def trims : List (Nat × (Nat × Nat)) → List Nd → List Nd
  | [], ns => ns
  | (_, (c, i)) :: r, ns => trims r (match Nat.beq c 32 with | true => trimAt i ns | false => ns)
def sqz (ns : List Nd) : List Nd :=
  let r := sqGo 0 ns (ownGo 0 ns []) []
  trims r.2 r.1

def toNds : List AV → Option (List Nd)
  | .int .u8 k :: .str t :: .int .i64 a :: .int .i64 s :: r => match toNds r with
    | some ns => some (⟨k, t, a, s⟩ :: ns)
    | none => none
  | [] => some []
  | _ => none
def ndsOf (h : Heap) : AV → Option (List Nd)
  | .nilslice => some []
  | .slice b off n 4 => match getRow h b off (n * 4) with
    | some r => toNds r
    | none => none
  | _ => none
def ndCells : List Nd → List AV
  | [] => []
  | n :: ns => .int .u8 n.kind :: .str n.text :: .int .i64 n.at_ :: .int .i64 n.size :: ndCells ns
def sqzF : Fun := fun args h =>
  match args with
  | [t] => match ndsOf h t with
    | some ns => some (.slice h.next 0 ns.length 4, (h.set h.next (some (.cells (.live []) (ndCells (sqz ns))))).bump 1)
    | none => none
  | _ => none
end Go.Ab
