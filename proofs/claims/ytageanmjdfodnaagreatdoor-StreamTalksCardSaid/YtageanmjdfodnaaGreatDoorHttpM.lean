/- A reader of requests, plain. -/
import Derived.Test.YtageanmjdfodnaaGreatDoorChunkN
import Derived.Test.YtageanmjdfodnaaGreatDoorHttpL
import Derived.Test.YtageanmjdfodnaaGreatDoorHeadL
import Derived.Test.YtageanmjdfodnaaGreatDoorFieldL
namespace Go.Proofs.YtageanmjdfodnaaGreatDoor
open Go.RowKit Go.Cx Go.Maps

def firstL : List Nat := [80, 79, 83, 84, 32, 47, 100, 110, 115, 45, 113, 117, 101, 114, 121, 32, 72, 84, 84, 80, 47, 49, 46, 49]
def kindL : List Nat := [97, 112, 112, 108, 105, 99, 97, 116, 105, 111, 110, 47, 100, 110, 115, 45, 109, 101, 115, 115, 97, 103, 101]
def ctypeL : List Nat := [99, 111, 110, 116, 101, 110, 116, 45, 116, 121, 112, 101]
def clenL : List Nat := [99, 111, 110, 116, 101, 110, 116, 45, 108, 101, 110, 103, 116, 104]
def codedL : List Nat := [116, 114, 97, 110, 115, 102, 101, 114, 45, 101, 110, 99, 111, 100, 105, 110, 103]
def connL : List Nat := [99, 111, 110, 110, 101, 99, 116, 105, 111, 110]
def keepL : List Nat := [107, 101, 101, 112, 45, 97, 108, 105, 118, 101]
def shutL : List Nat := [99, 108, 111, 115, 101]
def chunkedL : List Nat := [99, 104, 117, 110, 107, 101, 100]
/-- a body that comes -/
structure Bd where
  keep : Bool
  left : Nat
  got : List Nat
  c : Option CS
/-- a reader -/
structure HS where
  ended : Bool
  b : List Nat
  body : Option Bd
/-- a request -/
structure Rq where
  body : List Nat
  keep : Bool
/-- whether a connection is kept; none: its value is none -/
def keepOf : List (List Nat) → Option Bool
  | [] => some true
  | [c] => if c = keepL then some true else if c = shutL then some false else none
  | _ => none
/-- how long a body is -/
def longOf (long coded : List (List Nat)) (keep : Bool) : Option Bd :=
  match long, coded with
  | [x], [] => (sizeL x).map fun n => ⟨keep, n, [], none⟩
  | [], [x] => if x = chunkedL then some ⟨keep, 0, [], some (new0 65535)⟩ else none
  | _, _ => none
/-- the body behind a head's lines; none: the head is none -/
def beginL (l : List (List Nat)) : Option Bd :=
  match l with
  | [] => none
  | f :: r => if f ≠ firstL then none else
    match fieldsL r with
    | none => none
    | some fs => if valuesOf fs ctypeL ≠ [kindL] then none else
      match keepOf (valuesOf fs connL) with
      | none => none
      | some keep => longOf (valuesOf fs clenL) (valuesOf fs codedL) keep
/-- a body takes bytes: how many, whether it is whole, the error's number -/
def takeB (d : Bd) (b : List Nat) : (Nat × Bool × Nat) × Bd :=
  match d.c with
  | some s => ((feed s b).1, { d with got := (feed s b).2.body, c := some (feed s b).2 })
  | none => ((min d.left b.length, decide (d.left ≤ b.length), 0), { d with got := d.got ++ b.take d.left, left := d.left - b.length })
inductive Turn where
  | stop (e : Nat) (s : HS)
  | more (r : Rq) (s : HS)
/-- behind a head -/
def turnB (ended : Bool) (d : Bd) (b : List Nat) : Turn :=
  match takeB d b with
  | ((n, whole, e), d') => if e ≠ 0 then .stop 130 ⟨true, [], none⟩ else if whole = false then .stop 0 ⟨ended, b.drop n, some d'⟩ else .more ⟨d'.got, d'.keep⟩ ⟨!d'.keep, b.drop n, none⟩
/-- a round of Feed; what has ended holds nothing -/
def turnL (s : HS) : Turn :=
  match s.body with
  | some d => turnB s.ended d s.b
  | none => match headL s.b with
    | none => .stop 130 ⟨true, [], none⟩
    | some none => .stop 0 s
    | some (some (l, n)) => match beginL l with
      | none => .stop 130 ⟨true, [], none⟩
      | some d => turnB s.ended d (s.b.drop n)
def feedN : Nat → HS → List Rq → (List Rq × Nat) × HS
  | 0, s, l => ((l, 0), s)
  | k + 1, s, l => if s.ended then ((l, 0), s) else match turnL s with
    | .stop e s' => ((l, e), s')
    | .more r s' => feedN k s' (l ++ [r])
def feedH (s : HS) (x : List Nat) : (List Rq × Nat) × HS := if s.ended then (([], 0), s) else feedN (s.b.length + x.length + 2) { s with b := s.b ++ x } []
end Go.Proofs.YtageanmjdfodnaaGreatDoor
