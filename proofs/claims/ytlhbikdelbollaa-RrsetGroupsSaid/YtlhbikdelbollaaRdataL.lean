/- Data of records: which may be, in plain lists. -/
import Derived.Test.YtlhbikdelbollaaNameL
namespace Go.Proofs.Ytlhbikdelbollaa

/-- where the labels end -/
def atL : List Nat → Nat
  | [] => 0
  | 0 :: _ => 0
  | (k + 1) :: t => 1 + (k + 1) + atL (t.drop (k + 1))
termination_by l => l.length
decreasing_by
  simp only [List.length_drop, List.length_cons]
  omega
theorem atL_nil : atL [] = 0 := by rw [atL]
theorem atL_zero (t : List Nat) : atL (0 :: t) = 0 := by rw [atL]
theorem atL_cons {k : Nat} (t : List Nat) (h : k ≠ 0) : atL (k :: t) = 1 + k + atL (t.drop k) := by
  cases k with
  | zero => exact absurd rfl h
  | succ k => rw [atL]
/-- the name ahead, and what stands behind it -/
def cutL (b : List Nat) : Option (List Nat × List Nat) :=
  if atL b < b.length ∧ canL (b.take (atL b + 1)) = true then some (b.take (atL b + 1), b.drop (atL b + 1)) else none
def textsOk : List Nat → Bool
  | [] => true
  | k :: t => if t.length < k then false else textsOk (t.drop k)
termination_by l => l.length
decreasing_by
  simp only [List.length_drop, List.length_cons]
  omega
theorem textsOk_nil : textsOk [] = true := by rw [textsOk]
theorem textsOk_cons (k : Nat) (t : List Nat) : textsOk (k :: t) = if t.length < k then false else textsOk (t.drop k) := by rw [textsOk]
def textsL (b : List Nat) : Bool := decide (b ≠ []) && textsOk b
def optionsL : List Nat → Bool
  | [] => true
  | _ :: _ :: c :: d :: t => if t.length < c * 256 + d then false else optionsL (t.drop (c * 256 + d))
  | _ => false
termination_by l => l.length
decreasing_by
  simp only [List.length_drop, List.length_cons]
  omega
theorem optionsL_nil : optionsL [] = true := by rw [optionsL]
theorem optionsL_cons (a b c d : Nat) (t : List Nat) : optionsL (a :: b :: c :: d :: t) = if t.length < c * 256 + d then false else optionsL (t.drop (c * 256 + d)) := by rw [optionsL]
theorem optionsL_short {l : List Nat} (h0 : l ≠ []) (h : l.length < 4) : optionsL l = false := by
  match l, h0, h with
  | [a], _, _ => rw [optionsL]; all_goals simp
  | [a, b], _, _ => rw [optionsL]; all_goals simp
  | [a, b, c], _, _ => rw [optionsL]; all_goals simp
def mailL (b : List Nat) : Bool := decide (2 < b.length) && canL (b.drop 2)
/-- a number of bytes -/
def bigN : List Nat → Nat := List.foldl (fun a x => a * 256 + x) 0
structure SoaL where
  m : List Nat
  r : List Nat
  five : List Nat
def soaL (b : List Nat) : Option SoaL := match cutL b with
  | none => none
  | some (m, b1) => match cutL b1 with
    | none => none
    | some (r, b2) => if b2.length = 20 then some ⟨m, r, [bigN (b2.take 4), bigN ((b2.drop 4).take 4), bigN ((b2.drop 8).take 4), bigN ((b2.drop 12).take 4), bigN ((b2.drop 16).take 4)]⟩ else none
def rdataL (t : Int) (b : List Nat) : Bool :=
  if t < 0 ∨ 65535 < t ∨ 65535 < b.length then false
  else if t = 1 then decide (b.length = 4)
  else if t = 28 then decide (b.length = 16)
  else if t = 2 ∨ t = 5 ∨ t = 12 then canL b
  else if t = 15 then mailL b
  else if t = 16 then textsL b
  else if t = 41 then optionsL b
  else if t = 6 then (soaL b).isSome
  else true
end Go.Proofs.Ytlhbikdelbollaa
