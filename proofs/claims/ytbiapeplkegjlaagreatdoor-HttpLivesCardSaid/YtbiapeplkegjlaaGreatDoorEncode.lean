/- A body in chunks: the document's Encode. -/
import Derived.WalkMore
import Derived.Lib.AppendStr
import Derived.Deep.DeepCutAuto
import Derived.Deep.CutBlock
import Derived.Test.YtbiapeplkegjlaaGreatDoorHex
import Derived.Test.YtbiapeplkegjlaaGreatDoorStrs
namespace Go.Proofs.YtbiapeplkegjlaaGreatDoor
open Go.RowKit Go.Cx Go.Maps

def crlf : ByteArray := { data := #[13, 10] }
def lastC : ByteArray := { data := #[48, 13, 10, 13, 10] }

/-- a body in chunks of s + 1 bytes at the most -/
def encL (s : Nat) (l : List Nat) : List Nat :=
  if h : l = [] then [48, 13, 10, 13, 10]
  else bytesOf (hexS (min (s + 1) l.length) ++ crlf) ++ l.take (s + 1) ++ [13, 10] ++ encL s (l.drop (s + 1))
termination_by l.length
decreasing_by
  have := List.length_pos_iff.2 h
  rw [List.length_drop]
  omega

theorem encL_nil (s : Nat) : encL s [] = [48, 13, 10, 13, 10] := by rw [encL]; rfl
theorem encL_cons (s : Nat) (l : List Nat) (h : l ≠ []) : encL s l = bytesOf (hexS (min (s + 1) l.length) ++ crlf) ++ l.take (s + 1) ++ [13, 10] ++ encL s (l.drop (s + 1)) := by
  rw [encL, dif_neg h]
theorem encL_len (s : Nat) (l : List Nat) : (encL s l).length ≤ 7 * l.length + 5 := by
  induction h : l.length using Nat.strongRecOn generalizing l with
  | _ n ih =>
    by_cases hl : l = []
    · subst hl
      rw [encL_nil]
      simp
    · have hpos := List.length_pos_iff.2 hl
      rw [encL_cons s l hl]
      have h1 := ih (l.drop (s + 1)).length (by rw [List.length_drop]; omega) (l.drop (s + 1)) rfl
      have h2 := hexS_size (min (s + 1) l.length)
      have h3 : (hexS (min (s + 1) l.length) ++ crlf).size ≤ min (s + 1) l.length + 3 := by
        rw [ByteArray.size_append]
        have : crlf.size = 2 := rfl
        omega
      simp only [List.length_append, bytesOf_len, List.length_take, List.length_cons, List.length_nil]
      rw [List.length_drop] at h1
      omega
theorem encL_lt (s : Nat) (l : List Nat) (hb : ∀ b ∈ l, b < 256) : ∀ b ∈ encL s l, b < 256 := by
  induction h : l.length using Nat.strongRecOn generalizing l with
  | _ n ih =>
    by_cases hl : l = []
    · subst hl
      rw [encL_nil]
      decide
    · have hpos := List.length_pos_iff.2 hl
      rw [encL_cons s l hl]
      intro b hm
      simp only [List.mem_append] at hm
      rcases hm with ((hm | hm) | hm) | hm
      · exact bytesOf_lt _ b hm
      · exact hb b (List.mem_of_mem_take hm)
      · have : b = 13 ∨ b = 10 := by simpa using hm
        omega
      · exact ih (l.drop (s + 1)).length (by rw [List.length_drop]; omega) (l.drop (s + 1)) (fun b hb' => hb b (List.mem_of_mem_drop hb')) rfl b hm

def lenV : Value → Nat
  | .slice _ n _ => n
  | _ => 0

end Go.Proofs.YtbiapeplkegjlaaGreatDoor
