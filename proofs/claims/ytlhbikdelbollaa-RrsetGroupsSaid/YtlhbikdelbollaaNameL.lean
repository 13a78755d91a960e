/- Names: what is one, in plain lists. -/
import Derived.Test.YtlhbikdelbollaaStrs
namespace Go.Proofs.Ytlhbikdelbollaa

/-- how many bytes the first label has, its length's among them -/
def nextL : List Nat → Option Nat
  | [] => none
  | k :: t => if k = 0 ∨ 63 < k ∨ t.length < 1 + k then none else some (1 + k)
theorem nextL_pos {n : List Nat} {k : Nat} (h : nextL n = some k) : 2 ≤ k ∧ k < n.length ∧ k ≤ 64 := by
  cases n with
  | nil => cases h
  | cons c t =>
    by_cases hc : c = 0 ∨ 63 < c ∨ t.length < 1 + c
    · rw [nextL, if_pos hc] at h
      cases h
    · rw [nextL, if_neg hc] at h
      injection h with h
      simp only [List.length_cons]
      omega
/-- what stands behind the labels -/
def restL (n : List Nat) : List Nat := match _h : nextL n with
  | none => n
  | some k => restL (n.drop k)
termination_by n.length
decreasing_by
  have := nextL_pos _h
  rw [List.length_drop]
  omega
theorem restL_none {n : List Nat} (h : nextL n = none) : restL n = n := by
  rw [restL]
  split
  · rfl
  · rename_i k hk
    rw [h] at hk
    cases hk
theorem restL_some {n : List Nat} {k : Nat} (h : nextL n = some k) : restL n = restL (n.drop k) := by
  conv => lhs; rw [restL]
  split
  · rename_i hk
    rw [h] at hk
    cases hk
  · rename_i k' hk
    rw [h] at hk
    injection hk with hk
    rw [hk]
def canL (n : List Nat) : Bool := decide (restL n = [0]) && decide (n.length ≤ 255)
def lowC (c : Nat) : Nat := if 65 ≤ c ∧ c ≤ 90 then c + 32 else c
def lowerL (n : List Nat) : List Nat := if canL n = true then n.map lowC else []
theorem lowC_lt {c : Nat} (h : c < 256) : lowC c < 256 := by
  unfold lowC
  split <;> omega
end Go.Proofs.Ytlhbikdelbollaa
