/- A body that is longer than it may be: the plain law. -/
import Derived.Test.YtphnehfablaakaaDoorChunkLaw
namespace Go.Proofs.YtphnehfablaakaaDoor

theorem run_chunk (most s : Nat) (hs : s + 1 < 16777216) (l pre : List Nat) (h0 : l ≠ []) (m : Nat) (hmm : min (s + 1) l.length = m) (hm : m + pre.length ≤ most) :
    runB ⟨most, 0, 0, 0, pre, 0⟩ (bytesOf (hexS m ++ crlf) ++ l.take (s + 1) ++ [13, 10]) = some ⟨most, 0, 0, 0, pre ++ l.take (s + 1), 0⟩ := by
  have hpos := List.length_pos_iff.2 h0
  have hm1 : 1 ≤ m := by omega
  have htl : (l.take (s + 1)).length = m := by rw [List.length_take]; exact hmm
  have hne : l.take (s + 1) ≠ [] := fun h => by rw [h] at htl; simp at htl; omega
  rw [bytesOf_append]
  have hx := run_hex most pre m 0 0 (by have := nd_le m (by omega); omega)
  simp only [Nat.zero_add, Nat.zero_mul] at hx
  have hnd : nd m ≠ 0 := by rw [nd]; split <;> omega
  have h1 : cbyte ⟨most, nd m, 0, m, pre, 0⟩ 13 = (0, ⟨most, nd m, 1, m, pre, 0⟩) := by
    unfold cbyte
    simp only
    rw [if_neg (fun h => absurd h.1 (by decide)), if_neg (by omega), if_neg (by omega)]
  have h2 : cbyte ⟨most, nd m, 1, m, pre, 0⟩ 10 = (0, ⟨most, nd m, 2, m, pre, 0⟩) := by
    unfold cbyte
    simp only
    rw [if_pos trivial, if_neg (by omega)]
  have hc : bytesOf crlf = [13, 10] := by decide +kernel
  have ha : runB ⟨most, 0, 0, 0, pre, 0⟩ (bytesOf (hexS m) ++ bytesOf crlf) = some ⟨most, nd m, 2, m, pre, 0⟩ := by
    refine runB_then hx ?_
    rw [hc, runB_cons (by simp) h1, runB_cons (by simp) h2]
    rfl
  have hb : runB ⟨most, nd m, 2, m, pre, 0⟩ (l.take (s + 1)) = some ⟨most, nd m, 3, 0, pre ++ l.take (s + 1), 0⟩ := by
    have := run_data most (nd m) (l.take (s + 1)) pre hne
    rwa [htl] at this
  have h3 : runB ⟨most, nd m, 3, 0, pre ++ l.take (s + 1), 0⟩ [13, 10] = some ⟨most, 0, 0, 0, pre ++ l.take (s + 1), 0⟩ := rfl
  exact runB_then (runB_then ha hb) h3

theorem feed_full (most s : Nat) (hs : s + 1 < 16777216) : ∀ (n : Nat) (l pre : List Nat) (k : Nat), l.length = n → pre.length ≤ most → most < pre.length + l.length →
    ∃ d left j, feedGo (encL s l) ⟨most, 0, 0, 0, pre, 0⟩ k = ((0, false, 4), ⟨most, d, 0, left, pre ++ l.take j, 4⟩) ∧ pre.length + (l.take j).length ≤ most := by
  intro n
  induction n using Nat.strongRecOn with
  | _ n ih =>
    intro l pre k hl hp hm
    have h0 : l ≠ [] := fun h => by subst h; simp at hm; omega
    have hpos := List.length_pos_iff.2 h0
    rw [encL_cons s l h0]
    obtain ⟨m, hmm⟩ : ∃ m, min (s + 1) l.length = m := ⟨_, rfl⟩
    rw [hmm]
    have htl : (l.take (s + 1)).length = m := by rw [List.length_take]; exact hmm
    by_cases hfit : m + pre.length ≤ most
    · rw [feedGo_run _ _ _ _ k (run_chunk most s hs l pre h0 m hmm hfit)]
      obtain ⟨d, left, j, hf, hj⟩ := ih (l.drop (s + 1)).length (by rw [List.length_drop]; omega) (l.drop (s + 1)) (pre ++ l.take (s + 1)) (k + (bytesOf (hexS m ++ crlf) ++ l.take (s + 1) ++ [13, 10]).length) rfl
        (by rw [List.length_append, htl]; omega) (by rw [List.length_append, List.length_drop, htl]; omega)
      have hta : l.take (s + 1 + j) = l.take (s + 1) ++ (l.drop (s + 1)).take j := List.take_add
      refine ⟨d, left, s + 1 + j, ?_, ?_⟩
      · rw [hf, List.append_assoc, hta]
      · rw [hta, List.length_append]
        rw [List.length_append] at hj
        omega
    · have hx := run_hex most pre m 0 0 (by have := nd_le m (by omega); omega)
      simp only [Nat.zero_add, Nat.zero_mul] at hx
      have hnd : nd m ≠ 0 := by rw [nd]; split <;> omega
      have h1 : cbyte ⟨most, nd m, 0, m, pre, 0⟩ 13 = (4, ⟨most, nd m, 0, m, pre, 0⟩) := by
        unfold cbyte
        simp only
        rw [if_neg (fun h => absurd h.1 (by decide)), if_neg (by omega), if_pos (by omega)]
      have hc : bytesOf crlf = [13, 10] := by decide +kernel
      refine ⟨nd m, m, 0, ?_, by simp; omega⟩
      rw [bytesOf_append, hc, List.append_assoc, List.append_assoc, List.append_assoc, feedGo_run _ _ _ _ k hx, List.cons_append, feed_cons _ _ _ _ (by simp), h1]
      simp
end Go.Proofs.YtphnehfablaakaaDoor
