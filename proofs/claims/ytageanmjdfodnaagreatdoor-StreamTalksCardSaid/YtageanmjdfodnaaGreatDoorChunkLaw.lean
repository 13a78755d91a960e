/- What Encode writes, Feed reads: the plain law. -/
import Derived.Test.YtageanmjdfodnaaGreatDoorChunkF
import Derived.Test.YtageanmjdfodnaaGreatDoorEncode
namespace Go.Proofs.YtageanmjdfodnaaGreatDoor

/-- the state behind bytes that are taken without an error -/
def runB : CS → List Nat → Option CS
  | s, [] => some s
  | s, c :: l => if s.st = 7 then none else match cbyte s c with
    | (0, s') => runB s' l
    | _ => none

theorem runB_cons {s s' : CS} {c : Nat} {l : List Nat} (h : s.st ≠ 7) (hc : cbyte s c = (0, s')) : runB s (c :: l) = runB s' l := by
  rw [runB, if_neg h, hc]
  rfl
theorem runB_append : ∀ (a b : List Nat) (s : CS), runB s (a ++ b) = (runB s a).bind fun s' => runB s' b
  | [], b, s => rfl
  | c :: a, b, s => by
    by_cases h7 : s.st = 7
    · rw [List.cons_append, runB, if_pos h7, runB, if_pos h7]; rfl
    · rcases hc : cbyte s c with ⟨e, s'⟩
      cases e with
      | zero => rw [List.cons_append, runB_cons h7 hc, runB_cons h7 hc]; exact runB_append a b s'
      | succ e =>
        rw [List.cons_append, runB, if_neg h7, hc, runB, if_neg h7, hc]
        rfl
theorem runB_then {a b : List Nat} {s s1 s2 : CS} (h1 : runB s a = some s1) (h2 : runB s1 b = some s2) : runB s (a ++ b) = some s2 := by
  rw [runB_append, h1]
  exact h2
theorem feedGo_run : ∀ (l rest : List Nat) (s s' : CS) (k : Nat), runB s l = some s' → feedGo (l ++ rest) s k = feedGo rest s' (k + l.length)
  | [], rest, s, s', k, h => by
    injection h with h
    subst h
    rfl
  | c :: l, rest, s, s', k, h => by
    by_cases h7 : s.st = 7
    · rw [runB, if_pos h7] at h
      cases h
    · rcases hc : cbyte s c with ⟨e, s1⟩
      rw [runB, if_neg h7, hc] at h
      cases e with
      | zero =>
        rw [List.cons_append, feed_cons _ _ _ _ h7, hc]
        simp only
        rw [feedGo_run l rest s1 s' (k + 1) h, List.length_cons]
        congr 1
        omega
      | succ e => cases h

/-- how many digits a number has -/
def nd (n : Nat) : Nat := if n < 16 then 1 else nd (n / 16) + 1
theorem nd_small {n : Nat} (h : n < 16) : nd n = 1 := by rw [nd, if_pos h]
theorem nd_more {n : Nat} (h : ¬ n < 16) : nd n = nd (n / 16) + 1 := by rw [nd, if_neg h]
theorem nd_le (n : Nat) (h : n < 16777216) : nd n ≤ 6 := by
  have step : ∀ (k : Nat) (n : Nat), n < 16 ^ (k + 1) → nd n ≤ k + 1 := by
    intro k
    induction k with
    | zero => intro n h; rw [nd_small (by simpa using h)]; omega
    | succ k ih =>
      intro n h
      by_cases h16 : n < 16
      · rw [nd_small h16]; omega
      · rw [nd_more h16]
        have := ih (n / 16) (by rw [Nat.pow_succ] at h; omega)
        omega
  exact step 5 n h

theorem dig_val : ∀ k, k < 16 → ∃ c, bytesOf (dig k) = [c] ∧ hexv c = (k : Int) ∧ c ≠ 13 := by
  intro k hk
  have : ∀ k, k < 16 → bytesOf (dig k) = [if k < 10 then k + 48 else k + 87] := by decide +kernel
  refine ⟨_, this k hk, ?_, ?_⟩
  · unfold hexv
    split <;> split <;> (try split) <;> (try split) <;> omega
  · split <;> omega

/-- a number's digits -/
theorem run_hex (most : Nat) (pre : List Nat) (m : Nat) : ∀ (d left : Nat), d + nd m ≤ 6 → runB ⟨most, d, 0, left, pre, 0⟩ (bytesOf (hexS m)) = some ⟨most, d + nd m, 0, left * 16 ^ nd m + m, pre, 0⟩ := by
  have one : ∀ (k : Nat), k < 16 → ∀ (d left : Nat), d + 1 ≤ 6 → runB ⟨most, d, 0, left, pre, 0⟩ (bytesOf (dig k)) = some ⟨most, d + 1, 0, left * 16 + k, pre, 0⟩ := by
    intro k hk d left hd
    obtain ⟨c, hc, hv, _⟩ := dig_val k hk
    rw [hc]
    have hstep : cbyte ⟨most, d, 0, left, pre, 0⟩ c = (0, ⟨most, d + 1, 0, left * 16 + k, pre, 0⟩) := by
      unfold cbyte
      simp only
      rw [if_pos ⟨by omega, by omega⟩, hv]
      rfl
    rw [runB_cons (by simp) hstep]
    rfl
  induction m using Nat.strongRecOn with
  | _ m ih =>
    intro d left hd
    by_cases h16 : m < 16
    · rw [nd_small h16] at hd ⊢
      rw [show hexS m = dig m by rw [hexS, if_pos h16], one m h16 d left hd, Nat.pow_one]
    · rw [nd_more h16] at hd ⊢
      rw [show hexS m = hexS (m / 16) ++ dig (m % 16) by rw [hexS, if_neg h16], bytesOf_append]
      refine runB_then (ih (m / 16) (by omega) d left (by omega)) ?_
      rw [one (m % 16) (by omega) (d + nd (m / 16)) _ (by omega)]
      congr 2
      rw [Nat.pow_succ, ← Nat.mul_assoc, Nat.add_mul]
      omega

/-- a chunk's bytes -/
theorem run_data (most d : Nat) : ∀ (l pre : List Nat), l ≠ [] → runB ⟨most, d, 2, l.length, pre, 0⟩ l = some ⟨most, d, 3, 0, pre ++ l, 0⟩
  | [], _, h => absurd rfl h
  | [c], pre, _ => rfl
  | c :: c' :: l, pre, _ => by
    have hstep : cbyte ⟨most, d, 2, (c :: c' :: l).length, pre, 0⟩ c = (0, ⟨most, d, 2, (c' :: l).length, pre ++ [c], 0⟩) := by
      unfold cbyte
      simp
    rw [runB_cons (by simp) hstep, run_data most d (c' :: l) (pre ++ [c]) (by simp)]
    simp

/-- what Encode writes, taken whole -/
theorem run_enc (most s : Nat) (hs : s + 1 < 16777216) : ∀ (n : Nat) (l pre : List Nat), l.length = n → pre.length + l.length ≤ most → ∃ d, runB ⟨most, 0, 0, 0, pre, 0⟩ (encL s l) = some ⟨most, d, 7, 0, pre ++ l, 0⟩ := by
  intro n
  induction n using Nat.strongRecOn with
  | _ n ih =>
    intro l pre hl hm
    by_cases h0 : l = []
    · subst h0
      rw [encL_nil]
      refine ⟨1, ?_⟩
      have h1 : cbyte ⟨most, 0, 0, 0, pre, 0⟩ 48 = (0, ⟨most, 1, 0, 0, pre, 0⟩) := rfl
      have h2 : cbyte ⟨most, 1, 0, 0, pre, 0⟩ 13 = (0, ⟨most, 1, 1, 0, pre, 0⟩) := by
        unfold cbyte
        simp only
        rw [if_neg (fun h => absurd h.1 (by decide)), if_neg (by omega), if_neg (by simp at hm; omega)]
      rw [runB_cons (by simp) h1, runB_cons (by simp) h2, List.append_nil]
      rfl
    · have hpos := List.length_pos_iff.2 h0
      rw [encL_cons s l h0]
      obtain ⟨m, hmm⟩ : ∃ m, min (s + 1) l.length = m := ⟨_, rfl⟩
      have hm1 : 1 ≤ m := by omega
      have htl : (l.take (s + 1)).length = m := by rw [List.length_take]; exact hmm
      have hne : l.take (s + 1) ≠ [] := fun h => by rw [h] at htl; simp at htl; omega
      obtain ⟨d', hd'⟩ := ih (l.drop (s + 1)).length (by rw [List.length_drop]; omega) (l.drop (s + 1)) (pre ++ l.take (s + 1)) rfl (by rw [List.length_append, List.length_drop, htl]; omega)
      refine ⟨d', ?_⟩
      rw [hmm, bytesOf_append]
      have hx := run_hex most pre m 0 0 (by have := nd_le m (by omega); omega)
      simp only [Nat.zero_add, Nat.zero_mul] at hx
      have hnd : nd m ≠ 0 := by rw [nd]; split <;> omega
      have h1 : cbyte ⟨most, nd m, 0, m, pre, 0⟩ 13 = (0, ⟨most, nd m, 1, m, pre, 0⟩) := by
        unfold cbyte
        simp only
        rw [if_neg (fun h => absurd h.1 (by decide)), if_neg (by omega), if_neg (by omega)]
      have h2 : cbyte ⟨most, nd m, 1, m, pre, 0⟩ 10 = (0, ⟨most, nd m, 2, m, pre, 0⟩) := by
        unfold cbyte
        simp only
        rw [if_pos trivial, if_neg (by omega)]
      have hc : bytesOf crlf = [13, 10] := by decide +kernel
      have ha : runB ⟨most, 0, 0, 0, pre, 0⟩ (bytesOf (hexS m) ++ bytesOf crlf) = some ⟨most, nd m, 2, m, pre, 0⟩ := by
        refine runB_then hx ?_
        rw [hc, runB_cons (by simp) h1, runB_cons (by simp) h2]
        rfl
      have hb : runB ⟨most, nd m, 2, m, pre, 0⟩ (l.take (s + 1)) = some ⟨most, nd m, 3, 0, pre ++ l.take (s + 1), 0⟩ := by
        have := run_data most (nd m) (l.take (s + 1)) pre hne
        rwa [htl] at this
      have h3 : runB ⟨most, nd m, 3, 0, pre ++ l.take (s + 1), 0⟩ [13, 10] = some ⟨most, 0, 0, 0, pre ++ l.take (s + 1), 0⟩ := rfl
      have := runB_then (runB_then (runB_then ha hb) h3) hd'
      rw [this, List.append_assoc, List.take_append_drop]
end Go.Proofs.YtageanmjdfodnaaGreatDoor
