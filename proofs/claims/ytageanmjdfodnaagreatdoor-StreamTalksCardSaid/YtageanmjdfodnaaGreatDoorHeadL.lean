/- The head of a request, plain: the program's way and the document's come to the same. -/
namespace Go.Cx
/-- may stand in a line -/
def inLine (c : Nat) : Bool := c == 13 || c == 9 || (decide (32 ≤ c) && decide (c < 127))
/-- the program's head: of the bytes left, whether the last one was 13, the bytes of the line at hand, the lines, how many bytes were met. none: it is none; some none: it is not whole -/
def headGo : List Nat → Bool → List Nat → List (List Nat) → Nat → Option (Option (List (List Nat) × Nat))
  | [], _, _, _, _ => some none
  | c :: r, ret, cur, l, i =>
    if decide (c = 10) ≠ ret then none
    else if inLine c then headGo r (decide (c = 13)) (cur ++ [c]) l (i + 1)
    else if c ≠ 10 then none
    else if cur.length = 1 then some (some (l, i + 1))
    else headGo r false [] (l ++ [cur.dropLast]) (i + 1)
def headL (b : List Nat) : Option (Option (List (List Nat) × Nat)) :=
  match headGo (b.take 2000) false [] [] 0 with
  | some none => if b.length < 2000 then some none else none
  | r => r
/-- the document's head: of the bytes left, whether the last one was 13, how many bytes the line at hand has, how many were met. -1: it is none; 0: it is not whole -/
def headR : List Nat → Bool → Nat → Nat → Int
  | [], _, _, i => if 2000 ≤ i then -1 else 0
  | c :: r, ret, n, i =>
    if 2000 ≤ i then -1
    else if c = 10 then (if ret = false then -1 else if n = 1 then (i : Int) + 1 else headR r false 0 (i + 1))
    else if ret = true then -1
    else if inLine c = false then -1
    else headR r (decide (c = 13)) (n + 1) (i + 1)
/-- the document's lines -/
def linesGo : List Nat → List Nat → List (List Nat) → List (List Nat)
  | [], _, out => out
  | c :: r, line, out => if c = 13 then linesGo r line out else if c = 10 then linesGo r [] (out ++ [line]) else linesGo r (line ++ [c]) out
def linesR (b : List Nat) : List (List Nat) := (linesGo b [] []).dropLast

theorem inLine_10 : inLine 10 = false := by decide
theorem headGo_eq : ∀ (r : List Nat) (ret : Bool) (cur : List Nat) (l : List (List Nat)) (i : Nat), i ≤ 2000 →
    (headGo (r.take (2000 - i)) ret cur l i = none ∧ headR r ret cur.length i = -1) ∨ (headGo (r.take (2000 - i)) ret cur l i = some none ∧ (i + r.length < 2000 ∧ headR r ret cur.length i = 0 ∨ 2000 ≤ i + r.length ∧ headR r ret cur.length i = -1)) ∨
    (∃ l' n, headGo (r.take (2000 - i)) ret cur l i = some (some (l', n)) ∧ headR r ret cur.length i = (n : Int) ∧ i < n ∧ n ≤ i + r.length)
  | [], ret, cur, l, i, hi => by
    right; left
    refine ⟨by simp [headGo], ?_⟩
    by_cases h : 2000 ≤ i
    · exact .inr ⟨by simpa using h, by simp [headR, h]⟩
    · exact .inl ⟨by simp; omega, by simp [headR, h]⟩
  | c :: r, ret, cur, l, i, hi => by
    by_cases h : i = 2000
    · right; left
      subst h
      exact ⟨by simp [headGo], .inr ⟨by simp, by simp [headR]⟩⟩
    · have h0 : ¬ 2000 ≤ i := by omega
      have e : (c :: r).take (2000 - i) = c :: r.take (2000 - (i + 1)) := by
        rw [show 2000 - i = (2000 - (i + 1)) + 1 by omega, List.take_succ_cons]
      rw [e, headGo, headR, if_neg h0]
      have ihof := fun ret cur l => headGo_eq r ret cur l (i + 1) (by omega)
      have hfin : ∀ (ret : Bool) (cur : List Nat) (l : List (List Nat)) (n : Nat), n = cur.length →
          (headGo (r.take (2000 - (i + 1))) ret cur l (i + 1) = none ∧ headR r ret n (i + 1) = -1) ∨ (headGo (r.take (2000 - (i + 1))) ret cur l (i + 1) = some none ∧ (i + (c :: r).length < 2000 ∧ headR r ret n (i + 1) = 0 ∨ 2000 ≤ i + (c :: r).length ∧ headR r ret n (i + 1) = -1)) ∨
          (∃ l' m, headGo (r.take (2000 - (i + 1))) ret cur l (i + 1) = some (some (l', m)) ∧ headR r ret n (i + 1) = (m : Int) ∧ i < m ∧ m ≤ i + (c :: r).length) := by
        intro ret cur l n hn
        subst hn
        rcases ihof ret cur l with h | ⟨h1, h2⟩ | ⟨l', m, h1, h2, h3, h4⟩
        · exact .inl h
        · exact .inr (.inl ⟨h1, by simp only [List.length_cons]; rcases h2 with ⟨a, b⟩ | ⟨a, b⟩; exact .inl ⟨by omega, b⟩; exact .inr ⟨by omega, b⟩⟩)
        · exact .inr (.inr ⟨l', m, h1, h2, by omega, by simp only [List.length_cons]; omega⟩)
      by_cases hc : c = 10
      · subst hc
        rw [inLine_10]
        cases ret with
        | false => left; simp
        | true =>
          simp only [decide_true, ne_eq, not_true_eq_false, if_false, Bool.false_eq_true, if_true, reduceCtorEq]
          by_cases hn : cur.length = 1
          · rw [if_pos hn, if_pos hn]
            right; right
            exact ⟨l, i + 1, rfl, by omega, by omega, by simp⟩
          · rw [if_neg hn, if_neg hn]
            exact hfin false [] _ 0 rfl
      · rw [if_neg hc, decide_eq_false hc]
        cases ret with
        | true => left; simp
        | false =>
          simp only [ne_eq, not_true_eq_false, if_false, Bool.false_eq_true]
          cases hl : inLine c with
          | false => left; simp [hc]
          | true =>
            simp only [if_true, Bool.true_eq_false, if_false]
            exact hfin _ _ _ _ (by simp)
theorem headL_eq (b : List Nat) : (headL b = none ∧ headR b false 0 0 = -1) ∨ (headL b = some none ∧ headR b false 0 0 = 0) ∨ (∃ l n, headL b = some (some (l, n)) ∧ headR b false 0 0 = (n : Int) ∧ 0 < n ∧ n ≤ b.length) := by
  have h := headGo_eq b false [] [] 0 (by omega)
  unfold headL
  simp only [Nat.sub_zero, List.length_nil, Nat.zero_add] at h
  rcases h with ⟨h1, h2⟩ | ⟨h1, ⟨h2, h3⟩ | ⟨h2, h3⟩⟩ | ⟨l, n, h1, h2, h3, h4⟩
  · left; rw [h1]; exact ⟨rfl, h2⟩
  · right; left; rw [h1]; simp [h2, h3]
  · left; rw [h1]; simp [h3, show ¬ b.length < 2000 by omega]
  · right; right; rw [h1]; exact ⟨l, n, rfl, h2, h3, h4⟩
/-- a line at hand: bytes without 13 and 10, and behind them 13 if it was the last -/
def LineOk (ret : Bool) (cur : List Nat) : Prop := ∃ x, (∀ c ∈ x, c ≠ 13 ∧ c ≠ 10) ∧ cur = if ret then x ++ [13] else x
theorem lines_go : ∀ (r : List Nat) (ret : Bool) (cur x : List Nat) (l : List (List Nat)) (i : Nat) (l' : List (List Nat)) (n : Nat), (∀ c ∈ x, c ≠ 13 ∧ c ≠ 10) → cur = (if ret then x ++ [13] else x) →
    headGo r ret cur l i = some (some (l', n)) → i ≤ n ∧ linesGo (r.take (n - i)) x l = l' ++ [[]] ∧ ∃ q, l' = l ++ q
  | [], ret, cur, x, l, i, l', n, _, _, h => by simp [headGo] at h
  | c :: r, ret, cur, x, l, i, l', n, hx, hcur, h => by
    rw [headGo] at h
    split at h
    · cases h
    rename_i hr
    have hr : decide (c = 10) = ret := by simpa using hr
    split at h
    · rename_i hin
      have hc10 : c ≠ 10 := by rintro rfl; rw [inLine_10] at hin; cases hin
      rw [decide_eq_false hc10] at hr
      subst hr
      simp only [Bool.false_eq_true, if_false] at hcur
      subst hcur
      by_cases hc13 : c = 13
      · subst hc13
        obtain ⟨h1, h2, h3⟩ := lines_go r true (cur ++ [13]) cur l (i + 1) l' n hx (by simp) (by simpa using h)
        refine ⟨by omega, ?_, h3⟩
        rw [show n - i = (n - (i + 1)) + 1 by omega, List.take_succ_cons, linesGo, if_pos rfl]
        exact h2
      · obtain ⟨h1, h2, h3⟩ := lines_go r false (cur ++ [c]) (cur ++ [c]) l (i + 1) l' n (by intro d hd; rcases List.mem_append.1 hd with hd | hd; exact hx d hd; simp at hd; subst hd; exact ⟨hc13, hc10⟩) (by simp) (by rw [decide_eq_false hc13] at h; exact h)
        refine ⟨by omega, ?_, h3⟩
        rw [show n - i = (n - (i + 1)) + 1 by omega, List.take_succ_cons, linesGo, if_neg hc13, if_neg hc10]
        exact h2
    · split at h
      · cases h
      rename_i hc
      have hc : c = 10 := by simpa using hc
      subst hc
      simp only [decide_true] at hr
      subst hr
      simp only [if_true] at hcur
      subst hcur
      split at h
      · rename_i hl
        have hx0 : x = [] := by cases x with
          | nil => rfl
          | cons => simp at hl
        subst hx0
        simp only [Option.some.injEq, Prod.mk.injEq] at h
        obtain ⟨rfl, rfl⟩ := h
        refine ⟨by omega, ?_, [], by simp⟩
        rw [show i + 1 - i = 0 + 1 by omega, List.take_succ_cons, linesGo, if_neg (by decide), if_pos rfl]
        simp [linesGo]
      · obtain ⟨h1, h2, q, h3⟩ := lines_go r false [] [] (l ++ [x]) (i + 1) l' n (by simp) (by simp) (by simpa using h)
        refine ⟨by omega, ?_, [x] ++ q, by rw [h3]; simp⟩
        rw [show n - i = (n - (i + 1)) + 1 by omega, List.take_succ_cons, linesGo, if_neg (by decide), if_pos rfl]
        exact h2
theorem lines_eq (b : List Nat) (l : List (List Nat)) (n : Nat) (h : headL b = some (some (l, n))) : linesR (b.take n) = l := by
  unfold headL at h
  have h0 : headGo (b.take 2000) false [] [] 0 = some (some (l, n)) := by
    split at h
    · split at h <;> cases h
    · exact h
  obtain ⟨_, h1, _⟩ := lines_go (b.take 2000) false [] [] [] 0 l n (by simp) (by simp) h0
  have hn : n ≤ 2000 := by
    have hle : ∀ (r : List Nat) (ret : Bool) (cur : List Nat) (l : List (List Nat)) (i : Nat) l' n, headGo r ret cur l i = some (some (l', n)) → n ≤ i + r.length := by
      intro r
      induction r with
      | nil => intro _ _ _ _ _ _ h; simp [headGo] at h
      | cons c r ih =>
        intro ret cur l i l' n h
        rw [headGo] at h
        split at h
        · cases h
        split at h
        · have := ih _ _ _ _ _ _ h; simp only [List.length_cons]; omega
        split at h
        · cases h
        split at h
        · simp only [Option.some.injEq, Prod.mk.injEq] at h; simp only [List.length_cons]; omega
        · have := ih _ _ _ _ _ _ h; simp only [List.length_cons]; omega
    have := hle _ _ _ _ _ _ _ h0
    have h2 := List.length_take_le 2000 b
    omega
  unfold linesR
  rw [List.take_take, Nat.sub_zero, Nat.min_eq_left hn] at h1
  rw [h1]
  simp
theorem headGo_small (B : Nat) : ∀ (r : List Nat) (ret : Bool) (cur : List Nat) (l : List (List Nat)) (i : Nat) (l' : List (List Nat)) (n : Nat), headGo r ret cur l i = some (some (l', n)) → cur.length + r.length ≤ B → (∀ x ∈ l, x.length ≤ B) → l'.length ≤ l.length + r.length ∧ ∀ x ∈ l', x.length ≤ B
  | [], _, _, _, _, _, _, h, _, _ => by simp [headGo] at h
  | c :: r, ret, cur, l, i, l', n, h, hB, hl => by
    rw [headGo] at h
    simp only [List.length_cons] at hB ⊢
    split at h
    · cases h
    split at h
    · obtain ⟨h1, h2⟩ := headGo_small B r _ _ _ _ _ _ h (by simp; omega) hl
      exact ⟨by omega, h2⟩
    split at h
    · cases h
    split at h
    · simp only [Option.some.injEq, Prod.mk.injEq] at h
      obtain ⟨rfl, _⟩ := h
      exact ⟨by omega, hl⟩
    · obtain ⟨h1, h2⟩ := headGo_small B r _ _ _ _ _ _ h (by simp; omega) (by
        intro x hx
        rcases List.mem_append.1 hx with hx | hx
        · exact hl x hx
        · simp only [List.mem_singleton] at hx
          subst hx
          simp
          omega)
      refine ⟨?_, h2⟩
      simp only [List.length_append, List.length_singleton] at h1
      omega
theorem headL_small {b : List Nat} {l : List (List Nat)} {n : Nat} (h : headL b = some (some (l, n))) : l.length ≤ 2000 ∧ ∀ x ∈ l, x.length ≤ 2000 := by
  unfold headL at h
  have h0 : headGo (b.take 2000) false [] [] 0 = some (some (l, n)) := by
    split at h
    · split at h <;> cases h
    · exact h
  have hl := List.length_take_le 2000 b
  obtain ⟨h1, h2⟩ := headGo_small 2000 _ _ _ _ _ _ _ h0 (by simp; omega) (by simp)
  exact ⟨by simp at h1; omega, h2⟩
/-- how many bytes lines have, their ends among them -/
def spanL (l : List (List Nat)) : Nat := (l.map fun x => x.length + 2).sum
theorem headGo_long : ∀ (r : List Nat) (ret : Bool) (cur : List Nat) (l : List (List Nat)) (i : Nat) (l' : List (List Nat)) (n : Nat), headGo r ret cur l i = some (some (l', n)) → spanL l + cur.length ≤ i → (ret = true → 1 ≤ cur.length) → spanL l' + 2 ≤ n
  | [], _, _, _, _, _, _, h, _, _ => by simp [headGo] at h
  | c :: r, ret, cur, l, i, l', n, h, hi, hr => by
    rw [headGo] at h
    split at h
    · cases h
    rename_i hret
    have hret : decide (c = 10) = ret := by simpa using hret
    split at h
    · exact headGo_long r _ _ _ _ _ _ h (by simp; omega) (by simp)
    split at h
    · cases h
    rename_i hc
    have hc : c = 10 := by simpa using hc
    have h1 : 1 ≤ cur.length := hr (by rw [← hret, hc]; rfl)
    split at h
    · simp only [Option.some.injEq, Prod.mk.injEq] at h
      obtain ⟨rfl, rfl⟩ := h
      omega
    · refine headGo_long r _ _ _ _ _ _ h ?_ (by simp)
      have : spanL (l ++ [cur.dropLast]) = spanL l + (cur.length - 1 + 2) := by simp [spanL]
      rw [this]
      simp
      omega
theorem headL_long {b : List Nat} {l : List (List Nat)} {n : Nat} (h : headL b = some (some (l, n))) : spanL l + 2 ≤ n := by
  unfold headL at h
  have h0 : headGo (b.take 2000) false [] [] 0 = some (some (l, n)) := by
    split at h
    · split at h <;> cases h
    · exact h
  exact headGo_long _ _ _ _ _ _ _ h0 (by simp [spanL]) (by simp)
end Go.Cx
