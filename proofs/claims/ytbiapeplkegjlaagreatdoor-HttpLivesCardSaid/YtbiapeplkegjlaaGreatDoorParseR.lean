/- Replies: what a reader of them answers, by cases, as the document's text goes. -/
import Derived.Test.YtbiapeplkegjlaaGreatDoorHttpL
namespace Go.Proofs.YtbiapeplkegjlaaGreatDoor

theorem parse_bad {s : List Nat} (h : badL <+: s) : parseL s = (400, [], s.drop badL.length, 0) := by
  unfold parseL afterL
  rw [if_pos h]
  rfl
theorem parse_good' {s : List Nat} (h : goodL <+: s) : parseL s = sizedL (s.drop goodL.length) := by
  obtain ⟨t, rfl⟩ := h
  rw [parse_good, List.drop_left]
theorem parse_begun {s : List Nat} (hb : ¬ badL <+: s) (hg : ¬ goodL <+: s) (h : s <+: goodL) : parseL s = (0, [], [], 20) := by
  unfold parseL afterL
  rw [if_neg hb, if_neg hg, if_pos h]
  by_cases hs : s <+: badL
  · rw [if_pos hs]; rfl
  · rw [if_neg hs]; rfl
theorem parse_short' {s : List Nat} (hb : ¬ badL <+: s) (hg : ¬ goodL <+: s) (h : s <+: badL) : parseL s = (0, [], [], 20) := by
  unfold parseL afterL
  rw [if_neg hb, if_neg hg, if_pos h]
  by_cases hs : s <+: goodL
  · rw [if_pos hs]; rfl
  · rw [if_neg hs]; rfl
theorem parse_none {s : List Nat} (hb : ¬ badL <+: s) (hg : ¬ goodL <+: s) (h : ¬ s <+: badL) (h' : ¬ s <+: goodL) : parseL s = (0, [], [], 130) := by
  unfold parseL afterL
  rw [if_neg hb, if_neg hg, if_neg h, if_neg h']
  rfl
/-- the digits that are looked at -/
def digP (t : List Nat) : List Nat := (t.take 6).takeWhile isDig
theorem digP_eq (t : List Nat) : digP t = (t.takeWhile isDig).take 6 := by
  unfold digP
  have key : ∀ (t : List Nat) (k : Nat), (t.take k).takeWhile isDig = (t.takeWhile isDig).take k := by
    intro t
    induction t with
    | nil => simp
    | cons a t ih =>
      intro k
      cases k with
      | zero => simp
      | succ k =>
        rw [List.take_succ_cons, List.takeWhile_cons, List.takeWhile_cons]
        split
        · rw [List.take_succ_cons, ih]
        · rfl
  exact key t 6
theorem sized_nil : sizedL [] = (0, [], [], 20) := rfl
theorem sized_none {t : List Nat} (h0 : t ≠ []) (h : sizeL (digP t) = none) : sizedL t = (0, [], [], 130) := by
  unfold sizedL
  rw [if_neg h0, ← digP_eq, h]
theorem digP_short {t : List Nat} {n : Nat} (h : sizeL (digP t) = some n) : digP t = t.takeWhile isDig ∧ 1 ≤ (digP t).length ∧ (digP t).length ≤ 5 := by
  have h1 : 1 ≤ (digP t).length ∧ (digP t).length ≤ 5 := by
    unfold sizeL at h
    split at h
    · rename_i h2; exact ⟨h2.1, h2.2.1⟩
    · cases h
  refine ⟨?_, h1⟩
  rw [digP_eq] at h1 ⊢
  rw [List.length_take] at h1
  exact List.take_of_length_le (by omega)
theorem sized_odd {t : List Nat} {n : Nat} (h : sizeL (digP t) = some n) (hi : itoaL n ≠ digP t) : sizedL t = (0, [], [], 130) := by
  have hd := digP_short h
  have h0 : t ≠ [] := by rintro rfl; simp [digP] at hd
  unfold sizedL
  rw [if_neg h0, ← digP_eq, h]
  simp only
  rw [if_pos (by rw [← hd.1]; exact hi)]
theorem sized_some {t : List Nat} {n : Nat} (h : sizeL (digP t) = some n) (hi : itoaL n = digP t) :
    sizedL t = tryEnd (t.drop (digP t).length) endL n 130 fun f => tryEnd (t.drop (digP t).length) closeL n f fun f => (0, [], [], f) := by
  have hd := digP_short h
  have h0 : t ≠ [] := by rintro rfl; simp [digP] at hd
  unfold sizedL
  rw [if_neg h0, ← digP_eq, h]
  simp only
  rw [← hd.1, if_neg (fun h => h hi)]
theorem try_here {u want : List Nat} (n found : Nat) (k : Nat → Reply) (h : want <+: u) : tryEnd u want n found k = if n ≤ u.length - want.length then (200, (u.drop want.length).take n, (u.drop want.length).drop n, 0) else (0, [], [], 20) := by
  unfold tryEnd afterL
  rw [if_pos h]
  simp only [List.length_drop]
theorem try_begun {u want : List Nat} (n found : Nat) (k : Nat → Reply) (h : ¬ want <+: u) (h' : u <+: want) : tryEnd u want n found k = k 20 := by
  unfold tryEnd afterL
  rw [if_neg h, if_pos h']
  rfl
theorem try_none {u want : List Nat} (n found : Nat) (k : Nat → Reply) (h : ¬ want <+: u) (h' : ¬ u <+: want) : tryEnd u want n found k = k found := by
  unfold tryEnd afterL
  rw [if_neg h, if_neg h']
  rfl
/-- the two ends, as the document tries them -/
def endsR (u : List Nat) (n : Nat) : Reply :=
  if endL <+: u then (if u.length - 4 < n then (0, [], [], 20) else (200, (u.drop 4).take n, (u.drop 4).drop n, 0))
  else if u <+: endL then (0, [], [], 20)
  else if closeL <+: u then (if u.length - 23 < n then (0, [], [], 20) else (200, (u.drop 23).take n, (u.drop 23).drop n, 0))
  else if u <+: closeL then (0, [], [], 20)
  else (0, [], [], 130)
theorem ends_eq (u : List Nat) (n : Nat) : (tryEnd u endL n 130 fun f => tryEnd u closeL n f fun f => (0, [], [], f)) = endsR u n := by
  have l4 : endL.length = 4 := rfl
  have l23 : closeL.length = 23 := rfl
  unfold endsR
  by_cases h1 : endL <+: u
  · rw [if_pos h1, try_here _ _ _ h1, l4]
    by_cases hn : n ≤ u.length - 4
    · rw [if_pos hn, if_neg (by omega)]
    · rw [if_neg hn, if_pos (by omega)]
  · rw [if_neg h1]
    by_cases h2 : u <+: endL
    · rw [if_pos h2, try_begun _ _ _ h1 h2]
      have h3 : ¬ closeL <+: u := fun h => by have a := h.length_le; have b := h2.length_le; omega
      by_cases h4 : u <+: closeL
      · rw [try_begun _ _ _ h3 h4]
      · rw [try_none _ _ _ h3 h4]
    · rw [if_neg h2, try_none _ _ _ h1 h2]
      by_cases h3 : closeL <+: u
      · rw [if_pos h3, try_here _ _ _ h3, l23]
        by_cases hn : n ≤ u.length - 23
        · rw [if_pos hn, if_neg (by omega)]
        · rw [if_neg hn, if_pos (by omega)]
      · rw [if_neg h3]
        by_cases h4 : u <+: closeL
        · rw [if_pos h4, try_begun _ _ _ h3 h4]
        · rw [if_neg h4, try_none _ _ _ h3 h4]
theorem sized_ends {t : List Nat} {n : Nat} (h : sizeL (digP t) = some n) (hi : itoaL n = digP t) : sizedL t = endsR (t.drop (digP t).length) n := by
  rw [sized_some h hi, ends_eq]
theorem ends_nil (n : Nat) : endsR [] n = (0, [], [], 20) := rfl
/-- 'a[:n] == b[:n]' of the lesser length -/
theorem begins_iff (a b : List Nat) : a.take (min a.length b.length) = b.take (min a.length b.length) ↔ a <+: b ∨ b <+: a := by
  constructor
  · intro h
    rcases Nat.le_total a.length b.length with hl | hl
    · rw [Nat.min_eq_left hl, List.take_length] at h
      left
      rw [h]
      exact List.take_prefix _ _
    · rw [Nat.min_eq_right hl, List.take_length] at h
      right
      rw [← h]
      exact List.take_prefix _ _
  · rintro (h | h)
    · have hl := h.length_le
      rw [Nat.min_eq_left hl, List.take_length]
      exact List.prefix_iff_eq_take.1 h
    · have hl := h.length_le
      rw [Nat.min_eq_right hl, List.take_length]
      exact (List.prefix_iff_eq_take.1 h).symm
end Go.Proofs.YtbiapeplkegjlaaGreatDoor
