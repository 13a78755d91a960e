/- A reader of requests, plain: what is left waiting is short. -/
import Derived.Test.YtageanmjdfodnaaGreatDoorHttpW
namespace Go.Proofs.YtageanmjdfodnaaGreatDoor
open Go.RowKit Go.Cx Go.Maps

theorem turnL_small {s s2 : HS} (he : s.ended = false) (h : turnL s = .stop 0 s2) : s2.b.length ≤ 2000 := by
  obtain ⟨en, b, body⟩ := s
  simp only at he
  subst he
  have key : ∀ (d : Bd) (z : List Nat) (s2 : HS), turnB false d z = .stop 0 s2 → s2.b.length ≤ 2000 := by
    intro d z s2 h
    rcases turnB_app d z [] with ⟨h1, _⟩ | ⟨d', h1, _⟩ | ⟨r, s', h1, _⟩
    · rw [h1] at h; injection h with h _; cases h
    · rw [h1] at h; injection h with _ h; subst h; simp
    · rw [h1] at h; cases h
  cases body with
  | some d => exact key d b s2 h
  | none =>
    have e1 : turnL ⟨false, b, none⟩ = match headL b with
      | none => .stop 130 ⟨true, [], none⟩
      | some none => .stop 0 ⟨false, b, none⟩
      | some (some (l, n)) => match beginL l with
        | none => .stop 130 ⟨true, [], none⟩
        | some d => turnB false d (b.drop n) := rfl
    rw [e1] at h
    cases hh : headL b with
    | none => rw [hh] at h; injection h with h _; cases h
    | some y =>
      rw [hh] at h
      cases y with
      | none =>
        injection h with _ h
        subst h
        unfold headL at hh
        show b.length ≤ 2000
        by_cases hb : b.length < 2000
        · omega
        · cases hg : headGo (b.take 2000) false [] [] 0 with
          | none => rw [hg] at hh; cases hh
          | some z =>
            cases z with
            | none => rw [hg] at hh; simp only at hh; rw [if_neg hb] at hh; cases hh
            | some z => rw [hg] at hh; cases hh
      | some y =>
        obtain ⟨l, n⟩ := y
        simp only at h
        cases hg : beginL l with
        | none => rw [hg] at h; injection h with h _; cases h
        | some d => rw [hg] at h; exact key d _ s2 h
theorem feedW_small : ∀ (n : Nat) (s : HS) (l : List Rq), mz s < n → s.ended = false → (feedW s l).1.2 = 0 → (feedW s l).2.ended = false → (feedW s l).2.b.length ≤ 2000
  | 0, _, _, h, _, _, _ => by omega
  | n + 1, s, l, h, hs, h0, he => by
    rw [feedW_eq, hs] at h0 he ⊢
    simp only [Bool.false_eq_true, if_false] at h0 he ⊢
    cases ht : turnL s with
    | stop e s' =>
      rw [ht] at h0 he
      simp only at h0 he ⊢
      subst h0
      exact turnL_small hs ht
    | more r s' =>
      rw [ht] at h0 he
      simp only at h0 he ⊢
      cases he' : s'.ended with
      | false => exact feedW_small n s' _ (by have := turnL_more ht; omega) he' h0 he
      | true =>
        rw [feedW_eq, he'] at he
        simp only [if_true] at he
        rw [he'] at he
        cases he
theorem Fed.small {p : List Nat} {rs : List Rq} {s : HS} (h : Fed p rs s) : s.b.length ≤ 2000 := by
  have := feedW_small _ ⟨false, p, none⟩ [] (Nat.lt_succ_self _) rfl
  rw [h.1] at this
  exact this rfl h.2
theorem turnL_err {s s2 : HS} {e : Nat} (h : turnL s = .stop e s2) (he : e ≠ 0) : s2.ended = true := by
  obtain ⟨en, b, body⟩ := s
  have key : ∀ (d : Bd) (z : List Nat) (s2 : HS), turnB en d z = .stop e s2 → s2.ended = true := by
    intro d z s2 h
    unfold turnB at h
    rcases takeB d z with ⟨⟨n, whole, er⟩, d'⟩
    simp only at h
    split at h
    · injection h with _ h; subst h; rfl
    · split at h
      · injection h with h _; exact absurd h.symm he
      · cases h
  cases body with
  | some d => exact key d b s2 h
  | none =>
    have e1 : turnL ⟨en, b, none⟩ = match headL b with
      | none => .stop 130 ⟨true, [], none⟩
      | some none => .stop 0 ⟨en, b, none⟩
      | some (some (l, n)) => match beginL l with
        | none => .stop 130 ⟨true, [], none⟩
        | some d => turnB en d (b.drop n) := rfl
    rw [e1] at h
    cases hh : headL b with
    | none => rw [hh] at h; injection h with _ h; subst h; rfl
    | some y =>
      rw [hh] at h
      cases y with
      | none => injection h with h _; exact absurd h.symm he
      | some y =>
        obtain ⟨l, n⟩ := y
        simp only at h
        cases hg : beginL l with
        | none => rw [hg] at h; injection h with _ h; subst h; rfl
        | some d => rw [hg] at h; exact key d _ s2 h
theorem feedW_err : ∀ (n : Nat) (s : HS) (l : List Rq), mz s < n → s.ended = false → (feedW s l).2.ended = false → (feedW s l).1.2 = 0
  | 0, _, _, h, _, _ => by omega
  | n + 1, s, l, h, hs, he => by
    rw [feedW_eq, hs] at he ⊢
    simp only [Bool.false_eq_true, if_false] at he ⊢
    cases ht : turnL s with
    | stop e s' =>
      rw [ht] at he
      simp only at he ⊢
      by_cases h0 : e = 0
      · exact h0
      · rw [turnL_err ht h0] at he; cases he
    | more r s' =>
      rw [ht] at he
      simp only at he ⊢
      cases he' : s'.ended with
      | false => exact feedW_err n s' _ (by have := turnL_more ht; omega) he' he
      | true =>
        rw [feedW_eq, he'] at he
        simp only [if_true] at he
        rw [he'] at he
        cases he
/-- what is left waiting is short -/
theorem feedH_small (s : HS) (x : List Nat) (hs : s.ended = false) (he : (feedH s x).2.ended = false) : (feedH s x).2.b.length ≤ 2000 := by
  rw [feedH_W s x hs] at he ⊢
  have hp : (s.plus x).ended = false := hs
  exact feedW_small _ _ _ (Nat.lt_succ_self _) hp (feedW_err _ _ _ (Nat.lt_succ_self _) hp he) he
end Go.Proofs.YtageanmjdfodnaaGreatDoor
