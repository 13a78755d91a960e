/- A head that begins a body has 66 bytes and more. -/
import Derived.Test.YtageanmjdfodnaaGreatDoorHttpM
namespace Go.Proofs.YtageanmjdfodnaaGreatDoor
open Go.RowKit Go.Cx Go.Maps

theorem fieldsL_mem : ∀ (l : List (List Nat)) (fs : List (List Nat × List Nat)), fieldsL l = some fs → ∀ f ∈ fs, ∃ s ∈ l, fieldL s = some f
  | [], fs, h, f, hf => by
    have h : some [] = some fs := h
    injection h with h
    subst h
    cases hf
  | s :: l, fs, h, f, hf => by
    rw [fieldsL_cons] at h
    cases hs : fieldL s with
    | none => rw [hs] at h; cases h
    | some g =>
      rw [hs] at h
      cases hl : fieldsL l with
      | none => rw [hl] at h; cases h
      | some gs =>
        rw [hl] at h
        simp only [Option.some.injEq] at h
        subst h
        rcases List.mem_cons.1 hf with rfl | hf
        · exact ⟨s, by simp, hs⟩
        · obtain ⟨s', h1, h2⟩ := fieldsL_mem l gs hl f hf
          exact ⟨s', by simp [h1], h2⟩
theorem cutF_len : ∀ (s a b : List Nat), cutF s = some (a, b) → s.length = a.length + 1 + b.length
  | [], _, _, h => by cases h
  | c :: r, a, b, h => by
    rw [cutF] at h
    split at h
    · injection h with h
      injection h with h1 h2
      subst h1 h2
      simp
      omega
    · cases hr : cutF r with
      | none => rw [hr] at h; cases h
      | some x =>
        obtain ⟨a', b'⟩ := x
        rw [hr] at h
        injection h with h
        injection h with h1 h2
        subst h1 h2
        have := cutF_len r a' b' hr
        simp only [List.length_cons]
        omega
theorem trimF_len (s : List Nat) : (trimF s).length ≤ s.length := by
  unfold trimF
  have a1 := (List.dropWhile_sublist blankF (l := (s.reverse.dropWhile blankF).reverse)).length_le
  have a2 := (List.dropWhile_sublist blankF (l := s.reverse)).length_le
  rw [List.length_reverse] at a1 a2
  omega
theorem fieldL_len {s a b : List Nat} (h : fieldL s = some (a, b)) : a.length + 1 + b.length ≤ s.length := by
  unfold fieldL at h
  cases hc : cutF s with
  | none => rw [hc] at h; cases h
  | some x =>
    obtain ⟨a', b'⟩ := x
    rw [hc] at h
    simp only at h
    split at h
    · cases h
    · injection h with h
      injection h with h1 h2
      have h3 := cutF_len s a' b' hc
      have h4 := trimF_len b'
      rw [← h1, ← h2, smallF, smallF, List.length_map, List.length_map]
      omega
theorem span_mem {l : List (List Nat)} {s : List Nat} (h : s ∈ l) : s.length + 2 ≤ spanL l := by
  unfold spanL
  induction l with
  | nil => cases h
  | cons a l ih =>
    rw [List.map_cons, List.sum_cons]
    rcases List.mem_cons.1 h with rfl | h
    · omega
    · have := ih h; omega
theorem begin_long {l : List (List Nat)} {d : Bd} (h : beginL l = some d) : 64 ≤ spanL l := by
  unfold beginL at h
  match l, h with
  | [], h => cases h
  | f :: r, h =>
    simp only at h
    split at h
    · cases h
    rename_i hf
    have hf : f = firstL := by simpa using hf
    cases hfs : fieldsL r with
    | none => rw [hfs] at h; cases h
    | some fs =>
      rw [hfs] at h
      simp only at h
      split at h
      · cases h
      rename_i hv
      have hv : valuesOf fs ctypeL = [kindL] := by simpa using hv
      have hm : kindL ∈ valuesOf fs ctypeL := by rw [hv]; simp
      unfold valuesOf at hm
      obtain ⟨g, hg, hg2⟩ := List.mem_map.1 hm
      obtain ⟨hg3, hg4⟩ := List.mem_filter.1 hg
      have hg4 : g.1 = ctypeL := by simpa using hg4
      obtain ⟨s, hs, hs2⟩ := fieldsL_mem r fs hfs g hg3
      have h1 := fieldL_len (a := g.1) (b := g.2) hs2
      have h2 := span_mem hs
      have h3 : spanL (f :: r) = f.length + 2 + spanL r := by simp [spanL]
      rw [hg4, hg2] at h1
      have l1 : ctypeL.length = 12 := rfl
      have l2 : kindL.length = 23 := rfl
      have l3 : firstL.length = 24 := rfl
      rw [h3, hf]
      omega
theorem head_long {b : List Nat} {l : List (List Nat)} {n : Nat} {d : Bd} (h : headL b = some (some (l, n))) (hb : beginL l = some d) : 66 ≤ n := by
  have := headL_long h
  have := begin_long hb
  omega
end Go.Proofs.YtageanmjdfodnaaGreatDoor
