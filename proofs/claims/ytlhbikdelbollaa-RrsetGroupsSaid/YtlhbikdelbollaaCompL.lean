/- Runs of the same bytes, one row of each: in plain lists. -/
import Derived.Test.YtlhbikdelbollaaCmp
namespace Go.Proofs.Ytlhbikdelbollaa
def compAux (prev : List Nat) : List Row → List Row
  | [] => []
  | b :: t => if b.l = prev then compAux prev t else b :: compAux b.l t
def compL : List Row → List Row
  | [] => []
  | a :: t => a :: compAux a.l t
theorem compAux_snoc (prev : List Nat) (t : List Row) (b : Row) : compAux prev (t ++ [b]) = compAux prev t ++ (if b.l = ((t.getLast?).map Row.l).getD prev then [] else [b]) := by
  induction t generalizing prev with
  | nil =>
    show (if b.l = prev then compAux prev [] else b :: compAux b.l []) = [] ++ (if b.l = prev then [] else [b])
    rfl
  | cons c t ih =>
    rw [List.cons_append, compAux, compAux]
    have hlast : ((c :: t).getLast?.map Row.l).getD prev = (t.getLast?.map Row.l).getD c.l := by
      cases t with
      | nil => rfl
      | cons d t => simp [List.getLast?_cons]
    rw [hlast]
    by_cases h : c.l = prev
    · rw [if_pos h, if_pos h, ih prev, h]
    · rw [if_neg h, if_neg h, ih c.l]
      rfl
theorem compL_step {R : List Row} {k : Nat} {a b : Row} (ha : R[k]? = some a) (hb : R[k + 1]? = some b) : compL (R.take (k + 2)) = compL (R.take (k + 1)) ++ (if b.l = a.l then [] else [b]) := by
  have h1 : R.take (k + 2) = R.take (k + 1) ++ [b] := by rw [List.take_add_one, hb]; rfl
  have h2 : R.take (k + 1) = R.take k ++ [a] := by rw [List.take_add_one, ha]; rfl
  rw [h1]
  generalize hT : R.take (k + 1) = T at h2 ⊢
  have hl : T.getLast? = some a := by rw [h2]; simp
  cases T with
  | nil => simp at hl
  | cons c t =>
    rw [List.cons_append, compL, compL, compAux_snoc, List.cons_append]
    congr 2
    cases t with
    | nil => simp at hl; simp [hl]
    | cons d t =>
      have : (d :: t).getLast? = some a := by simpa [List.getLast?_cons] using hl
      rw [this]
      rfl
theorem compAux_sub (prev : List Nat) (t : List Row) : ∀ r ∈ compAux prev t, r ∈ t := by
  induction t generalizing prev with
  | nil => simp [compAux]
  | cons c t ih =>
    intro r hr
    rw [compAux] at hr
    split at hr
    · exact List.mem_cons_of_mem _ (ih prev r hr)
    · rcases List.mem_cons.1 hr with rfl | h
      · simp
      · exact List.mem_cons_of_mem _ (ih _ r h)
theorem compL_sub (t : List Row) : ∀ r ∈ compL t, r ∈ t := by
  cases t with
  | nil => simp [compL]
  | cons a t =>
    intro r hr
    rcases List.mem_cons.1 hr with rfl | h
    · simp
    · exact List.mem_cons_of_mem _ (compAux_sub _ _ r h)
theorem compAux_mem (prev : List Nat) (t : List Row) : ∀ x ∈ t, x.l ≠ prev → ∃ y ∈ compAux prev t, y.l = x.l := by
  induction t generalizing prev with
  | nil => simp
  | cons c t ih =>
    intro x hx hne
    rw [compAux]
    rcases List.mem_cons.1 hx with rfl | h
    · rw [if_neg hne]
      exact ⟨x, by simp, rfl⟩
    · by_cases hc : c.l = prev
      · rw [if_pos hc]
        exact ih prev x h hne
      · rw [if_neg hc]
        by_cases hxc : x.l = c.l
        · exact ⟨c, by simp, hxc.symm⟩
        · obtain ⟨y, hy, e⟩ := ih c.l x h hxc
          exact ⟨y, List.mem_cons_of_mem _ hy, e⟩
theorem compL_mem (t : List Row) : ∀ x ∈ t, ∃ y ∈ compL t, y.l = x.l := by
  cases t with
  | nil => simp
  | cons a t =>
    intro x hx
    rcases List.mem_cons.1 hx with rfl | h
    · exact ⟨x, by simp [compL], rfl⟩
    · by_cases hxa : x.l = a.l
      · exact ⟨a, by simp [compL], hxa.symm⟩
      · obtain ⟨y, hy, e⟩ := compAux_mem a.l t x h hxa
        exact ⟨y, List.mem_cons_of_mem _ hy, e⟩
/-- of rows in order, those that are left are strictly in order -/
theorem compAux_sorted (a : Row) (t : List Row) (h : (a :: t).Pairwise fun x y => ¬ cmpN y.l x.l < 0) : (compAux a.l t).Pairwise (fun x y => cmpN x.l y.l < 0) ∧ ∀ y ∈ compAux a.l t, cmpN a.l y.l < 0 := by
  induction t generalizing a with
  | nil => simp [compAux]
  | cons c t ih =>
    obtain ⟨h1, h2⟩ := List.pairwise_cons.1 h
    have hc := h1 c (by simp)
    rw [compAux]
    by_cases hca : c.l = a.l
    · rw [if_pos hca, ← hca]
      exact ih c h2
    · rw [if_neg hca]
      have hac : cmpN a.l c.l < 0 := by
        rcases cmpN_range a.l c.l with h3 | h3 | h3
        · omega
        · exact absurd (cmpN_eq h3).symm hca
        · rw [cmpN_swap a.l c.l] at hc
          omega
      obtain ⟨i1, i2⟩ := ih c h2
      refine ⟨List.pairwise_cons.2 ⟨i2, i1⟩, fun y hy => ?_⟩
      rcases List.mem_cons.1 hy with rfl | hy
      · exact hac
      · exact cmpN_trans hac (i2 y hy)
theorem compL_sorted (t : List Row) (h : t.Pairwise fun x y => ¬ cmpN y.l x.l < 0) : (compL t).Pairwise fun x y => cmpN x.l y.l < 0 := by
  cases t with
  | nil => exact List.Pairwise.nil
  | cons a t =>
    obtain ⟨h1, h2⟩ := compAux_sorted a t h
    exact List.pairwise_cons.2 ⟨h2, h1⟩
end Go.Proofs.Ytlhbikdelbollaa
