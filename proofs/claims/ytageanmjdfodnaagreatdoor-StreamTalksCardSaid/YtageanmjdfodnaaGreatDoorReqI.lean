/- Requests in memory, by their numbers. -/
import Derived.Test.YtageanmjdfodnaaGreatDoorHttpFa
namespace Go.Proofs.YtageanmjdfodnaaGreatDoor
open Go.RowKit Go.Cx Go.Maps

theorem flat_at {α : Type} (f : α → List Value) (k : Nat) (hk : ∀ x, (f x).length = k) : ∀ (l : List α) (i j : Nat) (x : α), l[i]? = some x → j < k → (l.map f).flatten[i * k + j]? = (f x)[j]?
  | [], i, j, x, h, _ => by simp at h
  | y :: l, 0, j, x, h, hj => by
    simp only [List.getElem?_cons_zero, Option.some.injEq] at h
    subst h
    rw [List.map_cons, List.flatten_cons, Nat.zero_mul, Nat.zero_add, List.getElem?_append_left (by rw [hk]; exact hj)]
  | y :: l, i + 1, j, x, h, hj => by
    rw [List.getElem?_cons_succ] at h
    rw [List.map_cons, List.flatten_cons, List.getElem?_append_right (by rw [hk, Nat.succ_mul]; omega), hk, show (i + 1) * k + j - k = i * k + j by rw [Nat.succ_mul]; omega]
    exact flat_at f k hk l i j x h hj
/-- the cells of the i-th request -/
theorem ReqsOwn.idx {base c i : Nat} {A : Option Addr} {rqs : List ReqV} {w : World} {r : ReqV} (h : ReqsOwn base A c rqs w) (hr : rqs[i]? = some r) :
    ∃ go, A = some ⟨go, 0, none⟩ ∧ base ≤ go ∧ go < w.heap.size ∧ w.cell? ⟨go, i * 3, none⟩ = some (.string firstS) ∧ w.cell? ⟨go, i * 3 + 1, none⟩ = some (.slice r.row.A r.row.n r.row.c) ∧ w.cell? ⟨go, i * 3 + 2, none⟩ = some (.bool r.keep) := by
  have hi : i < rqs.length := (List.getElem?_eq_some_iff.1 hr).1
  obtain ⟨ad, hA, hB, hc⟩ := (Rd.own h.out).2 (by omega)
  rcases h.out.2 with ⟨hv, h0⟩ | ⟨g, cap, cur, hv, hg, _⟩
  · injection hv with h1 h2 h3
    omega
  · injection hv with h1 h2 h3
    rw [h1] at hA
    injection hA with hA
    subst hA
    refine ⟨g, h1, hg, hB, ?_⟩
    have hadd : ∀ j, (⟨g, 0, none⟩ : Addr).add j = ⟨g, j, none⟩ := fun j => by
      unfold Addr.add
      split <;> simp_all
    have k0 := hc (i * 3 + 0) _ (by rw [flat_at ReqV.cells 3 (fun _ => rfl) rqs i 0 r hr (by omega)]; rfl)
    have k1 := hc (i * 3 + 1) _ (by rw [flat_at ReqV.cells 3 (fun _ => rfl) rqs i 1 r hr (by omega)]; rfl)
    have k2 := hc (i * 3 + 2) _ (by rw [flat_at ReqV.cells 3 (fun _ => rfl) rqs i 2 r hr (by omega)]; rfl)
    rw [hadd] at k0 k1 k2
    exact ⟨k0, k1, k2⟩
end Go.Proofs.YtageanmjdfodnaaGreatDoor
