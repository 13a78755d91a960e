/- Slices of slices of bytes that come in. -/
import Derived.Test.YtageanmjdfodnaaGreatDoorOpenB
namespace Go.Proofs.YtageanmjdfodnaaGreatDoor
open Go.RowKit Go.Cx Go.ChangeShapes Go.WideShapes Go.ChangeAt Go.Deep Go.Joins
theorem bytes8s : Tryz.prog.bytesOf 29 = 24 := by kernel_rfl
section
variable {H : Type} {enc : TypeId × Value → H} {W : World}
set_option maxRecDepth 100000 in
theorem in_rows {r : Reach} {b0 : Nat} {v : Value} {d : DataW H} {p : List MemPlace} (hv : Value.okWide Tryz.prog W r b0 22 v) (h : DataW.Trod enc Tryz.prog W 0 (fun _ => true) true 22 v d p) (hw : Small Tryz.prog 22 d) :
    ∃ (A : Option Addr) (n c : Nat) (L : List Row), v = .slice A n c ∧ L.length = n ∧ n ≤ 140737488351232 ∧ Rd W W.heap.size 1 A n (L.map Row.val) ∧ ∀ r ∈ L, RowIn W W.heap.size r := by
  obtain ⟨A, n, c, rfl⟩ := okWide_slice Tryz.underlying22 hv
  have hc1 : Tryz.prog.cellsOf 29 = 1 := by kernel_rfl
  obtain ⟨A', n', c', els, hcs, hnc, hcap, hel, hrd, hall⟩ := cells_slice Tryz.underlying22 (by rw [hc1]; omega) (cells_in h hw)
  simp only [Value.cells, List.cons.injEq, Value.slice.injEq, and_true] at hcs
  obtain ⟨rfl, rfl, rfl⟩ := hcs
  rw [hc1] at hrd hall
  rw [bytes8s] at hcap
  obtain ⟨L, rfl, hL⟩ := list_of (fun r : Row => RowIn W W.heap.size r) (fun r => [r.val]) els (fun el he => cells_bytes (hall el he).1)
  rw [flat1 Row.val] at hrd
  exact ⟨A, n, c, L, rfl, by simpa using hel, by unfold reachBytes at hcap; omega, hrd, hL⟩
end
end Go.Proofs.YtageanmjdfodnaaGreatDoor
