/- A set that comes in: its cells. -/
import Derived.Test.YtlhbikdelbollaaOpenRR
import Derived.Test.YtlhbikdelbollaaOrders
namespace Go.Proofs.Ytlhbikdelbollaa
open Go.RowKit Go.Cx Go.ChangeShapes Go.WideShapes Go.ChangeAt Go.Deep Go.Joins
section
variable {H : Type} {enc : TypeId × Value → H} {W : World}
set_option maxRecDepth 100000 in
theorem cells_rows {cs : List Value} (h : Cells enc Try.prog W 26 cs) : ∃ (A : Option Addr) (n c : Nat) (L : List Row), cs = [.slice A n c] ∧ RowsAt W W.heap.size A n c L := by
  have hc1 : Try.prog.cellsOf 33 = 1 := by kernel_rfl
  obtain ⟨A', n', c', els, rfl, hnc, hcap, hel, hrd, hall⟩ := cells_slice Try.underlying26 (by rw [hc1]; omega) h
  rw [hc1] at hrd hall
  rw [bytes8s] at hcap
  obtain ⟨L, rfl, hL⟩ := list_of (fun r : Row => RowIn W W.heap.size r) (fun r => [r.val]) els (fun el he => cells_bytes (hall el he).1)
  rw [flat1 Row.val] at hrd
  refine ⟨A', n', c', L, rfl, by simpa using hel, hnc, by unfold reachBytes at hcap; omega, hrd, fun x hx => ?_⟩
  have hr := hL x hx
  have hcap' := hr.cap
  have hnc' := hr.nc
  exact ⟨hr.nc, by omega, hr.rd, hr.bytes⟩
theorem eight_of {α : Type} {cs : List α} (h : cs.length = 8) : ∃ a b c d e f g i, cs = [a, b, c, d, e, f, g, i] := by
  match cs, h with
  | [a, b, c, d, e, f, g, i], _ => exact ⟨a, b, c, d, e, f, g, i, rfl⟩
set_option maxRecDepth 100000 in
theorem cells_set {cs : List Value} (h : Cells enc Try.prog W 28 cs) : ∃ s : SetV, cs = s.cells ∧ SetAt W W.heap.size s := by
  obtain ⟨hl, hf⟩ := cells_struct Try.underlying28 h
  have hl8 : cs.length = 8 := hl.trans (by kernel_rfl)
  obtain ⟨a, b, c, d, e, f, g, i, rfl⟩ := eight_of hl8
  have c1 : Try.prog.cellsOf 9 = 1 := by kernel_rfl
  have c2 : Try.prog.cellsOf 3 = 1 := by kernel_rfl
  have c3 : Try.prog.cellsOf 26 = 1 := by kernel_rfl
  have f0 : Cells enc Try.prog W 9 (([a, b, c, d, e, f, g, i].drop 0).take (Try.prog.cellsOf 9)) := hf 0 _ rfl
  have f1 : Cells enc Try.prog W 3 (([a, b, c, d, e, f, g, i].drop 1).take (Try.prog.cellsOf 3)) := hf 1 _ rfl
  have f2 : Cells enc Try.prog W 3 (([a, b, c, d, e, f, g, i].drop 2).take (Try.prog.cellsOf 3)) := hf 2 _ rfl
  have f3 : Cells enc Try.prog W 3 (([a, b, c, d, e, f, g, i].drop 3).take (Try.prog.cellsOf 3)) := hf 3 _ rfl
  have f4 : Cells enc Try.prog W 3 (([a, b, c, d, e, f, g, i].drop 4).take (Try.prog.cellsOf 3)) := hf 4 _ rfl
  have f5 : Cells enc Try.prog W 3 (([a, b, c, d, e, f, g, i].drop 5).take (Try.prog.cellsOf 3)) := hf 5 _ rfl
  have f6 : Cells enc Try.prog W 9 (([a, b, c, d, e, f, g, i].drop 6).take (Try.prog.cellsOf 9)) := hf 6 _ rfl
  have f7 : Cells enc Try.prog W 26 (([a, b, c, d, e, f, g, i].drop 7).take (Try.prog.cellsOf 26)) := hf 7 _ rfl
  simp only [c1, c2, c3, List.drop_zero, List.drop_succ_cons, List.take_succ_cons, List.take_zero] at f0 f1 f2 f3 f4 f5 f6 f7
  obtain ⟨nm, e0, hs⟩ := cells_string Try.underlying9 f0
  obtain ⟨ty, e1, h1⟩ := cells_int Try.underlying3 f1
  obtain ⟨cl, e2, h2⟩ := cells_int Try.underlying3 f2
  obtain ⟨ra, e3, h3⟩ := cells_int Try.underlying3 f3
  obtain ⟨ki, e4, h4⟩ := cells_int Try.underlying3 f4
  obtain ⟨ex, e5, h5⟩ := cells_int Try.underlying3 f5
  obtain ⟨zo, e6, h6⟩ := cells_string Try.underlying9 f6
  obtain ⟨A, n, cc, L, e7, h7⟩ := cells_rows f7
  simp only [List.cons.injEq, and_true] at e0 e1 e2 e3 e4 e5 e6 e7
  subst e0 e1 e2 e3 e4 e5 e6 e7
  unfold reachBytes at hs h6
  exact ⟨⟨nm, ty, cl, ra, ki, ex, zo, A, n, cc, L⟩, rfl, h1, h2, h3, h4, h5, by show nm.size ≤ _; omega, by show zo.size ≤ _; omega, h7⟩
set_option maxRecDepth 100000 in
theorem in_set {r : Reach} {b0 : Nat} {v : Value} {d : DataW H} {p : List MemPlace} (hv : Value.okWide Try.prog W r b0 28 v) (h : DataW.Trod enc Try.prog W 0 (fun _ => true) true 28 v d p) (hw : Small Try.prog 28 d) :
    ∃ s : SetV, v = s.agg ∧ SetAt W W.heap.size s := by
  obtain ⟨cs, rfl, _⟩ := okWide_struct Try.underlying28 hv
  obtain ⟨s, hs, hat⟩ := cells_set (cells_in h hw)
  refine ⟨s, ?_, hat⟩
  have e : cs.toList = s.cells := hs
  have e2 : cs = s.cells.toArray := by rw [← e]
  rw [e2]
  rfl
end
end Go.Proofs.Ytlhbikdelbollaa
