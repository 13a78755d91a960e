/- Records that come in. -/
import Derived.Test.YtlhbikdelbollaaRRs
import Derived.Test.YtlhbikdelbollaaOpenBB
namespace Go.Proofs.Ytlhbikdelbollaa
open Go.RowKit Go.Cx Go.ChangeShapes Go.WideShapes Go.ChangeAt Go.Deep Go.Joins
section
variable {H : Type} {enc : TypeId × Value → H} {W : World}
theorem five_of {α : Type} {cs : List α} (h : cs.length = 5) : ∃ a b c d e, cs = [a, b, c, d, e] := by
  match cs, h with
  | [a, b, c, d, e], _ => exact ⟨a, b, c, d, e, rfl⟩
set_option maxRecDepth 100000 in
theorem cells_rr {cs : List Value} (h : Cells enc Try.prog W 35 cs) : ∃ r : RRV, cs = r.cells ∧ RRAt W W.heap.size r := by
  obtain ⟨hl, hf⟩ := cells_struct Try.underlying35 h
  have hl5 : cs.length = 5 := hl.trans (by kernel_rfl)
  obtain ⟨a, b, c, d, e, rfl⟩ := five_of hl5
  have c1 : Try.prog.cellsOf 9 = 1 := by kernel_rfl
  have c2 : Try.prog.cellsOf 3 = 1 := by kernel_rfl
  have c3 : Try.prog.cellsOf 33 = 1 := by kernel_rfl
  have f0 : Cells enc Try.prog W 9 (([a, b, c, d, e].drop 0).take (Try.prog.cellsOf 9)) := hf 0 _ rfl
  have f1 : Cells enc Try.prog W 3 (([a, b, c, d, e].drop 1).take (Try.prog.cellsOf 3)) := hf 1 _ rfl
  have f2 : Cells enc Try.prog W 3 (([a, b, c, d, e].drop 2).take (Try.prog.cellsOf 3)) := hf 2 _ rfl
  have f3 : Cells enc Try.prog W 3 (([a, b, c, d, e].drop 3).take (Try.prog.cellsOf 3)) := hf 3 _ rfl
  have f4 : Cells enc Try.prog W 33 (([a, b, c, d, e].drop 4).take (Try.prog.cellsOf 33)) := hf 4 _ rfl
  simp only [c1, c2, c3, List.drop_zero, List.drop_succ_cons, List.take_succ_cons, List.take_zero] at f0 f1 f2 f3 f4
  obtain ⟨s, e0, hs⟩ := cells_string Try.underlying9 f0
  obtain ⟨t, e1, ht⟩ := cells_int Try.underlying3 f1
  obtain ⟨k, e2, hk⟩ := cells_int Try.underlying3 f2
  obtain ⟨l, e3, hl'⟩ := cells_int Try.underlying3 f3
  obtain ⟨r, e4, hr⟩ := cells_bytes f4
  simp only [List.cons.injEq, and_true] at e0 e1 e2 e3 e4
  subst e0 e1 e2 e3 e4
  have hcap := hr.cap
  have hnc := hr.nc
  exact ⟨⟨s, t, k, l, r⟩, rfl, ht, hk, hl', by unfold reachBytes at hs; show s.size ≤ _; omega, ⟨hr.nc, by show r.n ≤ _; omega, hr.rd, hr.bytes⟩⟩
theorem bytes64 : Try.prog.bytesOf 35 = 64 := by kernel_rfl
set_option maxRecDepth 100000 in
theorem in_rrs {r : Reach} {b0 : Nat} {v : Value} {d : DataW H} {p : List MemPlace} (hv : Value.okWide Try.prog W r b0 22 v) (h : DataW.Trod enc Try.prog W 0 (fun _ => true) true 22 v d p) (hw : Small Try.prog 22 d) :
    ∃ (A : Option Addr) (n c : Nat) (rs : List RRV), v = .slice A n c ∧ RRsAt W W.heap.size A n c rs := by
  obtain ⟨A, n, c, rfl⟩ := okWide_slice Try.underlying22 hv
  have hc1 : Try.prog.cellsOf 35 = 5 := by kernel_rfl
  obtain ⟨A', n', c', els, hcs, hnc, hcap, hel, hrd, hall⟩ := cells_slice Try.underlying22 (by rw [hc1]; omega) (cells_in h hw)
  simp only [Value.cells, List.cons.injEq, Value.slice.injEq, and_true] at hcs
  obtain ⟨rfl, rfl, rfl⟩ := hcs
  rw [hc1] at hrd hall
  rw [bytes64] at hcap
  obtain ⟨rs, rfl, hR⟩ := list_of (fun r : RRV => RRAt W W.heap.size r) RRV.cells els (fun el he => cells_rr (hall el he).1)
  exact ⟨A, n, c, rs, rfl, by simpa using hel, hnc, by unfold reachBytes at hcap; omega, hrd, hR⟩
end
end Go.Proofs.Ytlhbikdelbollaa
