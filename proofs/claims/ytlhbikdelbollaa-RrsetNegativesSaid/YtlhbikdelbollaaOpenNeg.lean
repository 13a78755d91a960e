/- A question, and a record, that come in: their cells. -/
import Derived.Test.YtlhbikdelbollaaOpen
import Derived.Test.YtlhbikdelbollaaOpenRR
namespace Go.Proofs.Ytlhbikdelbollaa
open Go.RowKit Go.Cx Go.ChangeShapes Go.WideShapes Go.ChangeAt Go.Deep Go.Joins
section
variable {H : Type} {enc : TypeId × Value → H} {W : World}
set_option maxRecDepth 100000 in
theorem cells_q9 {cs : List Value} (h : Cells enc Try.prog W 41 cs) : ∃ (a0 : ByteArray) (a1 : Int) (a2 : Int), cs = [Value.string a0, Value.int .i64 a1, Value.int .i64 a2] ∧ a0.size ≤ reachBytes ∧ (Lit.int .i64 a1).wf = true ∧ (Lit.int .i64 a2).wf = true := by
  obtain ⟨hl, hf⟩ := cells_struct Try.underlying41 h
  have hl : cs.length = 3 := hl.trans (by kernel_rfl)
  obtain ⟨x0, x1, x2, rfl⟩ : ∃ x0 x1 x2, cs = [x0, x1, x2] := by
    match cs, hl with
    | [x0, x1, x2], _ => exact ⟨x0, x1, x2, rfl⟩
  have z0 : Try.prog.cellsOf 3 = 1 := by kernel_rfl
  have z1 : Try.prog.cellsOf 9 = 1 := by kernel_rfl
  have f0 : Cells enc Try.prog W 9 (([x0, x1, x2].drop 0).take (Try.prog.cellsOf 9)) := hf 0 _ rfl
  have f1 : Cells enc Try.prog W 3 (([x0, x1, x2].drop 1).take (Try.prog.cellsOf 3)) := hf 1 _ rfl
  have f2 : Cells enc Try.prog W 3 (([x0, x1, x2].drop 2).take (Try.prog.cellsOf 3)) := hf 2 _ rfl
  simp only [z0, z1, List.drop_zero, List.drop_succ_cons, List.take_succ_cons, List.take_zero] at f0 f1 f2
  obtain ⟨a0, e0, h0⟩ := cells_string Try.underlying9 f0
  obtain ⟨a1, e1, h1⟩ := cells_int Try.underlying3 f1
  obtain ⟨a2, e2, h2⟩ := cells_int Try.underlying3 f2
  simp only [List.cons.injEq, and_true] at e0 e1 e2
  subst e0
  subst e1
  subst e2
  exact ⟨a0, a1, a2, rfl, h0, h1, h2⟩
set_option maxRecDepth 100000 in
theorem in_q9 {r : Reach} {b0 : Nat} {v : Value} {d : DataW H} {p : List MemPlace} (hv : Value.okWide Try.prog W r b0 41 v) (h : DataW.Trod enc Try.prog W 0 (fun _ => true) true 41 v d p) (hw : Small Try.prog 41 d) :
    ∃ (a0 : ByteArray) (a1 : Int) (a2 : Int), v = .agg #[Value.string a0, Value.int .i64 a1, Value.int .i64 a2] ∧ a0.size ≤ reachBytes ∧ (Lit.int .i64 a1).wf = true ∧ (Lit.int .i64 a2).wf = true := by
  obtain ⟨cs, rfl, _⟩ := okWide_struct Try.underlying41 hv
  obtain ⟨a0, a1, a2, hs, q0, q1, q2⟩ := cells_q9 (cells_in h hw)
  refine ⟨a0, a1, a2, ?_, q0, q1, q2⟩
  have e : cs.toList = [Value.string a0, Value.int .i64 a1, Value.int .i64 a2] := hs
  have e2 : cs = [Value.string a0, Value.int .i64 a1, Value.int .i64 a2].toArray := by rw [← e]
  rw [e2]
set_option maxRecDepth 100000 in
theorem in_rr {r : Reach} {b0 : Nat} {v : Value} {d : DataW H} {p : List MemPlace} (hv : Value.okWide Try.prog W r b0 35 v) (h : DataW.Trod enc Try.prog W 0 (fun _ => true) true 35 v d p) (hw : Small Try.prog 35 d) :
    ∃ s : RRV, v = s.agg ∧ RRAt W W.heap.size s := by
  obtain ⟨cs, rfl, _⟩ := okWide_struct Try.underlying35 hv
  obtain ⟨s, hs, hat⟩ := cells_rr (cells_in h hw)
  refine ⟨s, ?_, hat⟩
  have e : cs.toList = s.cells := hs
  have e2 : cs = s.cells.toArray := by rw [← e]
  rw [e2]
  rfl
end
end Go.Proofs.Ytlhbikdelbollaa
