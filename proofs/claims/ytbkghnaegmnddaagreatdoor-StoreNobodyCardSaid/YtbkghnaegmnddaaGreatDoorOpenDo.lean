/- The law's calls that come in: their cells' kinds. -/
import Derived.Test.YtbkghnaegmnddaaGreatDoorOpen
namespace Go.Proofs.YtbkghnaegmnddaaGreatDoor
open Go.RowKit Go.Cx Go.ChangeShapes Go.WideShapes Go.ChangeAt Go.Deep Go.Joins
section
variable {H : Type} {enc : TypeId × Value → H} {W : World}
set_option maxRecDepth 100000 in
theorem cells_set {cs : List Value} (h : Cells enc Tryz.prog W 24 cs) : ∃ (a0 : ByteArray) (a1 : Int) (a2 : Int) (a3 : Int) (a4 : Int) (a5 : Int) (a6 : ByteArray) (A7 : Option Addr) (n7 : Nat) (c7 : Nat), cs = [Value.string a0, Value.int .i64 a1, Value.int .i64 a2, Value.int .i64 a3, Value.int .i64 a4, Value.int .i64 a5, Value.string a6, Value.slice A7 n7 c7] ∧ a0.size ≤ reachBytes ∧ (Lit.int .i64 a1).wf = true ∧ (Lit.int .i64 a2).wf = true ∧ (Lit.int .i64 a3).wf = true ∧ (Lit.int .i64 a4).wf = true ∧ (Lit.int .i64 a5).wf = true ∧ a6.size ≤ reachBytes ∧ n7 ≤ c7 := by
  obtain ⟨hl, hf⟩ := cells_struct Tryz.underlying24 h
  have hl : cs.length = 8 := hl.trans (by kernel_rfl)
  obtain ⟨x0, x1, x2, x3, x4, x5, x6, x7, rfl⟩ : ∃ x0 x1 x2 x3 x4 x5 x6 x7, cs = [x0, x1, x2, x3, x4, x5, x6, x7] := by
    match cs, hl with
    | [x0, x1, x2, x3, x4, x5, x6, x7], _ => exact ⟨x0, x1, x2, x3, x4, x5, x6, x7, rfl⟩
  have z0 : Tryz.prog.cellsOf 22 = 1 := by kernel_rfl
  have z1 : Tryz.prog.cellsOf 3 = 1 := by kernel_rfl
  have z2 : Tryz.prog.cellsOf 9 = 1 := by kernel_rfl
  have f0 : Cells enc Tryz.prog W 9 (([x0, x1, x2, x3, x4, x5, x6, x7].drop 0).take (Tryz.prog.cellsOf 9)) := hf 0 _ rfl
  have f1 : Cells enc Tryz.prog W 3 (([x0, x1, x2, x3, x4, x5, x6, x7].drop 1).take (Tryz.prog.cellsOf 3)) := hf 1 _ rfl
  have f2 : Cells enc Tryz.prog W 3 (([x0, x1, x2, x3, x4, x5, x6, x7].drop 2).take (Tryz.prog.cellsOf 3)) := hf 2 _ rfl
  have f3 : Cells enc Tryz.prog W 3 (([x0, x1, x2, x3, x4, x5, x6, x7].drop 3).take (Tryz.prog.cellsOf 3)) := hf 3 _ rfl
  have f4 : Cells enc Tryz.prog W 3 (([x0, x1, x2, x3, x4, x5, x6, x7].drop 4).take (Tryz.prog.cellsOf 3)) := hf 4 _ rfl
  have f5 : Cells enc Tryz.prog W 3 (([x0, x1, x2, x3, x4, x5, x6, x7].drop 5).take (Tryz.prog.cellsOf 3)) := hf 5 _ rfl
  have f6 : Cells enc Tryz.prog W 9 (([x0, x1, x2, x3, x4, x5, x6, x7].drop 6).take (Tryz.prog.cellsOf 9)) := hf 6 _ rfl
  have f7 : Cells enc Tryz.prog W 22 (([x0, x1, x2, x3, x4, x5, x6, x7].drop 7).take (Tryz.prog.cellsOf 22)) := hf 7 _ rfl
  simp only [z0, z1, z2, List.drop_zero, List.drop_succ_cons, List.take_succ_cons, List.take_zero] at f0 f1 f2 f3 f4 f5 f6 f7
  obtain ⟨a0, e0, h0⟩ := cells_string Tryz.underlying9 f0
  obtain ⟨a1, e1, h1⟩ := cells_int Tryz.underlying3 f1
  obtain ⟨a2, e2, h2⟩ := cells_int Tryz.underlying3 f2
  obtain ⟨a3, e3, h3⟩ := cells_int Tryz.underlying3 f3
  obtain ⟨a4, e4, h4⟩ := cells_int Tryz.underlying3 f4
  obtain ⟨a5, e5, h5⟩ := cells_int Tryz.underlying3 f5
  obtain ⟨a6, e6, h6⟩ := cells_string Tryz.underlying9 f6
  obtain ⟨A7, n7, c7, _, e7, h7, _⟩ := cells_slice Tryz.underlying22 (of_decide_eq_true (by kernel_rfl)) f7
  simp only [List.cons.injEq, and_true] at e0 e1 e2 e3 e4 e5 e6 e7
  subst e0
  subst e1
  subst e2
  subst e3
  subst e4
  subst e5
  subst e6
  subst e7
  exact ⟨a0, a1, a2, a3, a4, a5, a6, A7, n7, c7, rfl, h0, h1, h2, h3, h4, h5, h6, h7⟩
set_option maxRecDepth 100000 in
theorem in_set {r : Reach} {b0 : Nat} {v : Value} {d : DataW H} {p : List MemPlace} (hv : Value.okWide Tryz.prog W r b0 24 v) (h : DataW.Trod enc Tryz.prog W 0 (fun _ => true) true 24 v d p) (hw : Small Tryz.prog 24 d) :
    ∃ (a0 : ByteArray) (a1 : Int) (a2 : Int) (a3 : Int) (a4 : Int) (a5 : Int) (a6 : ByteArray) (A7 : Option Addr) (n7 : Nat) (c7 : Nat), v = .agg #[Value.string a0, Value.int .i64 a1, Value.int .i64 a2, Value.int .i64 a3, Value.int .i64 a4, Value.int .i64 a5, Value.string a6, Value.slice A7 n7 c7] ∧ a0.size ≤ reachBytes ∧ (Lit.int .i64 a1).wf = true ∧ (Lit.int .i64 a2).wf = true ∧ (Lit.int .i64 a3).wf = true ∧ (Lit.int .i64 a4).wf = true ∧ (Lit.int .i64 a5).wf = true ∧ a6.size ≤ reachBytes ∧ n7 ≤ c7 := by
  obtain ⟨cs, rfl, _⟩ := okWide_struct Tryz.underlying24 hv
  obtain ⟨a0, a1, a2, a3, a4, a5, a6, A7, n7, c7, hs, q0, q1, q2, q3, q4, q5, q6, q7⟩ := cells_set (cells_in h hw)
  refine ⟨a0, a1, a2, a3, a4, a5, a6, A7, n7, c7, ?_, q0, q1, q2, q3, q4, q5, q6, q7⟩
  have e : cs.toList = [Value.string a0, Value.int .i64 a1, Value.int .i64 a2, Value.int .i64 a3, Value.int .i64 a4, Value.int .i64 a5, Value.string a6, Value.slice A7 n7 c7] := hs
  have e2 : cs = [Value.string a0, Value.int .i64 a1, Value.int .i64 a2, Value.int .i64 a3, Value.int .i64 a4, Value.int .i64 a5, Value.string a6, Value.slice A7 n7 c7].toArray := by rw [← e]
  rw [e2]
set_option maxRecDepth 100000 in
theorem cells_step10 {cs : List Value} (h : Cells enc Tryz.prog W 28 cs) : ∃ (a0 : Int) (a1 : Int) (a2 : ByteArray) (a3 : ByteArray) (A4 : Option Addr) (n4 : Nat) (c4 : Nat) (A5 : Option Addr) (n5 : Nat) (c5 : Nat), cs = [Value.int .i64 a0, Value.int .i64 a1, Value.string a2, Value.string a3, Value.slice A4 n4 c4, Value.slice A5 n5 c5] ∧ (Lit.int .i64 a0).wf = true ∧ (Lit.int .i64 a1).wf = true ∧ a2.size ≤ reachBytes ∧ a3.size ≤ reachBytes ∧ n4 ≤ c4 ∧ n5 ≤ c5 := by
  obtain ⟨hl, hf⟩ := cells_struct Tryz.underlying28 h
  have hl : cs.length = 6 := hl.trans (by kernel_rfl)
  obtain ⟨x0, x1, x2, x3, x4, x5, rfl⟩ : ∃ x0 x1 x2 x3 x4 x5, cs = [x0, x1, x2, x3, x4, x5] := by
    match cs, hl with
    | [x0, x1, x2, x3, x4, x5], _ => exact ⟨x0, x1, x2, x3, x4, x5, rfl⟩
  have z0 : Tryz.prog.cellsOf 26 = 1 := by kernel_rfl
  have z1 : Tryz.prog.cellsOf 25 = 1 := by kernel_rfl
  have z2 : Tryz.prog.cellsOf 3 = 1 := by kernel_rfl
  have z3 : Tryz.prog.cellsOf 9 = 1 := by kernel_rfl
  have f0 : Cells enc Tryz.prog W 3 (([x0, x1, x2, x3, x4, x5].drop 0).take (Tryz.prog.cellsOf 3)) := hf 0 _ rfl
  have f1 : Cells enc Tryz.prog W 3 (([x0, x1, x2, x3, x4, x5].drop 1).take (Tryz.prog.cellsOf 3)) := hf 1 _ rfl
  have f2 : Cells enc Tryz.prog W 9 (([x0, x1, x2, x3, x4, x5].drop 2).take (Tryz.prog.cellsOf 9)) := hf 2 _ rfl
  have f3 : Cells enc Tryz.prog W 9 (([x0, x1, x2, x3, x4, x5].drop 3).take (Tryz.prog.cellsOf 9)) := hf 3 _ rfl
  have f4 : Cells enc Tryz.prog W 25 (([x0, x1, x2, x3, x4, x5].drop 4).take (Tryz.prog.cellsOf 25)) := hf 4 _ rfl
  have f5 : Cells enc Tryz.prog W 26 (([x0, x1, x2, x3, x4, x5].drop 5).take (Tryz.prog.cellsOf 26)) := hf 5 _ rfl
  simp only [z0, z1, z2, z3, List.drop_zero, List.drop_succ_cons, List.take_succ_cons, List.take_zero] at f0 f1 f2 f3 f4 f5
  obtain ⟨a0, e0, h0⟩ := cells_int Tryz.underlying3 f0
  obtain ⟨a1, e1, h1⟩ := cells_int Tryz.underlying3 f1
  obtain ⟨a2, e2, h2⟩ := cells_string Tryz.underlying9 f2
  obtain ⟨a3, e3, h3⟩ := cells_string Tryz.underlying9 f3
  obtain ⟨A4, n4, c4, _, e4, h4, _⟩ := cells_slice Tryz.underlying25 (of_decide_eq_true (by kernel_rfl)) f4
  obtain ⟨A5, n5, c5, _, e5, h5, _⟩ := cells_slice Tryz.underlying26 (of_decide_eq_true (by kernel_rfl)) f5
  simp only [List.cons.injEq, and_true] at e0 e1 e2 e3 e4 e5
  subst e0
  subst e1
  subst e2
  subst e3
  subst e4
  subst e5
  exact ⟨a0, a1, a2, a3, A4, n4, c4, A5, n5, c5, rfl, h0, h1, h2, h3, h4, h5⟩
set_option maxRecDepth 100000 in
theorem in_step10 {r : Reach} {b0 : Nat} {v : Value} {d : DataW H} {p : List MemPlace} (hv : Value.okWide Tryz.prog W r b0 28 v) (h : DataW.Trod enc Tryz.prog W 0 (fun _ => true) true 28 v d p) (hw : Small Tryz.prog 28 d) :
    ∃ (a0 : Int) (a1 : Int) (a2 : ByteArray) (a3 : ByteArray) (A4 : Option Addr) (n4 : Nat) (c4 : Nat) (A5 : Option Addr) (n5 : Nat) (c5 : Nat), v = .agg #[Value.int .i64 a0, Value.int .i64 a1, Value.string a2, Value.string a3, Value.slice A4 n4 c4, Value.slice A5 n5 c5] ∧ (Lit.int .i64 a0).wf = true ∧ (Lit.int .i64 a1).wf = true ∧ a2.size ≤ reachBytes ∧ a3.size ≤ reachBytes ∧ n4 ≤ c4 ∧ n5 ≤ c5 := by
  obtain ⟨cs, rfl, _⟩ := okWide_struct Tryz.underlying28 hv
  obtain ⟨a0, a1, a2, a3, A4, n4, c4, A5, n5, c5, hs, q0, q1, q2, q3, q4, q5⟩ := cells_step10 (cells_in h hw)
  refine ⟨a0, a1, a2, a3, A4, n4, c4, A5, n5, c5, ?_, q0, q1, q2, q3, q4, q5⟩
  have e : cs.toList = [Value.int .i64 a0, Value.int .i64 a1, Value.string a2, Value.string a3, Value.slice A4 n4 c4, Value.slice A5 n5 c5] := hs
  have e2 : cs = [Value.int .i64 a0, Value.int .i64 a1, Value.string a2, Value.string a3, Value.slice A4 n4 c4, Value.slice A5 n5 c5].toArray := by rw [← e]
  rw [e2]
set_option maxRecDepth 100000 in
theorem cells_do10 {cs : List Value} (h : Cells enc Tryz.prog W 30 cs) : ∃ (a0 : Int) (a1 : Int) (s2a0 : ByteArray) (s2a1 : Int) (s2a2 : Int) (s2a3 : Int) (s2a4 : Int) (s2a5 : Int) (s2a6 : ByteArray) (s2A7 : Option Addr) (s2n7 : Nat) (s2c7 : Nat) (s3a0 : Int) (s3a1 : Int) (s3a2 : ByteArray) (s3a3 : ByteArray) (s3A4 : Option Addr) (s3n4 : Nat) (s3c4 : Nat) (s3A5 : Option Addr) (s3n5 : Nat) (s3c5 : Nat), cs = [Value.int .i64 a0, Value.int .i64 a1, Value.string s2a0, Value.int .i64 s2a1, Value.int .i64 s2a2, Value.int .i64 s2a3, Value.int .i64 s2a4, Value.int .i64 s2a5, Value.string s2a6, Value.slice s2A7 s2n7 s2c7, Value.int .i64 s3a0, Value.int .i64 s3a1, Value.string s3a2, Value.string s3a3, Value.slice s3A4 s3n4 s3c4, Value.slice s3A5 s3n5 s3c5] ∧ (Lit.int .i64 a0).wf = true ∧ (Lit.int .i64 a1).wf = true ∧ s2a0.size ≤ reachBytes ∧ (Lit.int .i64 s2a1).wf = true ∧ (Lit.int .i64 s2a2).wf = true ∧ (Lit.int .i64 s2a3).wf = true ∧ (Lit.int .i64 s2a4).wf = true ∧ (Lit.int .i64 s2a5).wf = true ∧ s2a6.size ≤ reachBytes ∧ s2n7 ≤ s2c7 ∧ (Lit.int .i64 s3a0).wf = true ∧ (Lit.int .i64 s3a1).wf = true ∧ s3a2.size ≤ reachBytes ∧ s3a3.size ≤ reachBytes ∧ s3n4 ≤ s3c4 ∧ s3n5 ≤ s3c5 := by
  obtain ⟨hl, hf⟩ := cells_struct Tryz.underlying30 h
  have hl : cs.length = 16 := hl.trans (by kernel_rfl)
  obtain ⟨x0, x1, x2, x3, x4, x5, x6, x7, x8, x9, x10, x11, x12, x13, x14, x15, rfl⟩ : ∃ x0 x1 x2 x3 x4 x5 x6 x7 x8 x9 x10 x11 x12 x13 x14 x15, cs = [x0, x1, x2, x3, x4, x5, x6, x7, x8, x9, x10, x11, x12, x13, x14, x15] := by
    match cs, hl with
    | [x0, x1, x2, x3, x4, x5, x6, x7, x8, x9, x10, x11, x12, x13, x14, x15], _ => exact ⟨x0, x1, x2, x3, x4, x5, x6, x7, x8, x9, x10, x11, x12, x13, x14, x15, rfl⟩
  have z0 : Tryz.prog.cellsOf 24 = 8 := by kernel_rfl
  have z1 : Tryz.prog.cellsOf 28 = 6 := by kernel_rfl
  have z2 : Tryz.prog.cellsOf 3 = 1 := by kernel_rfl
  have f0 : Cells enc Tryz.prog W 3 (([x0, x1, x2, x3, x4, x5, x6, x7, x8, x9, x10, x11, x12, x13, x14, x15].drop 0).take (Tryz.prog.cellsOf 3)) := hf 0 _ rfl
  have f1 : Cells enc Tryz.prog W 3 (([x0, x1, x2, x3, x4, x5, x6, x7, x8, x9, x10, x11, x12, x13, x14, x15].drop 1).take (Tryz.prog.cellsOf 3)) := hf 1 _ rfl
  have f2 : Cells enc Tryz.prog W 24 (([x0, x1, x2, x3, x4, x5, x6, x7, x8, x9, x10, x11, x12, x13, x14, x15].drop 2).take (Tryz.prog.cellsOf 24)) := hf 2 _ rfl
  have f3 : Cells enc Tryz.prog W 28 (([x0, x1, x2, x3, x4, x5, x6, x7, x8, x9, x10, x11, x12, x13, x14, x15].drop 10).take (Tryz.prog.cellsOf 28)) := hf 3 _ rfl
  simp only [z0, z1, z2, List.drop_zero, List.drop_succ_cons, List.take_succ_cons, List.take_zero] at f0 f1 f2 f3
  obtain ⟨a0, e0, h0⟩ := cells_int Tryz.underlying3 f0
  obtain ⟨a1, e1, h1⟩ := cells_int Tryz.underlying3 f1
  obtain ⟨s2a0, s2a1, s2a2, s2a3, s2a4, s2a5, s2a6, s2A7, s2n7, s2c7, e2, h2_0, h2_1, h2_2, h2_3, h2_4, h2_5, h2_6, h2_7⟩ := cells_set f2
  obtain ⟨s3a0, s3a1, s3a2, s3a3, s3A4, s3n4, s3c4, s3A5, s3n5, s3c5, e3, h3_0, h3_1, h3_2, h3_3, h3_4, h3_5⟩ := cells_step10 f3
  simp only [List.cons.injEq, and_true] at e0 e1 e2 e3
  subst e0
  subst e1
  obtain ⟨rfl, rfl, rfl, rfl, rfl, rfl, rfl, rfl⟩ := e2
  obtain ⟨rfl, rfl, rfl, rfl, rfl, rfl⟩ := e3
  exact ⟨a0, a1, s2a0, s2a1, s2a2, s2a3, s2a4, s2a5, s2a6, s2A7, s2n7, s2c7, s3a0, s3a1, s3a2, s3a3, s3A4, s3n4, s3c4, s3A5, s3n5, s3c5, rfl, h0, h1, h2_0, h2_1, h2_2, h2_3, h2_4, h2_5, h2_6, h2_7, h3_0, h3_1, h3_2, h3_3, h3_4, h3_5⟩
set_option maxRecDepth 100000 in
theorem in_do10 {r : Reach} {b0 : Nat} {v : Value} {d : DataW H} {p : List MemPlace} (hv : Value.okWide Tryz.prog W r b0 30 v) (h : DataW.Trod enc Tryz.prog W 0 (fun _ => true) true 30 v d p) (hw : Small Tryz.prog 30 d) :
    ∃ (a0 : Int) (a1 : Int) (s2a0 : ByteArray) (s2a1 : Int) (s2a2 : Int) (s2a3 : Int) (s2a4 : Int) (s2a5 : Int) (s2a6 : ByteArray) (s2A7 : Option Addr) (s2n7 : Nat) (s2c7 : Nat) (s3a0 : Int) (s3a1 : Int) (s3a2 : ByteArray) (s3a3 : ByteArray) (s3A4 : Option Addr) (s3n4 : Nat) (s3c4 : Nat) (s3A5 : Option Addr) (s3n5 : Nat) (s3c5 : Nat), v = .agg #[Value.int .i64 a0, Value.int .i64 a1, Value.string s2a0, Value.int .i64 s2a1, Value.int .i64 s2a2, Value.int .i64 s2a3, Value.int .i64 s2a4, Value.int .i64 s2a5, Value.string s2a6, Value.slice s2A7 s2n7 s2c7, Value.int .i64 s3a0, Value.int .i64 s3a1, Value.string s3a2, Value.string s3a3, Value.slice s3A4 s3n4 s3c4, Value.slice s3A5 s3n5 s3c5] ∧ (Lit.int .i64 a0).wf = true ∧ (Lit.int .i64 a1).wf = true ∧ s2a0.size ≤ reachBytes ∧ (Lit.int .i64 s2a1).wf = true ∧ (Lit.int .i64 s2a2).wf = true ∧ (Lit.int .i64 s2a3).wf = true ∧ (Lit.int .i64 s2a4).wf = true ∧ (Lit.int .i64 s2a5).wf = true ∧ s2a6.size ≤ reachBytes ∧ s2n7 ≤ s2c7 ∧ (Lit.int .i64 s3a0).wf = true ∧ (Lit.int .i64 s3a1).wf = true ∧ s3a2.size ≤ reachBytes ∧ s3a3.size ≤ reachBytes ∧ s3n4 ≤ s3c4 ∧ s3n5 ≤ s3c5 := by
  obtain ⟨cs, rfl, _⟩ := okWide_struct Tryz.underlying30 hv
  obtain ⟨a0, a1, s2a0, s2a1, s2a2, s2a3, s2a4, s2a5, s2a6, s2A7, s2n7, s2c7, s3a0, s3a1, s3a2, s3a3, s3A4, s3n4, s3c4, s3A5, s3n5, s3c5, hs, q0, q1, q2, q3, q4, q5, q6, q7, q8, q9, q10, q11, q12, q13, q14, q15⟩ := cells_do10 (cells_in h hw)
  refine ⟨a0, a1, s2a0, s2a1, s2a2, s2a3, s2a4, s2a5, s2a6, s2A7, s2n7, s2c7, s3a0, s3a1, s3a2, s3a3, s3A4, s3n4, s3c4, s3A5, s3n5, s3c5, ?_, q0, q1, q2, q3, q4, q5, q6, q7, q8, q9, q10, q11, q12, q13, q14, q15⟩
  have e : cs.toList = [Value.int .i64 a0, Value.int .i64 a1, Value.string s2a0, Value.int .i64 s2a1, Value.int .i64 s2a2, Value.int .i64 s2a3, Value.int .i64 s2a4, Value.int .i64 s2a5, Value.string s2a6, Value.slice s2A7 s2n7 s2c7, Value.int .i64 s3a0, Value.int .i64 s3a1, Value.string s3a2, Value.string s3a3, Value.slice s3A4 s3n4 s3c4, Value.slice s3A5 s3n5 s3c5] := hs
  have e2 : cs = [Value.int .i64 a0, Value.int .i64 a1, Value.string s2a0, Value.int .i64 s2a1, Value.int .i64 s2a2, Value.int .i64 s2a3, Value.int .i64 s2a4, Value.int .i64 s2a5, Value.string s2a6, Value.slice s2A7 s2n7 s2c7, Value.int .i64 s3a0, Value.int .i64 s3a1, Value.string s3a2, Value.string s3a3, Value.slice s3A4 s3n4 s3c4, Value.slice s3A5 s3n5 s3c5].toArray := by rw [← e]
  rw [e2]
end
end Go.Proofs.YtbkghnaegmnddaaGreatDoor
