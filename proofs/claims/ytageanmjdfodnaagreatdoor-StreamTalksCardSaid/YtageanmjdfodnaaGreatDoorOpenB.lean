/- Bytes that come in, and slices of them. -/
import Derived.Test.YtageanmjdfodnaaGreatDoorOpen
import Derived.Test.YtageanmjdfodnaaGreatDoorBytes
namespace Go.Proofs.YtageanmjdfodnaaGreatDoor
open Go.RowKit Go.Cx Go.ChangeShapes Go.WideShapes Go.ChangeAt Go.Deep Go.Joins

theorem flat1 {α : Type} (g : α → Value) (l : List α) : (l.map fun p => [g p]).flatten = l.map g := by
  induction l with
  | nil => rfl
  | cons a l ih => simp [ih]

/-- a slice that came in: where it lies, and its bytes -/
structure Row where
  A : Option Addr
  n : Nat
  c : Nat
  l : List Nat
def Row.val (r : Row) : Value := .slice r.A r.n r.c
structure RowIn (w : World) (B : Nat) (r : Row) : Prop where
  nc : r.n ≤ r.c
  cap : r.c ≤ 140737488351232
  rd : Rd w B 1 r.A r.n (byts r.l)
  bytes : ∀ b ∈ r.l, b < 256
theorem RowIn.below {w w' : World} {B : Nat} {r : Row} (h : RowIn w B r) (k : Below B w w') : RowIn w' B r := ⟨h.nc, h.cap, h.rd.below k, h.bytes⟩

theorem bytes8 : Tryz.prog.bytesOf 5 = 1 := by kernel_rfl

section
variable {H : Type} {enc : TypeId × Value → H} {W : World}

theorem cells_bytes {cs : List Value} (h : Cells enc Tryz.prog W 29 cs) : ∃ r : Row, cs = [r.val] ∧ RowIn W W.heap.size r := by
  have hc1 : Tryz.prog.cellsOf 5 = 1 := by kernel_rfl
  obtain ⟨A, n, c, els, rfl, hnc, hcap, hel, hrd, hall⟩ := cells_slice Tryz.underlying29 (by rw [hc1]; omega) h
  rw [hc1] at hrd hall
  rw [bytes8, Nat.mul_one] at hcap
  obtain ⟨l, rfl, hl⟩ := list_of (fun b : Nat => b < 256) (fun b => [Value.int .u8 (b : Int)]) els (fun el he => by
    obtain ⟨x, rfl, hx⟩ := cells_int Tryz.underlying5 (hall el he).1
    have h2 : 0 ≤ x ∧ x ≤ 255 := by
      simp only [Lit.wf, Bool.and_eq_true, decide_eq_true_eq] at hx
      exact hx
    exact ⟨x.toNat, by simp only [List.cons.injEq, Value.int.injEq, and_true, true_and]; omega, by omega⟩)
  rw [flat1 (fun b : Nat => Value.int .u8 (b : Int))] at hrd
  exact ⟨⟨A, n, c, l⟩, rfl, hnc, by unfold reachBytes at hcap; simp only; omega, hrd, hl⟩

set_option maxRecDepth 100000 in
/-- a slice of bytes that comes in -/
theorem in_bytes {r : Reach} {b0 : Nat} {v : Value} {d : DataW H} {p : List MemPlace} (hv : Value.okWide Tryz.prog W r b0 29 v) (h : DataW.Trod enc Tryz.prog W 0 (fun _ => true) true 29 v d p) (hw : Small Tryz.prog 29 d) :
    ∃ r : Row, v = r.val ∧ RowIn W W.heap.size r := by
  obtain ⟨A, n, c, rfl⟩ := okWide_slice Tryz.underlying29 hv
  obtain ⟨r, hr, h2⟩ := cells_bytes (cells_in h hw)
  exact ⟨r, by simpa [Value.cells] using hr, h2⟩
end
end Go.Proofs.YtageanmjdfodnaaGreatDoor
