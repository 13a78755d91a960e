/- Slices of slices of bytes: how they lie; EqualFunc of equal ones; clones of ints. -/
import Derived.Test.YtageanmjdfodnaaGreatDoorOpenBB
import Derived.Test.YtageanmjdfodnaaGreatDoorMap
import Derived.Deep.DeepCutAuto
import Derived.Deep.CutBlock
namespace Go.Proofs.YtageanmjdfodnaaGreatDoor
open Go.RowKit Go.Cx Go.Maps

/-- a slice of bytes that can be read -/
structure Sl (w : World) (B : Nat) (A : Option Addr) (n c : Nat) (l : List Nat) : Prop where
  nc : n ≤ c
  len : n ≤ 140737488355328
  rd : Rd w B 1 A n (byts l)
  bytes : ∀ b ∈ l, b < 256
theorem Sl.below {w w' : World} {B n c : Nat} {A : Option Addr} {l : List Nat} (h : Sl w B A n c l) (k : Below B w w') : Sl w' B A n c l := ⟨h.nc, h.len, h.rd.below k, h.bytes⟩
theorem Sl.upd {w w' : World} {n c : Nat} {A : Option Addr} {l : List Nat} (h : Sl w w.heap.size A n c l) (k : Upd Nix w w') : Sl w' w'.heap.size A n c l := ⟨h.nc, h.len, (h.rd.below (Upd.belowNix k (Nat.le_refl _))).more k.size, h.bytes⟩
theorem Sl.drewN {w : World} {B n c : Nat} {A : Option Addr} {l : List Nat} (h : Sl w B A n c l) (k : Nat) : Sl (w.drewN k) B A n c l := ⟨h.nc, h.len, h.rd, h.bytes⟩
theorem Sl.more {w : World} {B B' n c : Nat} {A : Option Addr} {l : List Nat} (h : Sl w B A n c l) (hB : B ≤ B') : Sl w B' A n c l := ⟨h.nc, h.len, h.rd.more hB, h.bytes⟩
theorem Sl.llen {w : World} {B n c : Nat} {A : Option Addr} {l : List Nat} (h : Sl w B A n c l) : l.length = n := by
  have := h.rd.1
  simpa [byts] using this
theorem Sl.cut {w : World} {B n c : Nat} {A : Option Addr} {l : List Nat} (h : Sl w B A n c l) {k : Nat} (hk : k ≤ n) : Sl w B (if c = k then A else A.map (·.add k)) (n - k) (c - k) (l.drop k) := by
  refine ⟨by have := h.nc; omega, by have := h.len; omega, ?_, fun b hb => h.bytes b (List.mem_of_mem_drop hb)⟩
  have := h.rd.cut hk h.nc
  simpa [byts] using this
theorem Sl.front {w : World} {B n c : Nat} {A : Option Addr} {l : List Nat} (h : Sl w B A n c l) {k : Nat} (hk : k ≤ n) : Sl w B A k c (l.take k) := by
  refine ⟨by have := h.nc; omega, by have := h.len; omega, ?_, fun b hb => h.bytes b (List.mem_of_mem_take hb)⟩
  have := h.rd.front hk
  simpa [byts] using this
structure RowsAt (w : World) (B : Nat) (A : Option Addr) (n c : Nat) (rows : List Row) : Prop where
  len : rows.length = n
  nc : n ≤ c
  small : n ≤ 10000000000000
  rd : Rd w B 1 A n (rows.map Row.val)
  each : ∀ r ∈ rows, Sl w B r.A r.n r.c r.l
section
variable {w w' : World} {B n c : Nat} {A : Option Addr} {rows : List Row}
theorem RowsAt.below (h : RowsAt w B A n c rows) (k : Below B w w') : RowsAt w' B A n c rows := ⟨h.len, h.nc, h.small, h.rd.below k, fun r hr => (h.each r hr).below k⟩
theorem RowsAt.drewN (h : RowsAt w B A n c rows) (k : Nat) : RowsAt (w.drewN k) B A n c rows := ⟨h.len, h.nc, h.small, h.rd, fun r hr => (h.each r hr).drewN k⟩
theorem RowsAt.more {B' : Nat} (h : RowsAt w B A n c rows) (k : B ≤ B') : RowsAt w B' A n c rows := ⟨h.len, h.nc, h.small, h.rd.more k, fun r hr => (h.each r hr).more k⟩
theorem RowsAt.at (h : RowsAt w B A n c rows) {i : Nat} (hi : i < n) : ∃ ad r, A = some ad ∧ ad.block < B ∧ rows[i]? = some r ∧ r ∈ rows ∧ w.cell? (ad.add i) = some r.val := by
  obtain ⟨ad, hA, hB, hc⟩ := h.rd.2 (by omega)
  have hl : i < rows.length := by have := h.len; omega
  exact ⟨ad, rows[i], hA, hB, List.getElem?_eq_getElem hl, List.getElem_mem hl, hc i _ (by rw [List.getElem?_map, List.getElem?_eq_getElem hl]; rfl)⟩
theorem sizeRows (W : World) : (sizeOf (Tryz.prog.elem 22)).run Tryz.prog W = .ok 1 W := by kernel_rfl
set_option maxRecDepth 100000 in
/-- the address of the i-th row, whatever is known of the slice's own -/
theorem RowsAt.idx (h : RowsAt w B A n c rows) {i : Nat} (hi : i < n) : ∃ (ad : Addr) (r : Row), ad.block < B ∧ rows[i]? = some r ∧ r ∈ rows ∧ w.cell? (ad.add i) = some (.slice r.A r.n r.c) ∧
    ∀ W, (Instr.indexAt 22 (.slice A n c) (.int .i64 (i : Int))).run Tryz.prog W = .ok (.pointer (some (ad.add i))) W := by
  obtain ⟨ad, r, rfl, hB, hr, hm, hc⟩ := h.at hi
  refine ⟨ad, r, hB, hr, hm, hc, fun W => ?_⟩
  rw [run_indexAt_slice W 22 ad n c .i64 (i : Int) Tryz.underlying22, if_pos ⟨by omega, by omega⟩, sizeRows W]
  simp [Result.andThen]
end
def intsV (xs : List Int) : List Value := xs.map fun n => Value.int .i64 n
theorem infoI64 : (Tryz.prog.info? 3).map (fun i => (i.zero, i.size, i.bytes)) = some (some (.int .i64 0), 1, 8) := by kernel_rfl
section
open Go.ChangeShapes Go.WideShapes Go.ChangeAt Go.Deep Go.Joins
set_option maxRecDepth 100000 in
theorem in_rows2 {H : Type} {enc : TypeId × Value → H} {W : World} {r : Reach} {b0 : Nat} {v : Value} {d : DataW H} {p : List MemPlace} (hv : Value.okWide Tryz.prog W r b0 22 v) (h : DataW.Trod enc Tryz.prog W 0 (fun _ => true) true 22 v d p) (hw : Small Tryz.prog 22 d) :
    ∃ (A : Option Addr) (n c : Nat) (L : List Row), v = .slice A n c ∧ RowsAt W W.heap.size A n c L := by
  obtain ⟨A, n, c, rfl⟩ := okWide_slice Tryz.underlying22 hv
  have hc1 : Tryz.prog.cellsOf 29 = 1 := by kernel_rfl
  obtain ⟨A', n', c', els, hcs, hnc, hcap, hel, hrd, hall⟩ := cells_slice Tryz.underlying22 (by rw [hc1]; omega) (cells_in h hw)
  simp only [Value.cells, List.cons.injEq, Value.slice.injEq, and_true] at hcs
  obtain ⟨rfl, rfl, rfl⟩ := hcs
  rw [hc1] at hrd hall
  rw [bytes8s] at hcap
  obtain ⟨L, rfl, hL⟩ := list_of (fun r : Row => RowIn W W.heap.size r) (fun r => [r.val]) els (fun el he => cells_bytes (hall el he).1)
  rw [flat1 Row.val] at hrd
  refine ⟨A, n, c, L, rfl, by simpa using hel, hnc, by unfold reachBytes at hcap; omega, hrd, fun x hx => ?_⟩
  have hr := hL x hx
  have hcap' := hr.cap
  have hnc' := hr.nc
  exact ⟨hr.nc, by omega, hr.rd, hr.bytes⟩
end
end Go.Proofs.YtageanmjdfodnaaGreatDoor
