/- Sets: how they lie in memory, what they say. -/
import Derived.Test.YtlhbikdelbollaaRdataC
import Derived.Test.YtlhbikdelbollaaEntryL
import Derived.Test.YtlhbikdelbollaaOpenB
namespace Go.Proofs.Ytlhbikdelbollaa
open Go.RowKit Go.Cx

/-- the block of a slice of the call's own -/
def Own (v : Value) : Nat → Prop := fun b => v.ownBlock = some b

theorem own_ne_own {w : World} {base base' : Nat} {e e' : TypeId} {size size' n n' : Nat} {v v' : Value} {xs xs' : List Value} (h : w.ownsRow base e size v n xs) (h' : w.ownsRow base' e' size' v' n' xs') (hne : e ≠ e') (b : Nat) (hb : v.ownBlock = some b) (hb' : v'.ownBlock = some b) : False := by
  rcases h.2 with ⟨rfl, _⟩ | ⟨g, cap, cur, rfl, _, hh, _⟩
  · cases hb
  · rcases h'.2 with ⟨rfl, _⟩ | ⟨g', cap', cur', rfl, _, hh', _⟩
    · cases hb'
    · simp only [Value.ownBlock, Option.some.injEq] at hb hb'
      subst hb
      subst hb'
      rw [hh] at hh'
      injection hh' with hh'
      injection hh' with _ ht
      exact hne ht
theorem own_ge {w : World} {base : Nat} {e : TypeId} {size n : Nat} {v : Value} {xs : List Value} (h : w.ownsRow base e size v n xs) (b : Nat) (hb : v.ownBlock = some b) : base ≤ b := by
  rcases h.2 with ⟨rfl, _⟩ | ⟨g, cap, cur, rfl, hg, _⟩
  · cases hb
  · simp only [Value.ownBlock, Option.some.injEq] at hb
    omega
structure SetV where
  name : ByteArray
  type : Int
  cls : Int
  rank : Int
  kind : Int
  exp : Int
  zone : ByteArray
  dA : Option Addr
  dn : Nat
  dc : Nat
  rows : List Row
def SetV.cells (s : SetV) : List Value := [.string s.name, .int .i64 s.type, .int .i64 s.cls, .int .i64 s.rank, .int .i64 s.kind, .int .i64 s.exp, .string s.zone, .slice s.dA s.dn s.dc]
def SetV.said (s : SetV) : SetC := ⟨bytesOf s.name, s.type, s.cls, s.rank, s.kind, s.exp, bytesOf s.zone, s.rows.map Row.l⟩
structure RowsAt (w : World) (B : Nat) (A : Option Addr) (n c : Nat) (rows : List Row) : Prop where
  len : rows.length = n
  nc : n ≤ c
  small : n ≤ 10000000000000
  rd : Rd w B 1 A n (rows.map Row.val)
  each : ∀ r ∈ rows, Sl w B r.A r.n r.c r.l
structure SetAt (w : World) (B : Nat) (s : SetV) : Prop where
  t : (Lit.int .i64 s.type).wf = true
  c : (Lit.int .i64 s.cls).wf = true
  r : (Lit.int .i64 s.rank).wf = true
  k : (Lit.int .i64 s.kind).wf = true
  e : (Lit.int .i64 s.exp).wf = true
  name : s.name.size ≤ 140737488355328
  zone : s.zone.size ≤ 140737488355328
  rows : RowsAt w B s.dA s.dn s.dc s.rows
section
variable {w w' : World} {B n c : Nat} {A : Option Addr} {rows : List Row}
theorem RowsAt.below (h : RowsAt w B A n c rows) (k : Below B w w') : RowsAt w' B A n c rows := ⟨h.len, h.nc, h.small, h.rd.below k, fun r hr => (h.each r hr).below k⟩
theorem RowsAt.drewN (h : RowsAt w B A n c rows) (k : Nat) : RowsAt (w.drewN k) B A n c rows := ⟨h.len, h.nc, h.small, h.rd, fun r hr => (h.each r hr).drewN k⟩
theorem RowsAt.more {B' : Nat} (h : RowsAt w B A n c rows) (k : B ≤ B') : RowsAt w B' A n c rows := ⟨h.len, h.nc, h.small, h.rd.more k, fun r hr => (h.each r hr).more k⟩
theorem RowsAt.at (h : RowsAt w B A n c rows) {i : Nat} (hi : i < n) : ∃ ad r, A = some ad ∧ ad.block < B ∧ rows[i]? = some r ∧ r ∈ rows ∧ w.cell? (ad.add i) = some r.val := by
  obtain ⟨ad, hA, hB, hc⟩ := h.rd.2 (by omega)
  have hl : i < rows.length := by have := h.len; omega
  exact ⟨ad, rows[i], hA, hB, List.getElem?_eq_getElem hl, List.getElem_mem hl, hc i _ (by rw [List.getElem?_map, List.getElem?_eq_getElem hl]; rfl)⟩
theorem sizeRows (W : World) : (sizeOf (Try.prog.elem 26)).run Try.prog W = .ok 1 W := by kernel_rfl
set_option maxRecDepth 100000 in
/-- the address of the i-th row, whatever is known of the slice's own -/
theorem RowsAt.idx (h : RowsAt w B A n c rows) {i : Nat} (hi : i < n) : ∃ (ad : Addr) (r : Row), ad.block < B ∧ rows[i]? = some r ∧ r ∈ rows ∧ w.cell? (ad.add i) = some (.slice r.A r.n r.c) ∧
    ∀ W, (Instr.indexAt 26 (.slice A n c) (.int .i64 (i : Int))).run Try.prog W = .ok (.pointer (some (ad.add i))) W := by
  obtain ⟨ad, r, rfl, hB, hr, hm, hc⟩ := h.at hi
  refine ⟨ad, r, hB, hr, hm, hc, fun W => ?_⟩
  rw [run_indexAt_slice W 26 ad n c .i64 (i : Int) Try.underlying26, if_pos ⟨by omega, by omega⟩, sizeRows W]
  simp [Result.andThen]
theorem SetAt.below {s : SetV} (h : SetAt w B s) (k : Below B w w') : SetAt w' B s := ⟨h.t, h.c, h.r, h.k, h.e, h.name, h.zone, h.rows.below k⟩
theorem SetAt.drewN {s : SetV} (h : SetAt w B s) (k : Nat) : SetAt (w.drewN k) B s := ⟨h.t, h.c, h.r, h.k, h.e, h.name, h.zone, h.rows.drewN k⟩
theorem SetAt.more {B' : Nat} {s : SetV} (h : SetAt w B s) (k : B ≤ B') : SetAt w B' s := ⟨h.t, h.c, h.r, h.k, h.e, h.name, h.zone, h.rows.more k⟩
end
end Go.Proofs.Ytlhbikdelbollaa
