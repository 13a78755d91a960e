/- Records: how they lie in memory, what they say. -/
import Derived.Test.YtlhbikdelbollaaSets
namespace Go.Proofs.Ytlhbikdelbollaa
open Go.RowKit Go.Cx

structure RRV where
  name : ByteArray
  type : Int
  cls : Int
  ttl : Int
  data : Row
/-- what a record says -/
structure RRC where
  name : List Nat
  type : Int
  cls : Int
  ttl : Int
  data : List Nat
  deriving DecidableEq
def RRV.cells (r : RRV) : List Value := [.string r.name, .int .i64 r.type, .int .i64 r.cls, .int .i64 r.ttl, .slice r.data.A r.data.n r.data.c]
def RRV.agg (r : RRV) : Value := .agg #[.string r.name, .int .i64 r.type, .int .i64 r.cls, .int .i64 r.ttl, .slice r.data.A r.data.n r.data.c]
def RRV.said (r : RRV) : RRC := ⟨bytesOf r.name, r.type, r.cls, r.ttl, r.data.l⟩
structure RRAt (w : World) (B : Nat) (r : RRV) : Prop where
  t : (Lit.int .i64 r.type).wf = true
  c : (Lit.int .i64 r.cls).wf = true
  l : (Lit.int .i64 r.ttl).wf = true
  name : r.name.size ≤ 140737488355328
  data : Sl w B r.data.A r.data.n r.data.c r.data.l
/-- a slice of records -/
structure RRsAt (w : World) (B : Nat) (A : Option Addr) (n c : Nat) (rs : List RRV) : Prop where
  len : rs.length = n
  nc : n ≤ c
  small : n ≤ 10000000000000
  rd : Rd w B 5 A n (rs.map RRV.cells).flatten
  each : ∀ r ∈ rs, RRAt w B r
section
variable {w w' : World} {B n c : Nat} {A : Option Addr} {rs : List RRV} {r : RRV}
theorem RRAt.below (h : RRAt w B r) (k : Below B w w') : RRAt w' B r := ⟨h.t, h.c, h.l, h.name, h.data.below k⟩
theorem RRAt.more {B' : Nat} (h : RRAt w B r) (k : B ≤ B') : RRAt w B' r := ⟨h.t, h.c, h.l, h.name, h.data.more k⟩
theorem RRsAt.below (h : RRsAt w B A n c rs) (k : Below B w w') : RRsAt w' B A n c rs := ⟨h.len, h.nc, h.small, h.rd.below k, fun r hr => (h.each r hr).below k⟩
theorem RRsAt.more {B' : Nat} (h : RRsAt w B A n c rs) (k : B ≤ B') : RRsAt w B' A n c rs := ⟨h.len, h.nc, h.small, h.rd.more k, fun r hr => (h.each r hr).more k⟩
theorem RRsAt.drewN (h : RRsAt w B A n c rs) (k : Nat) : RRsAt (w.drewN k) B A n c rs := ⟨h.len, h.nc, h.small, h.rd, fun r hr => let x := h.each r hr; ⟨x.t, x.c, x.l, x.name, x.data.drewN k⟩⟩
theorem flat_at {α : Type} (f : α → List Value) (k : Nat) (hk : ∀ x, (f x).length = k) : ∀ (l : List α) (i j : Nat) (x : α), l[i]? = some x → j < k → (l.map f).flatten[i * k + j]? = (f x)[j]?
  | [], i, j, x, h, _ => by simp at h
  | y :: l, 0, j, x, h, hj => by
    simp only [List.getElem?_cons_zero, Option.some.injEq] at h
    subst h
    rw [List.map_cons, List.flatten_cons, Nat.zero_mul, Nat.zero_add, List.getElem?_append_left (by rw [hk]; exact hj)]
  | y :: l, i + 1, j, x, h, hj => by
    rw [List.getElem?_cons_succ] at h
    rw [List.map_cons, List.flatten_cons, List.getElem?_append_right (by rw [hk, Nat.succ_mul]; omega), hk, show (i + 1) * k + j - k = i * k + j by rw [Nat.succ_mul]; omega]
    exact flat_at f k hk l i j x h hj
/-- the cells of the i-th record, and its address -/
theorem RRsAt.idx (h : RRsAt w B A n c rs) {i : Nat} (hi : i < n) : ∃ (ad : Addr) (r : RRV), ad.block < B ∧ rs[i]? = some r ∧ r ∈ rs ∧ (∀ j, j < 5 → w.cell? (ad.add (i * 5 + j)) = r.cells[j]?) ∧ A = some ad := by
  obtain ⟨ad, hA, hB, hc⟩ := h.rd.2 (by omega)
  have hl : i < rs.length := by have := h.len; omega
  refine ⟨ad, rs[i], hB, List.getElem?_eq_getElem hl, List.getElem_mem hl, fun j hj => ?_, hA⟩
  have h1 := flat_at RRV.cells 5 (fun _ => rfl) rs i j rs[i] (List.getElem?_eq_getElem hl) hj
  have h2 : j < (rs[i]).cells.length := hj
  rw [List.getElem?_eq_getElem h2] at h1 ⊢
  exact hc _ _ h1
end
end Go.Proofs.Ytlhbikdelbollaa
