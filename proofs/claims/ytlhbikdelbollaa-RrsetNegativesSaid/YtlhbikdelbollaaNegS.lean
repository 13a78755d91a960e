/- The set that says that there is nothing: how it lies in memory while it is made. -/
import Derived.Test.YtlhbikdelbollaaRefByt
import Derived.Test.YtlhbikdelbollaaGroup
namespace Go.Proofs.Ytlhbikdelbollaa
open Go.RowKit Go.Cx Go.Maps

abbrev zero8 : Array Value := #[.string ⟨#[]⟩, .int .i64 0, .int .i64 0, .int .i64 0, .int .i64 0, .int .i64 0, .string ⟨#[]⟩, .slice none 0 0]
structure N3 (w : World) (g : Nat) (qn : ByteArray) (qt qc : Int) (r : RRV) (wr : World) : Prop where
  qb : Blk wr g 41 #[.string qn, .int .i64 qt, .int .i64 qc]
  rb : Blk wr (g + 1) 35 #[.string r.name, .int .i64 r.type, .int .i64 r.cls, .int .i64 r.ttl, .slice r.data.A r.data.n r.data.c]
  sb : Blk wr (g + 2) 28 zero8
  bel : Below g w wr
theorem N3.upd {w : World} {g : Nat} {qn : ByteArray} {qt qc : Int} {r : RRV} {wr wr' : World} (h : N3 w g qn qt qc r wr) (k : Upd Nix wr wr') : N3 w g qn qt qc r wr' :=
  ⟨h.qb.upd k (by simp [Nix]), h.rb.upd k (by simp [Nix]), h.sb.upd k (by simp [Nix]), h.bel.trans (k.belowNix (by have := h.sb.lt; omega))⟩
/-- a set that was made, with one datum -/
def NegBuilt (wr : World) (cells : Value → Array Value) (d : List Nat) (p : Value) (W : World) : Prop :=
  ∃ (z gl base : Nat) (A : Option Addr) (n c : Nat), p = .pointer (some ⟨z, 0, none⟩) ∧ wr.heap.size ≤ z ∧ Blk W z 28 (cells (.slice (some ⟨gl, 0, none⟩) 1 1)) ∧ Blk W gl 33 #[.slice A n c] ∧ W.ownsRow base 5 1 (.slice A n c) n (byts d) ∧ n ≤ 140737488355328 ∧ Upd Nix wr W
theorem sl_own {w : World} {base n c : Nat} {A : Option Addr} {d : List Nat} (h : w.ownsRow base 5 1 (.slice A n c) n (byts d)) (hn : n ≤ 140737488355328) (hb : ∀ b ∈ d, b < 256) : Sl w w.heap.size A n c d := ⟨own_cap h, hn, Rd.own h, hb⟩
theorem Rd.blk1 {w : World} {g : Nat} {t : TypeId} {x : Value} (h : Blk w g t #[x]) : Rd w w.heap.size 1 (some ⟨g, 0, none⟩) 1 [x] := by
  refine ⟨rfl, fun _ => ⟨_, rfl, h.lt, fun j u hu => ?_⟩⟩
  have hadd : (⟨g, 0, none⟩ : Addr).add j = ⟨g, j, none⟩ := by unfold Addr.add; split <;> simp_all
  rw [hadd, h.cell]
  simpa using hu
/-- the set's block came last -/
theorem NegBuilt.c {wr w5 : World} {cells : Value → Array Value} {d : List Nat} {A : Option Addr} {n c base : Nat} (ho : w5.ownsRow base 5 1 (.slice A n c) n (byts d)) (hn : n ≤ 140737488355328) (hu : Upd Nix wr w5) :
    NegBuilt wr cells d (.pointer (some ⟨w5.heap.size + 1, 0, none⟩)) ((w5.alloc (.cells #[.slice A n c] 33)).alloc (.cells (cells (.slice (some ⟨w5.heap.size, 0, none⟩) 1 1)) 28)) :=
  ⟨w5.heap.size + 1, w5.heap.size, base, A, n, c, rfl, by have := hu.size; omega, Blk.new' _ _ _ (by simp), (Blk.new _ _ _).alloc _, (ho.alloc _).alloc _, hn, (hu.alloc _).alloc _⟩
/-- it came behind the datum, the slice behind it -/
theorem NegBuilt.b {wr w5 : World} {cells : Value → Array Value} {d : List Nat} {A : Option Addr} {n c base : Nat} (ho : w5.ownsRow base 5 1 (.slice A n c) n (byts d)) (hn : n ≤ 140737488355328) (hu : Upd Nix wr w5) :
    NegBuilt wr cells d (.pointer (some ⟨w5.heap.size, 0, none⟩)) ((w5.alloc (.cells (cells (.slice (some ⟨w5.heap.size + 1, 0, none⟩) 1 1)) 28)).alloc (.cells #[.slice A n c] 33)) :=
  ⟨w5.heap.size, w5.heap.size + 1, base, A, n, c, rfl, hu.size, (Blk.new _ _ _).alloc _, Blk.new' _ _ _ (by simp), (ho.alloc _).alloc _, hn, (hu.alloc _).alloc _⟩
/-- it came before the datum -/
theorem NegBuilt.a {wr w5 : World} {a b c0 d0 e f g : Value} {d : List Nat} {z base : Nat} {A : Option Addr} {n c : Nat} (ho : w5.ownsRow base 5 1 (.slice A n c) n (byts d)) (hn : n ≤ 140737488355328) (hu : Upd Nix wr w5)
    (hz : wr.heap.size ≤ z) (hb : Blk w5 z 28 zero8) :
    NegBuilt wr (fun v => #[a, b, c0, d0, e, f, g, v]) d (.pointer (some ⟨z, 0, none⟩)) (((((((((w5.setCell ⟨z, 0, none⟩ a).setCell ⟨z, 1, none⟩ b).setCell ⟨z, 2, none⟩ c0).setCell ⟨z, 3, none⟩ d0).setCell ⟨z, 4, none⟩ e).setCell ⟨z, 5, none⟩ f).setCell ⟨z, 6, none⟩ g).setCell ⟨z, 7, none⟩ (.slice (some ⟨w5.heap.size, 0, none⟩) 1 1)).alloc (.cells #[.slice A n c] 33)) := by
  have hone : One z z := rfl
  obtain ⟨W, hW⟩ : ∃ W, ((((((((w5.setCell ⟨z, 0, none⟩ a).setCell ⟨z, 1, none⟩ b).setCell ⟨z, 2, none⟩ c0).setCell ⟨z, 3, none⟩ d0).setCell ⟨z, 4, none⟩ e).setCell ⟨z, 5, none⟩ f).setCell ⟨z, 6, none⟩ g).setCell ⟨z, 7, none⟩ (.slice (some ⟨w5.heap.size, 0, none⟩) 1 1)) = W := ⟨_, rfl⟩
  have hk : Upd (One z) w5 W := by
    rw [← hW]
    iterate 8 refine Upd.set ?_ hone _
    exact Upd.refl _ _
  have hsz : W.heap.size = w5.heap.size := by rw [← hW]; simp
  have hu8 : Upd Nix wr W := by rw [← hW]; exact upd8 hu hz
  have hbl := (((((((hb.set 0 a).set 1 b).set 2 c0).set 3 d0).set 4 e).set 5 f).set 6 g).set 7 (.slice (some ⟨w5.heap.size, 0, none⟩) 1 1)
  unfold zero8 at hbl
  simp only [List.setIfInBounds_toArray, List.set_cons_zero, List.set_cons_succ] at hbl
  rw [hW] at hbl ⊢
  have ho2 : W.ownsRow base 5 1 (.slice A n c) n (byts d) := own_upd' ho hk fun x hx hs => by
    have hs : x = z := hs
    subst hs
    exact own_ne_blk' ho hb (by decide) hx
  exact ⟨z, w5.heap.size, base, A, n, c, rfl, hz, hbl.alloc _, Blk.new' _ _ _ hsz.symm, ho2.alloc _, hn, hu8.alloc _⟩
/-- eight stores into one block -/
theorem upd8one {w : World} {z : Nat} {a b c d e f g h : Value} : Upd (One z) w ((((((((w.setCell ⟨z, 0, none⟩ a).setCell ⟨z, 1, none⟩ b).setCell ⟨z, 2, none⟩ c).setCell ⟨z, 3, none⟩ d).setCell ⟨z, 4, none⟩ e).setCell ⟨z, 5, none⟩ f).setCell ⟨z, 6, none⟩ g).setCell ⟨z, 7, none⟩ h) := by
  have hone : One z z := rfl
  iterate 8 refine Upd.set ?_ hone _
  exact Upd.refl _ _
theorem sl_own_set {w w' : World} {g gl base n c : Nat} {A : Option Addr} {d : List Nat} (ho : w.ownsRow base 5 1 (.slice A n c) n (byts d)) (hn : n ≤ 140737488355328) (hb : ∀ b ∈ d, b < 256) (hg : Blk w g 28 zero8) (hl : Blk w gl 33 #[.slice A n c]) (hk : Upd (One g) w w') :
    RowsAt w' w'.heap.size (some ⟨gl, 0, none⟩) 1 1 [⟨A, n, c, d⟩] := by
  have ho2 : w'.ownsRow base 5 1 (.slice A n c) n (byts d) := own_upd' ho hk fun x hx hs => by
    have hs : x = g := hs
    subst hs
    exact own_ne_blk' ho hg (by decide) hx
  have hl2 := hl.upd hk fun hs => by
    have hs : gl = g := hs
    subst hs
    exact Blk.ne hl hg (by decide) rfl
  refine ⟨rfl, Nat.le_refl _, by omega, Rd.blk1 hl2, fun r hr => ?_⟩
  simp only [List.mem_singleton] at hr
  subst hr
  exact sl_own ho2 hn hb
/-- what both answer -/
def NegIs (res : Option SetC) (w : World) (e : Ending) (w' : World) : Prop :=
  Upd Nix w w' ∧ ((res = none ∧ e = .returned (.tuple #[.agg zero8, .int .i64 1])) ∨ ∃ s : SetV, res = some s.said ∧ e = .returned (.tuple #[s.agg, .int .i64 0]) ∧ SetAt w' w'.heap.size s)
/-- what SOA says, whether it is one or not -/
theorem SoaIs.both {l : List Nat} {e : Ending} (h : SoaIs l e) : ∃ (m r : ByteArray) (f0 f1 f2 f3 f4 : Int) (ok : Bool), e = .returned (.tuple #[.agg (soaCells m r f0 f1 f2 f3 f4), .bool ok]) ∧ ((ok = false ∧ soaL l = none) ∨ (ok = true ∧ ∃ x, soaL l = some x ∧ f4 = ((x.five.getD 4 0 : Nat) : Int))) := by
  rcases h with ⟨h1, rfl⟩ | ⟨s, m, r, f0, f1, f2, f3, f4, h1, _, _, h2, rfl⟩
  · exact ⟨_, _, _, _, _, _, _, _, rfl, .inl ⟨rfl, h1⟩⟩
  · exact ⟨_, _, _, _, _, _, _, _, rfl, .inr ⟨rfl, s, h1, by rw [h2]; rfl⟩⟩
end Go.Proofs.Ytlhbikdelbollaa
