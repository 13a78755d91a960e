/- The law RrsetOrders, walked. -/
import Derived.Test.YtlhbikdelbollaaRefOrd
import Derived.Test.YtlhbikdelbollaaTexts
import Derived.Test.YtlhbikdelbollaaCloneR
import Derived.Test.YtlhbikdelbollaaAwake
import Derived.Test.YtlhbikdelbollaaRecords
import Derived.Test.YtlhbikdelbollaaOpenBB
namespace Go.Proofs.Ytlhbikdelbollaa
open Go.RowKit Go.Cx Go.Maps Go.ChangeShapes Go.WideShapes Go.ChangeAt Go.Deep Go.Joins

theorem RowsAt.front {w : World} {B n c k : Nat} {A : Option Addr} {rs : List Row} (h : RowsAt w B A n c rs) (hk : k ≤ n) : RowsAt w B A k c (rs.take k) := by
  have hl := h.len
  refine ⟨by rw [List.length_take]; omega, by have := h.nc; omega, by have := h.small; omega, ?_, fun r hr => h.each r (List.mem_of_mem_take hr)⟩
  have := h.rd.front hk
  rw [Nat.mul_one] at this
  rw [List.map_take]
  exact this
theorem own_at {w : World} {base : Nat} {A : Option Addr} {n c : Nat} {rows : List Row} (h : w.ownsRow base 33 1 (.slice A n c) n (rows.map Row.val)) (hr : ∀ r ∈ rows, OwnRow w base r) (hn : n ≤ 10000000000000) : RowsAt w w.heap.size A n c rows :=
  ⟨by have h1 := h.1; simpa using h1, own_cap h, hn, Rd.own h, fun r hr' => (hr r hr').sl⟩
structure OwnAt (w0 : World) (A : Option Addr) (n c : Nat) (rows : List Row) (w : World) : Prop where
  own : w.ownsRow w0.heap.size 33 1 (.slice A n c) n (rows.map Row.val)
  rows : ∀ r ∈ rows, OwnRow w w0.heap.size r
theorem OwnAt.upd {w0 w w' : World} {A : Option Addr} {n c : Nat} {rows : List Row} (h : OwnAt w0 A n c rows w) (k : Upd Nix w w') : OwnAt w0 A n c rows w' := ⟨own_upd' h.own k fun _ _ h => h, fun r hr => (h.rows r hr).upd k fun _ _ h => h⟩
theorem OwnAt.at {w0 w : World} {A : Option Addr} {n c : Nat} {rows : List Row} (h : OwnAt w0 A n c rows w) (hn : n ≤ 1000000) : RowsAt w w.heap.size A n c rows := own_at h.own h.rows (by omega)

theorem rev_any (w : World) (A : Option Addr) (n c base : Nat) (R : List Row) (hown : w.ownsRow base 33 1 (.slice A n c) n (R.map Row.val)) (hn2 : n ≤ 1000000) :
    Calls Try.prog 29 #[.slice A n c] w fun e w' =>
      e = .returned (.tuple #[]) ∧ w'.ownsRow base 33 1 (.slice A n c) n (R.reverse.map Row.val) ∧ Upd (Own (.slice A n c)) w w' := by
  by_cases h0 : n = 0
  · subst h0
    have hR : R = [] := by
      have h1 := hown.1
      simp only [List.length_map] at h1
      exact List.eq_nil_of_length_eq_zero (by omega)
    subst hR
    refine (rev_nil A c w).mono ?_
    rintro e w' ⟨rfl, rfl⟩
    exact ⟨rfl, hown, Upd.refl _ _⟩
  · obtain ⟨g, rfl⟩ : ∃ g, A = some ⟨g, 0, none⟩ := by
      rcases hown.2 with ⟨hv, h⟩ | ⟨g, cap, cur, hv, _⟩
      · exact absurd h h0
      · injection hv with e1
        exact ⟨g, e1⟩
    refine (rev_rows w g n c base R hown (by omega) hn2).mono ?_
    rintro e w' ⟨rfl, h1, h2⟩
    refine ⟨rfl, h1, (Upd.refl _ _).trans h2 fun b hb hS => ?_⟩
    have hS' : b = g := hS
    subst hS'
    rfl

set_option maxRecDepth 100000 in
set_option maxHeartbeats 6400000 in
theorem law_orders (A : Option Addr) (n c : Nat) (rs : List Row) (w : World) (h : RowsAt w w.heap.size A n c rs) :
    Calls Try.prog 8 #[.slice A n c] w fun e w' => e = .returned (.bool true) ∧ Below w.heap.size w w' := by
  have H := Lib.hid h
  have hnc := h.nc
  have hsm := h.small
  clear h
  obtain ⟨m, hm⟩ : ∃ m, (min (n : Int) 100).toNat = m := ⟨_, rfl⟩
  have hmn : m ≤ n := by omega
  have hm100 : m ≤ 100 := by omega
  obtain ⟨rows, hrows⟩ : ∃ rows, rs.take m = rows := ⟨_, rfl⟩
  have hf := H.out.front hmn
  rw [hrows] at hf
  have HF := Lib.hid hf
  have HMM := Lib.hid hm
  clear hm hf hrows H
  go_enter Try.func8, Try.ntmps8
  go_wp2_with fail
  rw [HMM.out]
  refine (rrset_order A m c rows w w.heap.size HF.out (Nat.le_refl _) (by omega)).mono ?_
  rintro e w1 ⟨A1, n1, c1, rows1, rfl, hown1, hord1, hrow1, hu1⟩
  have ho1 : OwnAt w A1 n1 c1 rows1 w1 := ⟨hown1, hrow1⟩
  have hn1 : n1 ≤ 100 := by
    have h1 := hown1.1
    have h2 := congrArg List.length (ordered_eq hord1)
    have h3 := orderL_len (rows.map Row.l)
    have h4 := HF.out.len
    simp only [List.length_map, Nat.mul_one] at h1 h2 h3
    omega
  have HO1 := Lib.hid ho1
  have HORD1 := Lib.hid hord1
  have HU1 := Lib.hid hu1
  clear hown1 hord1 hrow1 hu1 ho1
  go_wp2_with fail
  have hf1 := (HF.out.below (HU1.out.belowNix (Nat.le_refl _))).more HU1.out.size
  refine (ref_order A m c rows w1 hf1 (by omega)).mono ?_
  clear hf1
  rintro e w2 ⟨A2, n2, c2, rows2, rfl, hown2, hord2, hrow2, hu2⟩
  have he12 : rows1.map Row.l = rows2.map Row.l := by rw [hord2, ordered_eq HORD1.out]
  have hn2 : n2 ≤ 100 := by
    have h1 := hown2.1
    have h2 := congrArg List.length he12
    have h3 := HO1.out.own.1
    simp only [List.length_map, Nat.mul_one] at h1 h2 h3
    omega
  have hn12 : n2 = n1 := by
    have h1 := hown2.1
    have h2 := congrArg List.length he12
    have h3 := HO1.out.own.1
    simp only [List.length_map, Nat.mul_one] at h1 h2 h3
    omega
  subst hn12
  have HC2 := Lib.hid (same_texts A1 A2 n2 c1 c2 rows1 rows2 w2 ((HO1.out.upd hu2).at (by omega)) (own_at hown2 hrow2 (by omega)) he12)
  have HU2 := Lib.hid (HU1.out.trans hu2 fun _ _ h => h)
  have HO2 := Lib.hid (HO1.out.upd hu2)
  clear hown2 hord2 hrow2 hu2 he12
  go_wp2_with fail
  refine HC2.out.mono ?_
  rintro e w3 ⟨rfl, hu3⟩
  have HU3 := Lib.hid (HU2.out.trans hu3 fun _ _ h => h)
  have HO3 := Lib.hid (HO2.out.upd hu3)
  clear hu3 HC2
  go_wp2_with fail
  refine (rrset_order A1 n2 c1 rows1 w3 w3.heap.size (HO3.out.at (by omega)) (Nat.le_refl _) (by omega)).mono ?_
  rintro e w4 ⟨A4, n4, c4, rows4, rfl, hown4, hord4, hrow4, hu4⟩
  have he4 : rows4.map Row.l = rows1.map Row.l := by rw [ordered_eq hord4]; exact (ordered_eq ⟨HORD1.out.1, fun _ => Iff.rfl⟩).symm
  have hn4 : n4 = n2 := by
    have h1 := hown4.1
    have h2 := congrArg List.length he4
    have h3 := HO1.out.own.1
    simp only [List.length_map, Nat.mul_one] at h1 h2 h3
    omega
  subst hn4
  have HC4 := Lib.hid (same_texts A4 A1 n4 c4 c1 rows4 rows1 w4 (own_at hown4 hrow4 (by omega)) ((HO3.out.upd hu4).at (by omega)) he4)
  have HU4 := Lib.hid (HU3.out.trans hu4 fun _ _ h => h)
  have HO4 := Lib.hid (HO3.out.upd hu4)
  clear hown4 hord4 hrow4 hu4 he4
  go_wp2_with fail
  refine HC4.out.mono ?_
  rintro e w5 ⟨rfl, hu5⟩
  have HU5 := Lib.hid (HU4.out.trans hu5 fun _ _ h => h)
  have HO5 := Lib.hid (HO4.out.upd hu5)
  clear hu5 HC4
  go_wp2_with fail
  go_loopw [4] (fun s4 wr => ∃ k : Nat, (k = 0 ∨ k + 1 ≤ n4) ∧ s4 = .int .i64 ((k : Int) + 1) ∧ Upd Nix w5 wr) (fun s4 _ => n4 + 1 - (intOf s4).toNat)
  case atStart => exact ⟨0, .inl rfl, rfl, Upd.refl _ _⟩
  case round =>
    obtain ⟨k, hk, rfl, hur⟩ := hrel
    have HUR := Lib.hid hur
    clear hur
    by_cases hkn : k + 1 < n4
    · have hki : (k : Int) + 1 < (n4 : Int) := by omega
      have hwk : wrap64 ((k : Int) + 1 - 1) = k := by unfold wrap64; omega
      have hoi := HO5.out.upd HUR.out
      have hlen : rows1.length = n4 := by have h1 := hoi.own.1; simpa using h1
      obtain ⟨x, hx⟩ : ∃ x, rows1[k]? = some x := ⟨_, List.getElem?_eq_getElem (by omega)⟩
      obtain ⟨y, hy⟩ : ∃ y, rows1[k + 1]? = some y := ⟨_, List.getElem?_eq_getElem (by omega)⟩
      have hlt : cmpN x.l y.l < 0 := by
        have h1 := List.pairwise_iff_getElem.1 HORD1.out.1 k (k + 1) (by rw [List.length_map]; omega) (by rw [List.length_map]; omega) (by omega)
        rw [List.getElem_map, List.getElem_map] at h1
        obtain ⟨_, e1⟩ := List.getElem?_eq_some_iff.1 hx
        obtain ⟨_, e2⟩ := List.getElem?_eq_some_iff.1 hy
        rw [e1, e2] at h1
        exact h1
      obtain ⟨g1, rfl⟩ : ∃ g, A1 = some ⟨g, 0, none⟩ := by
        rcases hoi.own.2 with ⟨hv, h⟩ | ⟨g, cap, cur, hv, _⟩
        · omega
        · injection hv with e1
          exact ⟨g, e1⟩
      have hcx := (RowBlk.of hoi.own).1.cell hx
      have hcy := (RowBlk.of hoi.own).1.cell hy
      have hix := idx_blk g1 n4 c1 k (by omega)
      have hiy : ∀ W, (Instr.indexAt 26 (.slice (some ⟨g1, 0, none⟩) n4 c1) (.int .i64 ((k : Int) + 1))).run Try.prog W = .ok (.pointer (some ⟨g1, k + 1, none⟩)) W := fun W => idx_blk g1 n4 c1 (k + 1) hkn W
      have hsx := (hoi.rows x (List.mem_of_getElem? hx)).sl
      have hsy := (hoi.rows y (List.mem_of_getElem? hy)).sl
      have HCMP := Lib.hid (fun (N : Nat) => bytes_compare (wr.drewN N) _ _ x.A y.A x.n y.n x.c y.c x.l y.l (hsx.upd ((Upd.refl Nix wr).drewN N)) (hsy.upd ((Upd.refl Nix wr).drewN N)))
      have hwr : IntKind.i64.wrap ((k : Int) + 1 - 1) = (k : Int) := by rw [IntKind.wrap_i64]; omega
      have hge : decide (0 ≤ cmpN x.l y.l) = false := decide_eq_false (by omega)
      clear hx hy hlt hoi hsx hsy hlen
      generalize cmpN x.l y.l = q at *
      go_wp2_with fail
      go_quiet ((go_at_call 27; first | exact quietL (HCMP.out _) | exact quietAddL (HCMP.out _)))
      go_wp2_with fail
      refine ⟨⟨k + 1, .inr (by omega), congrArg (Value.int .i64) (by omega), HUR.out.drewN _⟩, ?_⟩
      simp only [intOf]; omega
    · have hki : ¬ (k : Int) + 1 < (n4 : Int) := by omega
      clear hk
      have HUU := Lib.hid (HU5.out.trans HUR.out fun _ _ h => h)
      have HFR := Lib.hid ((HF.out.below (HUU.out.belowNix (Nat.le_refl _))).more HUU.out.size)
      go_wp2_with fail
      refine (clone_rows A m c rows wr HFR.out (by omega)).mono ?_
      rintro e w7 ⟨A7, c7, rfl, hown7, hu7⟩
      have HO7 := Lib.hid hown7
      have HU7 := Lib.hid hu7
      clear hown7 hu7
      go_wp2_with fail
      refine (rev_any w7 A7 m c7 wr.heap.size rows HO7.out (by omega)).mono ?_
      rintro e w8 ⟨rfl, hown8, hu8⟩
      have hu78 : Upd Nix wr w8 := HU7.out.trans hu8 fun b hb hS => by
        have := own_ge HO7.out b hS
        omega
      have HU8 := Lib.hid (HUU.out.trans hu78 fun _ _ h => h)
      have HO8 := Lib.hid ((HO5.out.upd HUR.out).upd hu78)
      have hat8 : RowsAt w8 w8.heap.size A7 m c7 rows.reverse := by
        have h1 := HF.out.below (HU8.out.belowNix (Nat.le_refl _))
        have h2 := h1.more HU8.out.size
        exact ⟨by rw [List.length_reverse]; exact HF.out.len, own_cap hown8, by omega, Rd.own hown8, fun r hr => h2.each r (List.mem_reverse.1 hr)⟩
      have HAT8 := Lib.hid hat8
      clear hu8 hown8 hu78 hat8
      go_wp2_with fail
      refine (rrset_order A7 m c7 rows.reverse w8 w8.heap.size HAT8.out (Nat.le_refl _) (by omega)).mono ?_
      rintro e w9 ⟨A9, n9, c9, rows9, rfl, hown9, hord9, hrow9, hu9⟩
      have he9 : rows9.map Row.l = rows1.map Row.l := by
        have h1 : Ordered (rows9.map Row.l) (rows.map Row.l) := ⟨hord9.1, fun d => by rw [hord9.2]; simp⟩
        rw [ordered_eq h1, ordered_eq HORD1.out]
      have hn9 : n9 = n4 := by
        have h1 := hown9.1
        have h2 := congrArg List.length he9
        have h3 := HO1.out.own.1
        simp only [List.length_map, Nat.mul_one] at h1 h2 h3
        omega
      subst hn9
      have HC9 := Lib.hid (same_texts A9 A1 n9 c9 c1 rows9 rows1 w9 (own_at hown9 hrow9 (by omega)) ((HO8.out.upd hu9).at (by omega)) he9)
      have HU9 := Lib.hid (HU8.out.trans hu9 fun _ _ h => h)
      clear hown9 hord9 hrow9 hu9 he9
      go_wp2_with fail
      refine HC9.out.mono ?_
      rintro e w10 ⟨rfl, hu10⟩
      have HU10 := Lib.hid (HU9.out.trans hu10 fun _ _ h => h)
      clear hu10 HC9
      go_wp2_with fail
      refine (law_awake w10).mono ?_
      rintro e w11 ⟨rfl, hu11⟩
      have HU11 := Lib.hid (HU10.out.trans hu11 fun _ _ h => h)
      clear hu11
      go_wp2_with fail
      go_ret
      exact ⟨rfl, HU11.out.belowNix (Nat.le_refl _)⟩

set_option maxRecDepth 100000 in
theorem in_rows2 {H : Type} {enc : TypeId × Value → H} {W : World} {r : Reach} {b0 : Nat} {v : Value} {d : DataW H} {p : List MemPlace} (hv : Value.okWide Try.prog W r b0 26 v) (h : DataW.Trod enc Try.prog W 0 (fun _ => true) true 26 v d p) (hw : Small Try.prog 26 d) :
    ∃ (A : Option Addr) (n c : Nat) (L : List Row), v = .slice A n c ∧ RowsAt W W.heap.size A n c L := by
  obtain ⟨A, n, c, rfl⟩ := okWide_slice Try.underlying26 hv
  have hc1 : Try.prog.cellsOf 33 = 1 := by kernel_rfl
  obtain ⟨A', n', c', els, hcs, hnc, hcap, hel, hrd, hall⟩ := cells_slice Try.underlying26 (by rw [hc1]; omega) (cells_in h hw)
  simp only [Value.cells, List.cons.injEq, Value.slice.injEq, and_true] at hcs
  obtain ⟨rfl, rfl, rfl⟩ := hcs
  rw [hc1] at hrd hall
  rw [bytes8s] at hcap
  obtain ⟨L, rfl, hL⟩ := list_of (fun r : Row => RowIn W W.heap.size r) (fun r => [r.val]) els (fun el he => cells_bytes (hall el he).1)
  rw [flat1 Row.val] at hrd
  refine ⟨A, n, c, L, rfl, by simpa using hel, hnc, by unfold reachBytes at hcap; omega, hrd, fun x hx => ?_⟩
  have hr := hL x hx
  have hcap' := hr.cap
  have hnc' := hr.nc
  exact ⟨hr.nc, by omega, hr.rd, hr.bytes⟩
end Go.Proofs.Ytlhbikdelbollaa
