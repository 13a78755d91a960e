/- ChunkWrites: the walk. -/
import Derived.Test.YtphnehfablaakaaDoorEncodeC
import Derived.Test.YtphnehfablaakaaDoorOpenB
namespace Go.Proofs.YtphnehfablaakaaDoor
open Go.RowKit Go.Cx Go.Maps

theorem chunk_encode_err (A : Option Addr) (n c : Nat) (size : Int) (w : World) (hs : size < 1 ∨ 16777215 < size) :
    Calls Tryd.prog 7 #[.slice A n c, .int .i64 size] w fun e w' => e = .returned (.tuple #[.slice none 0 0, .int .i64 1]) ∧ w = w' := by
  by_cases h1 : size < 1
  · clear hs
    go_enter Tryd.func7, Tryd.ntmps7
    go_wp2
    refine bodyPost_ret (results_tmp2 rfl _ _ _) rfl ?_
    exact ⟨rfl, rfl⟩
  · have h2 : 16777215 < size := by omega
    clear hs
    go_enter Tryd.func7, Tryd.ntmps7
    go_wp2
    refine bodyPost_ret (results_tmp2 rfl _ _ _) rfl ?_
    exact ⟨rfl, rfl⟩
theorem ref_encode_err (A : Option Addr) (n c : Nat) (size : Int) (w : World) (hs : size < 1 ∨ 16777215 < size) :
    Calls Tryd.prog 8 #[.slice A n c, .int .i64 size] w fun e w' => e = .returned (.tuple #[.slice none 0 0, .int .i64 1]) ∧ w = w' := by
  by_cases h1 : size < 1
  · clear hs
    go_enter Tryd.func8, Tryd.ntmps8
    go_wp2
    refine bodyPost_ret (results_tmp2 rfl _ _ _) rfl ?_
    exact ⟨rfl, rfl⟩
  · have h2 : 16777215 < size := by omega
    clear hs
    go_enter Tryd.func8, Tryd.ntmps8
    go_wp2
    refine bodyPost_ret (results_tmp2 rfl _ _ _) rfl ?_
    exact ⟨rfl, rfl⟩

/-- what both come to -/
def encR (size : Int) (l : List Nat) : List Nat := if size < 1 ∨ 16777215 < size then [] else encL (size.toNat - 1) l
def encE (size : Int) : Nat := if size < 1 ∨ 16777215 < size then 1 else 0
def AfterE (l : List Nat) (size : Int) (w : World) (e : Ending) (w' : World) : Prop :=
  ∃ A' c', e = .returned (.tuple #[.slice A' (encR size l).length c', .int .i64 (encE size)]) ∧ Rd w' w'.heap.size 1 A' (encR size l).length (byts (encR size l)) ∧ Below w.heap.size w w'

theorem chunk_encode (A : Option Addr) (n c : Nat) (size : Int) (l : List Nat) (w : World) (hx : Rd w w.heap.size 1 A n (byts l)) (hnc : n ≤ c) (hn : n ≤ 16777216) :
    Calls Tryd.prog 7 #[.slice A n c, .int .i64 size] w (AfterE l size w) := by
  by_cases hs : size < 1 ∨ 16777215 < size
  · refine (chunk_encode_err A n c size w hs).mono ?_
    rintro e w' ⟨rfl, rfl⟩
    have h1 : encR size l = [] := by unfold encR; rw [if_pos hs]
    have h2 : encE size = 1 := by unfold encE; rw [if_pos hs]
    exact ⟨none, 0, by rw [h1, h2]; rfl, by rw [h1]; exact Rd.nil, Below.refl _ _⟩
  · obtain ⟨s, rfl⟩ : ∃ s : Nat, size = ((s + 1 : Nat) : Int) := ⟨size.toNat - 1, by omega⟩
    have h1 : encR ((s + 1 : Nat) : Int) l = encL s l := by unfold encR; rw [if_neg hs]; congr 1
    have h2 : encE ((s + 1 : Nat) : Int) = 0 := by unfold encE; rw [if_neg hs]
    refine (chunk_encode_in A n c s l w (by omega) hx hnc hn).mono ?_
    rintro e w' ⟨A', c', rfl, hr, hb⟩
    exact ⟨A', c', by rw [h1, h2]; rfl, by rw [h1]; exact hr, hb⟩
theorem ref_encode (A : Option Addr) (n c : Nat) (size : Int) (l : List Nat) (w : World) (hx : Rd w w.heap.size 1 A n (byts l)) (hnc : n ≤ c) (hn : n ≤ 16777216) :
    Calls Tryd.prog 8 #[.slice A n c, .int .i64 size] w (AfterE l size w) := by
  by_cases hs : size < 1 ∨ 16777215 < size
  · refine (ref_encode_err A n c size w hs).mono ?_
    rintro e w' ⟨rfl, rfl⟩
    have h1 : encR size l = [] := by unfold encR; rw [if_pos hs]
    have h2 : encE size = 1 := by unfold encE; rw [if_pos hs]
    exact ⟨none, 0, by rw [h1, h2]; rfl, by rw [h1]; exact Rd.nil, Below.refl _ _⟩
  · obtain ⟨s, rfl⟩ : ∃ s : Nat, size = ((s + 1 : Nat) : Int) := ⟨size.toNat - 1, by omega⟩
    have h1 : encR ((s + 1 : Nat) : Int) l = encL s l := by unfold encR; rw [if_neg hs]; congr 1
    have h2 : encE ((s + 1 : Nat) : Int) = 0 := by unfold encE; rw [if_neg hs]
    refine (ref_encode_in A n c s l w (by omega) hx hnc hn).mono ?_
    rintro e w' ⟨A', c', rfl, hr, hb⟩
    exact ⟨A', c', by rw [h1, h2]; rfl, by rw [h1]; exact Rd.own hr, hb⟩
theorem encR_lt (size : Int) (l : List Nat) (hb : ∀ b ∈ l, b < 256) : ∀ b ∈ encR size l, b < 256 := by
  unfold encR
  split
  · simp
  · exact encL_lt _ l hb

set_option maxRecDepth 100000 in
set_option maxHeartbeats 3200000 in
theorem chunkWrites (r : Row) (size : Int) (w : World) (hr : RowIn w w.heap.size r) (hu : r.n ≤ 1048576) (_hs : (Lit.int .i64 size).wf = true) :
    Calls Tryd.prog 3 #[r.val, .int .i64 size] w fun e w' => e = .returned (.bool true) ∧ Below w.heap.size w w' := by
  have hn : r.n ≤ 16777216 := by omega
  clear hu
  obtain ⟨A, n, c, l⟩ := r
  obtain ⟨hnc, _, hx, hb⟩ := hr
  unfold Row.val
  simp only at *
  have HX := Lib.hid hx
  have HB := Lib.hid hb
  clear hx hb
  go_enter Tryd.func3, Tryd.ntmps3
  go_wp2_with fail
  refine (chunk_encode A n c size l w HX.out hnc hn).mono ?_
  rintro e w1 ⟨A1, c1, rfl, hr1, hb1⟩
  have HR1 := Lib.hid hr1
  have HB1 := Lib.hid hb1
  clear hr1 hb1
  go_wp2_with fail
  refine (ref_encode A n c size l w1 ((HX.out.below HB1.out).more HB1.out.size) hnc hn).mono ?_
  rintro e w2 ⟨A2, c2, rfl, hr2, hb2⟩
  have hr12 := HR1.out.below hb2
  have HR12 := Lib.hid hr12
  have HR2 := Lib.hid hr2
  have HB2 := Lib.hid hb2
  clear hr2 hb2 hr12
  go_wp2_with fail
  refine (chunk_encode none 0 0 1 [] w2 Rd.nil (Nat.le_refl _) (by omega)).mono ?_
  rintro e w3 ⟨A3, c3, rfl, hr3, hb3⟩
  have hr13 := HR12.out.below ((hb3.mono HB2.out.size))
  have hr23 := HR2.out.below hb3
  have hbl : Below w.heap.size w w3 := (HB1.out.trans (HB2.out.mono HB1.out.size)).trans (hb3.mono (Nat.le_trans HB1.out.size HB2.out.size))
  have h1 : encR 1 [] = [48, 13, 10, 13, 10] := by unfold encR; rw [if_neg (by omega)]; exact encL_nil _
  have h2 : encE 1 = 0 := by unfold encE; rw [if_neg (by omega)]
  have h5 : ([48, 13, 10, 13, 10] : List Nat).length = 5 := rfl
  rw [h1, h5] at hr3
  rw [h1, h2, h5]
  have kc := run_conv w3 hr3 c3
  have hs5 : strN [48, 13, 10, 13, 10] = { data := #[48, 13, 10, 13, 10] } := rfl
  rw [hs5] at kc
  have HR13 := Lib.hid hr13
  have HR23 := Lib.hid hr23
  have HBL := Lib.hid hbl
  clear hr13 hr23 hbl hr3 hb3 h1 h2 hs5 h5
  go_wp2_with fail
  refine (bytes_equal w3 _ _ A1 A2 _ _ c1 c2 _ _ HR13.out HR23.out (encR_lt _ _ HB.out) (encR_lt _ _ HB.out)).mono ?_
  rw [decide_eq_true rfl]
  rintro e w4 ⟨rfl, rfl⟩
  go_wp2
  go_ret
  exact ⟨rfl, HBL.out⟩
end Go.Proofs.YtphnehfablaakaaDoor
