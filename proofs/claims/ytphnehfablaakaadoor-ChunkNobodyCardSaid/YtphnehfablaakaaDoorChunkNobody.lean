/- ChunkNobody: the walk. -/
import Derived.Test.YtphnehfablaakaaDoorChunkBack
namespace Go.Proofs.YtphnehfablaakaaDoor
open Go.RowKit Go.Cx Go.Maps

theorem feed_nobody (A : Option Addr) (n c : Nat) (w : World) :
    Calls Tryd.prog 11 #[.pointer none, .slice A n c] w fun e w' => e = .returned (.tuple #[.int .i64 0, .bool false, .int .i64 2]) ∧ w = w' := by
  go_enter Tryd.func11, Tryd.ntmps11
  go_wp2
  refine wp_scope_straight ?_
  go_wp2
  rw [Exit.noGoto_ret]
  refine bodyPost_ret (results_tmp3 rfl _ _ _) rfl ?_
  exact ⟨rfl, rfl⟩
theorem feed_unmade (rb : Nat) (A : Option Addr) (n c : Nat) (w : World) (h : w.cell? ⟨rb, 3, none⟩ = some (.bool false)) :
    Calls Tryd.prog 11 #[.pointer (some ⟨rb, 0, none⟩), .slice A n c] w fun e w' => e = .returned (.tuple #[.int .i64 0, .bool false, .int .i64 2]) ∧ w = w' := by
  go_enter Tryd.func11, Tryd.ntmps11
  go_wp2
  refine wp_scope_straight ?_
  go_wp2
  rw [Exit.noGoto_ret]
  refine bodyPost_ret (results_tmp3 rfl _ _ _) rfl ?_
  exact ⟨rfl, rfl⟩
theorem body_nobody (w : World) :
    Calls Tryd.prog 13 #[.pointer none] w fun e w' => e = .returned (.slice none 0 0) ∧ w = w' := by
  go_enter Tryd.func13, Tryd.ntmps13
  go_wp2
  go_ret
  exact ⟨rfl, rfl⟩
theorem body_unmade (rb : Nat) (w : World) (h : w.cell? ⟨rb, 5, none⟩ = some (.slice none 0 0)) :
    Calls Tryd.prog 13 #[.pointer (some ⟨rb, 0, none⟩)] w fun e w' => e = .returned (.slice none 0 0) ∧ w = w' := by
  have kn := fun (w : World) (a : Option Addr) (n c : Nat) => run_eql_slice_nil (P := Tryd.prog) w 22 5 a n c Tryd.underlying22
  go_enter Tryd.func13, Tryd.ntmps13
  go_wp2
  go_ret
  exact ⟨rfl, rfl⟩

set_option maxRecDepth 100000 in
set_option maxHeartbeats 3200000 in
theorem chunkNobody (r : Row) (w : World) (_hr : RowIn w w.heap.size r) :
    Calls Tryd.prog 5 #[r.val] w fun e w' => e = .returned (.bool true) ∧ Below w.heap.size w w' := by
  obtain ⟨A, n, c, l⟩ := r
  unfold Row.val
  simp only at *
  go_enter Tryd.func5, Tryd.ntmps5
  go_wp2_with fail
  have hb1 := Blk.new w 41 #[.int .i64 0, .int .i64 0, .int .i64 0, .bool false, .int .i64 0, .slice none 0 0, .int .i64 0]
  have hb2 := Blk.new (w.alloc (.cells #[.int .i64 0, .int .i64 0, .int .i64 0, .bool false, .int .i64 0, .slice none 0 0, .int .i64 0] 41)) 30 #[.pointer none, .pointer (some ⟨w.heap.size, 0, none⟩)]
  have hb1' := hb1.alloc (.cells #[.pointer none, .pointer (some ⟨w.heap.size, 0, none⟩)] 30)
  rw [World.size_alloc] at hb2
  have hbl : Below w.heap.size w ((w.alloc (.cells #[.int .i64 0, .int .i64 0, .int .i64 0, .bool false, .int .i64 0, .slice none 0 0, .int .i64 0] 41)).alloc (.cells #[.pointer none, .pointer (some ⟨w.heap.size, 0, none⟩)] 30)) := ((Below.refl _ w).alloc (Nat.le_refl _) _).alloc (by simp) _
  generalize (w.alloc (.cells #[.int .i64 0, .int .i64 0, .int .i64 0, .bool false, .int .i64 0, .slice none 0 0, .int .i64 0] 41)).alloc (.cells #[.pointer none, .pointer (some ⟨w.heap.size, 0, none⟩)] 30) = W2 at *
  have p0 := hb2.cell 0
  have p1 := hb2.cell 1
  have q3 := hb1'.cell 3
  have q5 := hb1'.cell 5
  simp only [List.getElem?_toArray, List.getElem?_cons_zero, List.getElem?_cons_succ] at p0 p1 q3 q5
  have HBL := Lib.hid hbl
  clear hb1 hb2 hb1' hbl
  go_loopw [12] (fun i wr => ∃ k : Nat, k ≤ 2 ∧ i = .int .i64 k ∧ W2 = wr) (fun i _ => 2 - (intOf i).toNat)
  case atStart => exact ⟨0, by omega, rfl, rfl⟩
  case round =>
    obtain ⟨k, hk, rfl, rfl⟩ := hrel
    rcases (by omega : k = 0 ∨ k = 1 ∨ k = 2) with rfl | rfl | rfl
    · go_wp2_with fail
      refine (feed_nobody A n c W2).mono ?_
      rintro e w' ⟨rfl, rfl⟩
      go_wp2_with fail
      refine (body_nobody W2).mono ?_
      rintro e w' ⟨rfl, rfl⟩
      go_wp2
      go_roundw
      case rel => exact ⟨1, by omega, by go_num, by trivial⟩
      case measure => simp [intOf]
    · go_wp2_with fail
      refine (feed_unmade w.heap.size A n c W2 q3).mono ?_
      rintro e w' ⟨rfl, rfl⟩
      go_wp2_with fail
      refine (body_unmade w.heap.size W2 q5).mono ?_
      rintro e w' ⟨rfl, rfl⟩
      go_wp2
      go_roundw
      case rel => exact ⟨2, by omega, by go_num, by trivial⟩
      case measure => simp [intOf]
    · go_wp2_with fail
      have hrow : RowIn (W2.alloc (.cells #[.int .u8 1] 5)) (W2.alloc (.cells #[.int .u8 1] 5)).heap.size ⟨some ⟨W2.heap.size, 0, none⟩, 1, 1, [1]⟩ :=
        ⟨Nat.le_refl _, by simp only; omega, (Rd.lit1 W2 (.int .u8 1) _).more (by simp), by simp⟩
      refine (chunkBack ⟨some ⟨W2.heap.size, 0, none⟩, 1, 1, [1]⟩ ⟨none, 0, 0, []⟩ 1 none 0 0 [] _ hrow (by simp only; omega) ⟨Nat.le_refl _, by simp only; omega, Rd.nil, by simp⟩ (by simp only; omega) (by decide) Rd.nil (Nat.le_refl _) (by simp) (by simp) (by omega)).mono ?_
      rintro e w' ⟨rfl, hb⟩
      have hbl2 : Below w.heap.size w w' := (HBL.out.alloc HBL.out.size _).trans (hb.mono (by simp; have := HBL.out.size; omega))
      go_wp2
      go_ret
      exact ⟨rfl, hbl2⟩
end Go.Proofs.YtphnehfablaakaaDoor
