/- HttpNobody: a reader that no call made; the walk. -/
import Derived.Test.YtbjjimbnaicbfaaDoorHttpAw
namespace Go.Proofs.YtbjjimbnaicbfaaDoor
open Go.RowKit Go.Cx Go.Maps

set_option maxRecDepth 100000 in
theorem feed_nilp (A : Option Addr) (n c : Nat) (w : World) : Calls Tryd.prog 14 #[.pointer none, .slice A n c] w fun e w' => e = .returned (.tuple #[.slice none 0 0, .int .i64 2]) ∧ w = w' := by
  go_enter Tryd.func14, Tryd.ntmps14
  go_wp2_with fail
  go_ret2
  exact ⟨rfl, rfl⟩
set_option maxRecDepth 100000 in
theorem feed_unmade (A : Option Addr) (n c rb : Nat) (w : World) (h : Blk w rb 42 #[.bool false, .bool false, .slice none 0 0, .pointer none]) : Calls Tryd.prog 14 #[.pointer (some ⟨rb, 0, none⟩), .slice A n c] w fun e w' => e = .returned (.tuple #[.slice none 0 0, .int .i64 2]) ∧ w = w' := by
  have hc : w.cell? ⟨rb, 0, none⟩ = some (.bool false) := h.cell 0
  clear h
  go_enter Tryd.func14, Tryd.ntmps14
  go_wp2_with fail
  go_ret2
  exact ⟨rfl, rfl⟩
theorem ended_nilp (w : World) : Calls Tryd.prog 15 #[.pointer none] w fun e w' => e = .returned (.bool false) ∧ w = w' := by
  go_enter Tryd.func15, Tryd.ntmps15
  go_wp2_with fail
  go_ret
  exact ⟨rfl, rfl⟩
theorem ended_at (rb : Nat) (b : Bool) (w : World) (h : w.cell? ⟨rb, 1, none⟩ = some (.bool b)) : Calls Tryd.prog 15 #[.pointer (some ⟨rb, 0, none⟩)] w fun e w' => e = .returned (.bool b) ∧ w = w' := by
  go_enter Tryd.func15, Tryd.ntmps15
  go_wp2_with fail
  go_ret
  exact ⟨rfl, rfl⟩
set_option maxRecDepth 100000 in
set_option maxHeartbeats 6400000 in
theorem httpNobody (r0 : Row) (w : World) (_h : RowIn w w.heap.size r0) (ht : Tab10 w) : Calls Tryd.prog 5 #[r0.val] w fun e w' => e = .returned (.bool true) ∧ Below w.heap.size w w' := by
  have HT := Lib.hid ht
  clear ht
  obtain ⟨A0, n0, c0, l0⟩ := r0
  unfold Row.val
  simp only
  go_enter Tryd.func5, Tryd.ntmps5
  go_wp2_with fail
  have hb0 : Blk (w.alloc (.cells #[.bool false, .bool false, .slice none 0 0, .pointer none] 42)) w.heap.size 42 #[.bool false, .bool false, .slice none 0 0, .pointer none] := Blk.new _ _ _
  have hb1 : Blk ((w.alloc (.cells #[.bool false, .bool false, .slice none 0 0, .pointer none] 42)).alloc (.cells #[.pointer none, .pointer (some ⟨w.heap.size, 0, none⟩)] 33)) (w.heap.size + 1) 33 #[.pointer none, .pointer (some ⟨w.heap.size, 0, none⟩)] := Blk.new' _ _ _ (by simp)
  have hb2 := hb0.alloc (.cells #[.pointer none, .pointer (some ⟨w.heap.size, 0, none⟩)] 33)
  have hu : Upd Nix w ((w.alloc (.cells #[.bool false, .bool false, .slice none 0 0, .pointer none] 42)).alloc (.cells #[.pointer none, .pointer (some ⟨w.heap.size, 0, none⟩)] 33)) := ((Upd.refl _ _).alloc _).alloc _
  generalize ((w.alloc (.cells #[.bool false, .bool false, .slice none 0 0, .pointer none] 42)).alloc (.cells #[.pointer none, .pointer (some ⟨w.heap.size, 0, none⟩)] 33)) = wa at *
  obtain ⟨g, hg⟩ : ∃ g, w.heap.size = g := ⟨_, rfl⟩
  rw [hg] at hb1 hb2 ⊢
  have HG := Lib.hid hg
  have HB1 := Lib.hid hb1
  have HB2 := Lib.hid hb2
  have HU := Lib.hid hu
  clear hb0 hb1 hb2 hu hg
  go_loopw [11] (fun s11 wr => ∃ k : Nat, k ≤ 2 ∧ s11 = .int .i64 k ∧ Upd Nix wa wr) (fun s11 _ => 2 - (intOf s11).toNat)
  case atStart => exact ⟨0, by omega, rfl, Upd.refl _ _⟩
  case round =>
    obtain ⟨k, hk, rfl, hu⟩ := hrel
    have hc1 := (HB1.out.upd hu (fun h => h)).cell
    have hb2 := HB2.out.upd hu (fun h => h)
    have HB2' := Lib.hid hb2
    have HU2 := Lib.hid hu
    clear hu hb2
    rcases (by omega : k = 0 ∨ k = 1 ∨ k = 2) with rfl | rfl | rfl
    · have h0 : wr.cell? ⟨g + 1, 0, none⟩ = some (.pointer none) := hc1 0
      clear hc1
      go_wp2_with (first | (go_at_call 14; refine (feed_nilp A0 n0 c0 _).mono ?_; rintro e w2 ⟨rfl, rfl⟩) | (go_at_call 15; refine (ended_nilp _).mono ?_; rintro e w2 ⟨rfl, rfl⟩))
      exact ⟨⟨1, by omega, by rfl, HU2.out⟩, by simp only [intOf]; omega⟩
    · have h1 : wr.cell? ⟨g + 1, 1, none⟩ = some (.pointer (some ⟨g, 0, none⟩)) := hc1 1
      clear hc1
      go_wp2_with (first | (go_at_call 14; refine (feed_unmade A0 n0 c0 g _ HB2'.out).mono ?_; rintro e w2 ⟨rfl, rfl⟩) | (go_at_call 15; refine (ended_at g false _ (HB2'.out.cell 1)).mono ?_; rintro e w2 ⟨rfl, rfl⟩))
      exact ⟨⟨2, by omega, by rfl, HU2.out⟩, by simp only [intOf]; omega⟩
    · clear hc1
      go_wp2_with (go_at_call 16; refine (law_awake _ (HT.out.upd (HU.out.trans HU2.out fun _ _ h => h))).mono ?_; rintro e w2 ⟨rfl, hu2⟩; have HU3 := Lib.hid (HU.out.trans (HU2.out.trans hu2 fun _ _ h => h) fun _ _ h => h); clear hu2)
      go_ret
      exact ⟨rfl, HU3.out.belowNix (Nat.le_refl _)⟩
end Go.Proofs.YtbjjimbnaicbfaaDoor
