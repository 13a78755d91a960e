/- HttpBad: the walk. -/
import Derived.Test.YtbjjimbnaicbfaaDoorHttpNob
namespace Go.Proofs.YtbjjimbnaicbfaaDoor
open Go.RowKit Go.Cx Go.Maps

set_option maxRecDepth 100000 in
theorem feed_off (A : Option Addr) (n c rb : Nat) (v : Value) (p : Option Addr) (w : World) (h : Blk w rb 42 #[.bool true, .bool true, v, .pointer p]) : Calls Tryd.prog 14 #[.pointer (some ⟨rb, 0, none⟩), .slice A n c] w fun e w' => e = .returned (.tuple #[.slice none 0 0, .int .i64 0]) ∧ w = w' := by
  have h0 : w.cell? ⟨rb, 0, none⟩ = some (.bool true) := h.cell 0
  have h1 : w.cell? ⟨rb, 1, none⟩ = some (.bool true) := h.cell 1
  clear h
  go_enter Tryd.func14, Tryd.ntmps14
  go_wp2_with fail
  go_loopw [6] (fun s6 wr => s6 = .slice none 0 0 ∧ w = wr) (fun _ _ => 0)
  case atStart => exact ⟨rfl, rfl⟩
  case round =>
    obtain ⟨rfl, rfl⟩ := hrel
    go_wp2_with fail
    go_ret2
    exact ⟨rfl, rfl⟩
def badHeads : List (List Nat) := [[71, 69, 84, 32, 47, 32, 72, 84, 84, 80, 47, 49, 46, 49, 13, 10, 13, 10],
  [80, 79, 83, 84, 32, 47, 100, 110, 115, 45, 113, 117, 101, 114, 121, 32, 72, 84, 84, 80, 47, 49, 46, 49, 13, 10, 67, 111, 110, 116, 101, 110, 116, 45, 76, 101, 110, 103, 116, 104, 58, 32, 48, 13, 10, 13, 10],
  [80, 79, 83, 84, 32, 47, 100, 110, 115, 45, 113, 117, 101, 114, 121, 32, 72, 84, 84, 80, 47, 49, 46, 49, 13, 10, 67, 111, 110, 116, 101, 110, 116, 45, 84, 121, 112, 101, 58, 32, 97, 112, 112, 108, 105, 99, 97, 116, 105, 111, 110, 47, 100, 110, 115, 45, 109, 101, 115, 115, 97, 103, 101, 13, 10, 13, 10],
  [10], [13, 13], [1], [13, 10]]
theorem bad_feed : ∀ x ∈ badHeads, feedH ⟨false, [], (none : Option BdV).map BdV.d⟩ x = (([], 130), ⟨true, [], none⟩) := by
  intro x hx
  simp only [badHeads, List.mem_cons, List.not_mem_nil, or_false] at hx
  rcases hx with rfl | rfl | rfl | rfl | rfl | rfl | rfl <;> kernel_rfl
set_option maxRecDepth 100000 in
set_option maxHeartbeats 6400000 in
theorem httpBad (r0 : Row) (nn : Int) (w : World) (_h : RowIn w w.heap.size r0) (_hz : (Lit.int .i64 nn).wf = true) : Calls Tryd.prog 4 #[r0.val, .int .i64 nn] w fun e w' => e = .returned (.bool true) ∧ Below w.heap.size w w' := by
  obtain ⟨A0, n0, c0, l0⟩ := r0
  unfold Row.val
  simp only
  go_enter Tryd.func4, Tryd.ntmps4
  go_upto_region 2 with fail
  have hb0 := Blk.new w 9 (badHeads.map fun l => Value.string (strN l)).toArray
  have hg : ∀ i, i < 7 → ∃ s l, (badHeads.map fun l => Value.string (strN l)).toArray[i]? = some (.string s) ∧ bytesOf s = l ∧ l ∈ badHeads := fun i hi => by
    rcases (by omega : i = 0 ∨ i = 1 ∨ i = 2 ∨ i = 3 ∨ i = 4 ∨ i = 5 ∨ i = 6) with rfl | rfl | rfl | rfl | rfl | rfl | rfl
    all_goals exact ⟨_, _, rfl, bytesOf_strN (by decide), by simp [badHeads]⟩
  have harr : (badHeads.map fun l => Value.string (strN l)).toArray = #[Value.string { data := #[71, 69, 84, 32, 47, 32, 72, 84, 84, 80, 47, 49, 46, 49, 13, 10, 13, 10] },
      Value.string { data := #[80, 79, 83, 84, 32, 47, 100, 110, 115, 45, 113, 117, 101, 114, 121, 32, 72, 84, 84, 80, 47, 49, 46, 49, 13, 10, 67, 111, 110, 116, 101, 110, 116, 45, 76, 101, 110, 103, 116, 104, 58, 32, 48, 13, 10, 13, 10] },
      Value.string { data := #[80, 79, 83, 84, 32, 47, 100, 110, 115, 45, 113, 117, 101, 114, 121, 32, 72, 84, 84, 80, 47, 49, 46, 49, 13, 10, 67, 111, 110, 116, 101, 110, 116, 45, 84, 121, 112, 101, 58, 32, 97, 112, 112, 108, 105, 99, 97, 116, 105, 111, 110, 47, 100, 110, 115, 45, 109, 101, 115, 115, 97, 103, 101, 13, 10, 13, 10] },
      Value.string { data := #[10] }, Value.string { data := #[13, 13] }, Value.string { data := #[1] }, Value.string { data := #[13, 10] }] := by kernel_rfl
  have hu0 : Upd Nix w (w.alloc (.cells (badHeads.map fun l => Value.string (strN l)).toArray 9)) := (Upd.refl _ _).alloc _
  rw [harr] at hb0 hu0 hg
  generalize hwa : w.alloc (.cells #[Value.string { data := #[71, 69, 84, 32, 47, 32, 72, 84, 84, 80, 47, 49, 46, 49, 13, 10, 13, 10] }, _, _, _, _, _, _] 9) = wa at *
  clear harr hwa
  obtain ⟨k, hk, hkl⟩ : ∃ k : Nat, wrap64 ((IntKind.u64.wrap nn).tmod 7) = (k : Int) ∧ k < 7 := by
    have h1 := Int.emod_nonneg (nn % 18446744073709551616) (show (7 : Int) ≠ 0 by omega)
    have h2 := Int.emod_lt_of_pos (nn % 18446744073709551616) (show (0 : Int) < 7 by omega)
    refine ⟨(nn % 18446744073709551616 % 7).toNat, ?_, by omega⟩
    rw [IntKind.wrap_u64, Int.tmod_eq_emod_of_nonneg (by omega)]
    generalize nn % 18446744073709551616 % (7 : Int) = q at h1 h2 ⊢
    unfold wrap64
    omega
  have hk0 : 0 ≤ wrap64 ((IntKind.u64.wrap nn).tmod 7) := by omega
  have hk1 : wrap64 ((IntKind.u64.wrap nn).tmod 7) < 7 := by omega
  have hkt : (wrap64 ((IntKind.u64.wrap nn).tmod 7)).toNat = k := by omega
  obtain ⟨s, l, hs, hsl, hmem⟩ := hg k hkl
  have hcell : wa.cell? ⟨w.heap.size, (wrap64 ((IntKind.u64.wrap nn).tmod 7)).toNat, none⟩ = some (.string s) := by rw [hkt, hb0.cell]; exact hs
  have hbad := bad_feed l hmem
  have hs100 : s.size ≤ 100 := by
    have hall : ∀ l ∈ badHeads, l.length ≤ 100 := by decide
    rw [← bytesOf_len, hsl]
    exact hall l hmem
  have hgl := hb0.lt
  have kc := fun (w : World) (s : ByteArray) => Lib.run_convert_string_bytes (P := Tryd.prog) w 9 22 5 s Tryd.underlying9 Tryd.underlying22 Tryd.underlying5
  have HBAD := Lib.hid hbad
  have HSL := Lib.hid hsl
  have HU0 := Lib.hid hu0
  clear hb0 hg hs hbad hsl hkt hk hkl hmem hu0
  go_wp2_with fail
  refine (http_new _).mono ?_
  rintro e w2 ⟨rfl, rfl⟩
  have hrd := new_rd wa
  have hu2 : Upd Nix wa (wa.alloc (.cells #[.bool true, .bool false, .slice none 0 0, .pointer none] 42)) := (Upd.refl _ _).alloc _
  have hcell2 : (wa.alloc (.cells #[.bool true, .bool false, .slice none 0 0, .pointer none] 42)).cell? ⟨w.heap.size, (wrap64 ((IntKind.u64.wrap nn).tmod 7)).toNat, none⟩ = some (.string s) := (World.cell?_alloc_lt wa _ _ hgl).trans hcell
  generalize (wa.alloc (.cells #[.bool true, .bool false, .slice none 0 0, .pointer none] 42)) = w2 at *
  have HRD := Lib.hid hrd
  have HU2 := Lib.hid hu2
  clear hrd hu2 hcell
  go_wp2_with fail
  have hu3 := upd_str w2 5 s
  have hr3 := Rd.str w2 5 s
  rw [HSL.out, ← Lib.bytesWorld_size w2 5 s] at hr3
  have hsz : wa.heap.size ≤ (Lib.bytesWorld w2 5 s).heap.size := Nat.le_trans HU2.out.size hu3.size
  have hlt : ∀ b ∈ l, b < 256 := fun b hb => by rw [← HSL.out] at hb; exact bytesOf_lt s b hb
  refine (http_feed wa.heap.size wa.heap.size (.slice none 0 0) [] none _ s.size _ l _ (HRD.out.upd hu3 fun _ _ h => h) hr3 hlt (by decide) (by omega) hsz).mono ?_
  rintro e w4 ⟨A4, c4, rqs, bv4, body4, rfl, hsaid, hfd⟩
  rw [HBAD.out] at hsaid hfd ⊢
  obtain rfl : rqs = [] := List.map_eq_nil_iff.1 hsaid
  obtain ⟨v, p, hblk⟩ := hfd.off rfl
  have hu4 : Upd Nix w w4 := ((HU0.out.trans HU2.out fun _ _ h => h).trans hu3 fun _ _ h => h).trans hfd.upd fun b hb hf => by
    rcases hf with rfl | hb2 | ⟨x, hx, _⟩
    · have := HU0.out.size; omega
    · cases hb2
    · cases hx
  have HBLK := Lib.hid hblk
  have HU4 := Lib.hid hu4
  clear hfd hsaid hblk hu4 hu3 hr3
  simp only [List.length_nil]
  go_wp2_with (first | (go_at_call 14; refine (feed_off A0 n0 c0 _ v p _ HBLK.out).mono ?_; rintro e w5 ⟨rfl, rfl⟩) | (go_at_call 15; refine (ended_at _ true _ (HBLK.out.cell 1)).mono ?_; rintro e w5 ⟨rfl, rfl⟩))
  go_ret
  exact ⟨rfl, HU4.out.belowNix (Nat.le_refl _)⟩
end Go.Proofs.YtbjjimbnaicbfaaDoor
