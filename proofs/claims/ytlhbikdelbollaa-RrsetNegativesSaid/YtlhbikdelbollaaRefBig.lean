/- ciceroneref07.Big, ciceroneref08.bytes, Size: how many bytes an entry has. -/
import Derived.Test.YtlhbikdelbollaaRefSoa
import Derived.Deep.OwnRows
import Derived.Deep.RegionHeld3
namespace Go.Proofs.Ytlhbikdelbollaa
open Go.RowKit Go.Cx Go.Maps

/-- midway: j numbers are still 0 -/
def bigTo (x width j : Nat) : List Nat := List.replicate j 0 ++ beN (width - j) x
theorem bigTo_len (x width j : Nat) (h : j ≤ width) : (bigTo x width j).length = width := by unfold bigTo; rw [List.length_append, List.length_replicate, beN_len]; omega
theorem bigTo_step (x width j : Nat) (h : j + 1 ≤ width) : (bigTo x width (j + 1)).set j (x / 256 ^ (width - (j + 1)) % 256) = bigTo x width j := by
  unfold bigTo
  rw [show width - j = (width - (j + 1)) + 1 by omega, beN, List.replicate_succ', List.append_assoc, List.set_append_right _ _ (by simp)]
  simp
theorem madeU8 (n : Nat) : madeCells #[.int .u8 0] n = (byts (List.replicate n 0)).toArray := by
  apply Array.ext'
  simp [madeCells, byts]
  apply List.ext_getElem
  · simp
  · intro i h1 h2
    simp [Nat.mod_one]
theorem wrap_u8_small {z : Nat} (h : z < 256) : IntKind.u8.wrap (z : Int) = (z : Int) := by
  have : IntKind.u8.wrap (z : Int) = (z : Int) % 256 := by rfl
  omega
set_option maxRecDepth 100000 in
set_option maxHeartbeats 3200000 in
theorem ref_big (x width : Nat) (hx : x < 4611686018427387904) (hw : 1 ≤ width ∧ width ≤ 8) (w : World) :
    Calls Try.prog 92 #[.int .i64 x, .int .i64 width] w fun e w' => e = .returned (.slice (some ⟨w.heap.size, 0, none⟩) width width) ∧ w'.ownsRow w.heap.size 5 1 (.slice (some ⟨w.heap.size, 0, none⟩) width width) width (byts (beN width x)) ∧ Upd Nix w w' := by
  have hmk := run_make_row' (P := Try.prog) 33 5 (.int .u8 0) 1 Try.underlying33 infoU8 rfl .i64 .i64 width (by omega) (by omega)
  go_enter Try.func92, Try.ntmps92
  go_wp2_with fail
  obtain ⟨g, hg⟩ : ∃ g, w.heap.size = g := ⟨_, rfl⟩
  have hb : Blk (w.alloc (.cells (byts (bigTo x width width)).toArray 5)) g 5 (byts (bigTo x width width)).toArray := Blk.new' _ _ _ hg.symm
  have hu : Below g w (w.alloc (.cells (byts (bigTo x width width)).toArray 5)) := (Below.refl _ _).alloc (by omega) _
  have he : bigTo x width width = List.replicate width 0 := by unfold bigTo; rw [Nat.sub_self]; simp [beN]
  rw [he, ← madeU8] at hb hu
  rw [hg]
  generalize w.alloc (.cells (madeCells #[.int .u8 0] width) 5) = wa at *
  have HB := Lib.hid hb
  have HU := Lib.hid hu
  have HE := Lib.hid he
  clear hb hu he hmk
  go_loopw [0, 6] (fun s0 s6 wr => ∃ j : Nat, j ≤ width ∧ s6 = .int .i64 ((j : Int) - 1) ∧ s0 = .int .i64 ((x / 256 ^ (width - j) : Nat) : Int) ∧ Blk wr g 5 (byts (bigTo x width j)).toArray ∧ Below g w wr) (fun _ s6 _ => (intOf s6 + 1).toNat)
  case atStart => exact ⟨width, Nat.le_refl _, rfl, by rw [Nat.sub_self, Nat.pow_zero, Nat.div_one], by rw [HE.out, ← madeU8]; exact HB.out, HU.out⟩
  case round =>
    obtain ⟨j, hj, rfl, rfl, hb, hu⟩ := hrel
    cases j with
    | zero =>
      have HBB := Lib.hid hb
      have HUU := Lib.hid hu
      clear hb hu
      have hi : ¬ (0 : Int) ≤ ((0 : Nat) : Int) - 1 := by omega
      go_wp2_with fail
      go_ret
      refine ⟨rfl, ?_, Upd.of_below' (by rw [hg]; exact HUU.out)⟩
      have h1 := HBB.out
      unfold bigTo at h1
      simp only [List.replicate_zero, List.nil_append, Nat.sub_zero] at h1
      have h2 : (byts (beN width x)).length = width := by simp [byts, beN_len]
      refine ⟨by simp [h2], .inr ⟨g, width, _, rfl, Nat.le_refl _, h1, Nat.le_refl _, ?_⟩⟩
      simp [h2]
      exact ⟨by unfold maxLen; omega, by rw [List.take_of_length_le (by omega)]⟩
    | succ j =>
      have e1 : (((j + 1 : Nat) : Int) - 1) = (j : Int) := by omega
      rw [e1]
      obtain ⟨y, hy⟩ : ∃ y, x / 256 ^ (width - (j + 1)) = y := ⟨_, rfl⟩
      have hyx : y ≤ x := by rw [← hy]; exact Nat.div_le_self _ _
      have hnext : y / 256 = x / 256 ^ (width - j) := by rw [← hy, Nat.div_div_eq_div_mul, show width - j = (width - (j + 1)) + 1 by omega, Nat.pow_succ]
      have hset := hb.set j (.int .u8 ((y % 256 : Nat) : Int))
      rw [List.setIfInBounds_toArray] at hset
      have hst := bigTo_step x width j hj
      rw [hy] at hst
      have hset2 : (byts (bigTo x width (j + 1))).set j (.int .u8 ((y % 256 : Nat) : Int)) = byts (bigTo x width j) := by
        rw [← hst]; unfold byts; rw [← List.map_set]
      rw [hset2] at hset
      rw [hy]
      have hi : (0 : Int) ≤ (j : Int) := by omega
      have hfree : wr.frozen? ⟨g, j, none⟩ = false := hb.free j
      have hcell : wr.cell? ⟨g, j, none⟩ = some (.int .u8 0) := by
        rw [hb.cell]
        simp [byts, bigTo, List.getElem?_append_left]
      obtain ⟨z, hz⟩ : ∃ z, y % 256 = z := ⟨_, rfl⟩
      obtain ⟨y2, hy2⟩ : ∃ y2, y / 256 = y2 := ⟨_, rfl⟩
      have hm : (y : Int) % 256 = (z : Int) := by omega
      have hd : (y : Int) / 256 = (y2 : Int) := by omega
      have hz256 : z < 256 := by omega
      rw [hz] at hset
      rw [hy2] at hnext
      have HSET := Lib.hid hset
      have HUU := Lib.hid hu
      have HNX := Lib.hid hnext
      have hwz : IntKind.u8.wrap (z : Int) = (z : Int) := wrap_u8_small hz256
      clear hb hu hst hset2 hset hnext hy hz hy2
      go_wp2_with fail
      refine ⟨⟨j, by omega, ?_, ?_, HSET.out, HUU.out.setCell (Nat.le_refl _) _⟩, ?_⟩
      · rfl
      · rw [← HNX.out]
      · simp only [intOf]; omega
end Go.Proofs.Ytlhbikdelbollaa
