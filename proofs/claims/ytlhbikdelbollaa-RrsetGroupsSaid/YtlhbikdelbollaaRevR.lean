/- slices.Reverse of slices of bytes. -/
import Derived.Test.YtlhbikdelbollaaCloneR
namespace Go.Proofs.Ytlhbikdelbollaa
open Go.RowKit Go.Cx Go.Maps

set_option maxRecDepth 100000 in
theorem idx_blk (g n c i : Nat) (hi : i < n) (W : World) : (Instr.indexAt 26 (.slice (some ⟨g, 0, none⟩) n c) (.int .i64 (i : Int))).run Try.prog W = .ok (.pointer (some ⟨g, i, none⟩)) W := by
  rw [run_indexAt_slice W 26 ⟨g, 0, none⟩ n c .i64 (i : Int) Try.underlying26, if_pos ⟨by omega, by omega⟩, sizeRows W]
  have hadd : (⟨g, 0, none⟩ : Addr).add i = ⟨g, i, none⟩ := by unfold Addr.add; split <;> simp_all
  simp [Result.andThen, hadd]
set_option maxRecDepth 100000 in
set_option maxHeartbeats 3200000 in
theorem rev_nil (A : Option Addr) (c : Nat) (w : World) : Calls Try.prog 29 #[.slice A 0 c] w fun e w' => e = .returned (.tuple #[]) ∧ w = w' := by
  go_enter Try.func29, Try.ntmps29
  go_wp2_with fail
  go_loopw [2, 3] (fun s2 s3 wr => s2 = .int .i64 0 ∧ s3 = .int .i64 (-1) ∧ w = wr) (fun _ _ _ => 0)
  case atStart => exact ⟨rfl, rfl, rfl⟩
  case round =>
    obtain ⟨rfl, rfl, rfl⟩ := hrel
    go_wp2_with fail
    go_end0
    exact ⟨rfl, rfl⟩
structure RevAt (w : World) (g cap n : Nat) (R : List Row) (k : Nat) (Y : List Row) (wr : World) : Prop where
  blk : RowBlk wr g cap Y
  len : Y.length = n
  at' : ∀ m, m < n → Y[m]? = if m < k ∨ n - 1 - k < m then R[n - 1 - m]? else R[m]?
  upd : Upd (One g) w wr
set_option maxRecDepth 100000 in
set_option maxHeartbeats 3200000 in
theorem rev_rows (w : World) (g n cap base : Nat) (R : List Row) (hown : w.ownsRow base 33 1 (.slice (some ⟨g, 0, none⟩) n cap) n (R.map Row.val)) (hn : 0 < n) (hn2 : n ≤ 1000000) :
    Calls Try.prog 29 #[.slice (some ⟨g, 0, none⟩) n cap] w fun e w' =>
      e = .returned (.tuple #[]) ∧ w'.ownsRow base 33 1 (.slice (some ⟨g, 0, none⟩) n cap) n (R.reverse.map Row.val) ∧ Upd (One g) w w' := by
  obtain ⟨hblk, hlen, hnc, hbg, hml⟩ := RowBlk.of hown
  have HML := Lib.hid hml
  have HB := Lib.hid hblk
  have HL := Lib.hid hlen
  clear hown hblk hlen hml
  go_enter Try.func29, Try.ntmps29
  go_wp2_with fail
  go_loopw [2, 3] (fun s2 s3 wr => ∃ (k : Nat) (Y : List Row), s2 = .int .i64 k ∧ s3 = .int .i64 ((n - 1 - k : Nat) : Int) ∧ 2 * k ≤ n ∧ RevAt w g cap n R k Y wr) (fun s2 _ _ => n - (intOf s2).toNat)
  case atStart =>
    refine ⟨0, R, rfl, ?_, by omega, HB.out, HL.out, fun m hm => ?_, Upd.refl _ _⟩
    · exact congrArg (Value.int .i64) (by omega)
    · rw [if_neg (by omega)]
  case round =>
    obtain ⟨k, Y, rfl, rfl, hk, hat⟩ := hrel
    have HAT := Lib.hid hat
    clear hat
    by_cases hkj : k < n - 1 - k
    · have hki : (k : Int) < ((n - 1 - k : Nat) : Int) := by omega
      obtain ⟨ri, hri⟩ : ∃ r, Y[k]? = some r := ⟨_, List.getElem?_eq_getElem (by have := HAT.out.len; omega)⟩
      obtain ⟨rj, hrj⟩ : ∃ r, Y[n - 1 - k]? = some r := ⟨_, List.getElem?_eq_getElem (by have := HAT.out.len; omega)⟩
      obtain ⟨j, hj⟩ : ∃ j, n - 1 - k = j := ⟨_, rfl⟩
      rw [hj] at hrj hkj hki ⊢
      have hci := HAT.out.blk.cell hri
      have hcj := HAT.out.blk.cell hrj
      have hfi := HAT.out.blk.free k
      have hfj := HAT.out.blk.free j
      have hii := idx_blk g n cap k (by omega)
      have hij := idx_blk g n cap j (by omega)
      have hgl := HAT.out.blk.lt
      have HRI := Lib.hid hri
      have HRJ := Lib.hid hrj
      have HJ := Lib.hid hj
      clear hri hrj hj
      go_wp2_with fail
      go_region
      go_wp2_with fail
      have hyl := HAT.out.len
      refine ⟨⟨k + 1, (Y.set k rj).set j ri, by rfl, congrArg (Value.int .i64) (by have := HJ.out; unfold wrap64; omega), by have := HJ.out; omega, ((HAT.out.blk.set k rj).set j ri).keep rfl, by rw [List.length_set, List.length_set]; exact hyl, fun m hm => ?_, ((HAT.out.upd.set rfl _).set rfl _).drew⟩, ?_⟩
      · have hjj := HJ.out
        have h1 := HAT.out.at' k (by omega)
        have h2 := HAT.out.at' j (by omega)
        rw [HRI.out, if_neg (by omega)] at h1
        rw [HRJ.out, if_neg (by omega)] at h2
        by_cases c1 : m = j
        · subst c1
          rw [List.getElem?_set_self (by rw [List.length_set]; omega), if_pos (by omega), h1, show n - 1 - m = k by omega]
        · rw [List.getElem?_set_ne (by omega)]
          by_cases c2 : m = k
          · subst c2
            rw [List.getElem?_set_self (by omega), if_pos (by omega), h2, show n - 1 - m = j by omega]
          · rw [List.getElem?_set_ne (by omega), HAT.out.at' m hm]
            by_cases c3 : m < k ∨ n - 1 - k < m
            · rw [if_pos c3, if_pos (by omega)]
            · rw [if_neg c3, if_neg (by omega)]
      · simp only [intOf]; omega
    · have hki : ¬ (k : Int) < ((n - 1 - k : Nat) : Int) := by omega
      go_wp2_with fail
      go_end0
      have hY : Y = R.reverse := by
        refine List.ext_getElem? fun m => ?_
        by_cases hm : m < n
        · rw [HAT.out.at' m hm, List.getElem?_reverse (by rw [HL.out]; exact hm), HL.out]
          split
          · rfl
          · rw [show n - 1 - m = m by omega]
        · rw [List.getElem?_eq_none (by have := HAT.out.len; omega), List.getElem?_eq_none (by rw [List.length_reverse, HL.out]; omega)]
      exact ⟨rfl, by rw [← List.map_reverse, ← hY]; exact HAT.out.blk.owns hbg HML.out HAT.out.len, HAT.out.upd⟩
end Go.Proofs.Ytlhbikdelbollaa
