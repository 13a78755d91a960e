/- ciceroneref08.Same: of equal sets it says so. -/
import Derived.Test.YtlhbikdelbollaaEntryD
namespace Go.Proofs.Ytlhbikdelbollaa
open Go.RowKit Go.Cx Go.Maps

set_option maxRecDepth 100000 in
set_option maxHeartbeats 6400000 in
theorem same8 (nm zo : ByteArray) (ty cl ra ki ex : Int) (A A' : Option Addr) (n c c' : Nat) (rows rows' : List Row) (w : World) (h : RowsAt w w.heap.size A n c rows) (h' : RowsAt w w.heap.size A' n c' rows') (he : rows.map Row.l = rows'.map Row.l) :
    Calls Try.prog 11 #[.agg #[.string nm, .int .i64 ty, .int .i64 cl, .int .i64 ra, .int .i64 ki, .int .i64 ex, .string zo, .slice A n c], .agg #[.string nm, .int .i64 ty, .int .i64 cl, .int .i64 ra, .int .i64 ki, .int .i64 ex, .string zo, .slice A' n c']] w fun e w' => e = .returned (.bool true) ∧ Upd Nix w w' := by
  have H := Lib.hid h
  have H' := Lib.hid h'
  have HE := Lib.hid he
  have hnc := h.nc
  have hnc' := h'.nc
  have hsm := h.small
  clear h h' he
  go_enter Try.func11, Try.ntmps11
  go_wp2_with fail
  obtain ⟨g, hg⟩ : ∃ g, w.heap.size = g := ⟨_, rfl⟩
  have hb0 : Blk (w.alloc (.cells #[.string nm, .int .i64 ty, .int .i64 cl, .int .i64 ra, .int .i64 ki, .int .i64 ex, .string zo, .slice A n c] 28)) g 28 #[.string nm, .int .i64 ty, .int .i64 cl, .int .i64 ra, .int .i64 ki, .int .i64 ex, .string zo, .slice A n c] := Blk.new' _ _ _ hg.symm
  have hb1 := hb0.alloc (.cells #[.string nm, .int .i64 ty, .int .i64 cl, .int .i64 ra, .int .i64 ki, .int .i64 ex, .string zo, .slice A' n c'] 28)
  have hb2 : Blk ((w.alloc (.cells #[.string nm, .int .i64 ty, .int .i64 cl, .int .i64 ra, .int .i64 ki, .int .i64 ex, .string zo, .slice A n c] 28)).alloc (.cells #[.string nm, .int .i64 ty, .int .i64 cl, .int .i64 ra, .int .i64 ki, .int .i64 ex, .string zo, .slice A' n c'] 28)) (g + 1) 28 #[.string nm, .int .i64 ty, .int .i64 cl, .int .i64 ra, .int .i64 ki, .int .i64 ex, .string zo, .slice A' n c'] := Blk.new' _ _ _ (by simp [hg])
  have hu : Upd Nix w ((w.alloc (.cells #[.string nm, .int .i64 ty, .int .i64 cl, .int .i64 ra, .int .i64 ki, .int .i64 ex, .string zo, .slice A n c] 28)).alloc (.cells #[.string nm, .int .i64 ty, .int .i64 cl, .int .i64 ra, .int .i64 ki, .int .i64 ex, .string zo, .slice A' n c'] 28)) := ((Upd.refl _ _).alloc _).alloc _
  rw [hg]
  generalize ((w.alloc (.cells #[.string nm, .int .i64 ty, .int .i64 cl, .int .i64 ra, .int .i64 ki, .int .i64 ex, .string zo, .slice A n c] 28)).alloc (.cells #[.string nm, .int .i64 ty, .int .i64 cl, .int .i64 ra, .int .i64 ki, .int .i64 ex, .string zo, .slice A' n c'] 28)) = wa at *
  have HB1 := Lib.hid hb1
  have HB2 := Lib.hid hb2
  have HU := Lib.hid hu
  clear hb0 hb1 hb2 hu hg
  go_loopw [16] (fun s16 wr => ∃ k : Nat, k ≤ n ∧ s16 = .int .i64 k ∧ Upd Nix wa wr) (fun s16 _ => n - (intOf s16).toNat)
  case atStart => exact ⟨0, Nat.zero_le _, rfl, Upd.refl _ _⟩
  case round =>
    obtain ⟨k, hk, rfl, hur⟩ := hrel
    have hb1 := HB1.out.upd hur (by simp [Nix])
    have hb2 := HB2.out.upd hur (by simp [Nix])
    have hc1 : ∀ i, wr.cell? ⟨g, i, none⟩ = _ := fun i => hb1.cell i
    have hc2 : ∀ i, wr.cell? ⟨g + 1, i, none⟩ = _ := fun i => hb2.cell i
    have huw := HU.out.trans hur fun _ _ h => h
    have HUW := Lib.hid huw
    have HUR := Lib.hid hur
    by_cases hkn : k < n
    · have hki : (k : Int) < (n : Int) := by omega
      have hR := H.out.below (Upd.belowNix huw (Nat.le_refl _))
      have hR' := H'.out.below (Upd.belowNix huw (Nat.le_refl _))
      obtain ⟨ad, r, _, hr, hrm, hrc, hidx⟩ := hR.idx hkn
      obtain ⟨ad', r', _, hr', hrm', hrc', hidx'⟩ := hR'.idx hkn
      have hsl := (H.out.below (Upd.belowNix huw.drew (Nat.le_refl _))).each r hrm
      have hsl' := (H'.out.below (Upd.belowNix huw.drew (Nat.le_refl _))).each r' hrm'
      have hl : r'.l = r.l := by
        have h1 := congrArg (fun x => x[k]?) HE.out
        simp only [List.getElem?_map, hr, hr', Option.map_some, Option.some.injEq] at h1
        exact h1.symm
      have k1 := run_conv wr.drew hsl.rd r.c
      have k2 := run_conv wr.drew hsl'.rd r'.c
      rw [hl] at k2
      clear hR hR' hr hr' hrm hrm' hsl hsl' hl hb1 hb2 huw hur
      go_wp2_with fail
      go_region
      go_wp2_with fail
      refine ⟨⟨k + 1, by omega, by rfl, HUR.out.drew⟩, ?_⟩
      simp only [intOf]; omega
    · have hki : ¬ (k : Int) < (n : Int) := by omega
      clear hb1 hb2 huw hur
      go_wp2_with fail
      go_ret
      exact ⟨rfl, HUW.out⟩
end Go.Proofs.Ytlhbikdelbollaa
