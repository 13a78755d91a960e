/- ciceroneref03: First, SOA, Can at an SOA. -/
import Derived.Test.YtlhbikdelbollaaRefCan
import Derived.Deep.RegionWith
namespace Go.Proofs.Ytlhbikdelbollaa
open Go.RowKit Go.Cx Go.Maps

set_option maxRecDepth 100000 in
set_option maxHeartbeats 3200000 in
theorem ref_first (A : Option Addr) (n c : Nat) (l : List Nat) (w : World) (B : Nat) (h : Sl w B A n c l) (_hB : B ≤ w.heap.size) :
    Calls Try.prog 64 #[.slice A n c] w fun e w' => CutIs l B e w' ∧ Upd Nix w w' := by
  have hl := h.llen
  have hnc := h.nc
  have hn := h.len
  have H := Lib.hid h
  have HL := Lib.hid hl
  clear h hl
  go_enter Try.func64, Try.ntmps64
  go_wp2_with fail
  go_loopw [5] (fun s4 wr => w = wr ∧ ∃ k : Nat, 1 ≤ k ∧ k ≤ n + 1 ∧ k ≤ 256 ∧ s4 = .int .i64 k ∧ Hid (∀ j, 1 ≤ j → j < k → canL (l.take j) = false)) (fun s4 _ => n + 1 - (intOf s4).toNat)
  case atStart => exact ⟨rfl, 1, by omega, by omega, by omega, rfl, Lib.hid fun j h1 h2 => by omega⟩
  case round =>
    obtain ⟨rfl, k, hk1, hkn, hk256, rfl, HNO⟩ := hrel
    by_cases hkn2 : k ≤ n
    · have hi : (k : Int) ≤ (n : Int) := by omega
      have hic : (k : Int) ≤ (c : Int) := by omega
      have hi0 : (0 : Int) ≤ (k : Int) := by omega
      obtain ⟨ad, rfl, _⟩ := H.out.rd.2 (by omega)
      by_cases h255 : k ≤ 255
      · have hi2 : (k : Int) ≤ 255 := by omega
        have hfr := H.out.front hkn2
        have k1 := run_conv w hfr.rd c
        have k2 := fun q => run_conv (w.drewN q) (hfr.rd.drewN q) c
        have hs : (strN (l.take k)).size = k := by rw [strN_size, List.length_take, HL.out]; omega
        have hbs := bytesOf_strN hfr.bytes
        obtain ⟨st, hst⟩ : ∃ st, strN (l.take k) = st := ⟨_, rfl⟩
        rw [hst] at k1 hs hbs
        simp only [hst] at k2
        have HBS := Lib.hid hbs
        clear hfr hbs hst
        go_wp2_with fail
        refine (ref_can st w (by omega)).mono ?_
        rintro e w1 ⟨rfl, rfl⟩
        rw [HBS.out]
        cases hc : canL (l.take k) with
        | true =>
          have HCUT := Lib.hid (cutL_some (by rw [HL.out]; exact hkn2) hc)
          clear hc
          have hsl := H.out.cut hkn2
          have HSL := Lib.hid hsl
          clear hsl
          by_cases hck : c = k
          · subst hck
            go_wp2_with fail
            go_quiet (fail)
            go_wp2_with fail
            refine bodyPost_ret (results_tmp3 rfl _ _ _) rfl ?_
            have h1 := HSL.out
            rw [if_pos trivial, Nat.sub_self, show n - c = 0 by omega] at h1
            exact ⟨.inr ⟨_, _, st, some ad, 0, 0, HCUT.out, HBS.out, h1.drewN _, rfl⟩, (Upd.refl _ _).drewN _⟩
          · go_wp2_with fail
            go_quiet (fail)
            go_wp2_with fail
            refine bodyPost_ret (results_tmp3 rfl _ _ _) rfl ?_
            have h1 := HSL.out
            rw [if_neg hck] at h1
            exact ⟨.inr ⟨_, _, st, _, n - k, c - k, HCUT.out, HBS.out, h1.drewN _, rfl⟩, (Upd.refl _ _).drewN _⟩
        | false =>
          have hc2 : ∀ j, 1 ≤ j → j < k + 1 → canL (l.take j) = false := fun j h1 h2 => by
            rcases Nat.lt_or_ge j k with h | h
            · exact HNO.out j h1 h
            · obtain rfl : j = k := by omega
              exact hc
          have HC2 := Lib.hid hc2
          clear hc hc2
          go_wp2_with fail
          refine ⟨⟨trivial, k + 1, by omega, by omega, by omega, by rfl, HC2⟩, ?_⟩
          simp only [intOf]; omega
      · have hi2 : ¬ (k : Int) ≤ 255 := by omega
        have HCUT := Lib.hid (cutL_none (b := l) fun j h1 h2 h3 => HNO.out j h1 (by omega))
        go_wp2_with fail
        refine bodyPost_ret (results_tmp3 rfl _ _ _) rfl ?_
        exact ⟨.inl ⟨HCUT.out, rfl⟩, Upd.refl _ _⟩
    · have hi : ¬ (k : Int) ≤ (n : Int) := by omega
      have HCUT := Lib.hid (cutL_none (b := l) fun j h1 h2 h3 => HNO.out j h1 (by rw [HL.out] at h2; omega))
      go_wp2_with fail
      refine bodyPost_ret (results_tmp3 rfl _ _ _) rfl ?_
      exact ⟨.inl ⟨HCUT.out, rfl⟩, Upd.refl _ _⟩
set_option maxRecDepth 100000 in
set_option maxHeartbeats 3200000 in
theorem ref_four (A : Option Addr) (n c : Nat) (l : List Nat) (w : World) (B : Nat) (h : Sl w B A n c l) (h4 : 4 ≤ n) :
    Calls Try.prog 65 #[.slice A n c] w fun e w' => e = .returned (.int .i64 (bigN (l.take 4) : Nat)) ∧ ∃ q, w' = w.drewN q := by
  have hl := h.llen
  obtain ⟨a, b, x, y, t, rfl⟩ := four_of (l := l) (by omega)
  obtain ⟨ad, rfl, hB, c0⟩ := h.cell0
  obtain ⟨ad', h1, _, c1⟩ := h.cellk (i := 1) (b := b) rfl (by omega)
  injection h1 with h1
  subst h1
  obtain ⟨ad', h1, _, c2⟩ := h.cellk (i := 2) (b := x) rfl (by omega)
  injection h1 with h1
  subst h1
  obtain ⟨ad', h1, _, c3⟩ := h.cellk (i := 3) (b := y) rfl (by omega)
  injection h1 with h1
  subst h1
  have ha := h.bytes a (by simp)
  have hb := h.bytes b (by simp)
  have hx := h.bytes x (by simp)
  have hy := h.bytes y (by simp)
  have hv : ((bigN ((a :: b :: x :: y :: t).take 4) : Nat) : Int) = (((a : Int) * 256 + b) * 256 + x) * 256 + y := by
    simp [bigN]
  have HV := Lib.hid hv
  clear h hl hv
  go_enter Try.func65, Try.ntmps65
  go_wp2_with fail
  go_quiet (fail)
  go_wp2_with fail
  go_ret
  exact ⟨ret_int HV.out.symm, _, rfl⟩
theorem soaL_none1 {l : List Nat} (h : cutL l = none) : soaL l = none := by unfold soaL; rw [h]
theorem soaL_none2 {l m r : List Nat} (h : cutL l = some (m, r)) (h2 : cutL r = none) : soaL l = none := by unfold soaL; rw [h]; simp only; rw [h2]
theorem soaL_none3 {l m r m2 r2 : List Nat} (h : cutL l = some (m, r)) (h2 : cutL r = some (m2, r2)) (h3 : r2.length ≠ 20) : soaL l = none := by unfold soaL; rw [h]; simp only; rw [h2]; simp only; rw [if_neg h3]
theorem soaL_some {l m r m2 r2 : List Nat} (h : cutL l = some (m, r)) (h2 : cutL r = some (m2, r2)) (h3 : r2.length = 20) : soaL l = some ⟨m, m2, five r2⟩ := by unfold soaL; rw [h]; simp only; rw [h2]; simp only; rw [if_pos h3]; rfl
theorem cutL_small {l m r : List Nat} (h : cutL l = some (m, r)) : m.length ≤ 255 ∧ canL m = true := by
  unfold cutL at h
  split at h
  · rename_i h1
    simp only [Option.some.injEq, Prod.mk.injEq] at h
    obtain ⟨rfl, rfl⟩ := h
    exact ⟨(canL_rest h1.2).2, h1.2⟩
  · cases h
set_option maxRecDepth 100000 in
set_option maxHeartbeats 3200000 in
theorem ref_soa (A : Option Addr) (n c : Nat) (l : List Nat) (w : World) (h : Sl w w.heap.size A n c l) :
    Calls Try.prog 45 #[.slice A n c] w fun e w' => SoaIs l e ∧ Upd Nix w w' := by
  have H := Lib.hid h
  clear h
  go_enter Try.func45, Try.ntmps45
  go_upto_region 1 with fail
  have hb0 : Blk (w.alloc (.cells (soaCells ⟨#[]⟩ ⟨#[]⟩ 0 0 0 0 0) 66)) w.heap.size 66 (soaCells ⟨#[]⟩ ⟨#[]⟩ 0 0 0 0 0) := Blk.new w _ _
  have hu0 : Upd Nix w (w.alloc (.cells (soaCells ⟨#[]⟩ ⟨#[]⟩ 0 0 0 0 0) 66)) := (Upd.refl _ _).alloc _
  unfold soaCells at hb0 hu0
  obtain ⟨g, hg⟩ : ∃ g, w.heap.size = g := ⟨_, rfl⟩
  have hgB : g ≤ w.heap.size := by omega
  rw [hg] at hb0 ⊢
  generalize w.alloc (.cells #[.string ⟨#[]⟩, .string ⟨#[]⟩, .int .i64 0, .int .i64 0, .int .i64 0, .int .i64 0, .int .i64 0] 66) = wa at *
  have HB0 := Lib.hid hb0
  have HU0 := Lib.hid hu0
  have hF := Lib.hid (ref_first A n c l wa _ (H.out.upd hu0) (Nat.le_refl _))
  clear hb0 hu0
  go_wp2_with fail
  refine hF.out.mono ?_
  rintro e w1 ⟨⟨hc, rfl⟩ | ⟨m, r, s, A1, n1, c1, hc, hs, hsl, rfl⟩, hu1⟩
  · have HV := Lib.hid (soaL_none1 hc)
    have hb1 := HB0.out.upd hu1 (by simp [Nix])
    have HU := Lib.hid ((HU0.out.trans hu1 fun _ _ h => h).below hgB fun _ _ h => h.elim)
    have hlt0 := hb1.lt
    have hc0 : ∀ i, w1.cell? ⟨g, i, none⟩ = _ := fun i => hb1.cell i
    have hf0 : ∀ i, w1.frozen? ⟨g, i, none⟩ = _ := fun i => hb1.free i
    clear hc hu1 hb1
    go_wp2_with fail
    refine bodyPost_ret (v := .tuple #[.agg (soaCells ⟨#[]⟩ ⟨#[]⟩ 0 0 0 0 0), .bool false]) (by simp [results, Try.results45, soaCells, go_sem, hc0]) rfl ?_
    refine ⟨.inl ⟨HV.out, rfl⟩, Upd.of_below' ?_⟩
    rw [hg]
    exact (((((((HU.out.setCell (by simp) _).setCell (by simp) _).setCell (by simp) _).setCell (by simp) _).setCell (by simp) _).setCell (by simp) _).setCell (by simp) _)
  · have HC := Lib.hid hc
    have HS := Lib.hid hs
    have HU1 := Lib.hid hu1
    have hF2 := Lib.hid (ref_first A1 n1 c1 r w1 _ hsl hu1.size)
    clear hc hs hsl hu1
    go_wp2_with fail
    refine hF2.out.mono ?_
    rintro e w2 ⟨⟨hc, rfl⟩ | ⟨m2, r2, s2, A2, n2, c2, hc, hs, hsl, rfl⟩, hu2⟩
    · have HV := Lib.hid (soaL_none2 HC.out hc)
      have hb1 := HB0.out.upd (HU1.out.trans hu2 fun _ _ h => h) (by simp [Nix])
      have HU := Lib.hid ((HU0.out.trans (HU1.out.trans hu2 fun _ _ h => h) fun _ _ h => h).below hgB fun _ _ h => h.elim)
      have hlt0 := hb1.lt
      have hc0 : ∀ i, w2.cell? ⟨g, i, none⟩ = _ := fun i => hb1.cell i
      have hf0 : ∀ i, w2.frozen? ⟨g, i, none⟩ = _ := fun i => hb1.free i
      clear hc hu2 hb1
      go_wp2_with fail
      refine bodyPost_ret (v := .tuple #[.agg (soaCells ⟨#[]⟩ ⟨#[]⟩ 0 0 0 0 0), .bool false]) (by simp [results, Try.results45, soaCells, go_sem, hc0]) rfl ?_
      refine ⟨.inl ⟨HV.out, rfl⟩, Upd.of_below' ?_⟩
      rw [hg]
      exact (((((((HU.out.setCell (by simp) _).setCell (by simp) _).setCell (by simp) _).setCell (by simp) _).setCell (by simp) _).setCell (by simp) _).setCell (by simp) _)
    · have hn2 := hsl.llen
      have hnc2 := hsl.nc
      have hb1 := HB0.out.upd (HU1.out.trans hu2 fun _ _ h => h) (by simp [Nix])
      have HU := Lib.hid ((HU0.out.trans (HU1.out.trans hu2 fun _ _ h => h) fun _ _ h => h).below hgB fun _ _ h => h.elim)
      have hlt0 := hb1.lt
      have hc0 : ∀ i, w2.cell? ⟨g, i, none⟩ = _ := fun i => hb1.cell i
      have hf0 : ∀ i, w2.frozen? ⟨g, i, none⟩ = _ := fun i => hb1.free i
      clear hu2 hb1
      by_cases h20 : n2 = 20
      · have h20i : ((n2 : Int) != 20) = false := by simp [h20]
        have HV := Lib.hid (soaL_some HC.out hc (by omega))
        have HS2 := Lib.hid hs
        have HSL := Lib.hid hsl
        clear hc hs hsl hn2
        subst h20
        obtain ⟨ad, rfl, _⟩ := HSL.out.cellsome
        have f0 := Lib.hid fun q => Calls.quiet_of (ref_four _ _ _ _ (w2.drewN q) _ (HSL.out.drewN q) (by omega))
        have f1 := Lib.hid fun q => Calls.quiet_of (ref_four (some ⟨ad.block, ad.off + 4, none⟩) 16 (c2 - 4) _ (w2.drewN q) _ ((HSL.out.cut1 (k := 4) (by omega) (by omega) (by omega)).drewN q) (by omega))
        have f2 := Lib.hid fun q => Calls.quiet_of (ref_four (some ⟨ad.block, ad.off + 8, none⟩) 12 (c2 - 8) _ (w2.drewN q) _ ((HSL.out.cut1 (k := 8) (by omega) (by omega) (by omega)).drewN q) (by omega))
        have f3 := Lib.hid fun q => Calls.quiet_of (ref_four (some ⟨ad.block, ad.off + 12, none⟩) 8 (c2 - 12) _ (w2.drewN q) _ ((HSL.out.cut1 (k := 12) (by omega) (by omega) (by omega)).drewN q) (by omega))
        have f4 := Lib.hid fun q => Calls.quiet_of (ref_four (some ⟨ad.block, ad.off + 16, none⟩) 4 (c2 - 16) _ (w2.drewN q) _ ((HSL.out.cut1 (k := 16) (by omega) (by omega) (by omega)).drewN q) (by omega))
        have q1 : ¬ c2 = 4 := by omega
        have q2 : ¬ c2 = 8 := by omega
        have q3 : ¬ c2 = 12 := by omega
        have q4 : ¬ c2 = 16 := by omega
        go_upto_region 7 with fail
        have f00 := Lib.hid (show Calls Try.prog 65 #[.slice (some ad) 20 c2] w2.drew _ from f0.out 1)
        go_region_with ((first | (go_at_call 65; with_reducible refine f00.out.mono ?_; rintro e w5 ⟨rfl, q5, rfl⟩) | (go_at_call 65; with_reducible refine (f1.out _).mono ?_; rintro e w5 ⟨rfl, q5, rfl⟩) | (go_at_call 65; with_reducible refine (f2.out _).mono ?_; rintro e w5 ⟨rfl, q5, rfl⟩) | (go_at_call 65; with_reducible refine (f3.out _).mono ?_; rintro e w5 ⟨rfl, q5, rfl⟩) | (go_at_call 65; with_reducible refine (f4.out _).mono ?_; rintro e w5 ⟨rfl, q5, rfl⟩)))
        go_wp2_with fail
        refine bodyPost_ret (v := .tuple #[.agg (soaCells s s2 (bigN (r2.take 4) : Nat) (bigN ((r2.drop 4).take 4) : Nat) (bigN ((r2.drop 8).take 4) : Nat) (bigN ((r2.drop 12).take 4) : Nat) (bigN ((r2.drop 16).take 4) : Nat)), .bool true]) (by simp [results, Try.results45, soaCells, go_sem, hc0]) rfl ?_
        refine ⟨.inr ⟨_, s, s2, _, _, _, _, _, HV.out, HS.out, HS2.out, rfl, rfl⟩, Upd.of_below' ?_⟩
        rw [hg]
        exact ((((((((HU.out.drewN _).setCell (by simp) _).setCell (by simp) _).setCell (by simp) _).setCell (by simp) _).setCell (by simp) _).setCell (by simp) _).setCell (by simp) _)
      · have h20i : ((n2 : Int) != 20) = true := by simp; omega
        have HV := Lib.hid (soaL_none3 HC.out hc (by omega))
        clear hc
        go_wp2_with fail
        refine bodyPost_ret (v := .tuple #[.agg (soaCells ⟨#[]⟩ ⟨#[]⟩ 0 0 0 0 0), .bool false]) (by simp [results, Try.results45, soaCells, go_sem, hc0]) rfl ?_
        refine ⟨.inl ⟨HV.out, rfl⟩, Upd.of_below' ?_⟩
        rw [hg]
        exact (((((((HU.out.setCell (by simp) _).setCell (by simp) _).setCell (by simp) _).setCell (by simp) _).setCell (by simp) _).setCell (by simp) _).setCell (by simp) _)
set_option maxRecDepth 100000 in
set_option maxHeartbeats 1600000 in
theorem ref_rdata6 (A : Option Addr) (n c : Nat) (l : List Nat) (w : World) (h : Sl w w.heap.size A n c l) :
    Calls Try.prog 59 #[.int .i64 6, .slice A n c] w fun e w' => e = .returned (.bool (rdataL 6 l)) ∧ Upd Nix w w' := by
  have hl := h.llen
  have H := Lib.hid (ref_soa A n c l w h)
  have HL := Lib.hid hl
  clear h hl
  by_cases hn : 65535 < n
  · have hi : (65535 : Int) < (n : Int) := by omega
    have HV := Lib.hid (show rdataL 6 l = false by unfold rdataL; rw [if_pos (by rw [HL.out]; omega)])
    go_enter Try.func59, Try.ntmps59
    go_wp2_with fail
    go_ret
    exact ⟨by rw [HV.out]; rfl, Upd.refl _ _⟩
  · have hi : ¬ (65535 : Int) < (n : Int) := by omega
    have HV := Lib.hid (show rdataL 6 l = (soaL l).isSome by unfold rdataL; rw [if_neg (by rw [HL.out]; omega)]; simp)
    go_enter Try.func59, Try.ntmps59
    go_wp2_with fail
    refine H.out.mono ?_
    rintro e w1 ⟨⟨hv, rfl⟩ | ⟨s, m, r, g0, g1, g2, g3, g4, hv, _, _, _, rfl⟩, hu⟩
    · have HU := Lib.hid hu
      have HV2 := Lib.hid (show rdataL 6 l = false by rw [HV.out, hv]; rfl)
      clear hu hv
      unfold soaCells
      go_wp2_with fail
      go_ret
      exact ⟨by rw [HV2.out]; rfl, by first | exact HU.out | exact Upd.of_below' ((HU.out.belowNix (Nat.le_refl _)).alloc HU.out.size _)⟩
    · have HU := Lib.hid hu
      have HV2 := Lib.hid (show rdataL 6 l = true by rw [HV.out, hv]; rfl)
      clear hu hv
      unfold soaCells
      go_wp2_with fail
      go_ret
      exact ⟨by rw [HV2.out]; rfl, by first | exact HU.out | exact Upd.of_below' ((HU.out.belowNix (Nat.le_refl _)).alloc HU.out.size _)⟩
end Go.Proofs.Ytlhbikdelbollaa
