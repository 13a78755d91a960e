/- HttpAsked: the walk. -/
import Derived.Test.YtbjjimbnaicbfaaDoorHttpAl
import Derived.Outline
namespace Go.Proofs.YtbjjimbnaicbfaaDoor
open Go.RowKit Go.Cx Go.Maps Go.ChangeShapes Go.WideShapes Go.ChangeAt

set_option maxRecDepth 100000 in
set_option maxHeartbeats 6400000 in
theorem httpAsked (A0 : Option Addr) (n0 c0 : Nat) (L : List Row) (ch : Int) (Ac : Option Addr) (mc cc : Nat) (xs : List Int) (w : World) (h0 : RowsAt w w.heap.size A0 n0 c0 L) (_hch : (Lit.int .u64 ch).wf = true) (hxr : Rd w w.heap.size 1 Ac mc (intsV xs)) (hmc : mc ≤ cc) (_hw : ∀ x ∈ xs, (Lit.int .i64 x).wf = true) (hcc0 : cc * Tryd.prog.bytesOf 3 ≤ reachBytes) (ht : Tab10 w) :
    Calls Tryd.prog 7 #[.slice A0 n0 c0, .int .u64 ch, .slice Ac mc cc] w fun e w' => e = .returned (.bool true) ∧ Below w.heap.size w w' := by
  have hcc : cc * 8 ≤ 140737488351232 := by
    rw [show Tryd.prog.bytesOf 3 = 8 by kernel_rfl] at hcc0
    unfold reachBytes at hcc0
    omega
  clear hcc0
  obtain ⟨i0, hi0, hz0, hz1, hz2⟩ := info_parts infoU8
  obtain ⟨i1, hi1, hy0, hy1, hy2⟩ := info_parts infoRow
  obtain ⟨i2, hi2, hx0, hx1, hx2⟩ := info_parts infoI64
  have H0 := Lib.hid h0
  have HXR := Lib.hid hxr
  have HT := Lib.hid ht
  clear h0 hxr ht
  go_enter Tryd.func7, Tryd.ntmps7
  go_upto_block 0 with fail
  go_cut [7, 8] (fun s7 s8 wx => ∃ k A7 n7 c7 x A8 c8 wrows, s7 = .slice A7 n7 c7 ∧ s8 = .slice A8 k c8 ∧ k ≤ 11 ∧ AqOne w L k A7 n7 c7 x A8 c8 wrows wx)
  case first =>
    go_wp2_with fail
    go_loopw [7, 8, 24] (fun s7 s8 s24 wr => ∃ k A7 n7 c7 x A8 c8 wrows, s7 = .slice A7 n7 c7 ∧ s8 = .slice A8 k c8 ∧ k ≤ 11 ∧ k ≤ n0 ∧ s24 = .int .i64 k ∧ AqOne w L k A7 n7 c7 x A8 c8 wrows wr) (fun _ _ s24 _ => n0 - (intOf s24).toNat)
    case atStart => exact ⟨0, none, 0, 0, [], none, 0, [], rfl, rfl, by omega, by omega, rfl, ⟨⟨rfl, .inl ⟨rfl, rfl⟩⟩, by omega, ⟨rfl, .inl ⟨rfl, rfl⟩⟩, by simp, rfl, by simp, by simp, rfl, Upd.refl _ _⟩⟩
    case round =>
      obtain ⟨k, A7, n7, c7, x, A8, c8, wrows, rfl, rfl, hk11, hkn, rfl, hat⟩ := hrel
      have HAT := Lib.hid hat
      clear hat
      by_cases hkn2 : k < n0
      · have hki : (k : Int) < (n0 : Int) := by omega
        have hrows := H0.out.below (HAT.out.upd.belowNix (Nat.le_refl _))
        obtain ⟨ad, r, hadB, hr, hmem, hcell, hidx⟩ := hrows.idx hkn2
        have hsl := H0.out.each r hmem
        have HSL := Lib.hid hsl
        have hrn := hsl.len
        have hrc := hsl.nc
        clear hr hmem hrows hsl
        by_cases hk10 : k ≤ 10
        · have hk10i : ¬ (10 : Int) < (k : Int) := by omega
          go_upto_region 7 with fail
          go_cut [10] (fun s10 wx => wr = wx ∧ ∃ (n : Nat) (l : List Nat), s10 = .slice r.A n r.c ∧ n ≤ 500 ∧ Sl w w.heap.size r.A n r.c l)
          case first =>
            by_cases hl : r.n ≤ 500
            · have hmin : min (r.n : Int) 500 = (r.n : Int) := by omega
              go_wp2_with fail
              go_meet
              exact ⟨rfl, r.n, r.l, rfl, hl, HSL.out⟩
            · have hmin : min (r.n : Int) 500 = 500 := by omega
              go_wp2_with fail
              go_meet
              exact ⟨rfl, 500, r.l.take 500, rfl, Nat.le_refl _, HSL.out.front (by omega)⟩
          case rest =>
          obtain ⟨rfl, n, l, rfl, hn, hsl⟩ := hcut
          have HS := Lib.hid hsl
          have hnc := hsl.nc
          have hll := hsl.llen
          have HLL := Lib.hid hll
          clear hsl hll hrn hrc
          go_wp2_with fail
          refine (http_ask r.A n r.c l _ wr ((HS.out.rd.below (HAT.out.upd.belowNix (Nat.le_refl _))).more HAT.out.upd.size) hnc (by omega) (HT.out.upd HAT.out.upd)).mono ?_
          rintro e w1 ⟨⟨ad1, na, ca, rfl, hna, hnca, hra⟩, hu1⟩
          generalize (bits BinOp.and IntKind.u64 (ch / 2 ^ (k % 32)) 1 == 1) = bb at *
          have hal := askL_long (l := l) (by rw [HLL.out]; exact hn) bb
          rw [← hna] at hal
          obtain ⟨hal1, hal2⟩ := hal
          have hat1 := HAT.out.go hu1
          have h7 := hat1.n7
          obtain ⟨BB, hBB⟩ : ∃ BB, askL l bb false = BB := ⟨_, rfl⟩
          obtain ⟨FL, hFL⟩ : ∃ FL, (x.map fun y => askL y.1 y.2 false).flatten = FL := ⟨_, rfl⟩
          have hall := hat1.all
          have hwant := hat1.want
          rw [hBB] at hra hna
          rw [hFL] at hall
          have HALL := Lib.hid hall
          have HWANT := Lib.hid hwant
          have HBB := Lib.hid hBB
          have HFL := Lib.hid hFL
          have HAT1 := Lib.hid hat1
          have HRA := Lib.hid hra
          have HNA := Lib.hid hna
          have hbc : ∀ u ∈ byts BB, u.oneCell' = true := by
            intro u hu
            simp only [byts, List.mem_map] at hu
            obtain ⟨b, _, rfl⟩ := hu
            rfl
          have HBC := Lib.hid hbc
          have hz : ((na : Int) == 0) = false := by simp; omega
          have hm1 : n7 + na ≤ maxLen := by unfold maxLen; omega
          have hm2 : (n7 + na) * 1 ≤ 140737488355328 := by omega
          have hm3 : k + 1 ≤ maxLen := by unfold maxLen; omega
          have hm4 : (k + 1) * 24 ≤ 140737488355328 := by omega
          have hws := HAT1.out.upd.size
          clear hu1 hat1 hra hna hbc hBB hFL hall hwant
          go_wp2_with (at_builtin; first
            | (refine wpList_app _ rfl (.tmp 54) (.tmp 55) 22 rfl w.heap.size 5 i0 _ 1 1 Tryd.underlying22 hi0 hz0 hz1 hz2 rfl (by omega) (.slice A7 n7 c7) n7 (byts FL) rfl HALL.out w1.heap.size (some ad1) na ca (byts BB) rfl HRA.out HBC.out hm1 hm2 hws ?_; intro A9 c9 w2 hown9 hg9 hat9; have HO9 := Lib.hid hown9; have HU9 := Lib.hid (HAT1.out.upd.grown hg9 fun b hb hl => (by have h9 : w.heap.size ≤ b := (HALL.out.lt b hb).1; omega)); have HW9 := Lib.hid (own_upd' HWANT.out (upd_own hg9) fun b hb hS => own_two HWANT.out HALL.out (by decide) b hb hS); have hs9 := HU9.out.size; clear hown9 hg9 hat9)
            | (refine wpList_app _ rfl (.tmp 57) (.tmp 59) 47 rfl w.heap.size 22 i1 _ 1 24 Tryd.underlying47 hi1 hy0 hy1 hy2 rfl (by omega) (.slice A8 k c8) k (wrows.map Row.val) rfl (HW9.out.alloc _) (w2.heap.size + 1) (some ⟨w2.heap.size, 0, none⟩) 1 1 [.slice r.A n r.c] rfl (Rd.lit1 _ _ _) (by intro u hu; simp only [List.mem_singleton] at hu; subst hu; rfl) hm3 hm4 (by simp; omega) ?_; intro A10 c10 w3 hown10 hg10 hat10))
          have hup3 : Upd Nix w w3 := (HU9.out.alloc _).grown hg10 fun b hb hl => (by have h9 : w.heap.size ≤ b := (HW9.out.lt b hb).1; omega)
          have hall3 := own_upd' (own_upd' HO9.out ((Upd.refl Nix w2).alloc (.cells #[.slice r.A n r.c] 22)) fun _ _ h => h) (upd_own hg10) fun b hb hS => own_two HO9.out HW9.out (by decide) b hb hS
          refine ⟨⟨k + 1, A9, n7 + na, c9, x ++ [(l, bb)], A10, c10, wrows ++ [⟨r.A, n, r.c, l⟩], rfl, rfl, by omega, by omega, by rfl, ?_, by omega, ?_, ?_, ?_, ?_, ?_, ?_, hup3⟩, ?_⟩
          · rw [List.map_append, List.flatten_append, HFL.out]
            simp only [List.map_cons, List.map_nil, List.flatten_cons, List.flatten_nil, List.append_nil]
            rw [HBB.out]
            simpa [byts] using hall3
          · rw [List.map_append]
            exact hown10
          · intro r' hr'
            rcases List.mem_append.1 hr' with h | h
            · exact HAT1.out.sl r' h
            · simp only [List.mem_singleton] at h
              subst h
              exact HS.out
          · rw [List.map_append, List.map_append, HAT1.out.rows]
            rfl
          · intro y hy
            rcases List.mem_append.1 hy with h | h
            · exact HAT1.out.small y h
            · simp only [List.mem_singleton] at h
              subst h
              show l.length ≤ 500
              rw [HLL.out]
              exact hn
          · intro y hy
            rcases List.mem_append.1 hy with h | h
            · exact HAT1.out.bytes y h
            · simp only [List.mem_singleton] at h
              subst h
              exact HS.out.bytes
          · rw [List.length_append, HAT1.out.len]
            rfl
          · simp only [intOf]; omega
        · have hk10i : (10 : Int) < (k : Int) := by omega
          go_wp2_with fail
          go_meet
          exact ⟨k, A7, n7, c7, x, A8, c8, wrows, rfl, rfl, hk11, HAT.out⟩
      · have hki : ¬ (k : Int) < (n0 : Int) := by omega
        go_wp2_with fail
        go_meet
        exact ⟨k, A7, n7, c7, x, A8, c8, wrows, rfl, rfl, hk11, HAT.out⟩
  case rest =>
  obtain ⟨k, A7, n7, c7, x, A8, c8, wrows, rfl, rfl, hk11, hat⟩ := hcut
  have HAT := Lib.hid hat
  have h7 := hat.n7
  clear hat
  go_wp2_with fail
  refine (http_new wc).mono ?_
  rintro e w1 ⟨rfl, rfl⟩
  have hrd := new_rd wc
  have hu1 : Upd Nix wc (wc.alloc (.cells #[.bool true, .bool false, .slice none 0 0, .pointer none] 42)) := (Upd.refl _ _).alloc _
  have hsz1 : (wc.alloc (.cells #[.bool true, .bool false, .slice none 0 0, .pointer none] 42)).heap.size = wc.heap.size + 1 := by simp
  generalize (wc.alloc (.cells #[.bool true, .bool false, .slice none 0 0, .pointer none] 42)) = w1 at *
  have HRD := Lib.hid hrd
  have HU1 := Lib.hid hu1
  have HSZ1 := Lib.hid hsz1
  have hxr1 : Rd w1 w.heap.size 1 Ac mc (intsV xs) := HXR.out.below ((HAT.out.upd.trans hu1 fun _ _ h => h).belowNix (Nat.le_refl _))
  have HX1 := Lib.hid hxr1
  have hw1 : w.heap.size ≤ w1.heap.size := by have := HAT.out.upd.size; omega
  clear hrd hu1 hsz1 hxr1
  go_wp2_with fail
  refine (ints_clone w1 w.heap.size Ac mc cc xs HX1.out hw1 (by omega)).mono ?_
  rintro e w2 ⟨A2, c2, rfl, ho2, hu2⟩
  have HO2 := Lib.hid ho2
  have HU2 := Lib.hid hu2
  have hm3 : mc + 1 ≤ maxLen := by unfold maxLen; omega
  have hm4 : (mc + 1) * 8 ≤ 140737488355328 := by omega
  have hw2 := hu2.size
  clear ho2 hu2
  go_wp2_with (at_builtin; refine wpList_app _ rfl (.tmp 64) (.tmp 65) 48 rfl w1.heap.size 3 i2 _ 1 8 Tryd.underlying48 hi2 hx0 hx1 hx2 rfl (by omega) (.slice A2 mc c2) mc (intsV xs) rfl (HO2.out.alloc _) (w2.heap.size + 1) (some ⟨w2.heap.size, 0, none⟩) 1 1 [.int .i64 1073741824] rfl (Rd.lit1 _ _ _) (by intro u hu; simp only [List.mem_singleton] at hu; subst hu; rfl) hm3 hm4 (by simp; omega) ?_; intro A3 c3 w3 hown3 hg3 hat3)
  have hup3 : Upd Nix w1 w3 := (HU2.out.alloc _).grown hg3 fun b hb hl => (by have h9 : w1.heap.size ≤ b := (HO2.out.lt b hb).1; omega)
  obtain ⟨g, rfl⟩ : ∃ g, A3 = some ⟨g, 0, none⟩ := by
    rcases hown3.2 with ⟨hv, h0⟩ | ⟨g, cap, cur, hv, _⟩
    · simp at h0
    · injection hv with e1
      exact ⟨g, e1⟩
  have hxs3 : intsV xs ++ [.int .i64 1073741824] = intsV (xs ++ [1073741824]) := by simp [intsV]
  rw [hxs3] at hown3
  obtain ⟨B0, hB0⟩ : ∃ B0, wc.heap.size = B0 := ⟨_, rfl⟩
  obtain ⟨X, hX⟩ : ∃ X, xs ++ [1073741824] = X := ⟨_, rfl⟩
  obtain ⟨AL, hAL⟩ : ∃ AL, (x.map fun y => askL y.1 y.2 false).flatten = AL := ⟨_, rfl⟩
  have hallW := asks_W x [] (fun y hy => by have := HAT.out.small y hy; omega)
  have hallo := HAT.out.all
  rw [hAL] at hallW hallo
  rw [List.nil_append] at hallW
  have halln : AL.length = n7 := by have := hallo.1; simpa [byts] using this
  have hXl : X.length = mc + 1 := by
    have := HX1.out.1
    rw [← hX, List.length_append]
    simp [intsV] at this
    simp [this]
  have hXn : ∀ v, X[mc]? = some v → v = 1073741824 := fun v hv => by
    have h1 := HX1.out.1
    simp [intsV] at h1
    rw [← hX, ← h1] at hv
    simpa using hv.symm
  have hALb : ∀ b ∈ AL, b < 256 := by
    intro b hb
    rw [← hAL] at hb
    obtain ⟨l, hl, hb⟩ := List.mem_flatten.1 hb
    obtain ⟨y, hy, rfl⟩ := List.mem_map.1 hl
    exact askL_lt' (HAT.out.bytes y hy) (by have := HAT.out.small y hy; omega) y.2 b hb
  rw [hX] at hown3
  have hinv : AqInv wc B0 (some ⟨g, 0, none⟩) (mc + 1) c3 X (.slice none 0 0) none ⟨false, [], none⟩ A7 n7 c7 AL none 0 0 [] [] w3 := by
    rw [hB0] at HRD
    have hb1 : B0 ≤ w1.heap.size := by have := HSZ1.out; omega
    refine ⟨HRD.out.upd hup3 fun _ _ h => h, rfl, ?_, own_cap hallo, own_down hown3 hb1, ⟨rfl, .inl ⟨rfl, rfl⟩⟩, rfl, by simp, ?_⟩
    · have h1 := (Rd.own hallo)
      rw [hB0] at h1
      exact (h1.below (HU1.out.belowNix (by omega))).below (hup3.belowNix hb1)
    · exact (HU1.out.belowNix (by omega)).trans (hup3.belowNix hb1)
  have HINV := Lib.hid hinv
  have HW := Lib.hid hallW
  have HALL := Lib.hid hALb
  have HN := Lib.hid halln
  have HXL := Lib.hid hXl
  have HXN := Lib.hid hXn
  have HAL := Lib.hid hAL
  rw [hB0]
  have HB0 := Lib.hid hB0
  clear hup3 hown3 hg3 hat3 hallo hallW hALb hinv halln hXl hXn hX hAL hB0 hxs3
  go_loopw [7, 14, 68] (fun s7 s14 s68 wr => ∃ i A n c rest Ag gn cg rows bv body s p rs, i ≤ mc + 1 ∧ s68 = .int .i64 (i : Nat) ∧ s7 = .slice A n c ∧ s14 = .slice Ag gn cg ∧ AqInv wc B0 (some ⟨g, 0, none⟩) (mc + 1) c3 X bv body s A n c rest Ag gn cg rows [] wr ∧ p ++ rest = AL ∧ Fed p rs s ∧ rows.map Row.l = rs.map Rq.body ∧ (i = mc + 1 → rest = [])) (fun _ _ s68 _ => mc + 1 - (intOf s68).toNat)
  case atStart => exact ⟨0, A7, n7, c7, AL, none, 0, 0, [], _, _, _, [], [], by omega, rfl, rfl, rfl, HINV.out, rfl, Fed.start, rfl, by omega⟩
  case round =>
    obtain ⟨i, A, n, c, rest, Ag, gn, cg, rows, bv, body, s, p, rs, hi, rfl, rfl, rfl, hinv, hpr, hfd, hrows, hlast⟩ := hrel
    have HINV2 := Lib.hid hinv
    have HPR := Lib.hid hpr
    have HFED := Lib.hid hfd
    have HROWS := Lib.hid hrows
    have HLAST := Lib.hid hlast
    have hnc := hinv.nc
    have hrl : rest.length = n := by have := hinv.all.1; simpa [byts] using this
    have hn7 : n ≤ n7 := by
      rw [← HN.out, ← hpr, List.length_append]
      omega
    have HRL := Lib.hid hrl
    clear hpr hfd hrows hlast hrl
    by_cases him : i < mc + 1
    · have hii : (i : Int) < (mc : Int) + 1 := by omega
      obtain ⟨v, hv⟩ : ∃ v, X[i]? = some v := ⟨_, List.getElem?_eq_getElem (by rw [HXL.out]; exact him)⟩
      have hcell : wr.cell? ⟨g, i, none⟩ = some (.int .i64 v) := by
        obtain ⟨ad, hA, _, hc⟩ := (Rd.own hinv.ints).2 (by omega)
        injection hA with hA
        subst hA
        have h1 := hc i (.int .i64 v) (by rw [intsV, List.getElem?_map, hv]; rfl)
        have hadd : (⟨g, 0, none⟩ : Addr).add i = ⟨g, i, none⟩ := by unfold Addr.add; split <;> simp_all
        rwa [hadd] at h1
      have HV := Lib.hid hv
      clear hv hinv
      go_upto_region 18 with fail
      obtain ⟨a, ha, ha90⟩ : ∃ a : Nat, wrap64 ((IntKind.u64.wrap v).tmod 90) = (a : Int) ∧ a < 90 := by
        have h1 := Int.emod_nonneg (v % 18446744073709551616) (show (90 : Int) ≠ 0 by omega)
        have h2 := Int.emod_lt_of_pos (v % 18446744073709551616) (show (0 : Int) < 90 by omega)
        refine ⟨(v % 18446744073709551616 % 90).toNat, ?_, by omega⟩
        rw [IntKind.wrap_u64, Int.tmod_eq_emod_of_nonneg (by omega)]
        generalize v % 18446744073709551616 % (90 : Int) = q at h1 h2 ⊢
        unfold wrap64
        omega
      have HA := Lib.hid ha
      clear ha
      go_cut [17] (fun s17 wx => wr = wx ∧ ∃ m : Nat, s17 = .int .i64 (m : Nat) ∧ m ≤ n)
      case first =>
        by_cases hle : wrap64 ((IntKind.u64.wrap v).tmod 90) ≤ (n : Int)
        · have hmin : min (wrap64 ((IntKind.u64.wrap v).tmod 90)) (n : Int) = wrap64 ((IntKind.u64.wrap v).tmod 90) := by omega
          go_wp2_with fail
          go_meet
          exact ⟨rfl, a, by rw [HA.out], by have := HA.out; omega⟩
        · have hmin : min (wrap64 ((IntKind.u64.wrap v).tmod 90)) (n : Int) = n := by omega
          go_wp2_with fail
          go_meet
          exact ⟨rfl, n, rfl, Nat.le_refl _⟩
      case rest =>
      obtain ⟨rfl, m0, rfl, hm0⟩ := hcut
      go_upto_if 80 with fail
      go_cut [17] (fun s17 wx => wr = wx ∧ ∃ m : Nat, s17 = .int .i64 (m : Nat) ∧ m ≤ n ∧ (v = 1073741824 → m = n))
      case first =>
        by_cases hv : v = 1073741824
        · have hvb : (v == 1073741824) = true := by simp [hv]
          have HVV := Lib.hid hv
          clear hv
          go_wp2_with fail
          go_meet
          exact ⟨rfl, n, rfl, Nat.le_refl _, fun _ => rfl⟩
        · have hvb : (v == 1073741824) = false := by simp [hv]
          have HVV := Lib.hid hv
          clear hv
          go_wp2_with fail
          go_meet
          exact ⟨rfl, m0, rfl, hm0, fun h => absurd h HVV.out⟩
      case rest =>
      obtain ⟨rfl, m, rfl, hm, hmv⟩ := hcut
      have HMV := Lib.hid hmv
      have hmc : m ≤ c := by omega
      have hmc1 : (m : Int) ≤ (c : Int) := by omega
      have hsm := HFED.out.small
      have HSM := Lib.hid hsm
      have hsb : s = ⟨false, s.b, body.map BdV.d⟩ := by
        have h1 := HINV2.out.bd
        have h2 := HFED.out.2
        obtain ⟨e, b, bo⟩ := s
        simp only at h1 h2
        rw [h1, h2]
      have HSB := Lib.hid hsb
      clear hmv hsm hsb
      obtain ⟨rs2, s2, hfh, hfed2, rs3, hrs3⟩ := Fed.more (q := rest.drop m) (x := rest.take m) HFED.out (by rw [List.append_assoc, List.take_append_drop, HPR.out]; exact HW.out) rfl
      have hrow7 : AL.length ≤ 44000 := by rw [HN.out]; omega
      have hresb : ∀ b ∈ rest.take m, b < 256 := fun b hb => HALL.out b (by rw [← HPR.out]; exact List.mem_append_right _ (List.mem_of_mem_take hb))
      have hfront : Rd wr wr.heap.size 1 A m (byts (rest.take m)) := by
        have h1 := (HINV2.out.all.front hm).more (B' := wr.heap.size) (Nat.le_of_lt HINV2.out.size)
        simpa [byts] using h1
      have HFH := Lib.hid hfh
      have HFD2 := Lib.hid hfed2
      have HRS3 := Lib.hid hrs3
      have HRB := Lib.hid hresb
      have HFR := Lib.hid hfront
      clear hfh hfed2 hrs3 hresb hfront
      go_wp2_with fail
      refine (http_feed B0 B0 bv s.b body A m c (rest.take m) wr HINV2.out.rd HFR.out HRB.out HSM.out (by rw [HN.out] at hrow7; omega) (Nat.le_of_lt HINV2.out.size)).mono ?_
      rintro e w4 ⟨A4, c4, rqs, bv4, body4, rfl, hsaid, hfdat⟩
      rw [← HSB.out, HFH.out] at hsaid hfdat ⊢
      have hinv4 := HINV2.out.fed hfdat HFD2.out.2
      have hout4 := hfdat.rq.out
      have HINV4 := Lib.hid hinv4
      have HSAID := Lib.hid hsaid
      obtain ⟨q, hq⟩ : ∃ q, rqs.length = q := ⟨_, rfl⟩
      rw [hq] at hout4 ⊢
      have HOUT4 := Lib.hid hout4
      have HQ := Lib.hid hq
      clear hinv4 hsaid hfdat hout4 hq
      have hkeep : ∀ r ∈ rqs, r.keep = true := by
        intro r hr
        have h1 : r.said ∈ rs ++ rs2 ++ rs3 := by
          have h0 : r.said ∈ rs2 := by
            have h00 := HSAID.out
            simp only at h00
            rw [← h00]
            exact List.mem_map.2 ⟨r, hr, rfl⟩
          exact List.mem_append_left _ (List.mem_append_right _ h0)
        rw [← HRS3.out] at h1
        obtain ⟨y, _, hy⟩ := List.mem_map.1 h1
        have h2 := congrArg Rq.keep hy
        exact h2.symm
      have hgn : gn + q ≤ 11 := by
        have h1 := congrArg List.length HRS3.out
        have h2 := congrArg List.length HROWS.out
        have h3 := congrArg List.length HSAID.out
        have h4 := HINV4.out.gl
        have h5 := HQ.out
        have h6 := HAT.out.len
        simp only [List.length_map, List.length_append] at h1 h2 h3
        omega
      have HKEEP := Lib.hid hkeep
      clear hkeep
      go_wp2_with fail
      go_loopw [14, 95] (fun s14 s95 w5 => ∃ j Ag' cg', j ≤ q ∧ s95 = .int .i64 (j : Nat) ∧ s14 = .slice Ag' (gn + j) cg' ∧ AqInv wc B0 (some ⟨g, 0, none⟩) (mc + 1) c3 X bv4 body4 s2 A n c rest Ag' (gn + j) cg' (rows ++ (rqs.map ReqV.row).take j) ((rqs.map ReqV.row).drop j) w5 ∧ w5.ownsRow wr.heap.size 51 3 (.slice A4 q c4) q ((rqs.map ReqV.cells).flatten)) (fun _ s95 _ => q - (intOf s95).toNat)
      case atStart => exact ⟨0, Ag, cg, by omega, rfl, rfl, by simpa using HINV4.out, HOUT4.out⟩
      case round =>
        obtain ⟨wo, hwo⟩ : ∃ wo, wo = wr := ⟨_, rfl⟩
        obtain ⟨j, Ag', cg', hj, rfl, rfl, hinv, hout⟩ := hrel
        by_cases hjq : j < q
        · have hji : (j : Int) < (q : Int) := by omega
          obtain ⟨r, hr⟩ : ∃ r, rqs[j]? = some r := ⟨_, List.getElem?_eq_getElem (by rw [HQ.out]; exact hjq)⟩
          obtain ⟨go, rfl, k0, k1, k2⟩ := out_idx hout HQ.out hr
          rw [HKEEP.out r (List.mem_of_getElem? hr)] at k2
          unfold firstS at k0
          have hpd : (rqs.map ReqV.row).drop j = r.row :: (rqs.map ReqV.row).drop (j + 1) := by
            rw [List.drop_eq_getElem_cons (by rw [List.length_map, HQ.out]; exact hjq)]
            congr 1
            have := List.getElem?_eq_getElem (l := rqs) (i := j) (by rw [HQ.out]; exact hjq)
            rw [hr] at this
            injection this with this
            rw [List.getElem_map, ← this]
          have hpt : (rqs.map ReqV.row).take (j + 1) = (rqs.map ReqV.row).take j ++ [r.row] := by
            rw [List.take_add_one, List.getElem?_map, hr]; rfl
          rw [hpd] at hinv
          have HI := Lib.hid hinv
          have HO := Lib.hid hout
          have HPT := Lib.hid hpt
          clear hinv hout hpd hpt hr
          have hlit : ∀ (O : Obj) (v : Value), Rd ((wr.alloc O).alloc (.cells #[v] 22)) (wr.heap.size + 2) 1 (some ⟨wr.heap.size + 1, 0, none⟩) 1 [v] := fun O v => by
            have := Rd.lit1 (wr.alloc O) v 22
            simpa using this
          have HLIT := Lib.hid hlit
          have hm5 : gn + j + 1 ≤ maxLen := by unfold maxLen; omega
          have hm6 : (gn + j + 1) * 24 ≤ 140737488355328 := by omega
          have hbz := HI.out.size
          clear hlit
          go_wp2_with (at_builtin; refine wpList_app _ rfl (.tmp 99) (.tmp 102) 47 rfl B0 22 i1 _ 1 24 Tryd.underlying47 hi1 hy0 hy1 hy2 rfl (by omega) (.slice Ag' (gn + j) cg') (gn + j) ((rows ++ (rqs.map ReqV.row).take j).map Row.val) rfl ((HI.out.got.alloc _).alloc _) (wr.heap.size + 2) (some ⟨wr.heap.size + 1, 0, none⟩) 1 1 [.slice r.row.A r.row.n r.row.c] rfl (HLIT.out _ _) (by intro u hu; simp only [List.mem_singleton] at hu; subst hu; rfl) hm5 hm6 (by simp; omega) ?_; intro A11 c11 w6 hown6 hg6 hat6; have hb6 := ((Blk.new wr 51 #[.string firstS, .slice r.row.A r.row.n r.row.c, .bool true]).alloc (.cells #[.slice r.row.A r.row.n r.row.c] 22)).upd (upd_own hg6) (fun hS => own_ne_blk' ((HI.out.got.alloc _).alloc _) ((Blk.new wr 51 #[.string firstS, .slice r.row.A r.row.n r.row.c, .bool true]).alloc (.cells #[.slice r.row.A r.row.n r.row.c] 22)) (by decide) hS); have p0 := hb6.cell 0; have p1 := hb6.cell 1; have p2 := hb6.cell 2; unfold firstS at p0; simp only [List.getElem?_toArray, List.getElem?_cons_zero, List.getElem?_cons_succ] at p0 p1 p2; clear hb6)
          have hpush := HI.out.push (((Upd.refl Nix wr).alloc (.cells #[.string firstS, .slice r.row.A r.row.n r.row.c, .bool true] 51)).alloc (.cells #[.slice r.row.A r.row.n r.row.c] 22)) hown6 hg6
          have hout6 := own_upd' (own_upd' HO.out (((Upd.refl Nix wr).alloc (.cells #[.string firstS, .slice r.row.A r.row.n r.row.c, .bool true] 51)).alloc (.cells #[.slice r.row.A r.row.n r.row.c] 22)) fun _ _ h => h) (upd_own hg6) fun b hb hS => own_two HO.out HI.out.got (by decide) b hb hS
          rw [List.append_assoc, ← HPT.out] at hpush
          refine ⟨⟨j + 1, A11, c11, by omega, by rfl, rfl, hpush, hout6⟩, ?_⟩
          simp only [intOf]; omega
        · have hji : ¬ (j : Int) < (q : Int) := by omega
          have hjq2 : j = q := by omega
          rw [List.take_of_length_le (by rw [List.length_map, HQ.out]; omega), List.drop_eq_nil_of_le (by rw [List.length_map, HQ.out]; omega)] at hinv
          have HJQ := Lib.hid hjq2
          have HI := Lib.hid hinv
          clear hinv hout hjq2
          go_wp2_with fail
          have hcut := HI.out.cut hm
          simp only [Nat.mul_one] at hcut
          refine ⟨⟨i + 1, _, _, _, rest.drop m, Ag', gn + j, cg', rows ++ rqs.map ReqV.row, bv4, body4, s2, p ++ rest.take m, rs ++ rs2, by omega, by rfl, rfl, rfl, hcut, ?_, HFD2.out, ?_, fun hl => ?_⟩, ?_⟩
          · rw [List.append_assoc, List.take_append_drop, HPR.out]
          · have h0 : rqs.map ReqV.said = rs2 := HSAID.out
            rw [List.map_append, List.map_append, HROWS.out, ← h0, List.map_map, List.map_map]
            rfl
          · have hv1 := HXN.out v (by have := HV.out; rwa [show i = mc by omega] at this)
            have hm1 := HMV.out hv1
            exact List.drop_eq_nil_of_le (by rw [HRL.out]; omega)
          · simp only [intOf]; omega
    · have hii : ¬ (i : Int) < (mc : Int) + 1 := by omega
      have hr0 := HLAST.out (by omega)
      have hp := HPR.out
      rw [hr0, List.append_nil] at hp
      have hfe := HFED.out.1
      rw [hp, HW.out] at hfe
      injection hfe with hfe1 hfe2
      injection hfe1 with hfe1 _
      have hrowsL : rows.map Row.l = wrows.map Row.l := by
        rw [HROWS.out, ← hfe1, List.map_map, HAT.out.rows]
        rfl
      have hgn : gn ≤ 11 := by
        have h1 := congrArg List.length hrowsL
        have h2 := HAT.out.want.1
        have h3 := hinv.gl
        simp only [List.length_map] at h1 h2
        omega
      have hgk : gn = k := by
        have h1 := congrArg List.length hrowsL
        have h2 := HAT.out.want.1
        have h3 := hinv.gl
        simp only [List.length_map] at h1 h2
        omega
      subst hgk
      have hw0 : w.heap.size ≤ wc.heap.size := HAT.out.upd.size
      have hbz := hinv.size
      have hgot : RowsAt wr wr.heap.size Ag gn cg rows := ⟨hinv.gl, own_cap hinv.got, by omega, Rd.own hinv.got, fun r hr => by
        have h1 := hinv.row r (List.mem_append_left _ hr)
        exact ⟨own_cap h1.own, by have := h1.small; omega, Rd.own h1.own, h1.bytes⟩⟩
      have hwant : RowsAt wr wr.heap.size A8 gn c8 wrows := ⟨by have := HAT.out.want.1; simpa using this, own_cap HAT.out.want, by omega, by
        have h1 := Rd.own HAT.out.want
        rw [HB0.out] at h1
        exact (h1.below hinv.bel).more (Nat.le_of_lt hbz), fun r hr => by
        have h1 := (HAT.out.sl r hr).below (HAT.out.upd.belowNix (Nat.le_refl _))
        have h2 := h1.below (hinv.bel.mono (by rw [HB0.out] at hw0; exact hw0))
        exact h2.more (by rw [HB0.out] at hw0; omega)⟩
      have heq := equal_func Ag A8 gn cg c8 rows wrows wr hgot hwant hrowsL
      have hend : ∀ W, Upd Nix wr W → W.cell? ⟨B0, 1, none⟩ = some (.bool false) := fun W hW => (hinv.rd.upd hW fun _ _ h => h).blk.cell 1
      have hbel : Below w.heap.size w wr := (HAT.out.upd.belowNix (Nat.le_refl _)).trans (hinv.bel.mono (by rw [HB0.out] at hw0; exact hw0))
      have HEQ := Lib.hid heq
      have HEND := Lib.hid hend
      have HBEL := Lib.hid hbel
      have hsz : w.heap.size ≤ wr.heap.size := hbel.size
      clear hinv hr0 hp hfe1 hfe2 hrowsL hgot hwant heq hend hbel
      go_wp2_with (first | (go_at_call 21; refine HEQ.out.mono ?_; rintro e w6 ⟨rfl, hu6⟩; have HU6 := Lib.hid hu6; clear hu6) | (go_at_call 15; refine (ended_at _ false _ (HEND.out _ HU6.out)).mono ?_; rintro e w7 ⟨rfl, rfl⟩))
      go_ret
      exact ⟨rfl, HBEL.out.trans (HU6.out.belowNix hsz)⟩
end Go.Proofs.YtbjjimbnaicbfaaDoor
