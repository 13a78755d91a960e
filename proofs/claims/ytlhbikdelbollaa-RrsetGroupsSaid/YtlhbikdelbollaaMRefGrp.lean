/- ciceroneref09.Group. -/
import Derived.Test.YtlhbikdelbollaaMGrpC
import Derived.Test.YtlhbikdelbollaaRefOrd
import Derived.Test.YtlhbikdelbollaaSameRR
namespace Go.Proofs.Ytlhbikdelbollaa
open Go.RowKit Go.Cx Go.Maps

/-- a record of a slice: its address, its cells -/
theorem RRsAt.one {w : World} {B n c i : Nat} {A : Option Addr} {rs : List RRV} (h : RRsAt w B A n c rs) (hi : i < n) : ∃ (ga oa : Nat) (na : Option Nat) (r : RRV), rs[i]? = some r ∧ ga < B ∧ RRAt w B r ∧
    w.cell? ⟨ga, oa, na⟩ = some (.string r.name) ∧ w.cell? ⟨ga, oa + 1, none⟩ = some (.int .i64 r.type) ∧ w.cell? ⟨ga, oa + 2, none⟩ = some (.int .i64 r.cls) ∧ w.cell? ⟨ga, oa + 3, none⟩ = some (.int .i64 r.ttl) ∧ w.cell? ⟨ga, oa + 4, none⟩ = some (.slice r.data.A r.data.n r.data.c) ∧
    ∀ W, (Instr.indexAt 22 (.slice A n c) (.int .i64 (i : Int))).run Try.prog W = .ok (.pointer (some ⟨ga, oa, na⟩)) W := by
  obtain ⟨ad, r, hr, hbl, hat, hcells, hidx⟩ := h.cells hi
  have hc1 : w.cell? ⟨(ad.add (i * 5)).block, (ad.add (i * 5)).off + 1, none⟩ = some (.int .i64 r.type) := by rw [add_nth _ _ _ (by omega)]; exact hcells 1 (by omega)
  have hc2 : w.cell? ⟨(ad.add (i * 5)).block, (ad.add (i * 5)).off + 2, none⟩ = some (.int .i64 r.cls) := by rw [add_nth _ _ _ (by omega)]; exact hcells 2 (by omega)
  have hc3 : w.cell? ⟨(ad.add (i * 5)).block, (ad.add (i * 5)).off + 3, none⟩ = some (.int .i64 r.ttl) := by rw [add_nth _ _ _ (by omega)]; exact hcells 3 (by omega)
  have hc4 : w.cell? ⟨(ad.add (i * 5)).block, (ad.add (i * 5)).off + 4, none⟩ = some (.slice r.data.A r.data.n r.data.c) := by rw [add_nth _ _ _ (by omega)]; exact hcells 4 (by omega)
  have hc0 : w.cell? (ad.add (i * 5)) = some (.string r.name) := hcells 0 (by omega)
  exact ⟨_, _, _, r, hr, hbl, hat, hc0, hc1, hc2, hc3, hc4, hidx⟩
theorem refSets_snoc (rank now : Int) (rs fs : List RRV) (r : RRV) : refSets rank now rs (fs ++ [r]) = refSets rank now rs fs ++ (if canSet (refSet rank now rs r) = true then [refSet rank now rs r] else []) := by
  unfold refSets
  rw [List.map_append, List.filter_append]
  simp [List.filter_cons]
theorem ordered_of {a ds : List (List Nat)} (h : a = orderL ds) : Ordered a ds := by rw [h]; exact orderL_ordered ds
set_option maxRecDepth 100000 in
set_option maxHeartbeats 12800000 in
theorem ref_group (A : Option Addr) (n c : Nat) (rs : List RRV) (rank now : Int) (hrank : (Lit.int .i64 rank).wf = true) (w : World) (h : RRsAt w w.heap.size A n c rs) (hn : n ≤ 1000) :
    Calls Try.prog 15 #[.slice A n c, .int .i64 rank, .int .i64 now] w (GroupIs rs rank now w) := by
  obtain ⟨i0, hi0, hz0, hz1, hz2⟩ := info_parts infoRow
  have hnc := h.nc
  have H := Lib.hid h
  clear h
  go_enter Try.func15, Try.ntmps15
  go_wp2_with fail
  go_loopw [7, 20] (fun s7 s20 wr => ∃ (k : Nat) (A2 : Option Addr) (sl c2 : Nat) (ss : List SetV), k ≤ n ∧ s20 = .int .i64 k ∧ s7 = .slice A2 sl c2 ∧ SetsAt w.heap.size A2 sl c2 ss wr ∧ ss.map SetV.said = refSets rank now rs (firstsR (rs.take k)) ∧ sl ≤ k ∧ Upd Nix w wr) (fun _ s20 _ => n - (intOf s20).toNat)
  case atStart => exact ⟨0, none, 0, 0, [], Nat.zero_le _, rfl, rfl, ⟨⟨rfl, .inl ⟨rfl, rfl⟩⟩, rfl, fun s hs => (by cases hs), fun s hs => (by cases hs)⟩, by simp [firstsR, firsts, refSets], Nat.le_refl _, Upd.refl _ _⟩
  case round =>
    obtain ⟨k, A2, sl, c2, ss, hk, rfl, rfl, hS, hsaid, hsl, hu⟩ := hrel
    have HS := Lib.hid hS
    have HSAID := Lib.hid hsaid
    have HU := Lib.hid hu
    clear hS hsaid hu
    by_cases hkn : k < n
    · have hki : (k : Int) < (n : Int) := by omega
      have hR := H.out.below (HU.out.belowNix (Nat.le_refl _))
      obtain ⟨ga, oa, na, r, hr, hga, hrat, p0, p1, p2, p3, p4, hidx⟩ := hR.one hkn
      have hgl : ga < wr.heap.size := Nat.lt_of_lt_of_le hga HU.out.size
      have HR := Lib.hid hr
      have HRA := Lib.hid hrat
      have hkm : rs.take (k + 1) = rs.take k ++ [r] := by rw [List.take_add_one, hr]; rfl
      have HKM := Lib.hid hkm
      clear hr hrat hR hkm
      go_upto_region 5 with fail
      clear p0 p1 p2 p3 p4
      obtain ⟨g9, hg9⟩ : ∃ x, wr.heap.size = x := ⟨_, rfl⟩
      have hb9 : Blk (wr.alloc (.cells #[.string r.name, .int .i64 r.type, .int .i64 r.cls, .int .i64 r.ttl, .slice r.data.A r.data.n r.data.c] 35)) g9 35 #[.string r.name, .int .i64 r.type, .int .i64 r.cls, .int .i64 r.ttl, .slice r.data.A r.data.n r.data.c] := Blk.new' _ _ _ hg9.symm
      have hu5 : Upd Nix wr (wr.alloc (.cells #[.string r.name, .int .i64 r.type, .int .i64 r.cls, .int .i64 r.ttl, .slice r.data.A r.data.n r.data.c] 35)) := (Upd.refl _ _).alloc _
      rw [hg9]
      generalize wr.alloc (.cells #[.string r.name, .int .i64 r.type, .int .i64 r.cls, .int .i64 r.ttl, .slice r.data.A r.data.n r.data.c] 35) = w5 at *
      have HB9 := Lib.hid hb9
      have HU5 := Lib.hid (HU.out.trans hu5 fun _ _ h => h)
      have HS5 := Lib.hid (HS.out.upd hu5)
      have rat : ∀ W, Upd Nix w5 W → RRAt W W.heap.size r := fun W hW => (HRA.out.below ((hu5.trans hW fun _ _ h => h).belowNix HU.out.size)).more (Nat.le_trans HU.out.size (hu5.trans hW fun _ _ h => h).size)
      have RAT := Lib.hid rat
      have hname := HRA.out.name
      have hcb : ∀ i, w5.cell? ⟨g9, i, none⟩ = _ := fun i => hb9.cell i
      have MAY := Lib.hid (ref_may r w5 (rat w5 (Upd.refl _ _)))
      unfold RRV.agg at MAY
      clear hb9 hu5 rat hg9 hgl hidx
      go_wp2_with fail
      refine MAY.out.mono ?_
      rintro e w6 ⟨rfl, hu6⟩
      have HU6 := Lib.hid (HU5.out.trans hu6 fun _ _ h => h)
      have HU56 := Lib.hid hu6
      clear hcb hu6 MAY
      go_wp2_with fail
      obtain ⟨wo, rfl⟩ : ∃ wo : World, wo = wr := ⟨_, rfl⟩
      have HFR := Lib.hid (H.out.front hk)
      go_loopw [10, 31] (fun s10 s31 wr => ∃ j : Nat, j ≤ k ∧ s31 = .int .i64 j ∧ s10 = .bool (isFirstR (rs.take j) r) ∧ Upd Nix w6 wr) (fun _ s31 _ => k - (intOf s31).toNat)
      case atStart => exact ⟨0, Nat.zero_le _, rfl, by simp [isFirstR, isFirst, mayR], Upd.refl _ _⟩
      case round =>
        obtain ⟨j, hj, rfl, rfl, hui⟩ := hrel
        have HUI := Lib.hid hui
        have HUJ := Lib.hid (HU6.out.trans hui fun _ _ h => h)
        have HB9I := Lib.hid (HB9.out.upd (HU56.out.trans hui fun _ _ h => h) (by simp [Nix]))
        clear hui
        by_cases hjk : j < k
        · have hji : (j : Int) < (k : Int) := by omega
          have hRi := HFR.out.below (HUJ.out.belowNix (Nat.le_refl _))
          obtain ⟨gb, ob, nb, o, ho, hgb, hoat, q0, q1, q2, q3, q4, hidx⟩ := hRi.one hjk
          have hgl : gb < wr.heap.size := Nat.lt_of_lt_of_le hgb HUJ.out.size
          have hjm : rs.take (j + 1) = rs.take j ++ [o] := by
            rw [List.getElem?_take, if_pos hjk] at ho
            rw [List.take_add_one, ho]
            rfl
          have HJM := Lib.hid hjm
          have HOA := Lib.hid hoat
          clear ho hoat hRi hjm
          go_upto_region 9 with fail
          clear q0 q1 q2 q3 q4 hidx
          obtain ⟨g12, hg12⟩ : ∃ x, wr.heap.size = x := ⟨_, rfl⟩
          have hb12 : Blk (wr.alloc (.cells #[.string o.name, .int .i64 o.type, .int .i64 o.cls, .int .i64 o.ttl, .slice o.data.A o.data.n o.data.c] 35)) g12 35 #[.string o.name, .int .i64 o.type, .int .i64 o.cls, .int .i64 o.ttl, .slice o.data.A o.data.n o.data.c] := Blk.new' _ _ _ hg12.symm
          have hub : Upd Nix wr (wr.alloc (.cells #[.string o.name, .int .i64 o.type, .int .i64 o.cls, .int .i64 o.ttl, .slice o.data.A o.data.n o.data.c] 35)) := (Upd.refl _ _).alloc _
          rw [hg12]
          generalize wr.alloc (.cells #[.string o.name, .int .i64 o.type, .int .i64 o.cls, .int .i64 o.ttl, .slice o.data.A o.data.n o.data.c] 35) = wb at *
          have HB12 := Lib.hid hb12
          have HUB := Lib.hid (HUI.out.trans hub fun _ _ h => h)
          have hb9 := HB9I.out.upd hub (by simp [Nix])
          have HB9B := Lib.hid hb9
          have MAYO := Lib.hid (ref_may o wb ((HOA.out.below (hub.belowNix HUJ.out.size)).more (Nat.le_trans HUJ.out.size hub.size)))
          unfold RRV.agg at MAYO
          have honame := HOA.out.name
          have c9 : ∀ i, wb.cell? ⟨g9, i, none⟩ = _ := fun i => hb9.cell i
          have c12 : ∀ i, wb.cell? ⟨g12, i, none⟩ = _ := fun i => hb12.cell i
          clear hb12 hub hb9 hg12 hgl
          cases hf : isFirstR (rs.take j) r with
          | false =>
            have HV := Lib.hid (show isFirstR (rs.take (j + 1)) r = false by rw [HJM.out, isFirstR_snoc, hf]; rfl)
            clear hf
            go_wp2_with fail
            refine ⟨⟨j + 1, by omega, by rfl, by rw [HV.out], HUB.out⟩, ?_⟩
            simp only [intOf]; omega
          | true =>
            have hmr : mayR r = true := by unfold isFirstR isFirst at hf; simp only [Bool.and_eq_true] at hf; exact hf.1
            have HMR := Lib.hid hmr
            have HF := Lib.hid (show isFirstR (rs.take (j + 1)) r = !(mayR o && decide (keyOfRR o = keyOfRR r)) by rw [HJM.out, isFirstR_snoc, hf]; rfl)
            clear hf hmr
            cases hmo : mayR o with
            | false =>
              have hmo2 : mayL o.said = false := hmo
              rw [hmo2] at MAYO
              have HV := Lib.hid (show isFirstR (rs.take (j + 1)) r = true by rw [HF.out, hmo]; rfl)
              clear hmo hmo2
              go_wp2_with (go_at_call 37; refine MAYO.out.mono ?_; rintro e wm ⟨rfl, hum⟩; have HUM := Lib.hid (HUB.out.trans hum fun _ _ h => h); clear hum)
              refine ⟨⟨j + 1, by omega, by rfl, by rw [HV.out], HUM.out⟩, ?_⟩
              simp only [intOf]; omega
            | true =>
              have hmo2 : mayL o.said = true := hmo
              rw [hmo2] at MAYO
              have hone := one_key hmo HMR.out
              have ONE := Lib.hid fun W => ref_one o r W honame hname
              unfold RRV.agg at ONE
              rw [hone] at ONE
              obtain ⟨b, hb⟩ : ∃ b, decide (keyOfRR o = keyOfRR r) = b := ⟨_, rfl⟩
              rw [hb] at ONE
              have HV := Lib.hid (show isFirstR (rs.take (j + 1)) r = !b by rw [HF.out, hmo, hb]; rfl)
              clear hmo hmo2 hone hb
              go_wp2_with (first
                | (go_at_call 37; refine MAYO.out.mono ?_; rintro e wm ⟨rfl, hum⟩; have HUM := Lib.hid (HUB.out.trans hum fun _ _ h => h); have hb9m := HB9B.out.upd hum (by simp [Nix]); have hb12m := HB12.out.upd hum (by simp [Nix]); have m9 : ∀ i, wm.cell? ⟨g9, i, none⟩ = _ := (fun i => hb9m.cell i); have m12 : ∀ i, wm.cell? ⟨g12, i, none⟩ = _ := (fun i => hb12m.cell i); clear hum hb9m hb12m)
                | (go_at_call 38; refine (ONE.out _).mono ?_; rintro e wn ⟨rfl, hun⟩; have HUN := Lib.hid (HUM.out.trans hun fun _ _ h => h); clear hun))
              refine ⟨⟨j + 1, by omega, by rfl, by rw [HV.out], HUN.out⟩, ?_⟩
              simp only [intOf]; omega
        · have hji : ¬ (j : Int) < (k : Int) := by omega
          obtain rfl : k = j := by omega
          cases hf : isFirstR (rs.take k) r with
          | false =>
            have HF := Lib.hid (show firstsR (rs.take (k + 1)) = firstsR (rs.take k) by rw [HKM.out, firstsR_snoc, hf]; rfl)
            have HSJ := Lib.hid (HS5.out.upd (HU56.out.trans HUI.out fun _ _ h => h))
            clear hf
            go_wp2_with fail
            refine ⟨⟨k + 1, A2, sl, c2, ss, by omega, by rfl, rfl, HSJ.out, by rw [HF.out]; exact HSAID.out, by omega, HUJ.out⟩, ?_⟩
            simp only [intOf]; omega
          | true =>
            have HF := Lib.hid (show firstsR (rs.take (k + 1)) = firstsR (rs.take k) ++ [r] by rw [HKM.out, firstsR_snoc, hf]; rfl)
            have hmr : mayR r = true := by have h1 := hf; unfold isFirstR isFirst at h1; simp only [Bool.and_eq_true] at h1; exact h1.1
            have HMR := Lib.hid hmr
            have HFK := Lib.hid hf
            clear hf hmr
            have hb9i := HB9I.out
            have d9 : ∀ i, wr.cell? ⟨g9, i, none⟩ = _ := fun i => hb9i.cell i
            clear hb9i
            go_wp2_with (go_at_call 39; refine (ref_ttl9 r.ttl _).mono ?_; rintro e wt ⟨rfl, rfl⟩)
            obtain ⟨wq, rfl⟩ : ∃ wq : World, wq = wr := ⟨_, rfl⟩
            have hszq : w.heap.size ≤ wq.heap.size := HUJ.out.size
            go_loopw [13, 14, 54] (fun s13 s14 s54 wr => ∃ (j : Nat) (Ad : Option Addr) (m cd : Nat), j ≤ n ∧ s54 = .int .i64 j ∧ s13 = .int .i64 (minLife (lifeL r.ttl) ((listR (rs.take j) r).map RRV.said)) ∧ s14 = .slice Ad m cd ∧ wr.ownsRow wq.heap.size 33 1 (.slice Ad m cd) m ((listR (rs.take j) r).map fun o => o.data.val) ∧ m ≤ j ∧ Upd Nix wq wr) (fun _ _ s54 _ => n - (intOf s54).toNat)
            case atStart => exact ⟨0, none, 0, 0, Nat.zero_le _, rfl, rfl, rfl, ⟨rfl, .inl ⟨rfl, rfl⟩⟩, Nat.le_refl _, Upd.refl _ _⟩
            case round =>
              obtain ⟨j2, Ad, m, cd, hj2, rfl, rfl, rfl, hod, hmj, hui⟩ := hrel
              have HOD := Lib.hid hod
              have HUI2 := Lib.hid hui
              have HUJ2 := Lib.hid (HUJ.out.trans hui fun _ _ h => h)
              have HB9J := Lib.hid (HB9I.out.upd hui (by simp [Nix]))
              have hszi := hui.size
              clear hod hui
              by_cases hjn : j2 < n
              · have hji2 : (j2 : Int) < (n : Int) := by omega
                have hRi := H.out.below (HUJ2.out.belowNix (Nat.le_refl _))
                obtain ⟨gb, ob, nb, o, ho, hgb, hoat, q0, q1, q2, q3, q4, hidx⟩ := hRi.one hjn
                have hgl : gb < wr.heap.size := Nat.lt_of_lt_of_le hgb HUJ2.out.size
                have hjm : rs.take (j2 + 1) = rs.take j2 ++ [o] := by
                  rw [List.take_add_one, ho]
                  rfl
                have HJM := Lib.hid hjm
                have HOA := Lib.hid hoat
                clear ho hoat hRi hjm
                obtain ⟨left, hleft⟩ : ∃ left, minLife (lifeL r.ttl) ((listR (rs.take j2) r).map RRV.said) = left := ⟨_, rfl⟩
                have hlr := minLife_range r (listR (rs.take j2) r)
                rw [hleft] at hlr ⊢
                have HLEFT := Lib.hid hleft
                clear hleft
                go_upto_region 17 with fail
                clear q0 q1 q2 q3 q4 hidx d9
                obtain ⟨g12, hg12⟩ : ∃ x, wr.heap.size = x := ⟨_, rfl⟩
                have hb12 : Blk (wr.alloc (.cells #[.string o.name, .int .i64 o.type, .int .i64 o.cls, .int .i64 o.ttl, .slice o.data.A o.data.n o.data.c] 35)) g12 35 #[.string o.name, .int .i64 o.type, .int .i64 o.cls, .int .i64 o.ttl, .slice o.data.A o.data.n o.data.c] := Blk.new' _ _ _ hg12.symm
                have hub : Upd Nix wr (wr.alloc (.cells #[.string o.name, .int .i64 o.type, .int .i64 o.cls, .int .i64 o.ttl, .slice o.data.A o.data.n o.data.c] 35)) := (Upd.refl _ _).alloc _
                rw [hg12]
                generalize wr.alloc (.cells #[.string o.name, .int .i64 o.type, .int .i64 o.cls, .int .i64 o.ttl, .slice o.data.A o.data.n o.data.c] 35) = wb at *
                have HB12 := Lib.hid hb12
                have HUB := Lib.hid (HUI2.out.trans hub fun _ _ h => h)
                have hb9 := HB9J.out.upd hub (by simp [Nix])
                have HB9B := Lib.hid hb9
                have HODB := Lib.hid (own_upd' HOD.out hub fun _ _ h => h)
                have MAYO := Lib.hid (ref_may o wb ((HOA.out.below (hub.belowNix HUJ2.out.size)).more (Nat.le_trans HUJ2.out.size hub.size)))
                unfold RRV.agg at MAYO
                have honame := HOA.out.name
                have c9 : ∀ i, wb.cell? ⟨g9, i, none⟩ = _ := fun i => hb9.cell i
                have c12 : ∀ i, wb.cell? ⟨g12, i, none⟩ = _ := fun i => hb12.cell i
                clear hb12 hub hb9 hg12 hgl
                have HLS := Lib.hid (listR_snoc (rs.take j2) o r)
                cases hmo : mayR o with
                | false =>
                  have hmo2 : mayL o.said = false := hmo
                  rw [hmo2] at MAYO
                  have HV := Lib.hid (show listR (rs.take (j2 + 1)) r = listR (rs.take j2) r by rw [HJM.out, HLS.out, hmo]; rfl)
                  clear hmo hmo2
                  go_wp2_with (go_at_call 37; refine MAYO.out.mono ?_; rintro e wm ⟨rfl, hum⟩; have HUM := Lib.hid (HUB.out.trans hum fun _ _ h => h); have HODM := Lib.hid (own_upd' HODB.out hum fun _ _ h => h); clear hum)
                  refine ⟨⟨j2 + 1, Ad, m, cd, by omega, by rfl, by rw [HV.out, HLEFT.out], rfl, by rw [HV.out]; exact HODM.out, by omega, HUM.out⟩, ?_⟩
                  simp only [intOf]; omega
                | true =>
                  have hmo2 : mayL o.said = true := hmo
                  rw [hmo2] at MAYO
                  have hone := one_key hmo HMR.out
                  have ONE := Lib.hid fun W => ref_one o r W honame hname
                  unfold RRV.agg at ONE
                  rw [hone] at ONE
                  obtain ⟨b, hb⟩ : ∃ b, decide (keyOfRR o = keyOfRR r) = b := ⟨_, rfl⟩
                  rw [hb] at ONE
                  have HV := Lib.hid (show listR (rs.take (j2 + 1)) r = if b = true then listR (rs.take j2) r ++ [o] else listR (rs.take j2) r by rw [HJM.out, HLS.out, hmo, hb]; rfl)
                  clear hmo hmo2 hone hb
                  cases b with
                  | false =>
                    go_wp2_with (first
                      | (go_at_call 37; refine MAYO.out.mono ?_; rintro e wm ⟨rfl, hum⟩; have HUM := Lib.hid (HUB.out.trans hum fun _ _ h => h); have HODM := Lib.hid (own_upd' HODB.out hum fun _ _ h => h); have hb9m := HB9B.out.upd hum (by simp [Nix]); have hb12m := HB12.out.upd hum (by simp [Nix]); have HB12M := Lib.hid hb12m; have m9 : ∀ i, wm.cell? ⟨g9, i, none⟩ = _ := (fun i => hb9m.cell i); have m12 : ∀ i, wm.cell? ⟨g12, i, none⟩ = _ := (fun i => hb12m.cell i); clear hum hb9m hb12m)
                      | (go_at_call 38; refine (ONE.out _).mono ?_; rintro e wn ⟨rfl, hun⟩; have HUN := Lib.hid (HUM.out.trans hun fun _ _ h => h); have HODN := Lib.hid (own_upd' HODM.out hun fun _ _ h => h); have hb12n := HB12M.out.upd hun (by simp [Nix]); have n12 : ∀ i, wn.cell? ⟨g12, i, none⟩ = _ := (fun i => hb12n.cell i); clear hun hb12n))
                    refine ⟨⟨j2 + 1, Ad, m, cd, by omega, by rfl, by rw [HV.out, if_neg (by simp), HLEFT.out], rfl, by rw [HV.out, if_neg (by simp)]; exact HODN.out, by omega, HUN.out⟩, ?_⟩
                    simp only [intOf]; omega
                  | true =>
                    go_upto_region 18 with (first
                      | (go_at_call 37; refine MAYO.out.mono ?_; rintro e wm ⟨rfl, hum⟩; have HUM := Lib.hid (HUB.out.trans hum fun _ _ h => h); have HODM := Lib.hid (own_upd' HODB.out hum fun _ _ h => h); have hb9m := HB9B.out.upd hum (by simp [Nix]); have hb12m := HB12.out.upd hum (by simp [Nix]); have HB12M := Lib.hid hb12m; have m9 : ∀ i, wm.cell? ⟨g9, i, none⟩ = _ := (fun i => hb9m.cell i); have m12 : ∀ i, wm.cell? ⟨g12, i, none⟩ = _ := (fun i => hb12m.cell i); clear hum hb9m hb12m)
                      | (go_at_call 38; refine (ONE.out _).mono ?_; rintro e wn ⟨rfl, hun⟩; have HUN := Lib.hid (HUM.out.trans hun fun _ _ h => h); have HODN := Lib.hid (own_upd' HODM.out hun fun _ _ h => h); have hb12n := HB12M.out.upd hun (by simp [Nix]); have n12 : ∀ i, wn.cell? ⟨g12, i, none⟩ = _ := (fun i => hb12n.cell i); clear hun hb12n))
                    have hlf := lifeL_range o.ttl
                    obtain ⟨lf, hlfe⟩ : ∃ lf, lifeL o.ttl = lf := ⟨_, rfl⟩
                    rw [hlfe] at hlf
                    have HLF := Lib.hid hlfe
                    clear hlfe
                    go_cut [13] (fun s13 wx => wn = wx ∧ s13 = .int .i64 (min left lf))
                    case first =>
                      go_wp2_with fail
                      refine (ref_ttl9 o.ttl wn).mono ?_
                      rw [HLF.out]
                      rintro e w3 ⟨rfl, rfl⟩
                      go_wp2_with fail
                      all_goals
                        go_meet
                        exact ⟨rfl, congrArg (Value.int .i64) (by omega)⟩
                    case rest =>
                    obtain ⟨rfl, rfl⟩ := hcut
                    have hszn := HUN.out.size
                    have hmm : m + 1 ≤ maxLen := by unfold maxLen; omega
                    go_wp2_with (at_builtin; refine wpList_app _ rfl (.tmp 70) (.tmp 73) 26 rfl wq.heap.size 33 i0 _ 1 24 Try.underlying26 hi0 hz0 hz1 hz2 rfl (by omega) (.slice Ad m cd) m _ rfl (HODN.out.alloc _) (wn.heap.size + 1) (some ⟨wn.heap.size, 0, none⟩) 1 1 [.slice o.data.A o.data.n o.data.c] rfl (Rd.lit1 _ _ _) (by intro u hu; simp only [List.mem_singleton] at hu; subst hu; rfl) hmm (by omega) (by simp; omega) ?_; intro A5 c5 w5b hown5 hg5 hat5)
                    refine ⟨⟨j2 + 1, A5, m + 1, c5, by omega, by rfl, ?_, rfl, ?_, by omega, ?_⟩, ?_⟩
                    · rw [HV.out, if_pos trivial, List.map_append]
                      unfold minLife
                      rw [List.foldl_append]
                      show Value.int .i64 (min left lf) = .int .i64 (min (minLife (lifeL r.ttl) ((listR (rs.take j2) r).map RRV.said)) (lifeL o.ttl))
                      rw [HLEFT.out, HLF.out]
                    · rw [HV.out, if_pos trivial, List.map_append]
                      exact hown5
                    · exact (HUN.out.alloc _).grown hg5 fun b hb hlt => by have := own_ge HODN.out b hb; omega
                    · simp only [intOf]; omega
              · have hji2 : ¬ (j2 : Int) < (n : Int) := by omega
                obtain rfl : n = j2 := by omega
                have hfull : rs.take n = rs := List.take_of_length_le (by rw [H.out.len]; exact Nat.le_refl _)
                rw [hfull] at HOD ⊢
                obtain ⟨L, hL⟩ : ∃ L, listR rs r = L := ⟨_, rfl⟩
                rw [hL] at HOD ⊢
                have hLmem : ∀ o ∈ L, o ∈ rs ∧ mayR o = true ∧ keyOfRR o = keyOfRR r := fun o ho => by
                  rw [← hL] at ho
                  unfold listR listOf at ho
                  obtain ⟨h1, h2⟩ := List.mem_filter.1 ho
                  simp only [Bool.and_eq_true, decide_eq_true_eq] at h2
                  exact ⟨h1, h2.1, h2.2⟩
                have hLr : r ∈ L := by
                  rw [← hL]
                  unfold listR listOf
                  refine List.mem_filter.2 ⟨List.mem_of_getElem? HR.out, ?_⟩
                  rw [HMR.out]
                  simp
                have hlen : L.length = m := by have h1 := HOD.out.1; simpa using h1
                have HL := Lib.hid hL
                have HLM := Lib.hid hLmem
                have HLR := Lib.hid hLr
                have HLEN := Lib.hid hlen
                obtain ⟨left, hleft⟩ : ∃ left, minLife (lifeL r.ttl) (L.map RRV.said) = left := ⟨_, rfl⟩
                have hlr := minLife_range r L
                rw [hleft] at hlr ⊢
                have HLEFT := Lib.hid hleft
                clear hleft hfull hL hLmem hLr hlen
                go_upto_region 21 with fail
                have hkeep : ∀ W, Upd Nix wr W → W.cell? ⟨g9, 0, none⟩ = some (.string r.name) ∧ W.cell? ⟨g9, 1, none⟩ = some (.int .i64 r.type) ∧ W.cell? ⟨g9, 2, none⟩ = some (.int .i64 r.cls) := fun W hW => by
                  have hb := HB9J.out.upd hW (by simp [Nix])
                  exact ⟨hb.cell 0, hb.cell 1, hb.cell 2⟩
                have horder : ∀ W, Upd Nix wr W → Calls Try.prog 26 #[.slice Ad m cd] W _ := fun W hW =>
                  ref_order Ad m cd (L.map RRV.data) W
                    (by
                      have hd := own_upd' HOD.out hW fun _ _ h => h
                      have hlen : (L.map RRV.data).length = m := by rw [List.length_map]; exact HLEN.out
                      refine ⟨hlen, own_cap hd, by omega, by have := Rd.own hd; rw [List.map_map]; exact this, fun x hx => ?_⟩
                      obtain ⟨y, hy, rfl⟩ := List.mem_map.1 hx
                      have hWu := HUJ2.out.trans hW fun _ _ h => h
                      exact ((H.out.each y (HLM.out y hy).1).data.below (hWu.belowNix (Nat.le_refl _))).more hWu.size) (by omega)
                have KEEP := Lib.hid hkeep
                have ORD := Lib.hid horder
                have HSJ := Lib.hid (HS5.out.upd (HU56.out.trans (HUI.out.trans HUI2.out fun _ _ h => h) fun _ _ h => h))
                clear hkeep horder d9
                obtain ⟨z, hz⟩ : ∃ z, wr.heap.size = z := ⟨_, rfl⟩
                have htl := timeL_range now
                have hwr : IntKind.i64.wrap (timeL now + left) = timeL now + left := by rw [IntKind.wrap_i64]; omega
                have hbase : w.heap.size ≤ wr.heap.size := HUJ2.out.size
                go_cut [17] (fun s17 wx => SetBuilt w.heap.size wr (fun A9 n9 c9 => #[.string r.name, .int .i64 r.type, .int .i64 r.cls, .int .i64 rank, .int .i64 0, .int .i64 (timeL now + left), .string ⟨#[]⟩, .slice A9 n9 c9]) ((L.map RRV.data).map Row.l) s17 wx)
                case first =>
                  clear hkn hki hk hrank hi0 hz0 hz1 hz2 hn hnc hsl hj2 hmj hji2 hlr hname hszq hszi HU HU5 HU6 HU56 HUI HUI2 HUJ HUJ2 HB9 HB9I HB9J HOD HSJ HS HS5 HSAID HR HRA HKM RAT HFR HF HMR HFK HL HLM HLR HLEN HLEFT H
                  go_region_held3 (fun w' => w'.cell? ⟨g9, 0, none⟩ = some (.string r.name) ∧ w'.cell? ⟨g9, 1, none⟩ = some (.int .i64 r.type) ∧ w'.cell? ⟨g9, 2, none⟩ = some (.int .i64 r.cls))
                    (first | with_reducible exact KEEP.out _ (upd8 HU9b.out (Nat.le_of_eq hz)) | with_reducible exact KEEP.out _ (HU9a.out.alloc _) | with_reducible exact KEEP.out _ HU9a.out | with_reducible exact KEEP.out _ HU9b.out | with_reducible exact KEEP.out _ (Upd.refl _ _).drew | with_reducible exact KEEP.out _ ((Upd.refl Nix wr).alloc _).drew | fail)
                    ((first
                    | (go_at_call 40; (with_reducible refine (ref_time9 now _).mono ?_); rintro e wt ⟨rfl, rfl⟩)
                    | (go_at_call 26; (with_reducible refine (ORD.out _ (Upd.refl _ _).drew).mono ?_); rintro e w5 ⟨A9, n9, c9, rows9, rfl, hown9, hord9, hrows9, hu9⟩; have HU9a := Lib.hid ((Upd.refl Nix wr).drew.trans hu9 (fun _ _ h => h)); have HR9 := Lib.hid (And.intro hown9 (And.intro (ordered_of hord9) hrows9)); clear hown9 hord9 hrows9 hu9)
                    | (go_at_call 26; (with_reducible refine (ORD.out _ ((Upd.refl Nix wr).alloc _).drew).mono ?_); rintro e w5 ⟨A9, n9, c9, rows9, rfl, hown9, hord9, hrows9, hu9⟩; have HU9b := Lib.hid (((Upd.refl Nix wr).alloc _).drew.trans hu9 (fun _ _ h => h)); have HR9 := Lib.hid (And.intro hown9 (And.intro (ordered_of hord9) hrows9)); have hb14 := ((Blk.new wr 28 #[.string ⟨#[]⟩, .int .i64 0, .int .i64 0, .int .i64 0, .int .i64 0, .int .i64 0, .string ⟨#[]⟩, .slice none 0 0]).drew).upd hu9 (fun h => h); have hl14 := hb14.lt; rw [hz] at hb14 hl14; have hc14 := (fun i => hb14.cell i); have hf14 := (fun i => hb14.free i); have HB14 := Lib.hid hb14; clear hown9 hord9 hrows9 hu9 hb14)))
                  all_goals go_wp2_with fail
                  all_goals
                    go_meet
                    first
                    | exact SetBuilt.ofAlloc (cells := fun A9 n9 c9 => #[.string r.name, .int .i64 r.type, .int .i64 r.cls, .int .i64 rank, .int .i64 0, .int .i64 (timeL now + left), .string ⟨#[]⟩, .slice A9 n9 c9]) HR9.out hbase HU9a.out
                    | exact SetBuilt.ofStore HR9.out (by simp; omega) HU9b.out (Nat.le_of_eq hz) HB14.out rfl
                case rest =>
                obtain ⟨b14, A9, n9, c9, rows9, rfl, hb14, hown9, hord9, hrows9, hu9⟩ := hcut
                have hl9 : rows9.length = n9 := by have := hown9.1; simpa using this
                have heq9 := ordered_eq hord9
                have hn9 : n9 ≤ m := by
                  have h1 := congrArg List.length heq9
                  have h2 := orderL_len ((L.map RRV.data).map Row.l)
                  simp only [List.length_map] at h1 h2
                  have h3 := HLEN.out
                  omega
                have hn91 : 1 ≤ n9 := by
                  have h1 : r.data.l ∈ rows9.map Row.l := (hord9.2 _).2 (List.mem_map.2 ⟨r.data, List.mem_map.2 ⟨r, HLR.out, rfl⟩, rfl⟩)
                  have h2 := List.length_pos_of_mem h1
                  rw [List.length_map] at h2
                  omega
                have hall9 : ∀ x ∈ rows9, rdataL r.type x.l = true := fun x hx => by
                  have h1 := (hord9.2 _).1 (List.mem_map.2 ⟨x, hx, rfl⟩)
                  obtain ⟨d, hd, hde⟩ := List.mem_map.1 h1
                  obtain ⟨o, ho, rfl⟩ := List.mem_map.1 hd
                  obtain ⟨_, h2, h3⟩ := HLM.out o ho
                  have h4 := (may_canL h2).2.2.2.2.2
                  have h5 : o.type = r.type := congrArg KeyC.type h3
                  rw [← hde, ← h5]
                  exact h4
                obtain ⟨hcn, ht0, ht6, hc0, hc6, _⟩ := may_canL HMR.out
                obtain ⟨s, hs⟩ : ∃ s : SetV, s = ⟨r.name, r.type, r.cls, rank, 0, timeL now + left, ⟨#[]⟩, A9, n9, c9, rows9⟩ := ⟨_, rfl⟩
                have hsaid9 : s.said = refSet rank now rs r := by
                  rw [hs]
                  unfold refSet
                  rw [HL.out, HLEFT.out]
                  show (⟨bytesOf r.name, r.type, r.cls, rank, 0, timeL now + left, bytesOf ⟨#[]⟩, rows9.map Row.l⟩ : SetC) = _
                  rw [heq9, List.map_map]
                  rfl
                have hrat := HRA.out
                have hrows : RowsAt wc wc.heap.size A9 n9 c9 rows9 := ⟨hl9, own_cap hown9, by omega, Rd.own hown9, fun x hx => (hrows9 x hx).sl⟩
                have hints : (Lit.int .i64 s.type).wf = true ∧ (Lit.int .i64 s.cls).wf = true ∧ (Lit.int .i64 s.rank).wf = true ∧ (Lit.int .i64 s.kind).wf = true ∧ (Lit.int .i64 s.exp).wf = true ∧ s.name.size ≤ 140737488355328 ∧ s.zone.size ≤ 140737488355328 := by
                  rw [hs]
                  exact ⟨hrat.t, hrat.c, hrank, (by show (Lit.int .i64 0).wf = true; decide), (by show (Lit.int .i64 (timeL now + left)).wf = true; exact WalkArith.wf_i64 (by omega)), hrat.name, (by show (0 : Nat) ≤ _; omega)⟩
                have hcan : Calls Try.prog 41 #[.agg #[.string r.name, .int .i64 r.type, .int .i64 r.cls, .int .i64 rank, .int .i64 0, .int .i64 (timeL now + left), .string ⟨#[]⟩, .slice A9 n9 c9]] wc (fun e w' => e = .returned (.bool (canSet s.said)) ∧ Upd Nix wc w') := by
                  obtain ⟨tN, htN⟩ : ∃ tN : Nat, r.type = (tN : Int) := ⟨r.type.toNat, by omega⟩
                  obtain ⟨cN, hcN⟩ : ∃ cN : Nat, r.cls = (cN : Int) := ⟨r.cls.toNat, by omega⟩
                  obtain ⟨eN, heN⟩ : ∃ eN : Nat, timeL now + left = (eN : Int) := ⟨(timeL now + left).toNat, by omega⟩
                  have h1 := ref_can80 r.name tN cN eN rank A9 n9 c9 rows9 wc hrows (by rw [← htN]; exact hall9) hcn (by omega) (by omega) (by omega) (by omega) hn91 (by omega)
                  rw [← htN, ← hcN, ← heN] at h1
                  have h2 : s.said = ⟨bytesOf r.name, r.type, r.cls, rank, 0, timeL now + left, [], rows9.map Row.l⟩ := by rw [hs]; rfl
                  rw [h2]
                  exact h1
                have HCAN := Lib.hid hcan
                have HSAID9 := Lib.hid hsaid9
                have HINTS := Lib.hid hints
                have HSW := Lib.hid (HSJ.out.upd hu9)
                have HB14 := Lib.hid hb14
                have HOWN9 := Lib.hid (And.intro hown9 hrows9)
                have HUC := Lib.hid (HUJ2.out.trans hu9 fun _ _ h => h)
                have hcb : ∀ i, wc.cell? ⟨b14, i, none⟩ = _ := fun i => hb14.cell i
                have hcl14 := hb14.lt
                clear hcan hsaid9 hints hrows hrat hord9 heq9 hall9 hb14 hown9 hrows9 hu9 hcn ht0 ht6 hc0 hc6 hn91 hl9 HOD HB9J hz
                go_wp2_with fail
                refine HCAN.out.mono ?_
                rintro e w7 ⟨rfl, hu7⟩
                have HUC7 := Lib.hid (HUC.out.trans hu7 fun _ _ h => h)
                have HS7 := Lib.hid (HSW.out.upd hu7)
                have HB7 := Lib.hid (HB14.out.upd hu7 (by simp [Nix]))
                have HOWN7 := Lib.hid (And.intro (own_upd' HOWN9.out.1 hu7 fun _ _ h => h) (fun x (hx : x ∈ rows9) => (HOWN9.out.2 x hx).upd hu7 fun _ _ h => h))
                have hcb7 : ∀ i, w7.cell? ⟨b14, i, none⟩ = _ := fun i => HB7.out.cell i
                have hcl7 := HB7.out.lt
                have HSP := Lib.hid (show refSets rank now rs (firstsR (rs.take (k + 1))) = refSets rank now rs (firstsR (rs.take k)) ++ (if canSet s.said = true then [s.said] else []) by rw [HF.out, refSets_snoc, HSAID9.out])
                have HSE := Lib.hid hs
                have HSLL := Lib.hid (show ss.length = sl from HS.out.len)
                clear hu7 hcb hcl14
                cases hc6 : canSet s.said with
                | false =>
                  have HC6 := Lib.hid hc6
                  clear hc6 hs
                  go_wp2_with fail
                  refine ⟨⟨k + 1, A2, sl, c2, ss, by omega, by rfl, rfl, HS7.out, ?_, by omega, HUC7.out⟩, ?_⟩
                  · rw [HSP.out, HC6.out, HSAID.out]
                    simp
                  · simp only [intOf]; omega
                | true =>
                  have HC6 := Lib.hid hc6
                  clear hc6 hs
                  obtain ⟨i2, hi2, hx0, hx1, hx2⟩ := info_parts infoSet
                  have hsz6 := HUC7.out.size
                  have hslm : sl + 1 ≤ maxLen := by unfold maxLen; omega
                  go_wp2_with (at_builtin; refine wpList_app _ rfl (.tmp 92) (.tmp 94) 24 rfl w.heap.size 28 i2 _ 8 96 Try.underlying24 hi2 hx0 hx1 hx2 rfl (by omega) (.slice A2 sl c2) sl ((ss.map SetV.cells).flatten) rfl (HS7.out.out.alloc _) (w7.heap.size + 1) (some ⟨w7.heap.size, 0, none⟩) 1 1 [.string r.name, .int .i64 r.type, .int .i64 r.cls, .int .i64 rank, .int .i64 0, .int .i64 (timeL now + left), .string ⟨#[]⟩, .slice A9 n9 c9] rfl (Rd.lit _ _ _ 8 1 rfl) (by intro u hu; simp only [List.mem_cons, List.not_mem_nil, or_false] at hu; rcases hu with rfl | rfl | rfl | rfl | rfl | rfl | rfl | rfl <;> rfl) hslm (by omega) (by simp; omega) ?_; intro A10 c10 w10 hown10 hg10 hat10)
                  have hown6 : w7.ownsRow w.heap.size 33 1 (.slice s.dA s.dn s.dc) s.dn (s.rows.map Row.val) ∧ ∀ r ∈ s.rows, OwnRow w7 w.heap.size r := by rw [HSE.out]; exact HOWN7.out
                  have hscells : s.cells = [.string r.name, .int .i64 r.type, .int .i64 r.cls, .int .i64 rank, .int .i64 0, .int .i64 (timeL now + left), .string ⟨#[]⟩, .slice A9 n9 c9] := by rw [HSE.out]; rfl
                  rw [← hscells] at hown10
                  have hpush := HS7.out.push HSLL.out hown6 HINTS.out hown10 hg10
                  refine ⟨⟨k + 1, A10, sl + 1, c10, ss ++ [s], by omega, by rfl, rfl, hpush, ?_, by omega, ?_⟩, ?_⟩
                  · rw [HSP.out, HC6.out, List.map_append, HSAID.out]
                    rfl
                  · refine (HUC7.out.alloc _).grown hg10 fun b hb hlt => ?_
                    have := own_ge HS7.out.out b hb
                    omega
                  · simp only [intOf]; omega
    · have hki : ¬ (k : Int) < (n : Int) := by omega
      obtain rfl : k = n := by omega
      have hfull : rs.take k = rs := List.take_of_length_le (by rw [H.out.len]; exact Nat.le_refl _)
      rw [hfull, refSets_eq] at HSAID
      have hsll : ss.length = sl := HS.out.len
      go_wp2_with fail
      go_ret
      refine ⟨A2, c2, ss, by rw [hsll]; rfl, by rw [hsll]; exact HS.out, HSAID.out, HU.out⟩
end Go.Proofs.Ytlhbikdelbollaa
