/- rrset.Negative, kind 1. -/
import Derived.Test.YtlhbikdelbollaaNegS
namespace Go.Proofs.Ytlhbikdelbollaa
open Go.RowKit Go.Cx Go.Maps

set_option maxRecDepth 100000 in
set_option maxHeartbeats 12800000 in
theorem rrset_neg1 (qn : ByteArray) (qt qc kind : Int) (r : RRV) (now : Int) (w : World) (h : RRAt w w.heap.size r) (hqn : qn.size ≤ 140737488355328) (hqt : (Lit.int .i64 qt).wf = true) (hqc : (Lit.int .i64 qc).wf = true) (hki : (Lit.int .i64 kind).wf = true) (hk : kind = 1) :
    Calls Try.prog 18 #[.agg #[.string qn, .int .i64 qt, .int .i64 qc], .int .i64 kind, r.agg, .int .i64 now] w (NegIs (negL (bytesOf qn) qt qc kind (bytesOf r.name) r.type r.ttl r.data.l now) w) := by
  subst hk
  have H := Lib.hid h
  have hdn := h.data.len
  clear h
  unfold RRV.agg
  obtain ⟨g, hg⟩ : ∃ g, w.heap.size = g := ⟨_, rfl⟩
  go_enter Try.func18, Try.ntmps18
  go_upto_region 1 with fail
  have hn3 : N3 w g qn qt qc r (((w.alloc (.cells #[.string qn, .int .i64 qt, .int .i64 qc] 41)).alloc (.cells #[.string r.name, .int .i64 r.type, .int .i64 r.cls, .int .i64 r.ttl, .slice r.data.A r.data.n r.data.c] 35)).alloc (.cells zero8 28)) :=
    ⟨((Blk.new' _ _ _ hg.symm).alloc _).alloc _, (Blk.new' _ _ _ (by simp [hg])).alloc _, Blk.new' _ _ _ (by simp [hg]), (((Below.refl g w).alloc (by omega) _).alloc (by simp; omega) _).alloc (by simp; omega) _⟩
  unfold zero8 at hn3
  rw [show g + 1 + 1 = g + 2 from rfl]
  generalize (((w.alloc (.cells #[.string qn, .int .i64 qt, .int .i64 qc] 41)).alloc (.cells #[.string r.name, .int .i64 r.type, .int .i64 r.cls, .int .i64 r.ttl, .slice r.data.A r.data.n r.data.c] 35)).alloc (.cells #[.string ⟨#[]⟩, .int .i64 0, .int .i64 0, .int .i64 0, .int .i64 0, .int .i64 0, .string ⟨#[]⟩, .slice none 0 0] 28)) = wa at *
  have HG := Lib.hid hg
  have HN := Lib.hid hn3
  have hsl := (H.out.data.below (hn3.bel.mono (B' := w.heap.size) (by omega)))
  have hsz : w.heap.size ≤ wa.heap.size := by have := hn3.sb.lt; omega
  have hd : ∀ i, wa.cell? ⟨g + 1, i, none⟩ = _ := fun i => hn3.rb.cell i
  have HSL := Lib.hid hsl
  clear hn3 hsl hg
  go_wp2_with fail
  clear hd
  refine (rdata_soa _ _ _ _ wa wa.heap.size (HSL.out.more hsz) (Nat.le_refl _)).mono ?_
  rintro e w1 ⟨hso, hu1⟩
  obtain ⟨xm, xr, f0, f1, f2, f3, f4, ok, rfl, hsb⟩ := hso.both
  unfold soaCells
  have HSO := Lib.hid hsb
  clear hso hsb
  go_upto_region 2 with fail
  obtain ⟨x, hx⟩ : ∃ x, w1.heap.size = x := ⟨_, rfl⟩
  have hxb : Blk (w1.alloc (.cells #[.string xm, .string xr, .int .i64 f0, .int .i64 f1, .int .i64 f2, .int .i64 f3, .int .i64 f4] 66)) x 66 #[.string xm, .string xr, .int .i64 f0, .int .i64 f1, .int .i64 f2, .int .i64 f3, .int .i64 f4] := Blk.new' _ _ _ hx.symm
  have hu2 : Upd Nix wa (w1.alloc (.cells #[.string xm, .string xr, .int .i64 f0, .int .i64 f1, .int .i64 f2, .int .i64 f3, .int .i64 f4] 66)) := hu1.alloc _
  rw [hx]
  generalize w1.alloc (.cells #[.string xm, .string xr, .int .i64 f0, .int .i64 f1, .int .i64 f2, .int .i64 f3, .int .i64 f4] 66) = w2 at *
  have HN2 := Lib.hid (HN.out.upd hu2)
  have HXB := Lib.hid hxb
  have HS2 := Lib.hid (HSL.out.below (hu2.belowNix hsz))
  have hsz2 : w.heap.size ≤ w2.heap.size := Nat.le_trans hsz hu2.size
  have hq2 : ∀ i, w2.cell? ⟨g, i, none⟩ = _ := fun i => HN2.out.qb.cell i
  have hr2 : ∀ i, w2.cell? ⟨g + 1, i, none⟩ = _ := fun i => HN2.out.rb.cell i
  have hc0 : ∀ i, w2.cell? ⟨g + 2, i, none⟩ = _ := fun i => HN2.out.sb.cell i
  have hf0 : ∀ i, w2.frozen? ⟨g + 2, i, none⟩ = _ := fun i => HN2.out.sb.free i
  have hl0 := HN2.out.sb.lt
  have hx2 : ∀ i, w2.cell? ⟨x, i, none⟩ = _ := fun i => HXB.out.cell i
  unfold zero8 at hc0
  clear hxb hu1 hu2 hx HN HSL hsz
  · have hk1 : (0 : Int) = 0 := rfl
    by_cases hq1 : qt < 1
    · skip
      have HV := Lib.hid (show negL (bytesOf qn) qt qc 1 (bytesOf r.name) r.type r.ttl r.data.l now = none from negL_bad (by omega))
      go_wp2_with fail
      refine bodyPost_ret (v := .tuple #[.agg zero8, .int .i64 1]) (by simp [results, Try.results18, zero8, go_sem, hc0]) rfl ?_
      rw [HV.out]
      refine ⟨Upd.of_below' ?_, .inl ⟨rfl, rfl⟩⟩
      rw [HG.out]
      exact ((((((((HN2.out.bel.setCell (by simp) _).setCell (by simp) _).setCell (by simp) _).setCell (by simp) _).setCell (by simp) _).setCell (by simp) _).setCell (by simp) _).setCell (by simp) _)
    · by_cases hq6 : 65536 ≤ qt
      · skip
        have HV := Lib.hid (show negL (bytesOf qn) qt qc 1 (bytesOf r.name) r.type r.ttl r.data.l now = none from negL_bad (by omega))
        go_wp2_with fail
        refine bodyPost_ret (v := .tuple #[.agg zero8, .int .i64 1]) (by simp [results, Try.results18, zero8, go_sem, hc0]) rfl ?_
        rw [HV.out]
        refine ⟨Upd.of_below' ?_, .inl ⟨rfl, rfl⟩⟩
        rw [HG.out]
        exact ((((((((HN2.out.bel.setCell (by simp) _).setCell (by simp) _).setCell (by simp) _).setCell (by simp) _).setCell (by simp) _).setCell (by simp) _).setCell (by simp) _).setCell (by simp) _)
      · by_cases hst : r.type = 6
        · have hsti : (r.type != 6) = false := by rw [hst]; rfl
          cases ok with
          | false =>
            have hnone : soaL r.data.l = none := by rcases HSO.out with h | h; exact h.2; cases h.1
            clear hst
            have HV := Lib.hid (show negL (bytesOf qn) qt qc 1 (bytesOf r.name) r.type r.ttl r.data.l now = none from negL_soa hnone)
            go_wp2_with fail
            refine bodyPost_ret (v := .tuple #[.agg zero8, .int .i64 1]) (by simp [results, Try.results18, zero8, go_sem, hc0]) rfl ?_
            rw [HV.out]
            refine ⟨Upd.of_below' ?_, .inl ⟨rfl, rfl⟩⟩
            rw [HG.out]
            exact ((((((((HN2.out.bel.setCell (by simp) _).setCell (by simp) _).setCell (by simp) _).setCell (by simp) _).setCell (by simp) _).setCell (by simp) _).setCell (by simp) _).setCell (by simp) _)
          | true =>
            obtain ⟨xs, hxs, hf4⟩ : ∃ x, soaL r.data.l = some x ∧ f4 = ((x.five.getD 4 0 : Nat) : Int) := by rcases HSO.out with h | h; cases h.1; exact h.2
            have hbad : ¬ ((1 : Int) ≠ 1 ∧ (1 : Int) ≠ 2 ∨ qt < 1 ∨ 65536 ≤ qt ∨ r.type ≠ 6) := by omega
            have HNG := Lib.hid (@negL_can (bytesOf qn) qt qc 1 (bytesOf r.name) r.type r.ttl r.data.l now xs hbad hxs)
            have HF4 := Lib.hid hf4
            clear hst hxs hf4 hbad
            go_upto_region 11 with fail
            obtain ⟨a, ha⟩ : ∃ a, lifeL r.ttl = a := ⟨_, rfl⟩
            obtain ⟨b, hb⟩ : ∃ b, lifeL f4 = b := ⟨_, rfl⟩
            obtain ⟨tm, htm⟩ : ∃ tm, timeL now = tm := ⟨_, rfl⟩
            have hra := lifeL_range r.ttl
            have hrb := lifeL_range f4
            have hrt := timeL_range now
            rw [ha] at hra
            rw [hb] at hrb
            rw [htm] at hrt
            have LA := Lib.hid fun W => rrset_life r.ttl W
            have LB := Lib.hid fun W => rrset_life f4 W
            have LT := Lib.hid fun W => rrset_time now W
            rw [ha] at LA
            rw [hb] at LB
            rw [htm] at LT
            have HA := Lib.hid ha
            have HB := Lib.hid hb
            have HT := Lib.hid htm
            obtain ⟨m, hm⟩ : ∃ m, min a b = m := ⟨_, rfl⟩
            have hmr : 0 ≤ m ∧ m ≤ 86400 := by omega
            have hwr : IntKind.i64.wrap (tm + m) = tm + m := by rw [IntKind.wrap_i64]; omega
            have HM := Lib.hid hm
            clear ha hb htm
            have keep : ∀ W, Upd Nix w2 W → (W.cell? ⟨g, 0, none⟩ = some (.string qn) ∧ W.cell? ⟨g, 2, none⟩ = some (.int .i64 qc)) ∧ (W.cell? ⟨g + 1, 0, none⟩ = some (.string r.name) ∧ W.cell? ⟨g + 1, 3, none⟩ = some (.int .i64 r.ttl) ∧ W.cell? ⟨g + 1, 4, none⟩ = some (.slice r.data.A r.data.n r.data.c)) ∧ W.cell? ⟨x, 6, none⟩ = some (.int .i64 f4) := fun W hW => by
              have h1 := HN2.out.upd hW
              have h2 := HXB.out.upd hW (by simp [Nix])
              exact ⟨⟨h1.qb.cell 0, h1.qb.cell 2⟩, ⟨h1.rb.cell 0, h1.rb.cell 3, h1.rb.cell 4⟩, h2.cell 6⟩
            have KEEP := Lib.hid keep
            have clone : ∀ W, Upd Nix w2 W → Calls Try.prog 35 #[.slice r.data.A r.data.n r.data.c] W _ := fun W hW =>
              bytes_clone W w.heap.size r.data.A r.data.n r.data.c r.data.l (HS2.out.below (hW.belowNix hsz2)).rd (Nat.le_trans hsz2 hW.size) (by omega)
            have CLONE := Lib.hid clone
            obtain ⟨z2, hz2⟩ : ∃ z2, w2.heap.size = z2 := ⟨_, rfl⟩
            have HZ2 := Lib.hid hz2
            clear keep clone hq2 hr2 hx2
            go_cut [13] (fun s13 wx => NegBuilt w2 (fun v => #[.string qn, .int .i64 qt, .int .i64 qc, .int .i64 3, .int .i64 1, .int .i64 (tm + m), .string r.name, v]) r.data.l s13 wx)
            case first =>
              clear hqn hqt hqc hki hc0 hf0 hl0 hk1  hq1 hq6 hsti  hra hrb hrt hmr hsz2
              go_region_held3 (fun w' => (w'.cell? ⟨g, 0, none⟩ = some (.string qn) ∧ w'.cell? ⟨g, 2, none⟩ = some (.int .i64 qc)) ∧ (w'.cell? ⟨g + 1, 0, none⟩ = some (.string r.name) ∧ w'.cell? ⟨g + 1, 3, none⟩ = some (.int .i64 r.ttl) ∧ w'.cell? ⟨g + 1, 4, none⟩ = some (.slice r.data.A r.data.n r.data.c)) ∧ w'.cell? ⟨x, 6, none⟩ = some (.int .i64 f4))
                (first | with_reducible exact KEEP.out _ HU5a.out | with_reducible exact KEEP.out _ (HU5a.out.alloc _) | with_reducible exact KEEP.out _ ((upd8 HU5a.out (Nat.le_of_eq HZ2.out)).alloc _) | (have := HU5a; go_loud (exact (0 : Nat))) | with_reducible exact KEEP.out _ (Upd.refl _ _).drew | with_reducible exact KEEP.out _ ((Upd.refl Nix w2).alloc _).drew | with_reducible exact KEEP.out _ HU5.out | with_reducible exact KEEP.out _ (HU5.out.alloc _) | with_reducible exact KEEP.out _ ((HU5.out.alloc _).alloc _) | fail)
                ((first
                | (go_at_call 33; (with_reducible refine (LT.out _).mono ?_); rintro e wt ⟨rfl, rfl⟩)
                | (go_at_call 32; (with_reducible refine (LA.out _).mono ?_); rintro e wt ⟨rfl, rfl⟩)
                | (go_at_call 32; (with_reducible refine (LB.out _).mono ?_); rintro e wt ⟨rfl, rfl⟩)
                | (go_at_call 35; (with_reducible refine (CLONE.out _ (Upd.refl _ _).drew).mono ?_); rintro e w5 ⟨A5, c5, rfl, hown5, _, _, hu5⟩; have HU5 := Lib.hid ((Upd.refl Nix w2).drew.trans hu5 (fun _ _ h => h)); have HO5 := Lib.hid hown5; clear hown5 hu5)
                | (go_at_call 35; (with_reducible refine (CLONE.out _ ((Upd.refl Nix w2).alloc _).drew).mono ?_); rintro e w5 ⟨A5, c5, rfl, hown5, _, _, hu5⟩; have HU5a := Lib.hid (((Upd.refl Nix w2).alloc _).drew.trans hu5 (fun _ _ h => h)); have HO5 := Lib.hid hown5; have hb14 := ((Blk.new w2 28 #[.string ⟨#[]⟩, .int .i64 0, .int .i64 0, .int .i64 0, .int .i64 0, .int .i64 0, .string ⟨#[]⟩, .slice none 0 0]).drew).upd hu5 (fun h => h); have hl14 := hb14.lt; rw [HZ2.out] at hb14 hl14; have hc14 := (fun i => hb14.cell i); have hf14 := (fun i => hb14.free i); have HB14 := Lib.hid hb14; clear hown5 hu5 hb14)))
              all_goals go_wp2_with fail
              all_goals
                go_meet
                first
                | with_reducible exact NegBuilt.c (cells := fun v => #[.string qn, .int .i64 qt, .int .i64 qc, .int .i64 3, .int .i64 1, .int .i64 (tm + m), .string r.name, v]) HO5.out hdn HU5.out
                | with_reducible exact NegBuilt.b (cells := fun v => #[.string qn, .int .i64 qt, .int .i64 qc, .int .i64 3, .int .i64 1, .int .i64 (tm + m), .string r.name, v]) HO5.out hdn HU5.out
                | with_reducible exact NegBuilt.a HO5.out hdn HU5a.out (Nat.le_of_eq HZ2.out) HB14.out
            case rest =>
              obtain ⟨z, gl, base, A5, n5, c5, rfl, hzge, hbz, hbl, ho5, hn5, hu5⟩ := hcut
              obtain ⟨s, hs⟩ : ∃ s : SetV, s = ⟨qn, qt, qc, 3, 1, tm + m, r.name, some ⟨gl, 0, none⟩, 1, 1, [⟨A5, n5, c5, r.data.l⟩]⟩ := ⟨_, rfl⟩
              have hsaid : s.said = negS (bytesOf qn) qt qc 1 (bytesOf r.name) r.ttl r.data.l ((xs.five.getD 4 0 : Nat) : Int) now := by
                rw [hs]
                unfold negS SetV.said
                simp only [HT.out, HA.out, ← HF4.out, HB.out, HM.out, List.map_cons, List.map_nil]
                rfl
              have hrows : ∀ W, Upd Nix wc W → RowsAt W W.heap.size (some ⟨gl, 0, none⟩) 1 1 [⟨A5, n5, c5, r.data.l⟩] := fun W hW => by
                have h1 := own_upd' ho5 hW fun _ _ h => h
                have h2 := hbl.upd hW (by simp [Nix])
                refine ⟨rfl, Nat.le_refl _, by omega, Rd.blk1 h2, fun x hx => ?_⟩
                simp only [List.mem_singleton] at hx
                subst hx
                exact sl_own h1 hn5 HS2.out.bytes
              have hwt : (Lit.int .i64 qt).wf = true := hqt
              have hwe : (Lit.int .i64 (tm + m)).wf = true := WalkArith.wf_i64 (by omega)
              have hsat : SetAt wc wc.heap.size s := by
                rw [hs]
                exact ⟨hwt, hqc, (by show (Lit.int .i64 3).wf = true; decide), hki, hwe, hqn, H.out.name, hrows wc (Upd.refl _ _)⟩
              have hcan := entry_can s wc wc.heap.size hsat (Nat.le_refl _)
              unfold SetV.agg at hcan
              rw [hs] at hcan
              have HCAN := Lib.hid hcan
              have HSAID := Lib.hid hsaid
              have HBZ := Lib.hid hbz
              have HBL := Lib.hid hbl
              have HO := Lib.hid ho5
              have HU := Lib.hid hu5
              have HN5 := Lib.hid (HN2.out.upd hu5)
              have hcz : ∀ i, wc.cell? ⟨z, i, none⟩ = _ := fun i => hbz.cell i
              have hcl := hbz.lt
              clear hcan hsaid hbz hbl ho5 hu5 hrows hsat hc0 hf0 hl0
              go_wp2_with fail
              refine HCAN.out.mono ?_
              rintro e w6 ⟨rfl, hu6⟩
              have HN6 := Lib.hid (HN5.out.upd hu6)
              have HBZ6 := Lib.hid (HBZ.out.upd hu6 (by simp [Nix]))
              have HBL6 := Lib.hid (HBL.out.upd hu6 (by simp [Nix]))
              have HO6 := Lib.hid (own_upd' HO.out hu6 fun _ _ h => h)
              have hcz6 : ∀ i, w6.cell? ⟨z, i, none⟩ = _ := fun i => HBZ6.out.cell i
              have hcl6 := HBZ6.out.lt
              have hc0 : ∀ i, w6.cell? ⟨g + 2, i, none⟩ = _ := fun i => HN6.out.sb.cell i
              have hf0 : ∀ i, w6.frozen? ⟨g + 2, i, none⟩ = _ := fun i => HN6.out.sb.free i
              have hl0 := HN6.out.sb.lt
              unfold zero8 at hc0
              have HSE := Lib.hid hs
              rw [← hs]
              clear hcz hcl hu6
              cases hcs : canSet s.said with
              | false =>
                have HV := Lib.hid (show negL (bytesOf qn) qt qc 1 (bytesOf r.name) r.type r.ttl r.data.l now = none by rw [HNG.out, ← HSAID.out, hcs]; rfl)
                clear hcs hs
                go_wp2_with fail
                refine bodyPost_ret (v := .tuple #[.agg zero8, .int .i64 1]) (by simp [results, Try.results18, zero8, go_sem, hc0]) rfl ?_
                rw [HV.out]
                refine ⟨Upd.of_below' ?_, .inl ⟨rfl, rfl⟩⟩
                rw [HG.out]
                exact ((((((((HN6.out.bel.setCell (by simp) _).setCell (by simp) _).setCell (by simp) _).setCell (by simp) _).setCell (by simp) _).setCell (by simp) _).setCell (by simp) _).setCell (by simp) _)
              | true =>
                have HV := Lib.hid (show negL (bytesOf qn) qt qc 1 (bytesOf r.name) r.type r.ttl r.data.l now = some s.said by rw [HNG.out, ← HSAID.out, hcs]; rfl)
                clear hcs hs
                go_wp2_with fail
                refine bodyPost_ret (v := .tuple #[.agg #[.string qn, .int .i64 qt, .int .i64 qc, .int .i64 3, .int .i64 1, .int .i64 (tm + m), .string r.name, .slice (some ⟨gl, 0, none⟩) 1 1], .int .i64 0]) (by simp [results, Try.results18, go_sem, hc0]) rfl ?_
                rw [HV.out]
                refine ⟨Upd.of_below' ?_, .inr ⟨s, rfl, by rw [HSE.out]; rfl, ?_⟩⟩
                · rw [HG.out]
                  exact ((((((((HN6.out.bel.setCell (by simp) _).setCell (by simp) _).setCell (by simp) _).setCell (by simp) _).setCell (by simp) _).setCell (by simp) _).setCell (by simp) _).setCell (by simp) _)
                · rw [HSE.out]
                  exact ⟨hwt, hqc, (by show (Lit.int .i64 3).wf = true; decide), hki, hwe, hqn, H.out.name, sl_own_set HO6.out hn5 HS2.out.bytes HN6.out.sb HBL6.out upd8one⟩
        · have hsti : (r.type != 6) = true := by simpa using hst
          skip
          have HV := Lib.hid (show negL (bytesOf qn) qt qc 1 (bytesOf r.name) r.type r.ttl r.data.l now = none from negL_bad (by omega))
          go_wp2_with fail
          refine bodyPost_ret (v := .tuple #[.agg zero8, .int .i64 1]) (by simp [results, Try.results18, zero8, go_sem, hc0]) rfl ?_
          rw [HV.out]
          refine ⟨Upd.of_below' ?_, .inl ⟨rfl, rfl⟩⟩
          rw [HG.out]
          exact ((((((((HN2.out.bel.setCell (by simp) _).setCell (by simp) _).setCell (by simp) _).setCell (by simp) _).setCell (by simp) _).setCell (by simp) _).setCell (by simp) _).setCell (by simp) _)
end Go.Proofs.Ytlhbikdelbollaa
