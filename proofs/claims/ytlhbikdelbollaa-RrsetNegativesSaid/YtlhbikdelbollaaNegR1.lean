/- ciceroneref09.Negative, kind 1. -/
import Derived.Test.YtlhbikdelbollaaNegC
namespace Go.Proofs.Ytlhbikdelbollaa
open Go.RowKit Go.Cx Go.Maps

set_option maxRecDepth 100000 in
set_option maxHeartbeats 12800000 in
theorem ref_neg1 (qn : ByteArray) (qt qc kind : Int) (r : RRV) (now : Int) (w : World) (h : RRAt w w.heap.size r) (hqn : qn.size ≤ 140737488355328) (hqt : (Lit.int .i64 qt).wf = true) (hqc : (Lit.int .i64 qc).wf = true) (hki : (Lit.int .i64 kind).wf = true) (hk : kind = 1) :
    Calls Try.prog 19 #[.agg #[.string qn, .int .i64 qt, .int .i64 qc], .int .i64 kind, r.agg, .int .i64 now] w (NegIs (negL (bytesOf qn) qt qc kind (bytesOf r.name) r.type r.ttl r.data.l now) w) := by
  subst hk
  obtain ⟨i0, hi0, hz0, hz1, hz2'⟩ := info_parts infoU8
  have H := Lib.hid h
  have hdn := h.data.len
  clear h
  unfold RRV.agg
  obtain ⟨g, hg⟩ : ∃ g, w.heap.size = g := ⟨_, rfl⟩
  go_enter Try.func19, Try.ntmps19
  go_upto_region 1 with fail
  have hn3 : N3 w g qn qt qc r (((w.alloc (.cells #[.string qn, .int .i64 qt, .int .i64 qc] 41)).alloc (.cells #[.string r.name, .int .i64 r.type, .int .i64 r.cls, .int .i64 r.ttl, .slice r.data.A r.data.n r.data.c] 35)).alloc (.cells zero8 28)) :=
    ⟨((Blk.new' _ _ _ hg.symm).alloc _).alloc _, (Blk.new' _ _ _ (by simp [hg])).alloc _, Blk.new' _ _ _ (by simp [hg]), (((Below.refl g w).alloc (by omega) _).alloc (by simp; omega) _).alloc (by simp; omega) _⟩
  unfold zero8 at hn3
  rw [show g + 1 + 1 = g + 2 from rfl]
  generalize (((w.alloc (.cells #[.string qn, .int .i64 qt, .int .i64 qc] 41)).alloc (.cells #[.string r.name, .int .i64 r.type, .int .i64 r.cls, .int .i64 r.ttl, .slice r.data.A r.data.n r.data.c] 35)).alloc (.cells #[.string ⟨#[]⟩, .int .i64 0, .int .i64 0, .int .i64 0, .int .i64 0, .int .i64 0, .string ⟨#[]⟩, .slice none 0 0] 28)) = wa at *
  have HG := Lib.hid hg
  have HN := Lib.hid hn3
  have hsl := (H.out.data.below (hn3.bel.mono (B' := w.heap.size) (by omega)))
  have hsz : w.heap.size ≤ wa.heap.size := by have := hn3.sb.lt; omega
  have hd : ∀ i, wa.cell? ⟨g + 1, i, none⟩ = _ := fun i => hn3.rb.cell i
  have HSL := Lib.hid hsl
  clear hn3 hsl hg
  go_wp2_with fail
  clear hd
  refine (ref_soa _ _ _ _ wa ((HSL.out.more hsz))).mono ?_
  rintro e w1 ⟨hso, hu1⟩
  obtain ⟨xm, xr, f0, f1, f2, f3, f4, ok, rfl, hsb⟩ := hso.both
  unfold soaCells
  have HSO := Lib.hid hsb
  clear hso hsb
  go_upto_region 2 with fail
  obtain ⟨x, hx⟩ : ∃ x, w1.heap.size = x := ⟨_, rfl⟩
  have hxb : Blk (w1.alloc (.cells #[.string xm, .string xr, .int .i64 f0, .int .i64 f1, .int .i64 f2, .int .i64 f3, .int .i64 f4] 66)) x 66 #[.string xm, .string xr, .int .i64 f0, .int .i64 f1, .int .i64 f2, .int .i64 f3, .int .i64 f4] := Blk.new' _ _ _ hx.symm
  have hu2 : Upd Nix wa (w1.alloc (.cells #[.string xm, .string xr, .int .i64 f0, .int .i64 f1, .int .i64 f2, .int .i64 f3, .int .i64 f4] 66)) := hu1.alloc _
  rw [hx]
  generalize w1.alloc (.cells #[.string xm, .string xr, .int .i64 f0, .int .i64 f1, .int .i64 f2, .int .i64 f3, .int .i64 f4] 66) = w2 at *
  have HN2 := Lib.hid (HN.out.upd hu2)
  have HXB := Lib.hid hxb
  have HS2 := Lib.hid (HSL.out.below (hu2.belowNix hsz))
  have hsz2 : w.heap.size ≤ w2.heap.size := Nat.le_trans hsz hu2.size
  have hq2 : ∀ i, w2.cell? ⟨g, i, none⟩ = _ := fun i => HN2.out.qb.cell i
  have hr2 : ∀ i, w2.cell? ⟨g + 1, i, none⟩ = _ := fun i => HN2.out.rb.cell i
  have hc0 : ∀ i, w2.cell? ⟨g + 2, i, none⟩ = _ := fun i => HN2.out.sb.cell i
  have hf0 : ∀ i, w2.frozen? ⟨g + 2, i, none⟩ = _ := fun i => HN2.out.sb.free i
  have hl0 := HN2.out.sb.lt
  unfold zero8 at hc0
  have CQ := Lib.hid fun W => ref_can qn W hqn
  have CS := Lib.hid fun W => ref_can r.name W H.out.name
  clear hxb hu1 hu2 hx HN HSL hsz
  have hk1 : (0 : Int) = 0 := rfl
  cases hcq : canL (bytesOf qn) with
  | false =>
    rw [hcq] at CQ
    skip
    have HV := Lib.hid (show negL (bytesOf qn) qt qc 1 (bytesOf r.name) r.type r.ttl r.data.l now = none from negL_key (.inl hcq))
    go_wp2_with (first
      | (go_at_call 46; with_reducible refine (CQ.out _).mono ?_; rintro e wq ⟨rfl, rfl⟩)
      | (go_at_call 46; with_reducible refine (CS.out _).mono ?_; rintro e wq ⟨rfl, rfl⟩))
    refine bodyPost_ret (v := .tuple #[.agg zero8, .int .i64 1]) (by simp [results, Try.results19, zero8, go_sem, hc0]) rfl ?_
    rw [HV.out]
    refine ⟨Upd.of_below' ?_, .inl ⟨rfl, rfl⟩⟩
    rw [HG.out]
    exact ((((((((HN2.out.bel.setCell (by simp) _).setCell (by simp) _).setCell (by simp) _).setCell (by simp) _).setCell (by simp) _).setCell (by simp) _).setCell (by simp) _).setCell (by simp) _)
  | true =>
    rw [hcq] at CQ
    cases hcs : canL (bytesOf r.name) with
    | false =>
      rw [hcs] at CS
      skip
      have HV := Lib.hid (show negL (bytesOf qn) qt qc 1 (bytesOf r.name) r.type r.ttl r.data.l now = none from negL_key (.inr (.inl hcs)))
      go_wp2_with (first
        | (go_at_call 46; with_reducible refine (CQ.out _).mono ?_; rintro e wq ⟨rfl, rfl⟩)
        | (go_at_call 46; with_reducible refine (CS.out _).mono ?_; rintro e wq ⟨rfl, rfl⟩))
      refine bodyPost_ret (v := .tuple #[.agg zero8, .int .i64 1]) (by simp [results, Try.results19, zero8, go_sem, hc0]) rfl ?_
      rw [HV.out]
      refine ⟨Upd.of_below' ?_, .inl ⟨rfl, rfl⟩⟩
      rw [HG.out]
      exact ((((((((HN2.out.bel.setCell (by simp) _).setCell (by simp) _).setCell (by simp) _).setCell (by simp) _).setCell (by simp) _).setCell (by simp) _).setCell (by simp) _).setCell (by simp) _)
    | true =>
      rw [hcs] at CS
      by_cases hq1 : qt < 1
      · have hq1' : decide (qt < 1) = true := decide_eq_true hq1
        skip
        have HV := Lib.hid (show negL (bytesOf qn) qt qc 1 (bytesOf r.name) r.type r.ttl r.data.l now = none from negL_bad (by omega))
        go_wp2_with (first
          | (go_at_call 46; with_reducible refine (CQ.out _).mono ?_; rintro e wq ⟨rfl, rfl⟩)
          | (go_at_call 46; with_reducible refine (CS.out _).mono ?_; rintro e wq ⟨rfl, rfl⟩))
        refine bodyPost_ret (v := .tuple #[.agg zero8, .int .i64 1]) (by simp [results, Try.results19, zero8, go_sem, hc0]) rfl ?_
        rw [HV.out]
        refine ⟨Upd.of_below' ?_, .inl ⟨rfl, rfl⟩⟩
        rw [HG.out]
        exact ((((((((HN2.out.bel.setCell (by simp) _).setCell (by simp) _).setCell (by simp) _).setCell (by simp) _).setCell (by simp) _).setCell (by simp) _).setCell (by simp) _).setCell (by simp) _)
      have hq1' : decide (qt < 1) = false := decide_eq_false hq1
      by_cases hq6 : 65535 < qt
      · have hq6' : decide (65535 < qt) = true := decide_eq_true hq6
        skip
        have HV := Lib.hid (show negL (bytesOf qn) qt qc 1 (bytesOf r.name) r.type r.ttl r.data.l now = none from negL_bad (by omega))
        go_wp2_with (first
          | (go_at_call 46; with_reducible refine (CQ.out _).mono ?_; rintro e wq ⟨rfl, rfl⟩)
          | (go_at_call 46; with_reducible refine (CS.out _).mono ?_; rintro e wq ⟨rfl, rfl⟩))
        refine bodyPost_ret (v := .tuple #[.agg zero8, .int .i64 1]) (by simp [results, Try.results19, zero8, go_sem, hc0]) rfl ?_
        rw [HV.out]
        refine ⟨Upd.of_below' ?_, .inl ⟨rfl, rfl⟩⟩
        rw [HG.out]
        exact ((((((((HN2.out.bel.setCell (by simp) _).setCell (by simp) _).setCell (by simp) _).setCell (by simp) _).setCell (by simp) _).setCell (by simp) _).setCell (by simp) _).setCell (by simp) _)
      have hq6' : decide (65535 < qt) = false := decide_eq_false hq6
      by_cases hc1 : qc < 0
      · have hc1' : decide (qc < 0) = true := decide_eq_true hc1
        skip
        have HV := Lib.hid (show negL (bytesOf qn) qt qc 1 (bytesOf r.name) r.type r.ttl r.data.l now = none from negL_key (by omega))
        go_wp2_with (first
          | (go_at_call 46; with_reducible refine (CQ.out _).mono ?_; rintro e wq ⟨rfl, rfl⟩)
          | (go_at_call 46; with_reducible refine (CS.out _).mono ?_; rintro e wq ⟨rfl, rfl⟩))
        refine bodyPost_ret (v := .tuple #[.agg zero8, .int .i64 1]) (by simp [results, Try.results19, zero8, go_sem, hc0]) rfl ?_
        rw [HV.out]
        refine ⟨Upd.of_below' ?_, .inl ⟨rfl, rfl⟩⟩
        rw [HG.out]
        exact ((((((((HN2.out.bel.setCell (by simp) _).setCell (by simp) _).setCell (by simp) _).setCell (by simp) _).setCell (by simp) _).setCell (by simp) _).setCell (by simp) _).setCell (by simp) _)
      have hc1' : decide (qc < 0) = false := decide_eq_false hc1
      by_cases hc6 : 65535 < qc
      · have hc6' : decide (65535 < qc) = true := decide_eq_true hc6
        skip
        have HV := Lib.hid (show negL (bytesOf qn) qt qc 1 (bytesOf r.name) r.type r.ttl r.data.l now = none from negL_key (by omega))
        go_wp2_with (first
          | (go_at_call 46; with_reducible refine (CQ.out _).mono ?_; rintro e wq ⟨rfl, rfl⟩)
          | (go_at_call 46; with_reducible refine (CS.out _).mono ?_; rintro e wq ⟨rfl, rfl⟩))
        refine bodyPost_ret (v := .tuple #[.agg zero8, .int .i64 1]) (by simp [results, Try.results19, zero8, go_sem, hc0]) rfl ?_
        rw [HV.out]
        refine ⟨Upd.of_below' ?_, .inl ⟨rfl, rfl⟩⟩
        rw [HG.out]
        exact ((((((((HN2.out.bel.setCell (by simp) _).setCell (by simp) _).setCell (by simp) _).setCell (by simp) _).setCell (by simp) _).setCell (by simp) _).setCell (by simp) _).setCell (by simp) _)
      have hc6' : decide (65535 < qc) = false := decide_eq_false hc6
      by_cases hst : r.type = 6
      case neg =>
        have hsti : (r.type != 6) = true := by simpa using hst
        skip
        have HV := Lib.hid (show negL (bytesOf qn) qt qc 1 (bytesOf r.name) r.type r.ttl r.data.l now = none from negL_bad (by omega))
        go_wp2_with (first
          | (go_at_call 46; with_reducible refine (CQ.out _).mono ?_; rintro e wq ⟨rfl, rfl⟩)
          | (go_at_call 46; with_reducible refine (CS.out _).mono ?_; rintro e wq ⟨rfl, rfl⟩))
        refine bodyPost_ret (v := .tuple #[.agg zero8, .int .i64 1]) (by simp [results, Try.results19, zero8, go_sem, hc0]) rfl ?_
        rw [HV.out]
        refine ⟨Upd.of_below' ?_, .inl ⟨rfl, rfl⟩⟩
        rw [HG.out]
        exact ((((((((HN2.out.bel.setCell (by simp) _).setCell (by simp) _).setCell (by simp) _).setCell (by simp) _).setCell (by simp) _).setCell (by simp) _).setCell (by simp) _).setCell (by simp) _)
      have hsti : (r.type != 6) = false := by rw [hst]; rfl
      cases ok with
      | false =>
        have hnone : soaL r.data.l = none := by rcases HSO.out with h | h; exact h.2; cases h.1
        clear hst
        have HV := Lib.hid (show negL (bytesOf qn) qt qc 1 (bytesOf r.name) r.type r.ttl r.data.l now = none from negL_soa hnone)
        go_wp2_with (first
          | (go_at_call 46; with_reducible refine (CQ.out _).mono ?_; rintro e wq ⟨rfl, rfl⟩)
          | (go_at_call 46; with_reducible refine (CS.out _).mono ?_; rintro e wq ⟨rfl, rfl⟩))
        refine bodyPost_ret (v := .tuple #[.agg zero8, .int .i64 1]) (by simp [results, Try.results19, zero8, go_sem, hc0]) rfl ?_
        rw [HV.out]
        refine ⟨Upd.of_below' ?_, .inl ⟨rfl, rfl⟩⟩
        rw [HG.out]
        exact ((((((((HN2.out.bel.setCell (by simp) _).setCell (by simp) _).setCell (by simp) _).setCell (by simp) _).setCell (by simp) _).setCell (by simp) _).setCell (by simp) _).setCell (by simp) _)
      | true =>
        obtain ⟨xs, hxs, hf4⟩ : ∃ x, soaL r.data.l = some x ∧ f4 = ((x.five.getD 4 0 : Nat) : Int) := by rcases HSO.out with h | h; cases h.1; exact h.2
        have hbad : ¬ ((1 : Int) ≠ 1 ∧ (1 : Int) ≠ 2 ∨ qt < 1 ∨ 65536 ≤ qt ∨ r.type ≠ 6) := by omega
        have HNG := Lib.hid (@negL_can (bytesOf qn) qt qc 1 (bytesOf r.name) r.type r.ttl r.data.l now xs hbad hxs)
        have HF4 := Lib.hid hf4
        obtain ⟨tN, rfl⟩ : ∃ tN : Nat, qt = (tN : Int) := ⟨qt.toNat, by omega⟩
        obtain ⟨cN, rfl⟩ : ∃ cN : Nat, qc = (cN : Int) := ⟨qc.toNat, by omega⟩
        have HCQ := Lib.hid hcq
        have HCS := Lib.hid hcs
        clear hst hxs hf4 hbad hcq hcs
        go_upto_region 4 with (first
          | (go_at_call 46; with_reducible refine (CQ.out _).mono ?_; rintro e wq ⟨rfl, rfl⟩)
          | (go_at_call 46; with_reducible refine (CS.out _).mono ?_; rintro e wq ⟨rfl, rfl⟩))
        have keep : ∀ W, Upd Nix w2 W → (W.cell? ⟨g, 0, none⟩ = some (.string qn) ∧ W.cell? ⟨g, 1, none⟩ = some (.int .i64 tN) ∧ W.cell? ⟨g, 2, none⟩ = some (.int .i64 cN)) ∧ (W.cell? ⟨g + 1, 0, none⟩ = some (.string r.name) ∧ W.cell? ⟨g + 1, 4, none⟩ = some (.slice r.data.A r.data.n r.data.c)) := fun W hW => by
          have h1 := HN2.out.upd hW
          exact ⟨⟨h1.qb.cell 0, h1.qb.cell 1, h1.qb.cell 2⟩, ⟨h1.rb.cell 0, h1.rb.cell 4⟩⟩
        have KEEP := Lib.hid keep
        have rd : ∀ W, Upd Nix w2 W → Rd W w.heap.size 1 r.data.A r.data.n (byts r.data.l) := fun W hW => (HS2.out.below (hW.belowNix hsz2)).rd
        have RD := Lib.hid rd
        obtain ⟨z2, hz2⟩ : ∃ z2, w2.heap.size = z2 := ⟨_, rfl⟩
        have HZ2 := Lib.hid hz2
        clear keep rd hq2 hr2
        go_cut [12] (fun s12 wx => NegBuilt w2 (fun v => #[.string qn, .int .i64 tN, .int .i64 cN, .int .i64 3, .int .i64 1, .int .i64 0, .string r.name, v]) r.data.l s12 wx)
        case first =>
          clear hqn hqt hqc hki hc0 hf0 hl0 hk1  hq1 hq6 hc1 hc6 hq1' hq6' hc1' hc6' hsti 
          go_region_held3 (fun w' => (w'.cell? ⟨g, 0, none⟩ = some (.string qn) ∧ w'.cell? ⟨g, 1, none⟩ = some (.int .i64 tN) ∧ w'.cell? ⟨g, 2, none⟩ = some (.int .i64 cN)) ∧ (w'.cell? ⟨g + 1, 0, none⟩ = some (.string r.name) ∧ w'.cell? ⟨g + 1, 4, none⟩ = some (.slice r.data.A r.data.n r.data.c)))
            (first | with_reducible exact KEEP.out _ HU5a.out | with_reducible exact KEEP.out _ (HU5a.out.alloc _) | with_reducible exact KEEP.out _ ((upd8 HU5a.out HZG.out).alloc _) | (have := HU5a; go_loud (exact (0 : Nat))) | with_reducible exact KEEP.out _ (Upd.refl _ _).drew | with_reducible exact KEEP.out _ ((Upd.refl Nix w2).alloc _).drew | with_reducible exact KEEP.out _ (((Upd.refl Nix w2).alloc _).alloc _).drew | with_reducible exact KEEP.out _ HU5.out | with_reducible exact KEEP.out _ (HU5.out.alloc _) | with_reducible exact KEEP.out _ ((HU5.out.alloc _).alloc _) | go_loud (exact (0 : Nat)))
            ((first
            | (refine step_app _ rfl (.tmp 76) (.tmp 78) 33 rfl z2 5 i0 _ 1 1 Try.underlying33 hi0 hz0 hz1 hz2' rfl (by omega) (.slice (some ⟨z2, 0, none⟩) 0 0) 0 [] rfl (negr_lit1 HZ2.out) w.heap.size r.data.A r.data.n r.data.c (byts r.data.l) rfl (RD.out _ ((Upd.refl Nix w2).alloc _).drew) (byts_one _) (by unfold maxLen; omega) (by omega) (by simp; omega) ?_; intro A5 c5 w5 hown5 hg5 hat5; have HU5 := Lib.hid (negr_upd (v := .slice (some ⟨z2, 0, none⟩) 0 0) (k := Nat.le_of_eq HZ2.out) ((Upd.refl Nix w2).alloc _).drew hg5 rfl); have HO5 := Lib.hid (negr_own hown5); clear hown5 hg5 hat5)
            | (refine step_app _ rfl (.tmp 76) (.tmp 78) 33 rfl z2 5 i0 _ 1 1 Try.underlying33 hi0 hz0 hz1 hz2' rfl (by omega) (.slice (some ⟨z2 + 1, 0, none⟩) 0 0) 0 [] rfl (negr_lit2 HZ2.out) w.heap.size r.data.A r.data.n r.data.c (byts r.data.l) rfl (RD.out _ (((Upd.refl Nix w2).alloc _).alloc _).drew) (byts_one _) (by unfold maxLen; omega) (by omega) (by simp; omega) ?_; intro A5 c5 w5 hown5 hg5 hat5; have HU5a := Lib.hid (negr_upd (v := .slice (some ⟨z2 + 1, 0, none⟩) 0 0) (k := Nat.le_trans (Nat.le_of_eq HZ2.out) (Nat.le_succ _)) (((Upd.refl Nix w2).alloc _).alloc _).drew hg5 rfl); have HO5 := Lib.hid (negr_own hown5); have HZG := Lib.hid (Nat.le_of_eq HZ2.out); have hb14 := (negr_blk1 HZ2.out).upd (negr_gr hg5 rfl) (show ¬ Go.Cx.One (z2 + 1) z2 by unfold Go.Cx.One; omega); have hl14 := hb14.lt; have hc14 := (fun i => hb14.cell i); have hf14 := (fun i => hb14.free i); have HB14 := Lib.hid hb14; clear hown5 hg5 hat5 hb14)
            | (refine step_app _ rfl (.tmp 76) (.tmp 78) 33 rfl z2 5 i0 _ 1 1 Try.underlying33 hi0 hz0 hz1 hz2' rfl (by omega) (.slice (some ⟨z2, 0, none⟩) 0 0) 0 [] rfl (negr_lit3 HZ2.out) w.heap.size r.data.A r.data.n r.data.c (byts r.data.l) rfl (RD.out _ (((Upd.refl Nix w2).alloc _).alloc _).drew) (byts_one _) (by unfold maxLen; omega) (by omega) (by simp; omega) ?_; intro A5 c5 w5 hown5 hg5 hat5; have HU5a := Lib.hid (negr_upd (v := .slice (some ⟨z2, 0, none⟩) 0 0) (k := Nat.le_of_eq HZ2.out) (((Upd.refl Nix w2).alloc _).alloc _).drew hg5 rfl); have HO5 := Lib.hid (negr_own hown5); have HZG := Lib.hid (Nat.le_trans (Nat.le_of_eq HZ2.out) (Nat.le_succ _)); have hb14 := (negr_blk2 HZ2.out).upd (negr_gr hg5 rfl) (show ¬ Go.Cx.One z2 (z2 + 1) by unfold Go.Cx.One; omega); have hl14 := hb14.lt; have hc14 := (fun i => hb14.cell i); have hf14 := (fun i => hb14.free i); have HB14 := Lib.hid hb14; clear hown5 hg5 hat5 hb14)))
          all_goals go_wp2_with fail
          all_goals
            go_meet
            first
            | with_reducible exact NegBuilt.c (cells := fun v => #[.string qn, .int .i64 tN, .int .i64 cN, .int .i64 3, .int .i64 1, .int .i64 0, .string r.name, v]) HO5.out hdn HU5.out
            | with_reducible exact NegBuilt.b (cells := fun v => #[.string qn, .int .i64 tN, .int .i64 cN, .int .i64 3, .int .i64 1, .int .i64 0, .string r.name, v]) HO5.out hdn HU5.out
            | with_reducible exact NegBuilt.a HO5.out hdn HU5a.out HZG.out HB14.out
        case rest =>
          obtain ⟨z, gl, base, A5, n5, c5, rfl, hzge, hbz, hbl, ho5, hn5, hu5⟩ := hcut
          have HBZ := Lib.hid hbz
          have HBL := Lib.hid hbl
          have HO := Lib.hid ho5
          have HU := Lib.hid hu5
          have hzn : z < w2.heap.size → Nix z := fun h => by omega
          have HZN := Lib.hid hzn
          have hcz : ∀ i, wc.cell? ⟨z, i, none⟩ = _ := fun i => hbz.cell i
          have hfz : ∀ i, wc.frozen? ⟨z, i, none⟩ = _ := fun i => hbz.free i
          have hcl := hbz.lt
          clear hbz hbl ho5 hu5 hc0 hf0 hl0 hzn
          go_upto_region 7 with fail
          obtain ⟨a, ha⟩ : ∃ a, lifeL r.ttl = a := ⟨_, rfl⟩
          obtain ⟨b, hb⟩ : ∃ b, lifeL f4 = b := ⟨_, rfl⟩
          obtain ⟨tm, htm⟩ : ∃ tm, timeL now = tm := ⟨_, rfl⟩
          have hra := lifeL_range r.ttl
          have hrb := lifeL_range f4
          have hrt := timeL_range now
          rw [ha] at hra
          rw [hb] at hrb
          rw [htm] at hrt
          have LA := Lib.hid fun W => ref_ttl9 r.ttl W
          have LB := Lib.hid fun W => ref_ttl9 f4 W
          have LT := Lib.hid fun W => ref_time9 now W
          rw [ha] at LA
          rw [hb] at LB
          rw [htm] at LT
          have HA := Lib.hid ha
          have HB := Lib.hid hb
          have HT := Lib.hid htm
          obtain ⟨m, hm⟩ : ∃ m, min a b = m := ⟨_, rfl⟩
          have hwr : IntKind.i64.wrap (tm + m) = tm + m := by rw [IntKind.wrap_i64]; omega
          obtain ⟨eN, heN⟩ : ∃ eN : Nat, tm + m = (eN : Int) := ⟨(tm + m).toNat, by omega⟩
          have heb : eN ≤ 1099511627776 := by omega
          have HM := Lib.hid hm
          have HEN := Lib.hid heN
          have keep2 : ∀ W, Upd Nix w2 W → W.cell? ⟨g + 1, 3, none⟩ = some (.int .i64 r.ttl) ∧ W.cell? ⟨x, 6, none⟩ = some (.int .i64 f4) := fun W hW => by
            have h1 := HN2.out.upd hW
            have h2 := HXB.out.upd hW (by simp [Nix])
            exact ⟨h1.rb.cell 3, h2.cell 6⟩
          have KEEP2 := Lib.hid keep2
          clear ha hb htm keep2 heN hra hrb hrt
          go_region_held3 (fun w' => w'.cell? ⟨g + 1, 3, none⟩ = some (.int .i64 r.ttl) ∧ w'.cell? ⟨x, 6, none⟩ = some (.int .i64 f4))
            (first | with_reducible exact KEEP2.out _ HU.out.drew | with_reducible exact KEEP2.out _ (HU.out.setCell (p := ⟨z, 5, none⟩) HZN.out _).drew | go_loud (exact (0 : Nat)))
            ((first
            | (go_at_call 40; (with_reducible refine (LT.out _).mono ?_); rintro e wt ⟨rfl, rfl⟩)
            | (go_at_call 39; (with_reducible refine (LA.out _).mono ?_); rintro e wt ⟨rfl, rfl⟩)
            | (go_at_call 39; (with_reducible refine (LB.out _).mono ?_); rintro e wt ⟨rfl, rfl⟩)))
          have hbz : Blk ((wc.setCell ⟨z, 5, none⟩ (.int .i64 (tm + m))).drew) z 28 #[.string qn, .int .i64 tN, .int .i64 cN, .int .i64 3, .int .i64 1, .int .i64 (tm + m), .string r.name, .slice (some ⟨gl, 0, none⟩) 1 1] := by have h1 := (HBZ.out.set 5 (.int .i64 (tm + m))).drew; simpa using h1
          have hkz : Upd (Go.Cx.One z) wc ((wc.setCell ⟨z, 5, none⟩ (.int .i64 (tm + m))).drew) := ((Upd.refl (Go.Cx.One z) _).set rfl _).drew
          have HBL := Lib.hid (HBL.out.upd hkz (negr_ne HBL.out HBZ.out hkz))
          have HO := Lib.hid (own_upd' HO.out hkz fun x hx hs => own_ne_blk' HO.out HBZ.out (by decide) (by have hs : x = z := hs; rw [← hs]; exact hx))
          have HU := Lib.hid (HU.out.setCell (p := ⟨z, 5, none⟩) HZN.out (.int .i64 (tm + m))).drew
          have HBZ := Lib.hid hbz
          clear hcz hfz hcl hkz hbz
          generalize (wc.setCell ⟨z, 5, none⟩ (.int .i64 (tm + m))).drew = wc at *
          have hcz : ∀ i, wc.cell? ⟨z, i, none⟩ = _ := fun i => HBZ.out.cell i
          have hcl := HBZ.out.lt
          have hcan : Calls Try.prog 41 #[.agg #[.string qn, .int .i64 tN, .int .i64 cN, .int .i64 3, .int .i64 1, .int .i64 (tm + m), .string r.name, .slice (some ⟨gl, 0, none⟩) 1 1]] wc (fun e w' => e = .returned (.bool (canSet ⟨bytesOf qn, ((tN : Nat) : Int), cN, 3, ((1 : Nat) : Int), eN, bytesOf r.name, [r.data.l]⟩)) ∧ Upd Nix wc w') := by
            rw [HEN.out]
            exact ref_can8n qn r.name tN cN 1 eN gl base A5 n5 c5 r.data.l wc HBL.out HO.out hn5 HS2.out.bytes HCQ.out HCS.out (by omega) (by omega) (by omega) heb (by omega)
          obtain ⟨s, hs⟩ : ∃ s : SetV, s = ⟨qn, tN, cN, 3, 1, tm + m, r.name, some ⟨gl, 0, none⟩, 1, 1, [⟨A5, n5, c5, r.data.l⟩]⟩ := ⟨_, rfl⟩
          have hsaid : s.said = negS (bytesOf qn) tN cN 1 (bytesOf r.name) r.ttl r.data.l ((xs.five.getD 4 0 : Nat) : Int) now := by
            rw [hs]
            unfold negS SetV.said
            simp only [HT.out, HA.out, ← HF4.out, HB.out, HM.out, List.map_cons, List.map_nil]
            rfl
          have hsaid2 : s.said = ⟨bytesOf qn, ((tN : Nat) : Int), cN, 3, ((1 : Nat) : Int), eN, bytesOf r.name, [r.data.l]⟩ := by
            rw [hs]
            unfold SetV.said
            simp only [HEN.out, List.map_cons, List.map_nil]
            rfl
          have HCAN := Lib.hid hcan
          have HSAID := Lib.hid hsaid
          have HSAID2 := Lib.hid hsaid2
          have hwt : (Lit.int .i64 tN).wf = true := hqt
          have hwe : (Lit.int .i64 (tm + m)).wf = true := by rw [HEN.out]; exact WalkArith.wf_i64 (by omega)
          have HN5 := Lib.hid (HN2.out.upd HU.out)
          clear hcan hsaid hsaid2
          go_wp2_with fail
          refine HCAN.out.mono ?_
          rintro e w6 ⟨rfl, hu6⟩
          rw [← HSAID2.out]
          have HN6 := Lib.hid (HN5.out.upd hu6)
          have HBZ6 := Lib.hid (HBZ.out.upd hu6 (by simp [Nix]))
          have HBL6 := Lib.hid (HBL.out.upd hu6 (by simp [Nix]))
          have HO6 := Lib.hid (own_upd' HO.out hu6 fun _ _ h => h)
          have hcz6 : ∀ i, w6.cell? ⟨z, i, none⟩ = _ := fun i => HBZ6.out.cell i
          have hcl6 := HBZ6.out.lt
          have hc0 : ∀ i, w6.cell? ⟨g + 2, i, none⟩ = _ := fun i => HN6.out.sb.cell i
          have hf0 : ∀ i, w6.frozen? ⟨g + 2, i, none⟩ = _ := fun i => HN6.out.sb.free i
          have hl0 := HN6.out.sb.lt
          unfold zero8 at hc0
          have HSE := Lib.hid hs
          clear hcz hcl hu6
          cases hcs : canSet s.said with
          | false =>
            have HV := Lib.hid (show negL (bytesOf qn) tN cN 1 (bytesOf r.name) r.type r.ttl r.data.l now = none by rw [HNG.out, ← HSAID.out, hcs]; rfl)
            clear hcs hs
            go_wp2_with fail
            refine bodyPost_ret (v := .tuple #[.agg zero8, .int .i64 1]) (by simp [results, Try.results19, zero8, go_sem, hc0]) rfl ?_
            rw [HV.out]
            refine ⟨Upd.of_below' ?_, .inl ⟨rfl, rfl⟩⟩
            rw [HG.out]
            exact ((((((((HN6.out.bel.setCell (by simp) _).setCell (by simp) _).setCell (by simp) _).setCell (by simp) _).setCell (by simp) _).setCell (by simp) _).setCell (by simp) _).setCell (by simp) _)
          | true =>
            have HV := Lib.hid (show negL (bytesOf qn) tN cN 1 (bytesOf r.name) r.type r.ttl r.data.l now = some s.said by rw [HNG.out, ← HSAID.out, hcs]; rfl)
            clear hcs hs
            go_wp2_with fail
            refine bodyPost_ret (v := .tuple #[.agg #[.string qn, .int .i64 tN, .int .i64 cN, .int .i64 3, .int .i64 1, .int .i64 (tm + m), .string r.name, .slice (some ⟨gl, 0, none⟩) 1 1], .int .i64 0]) (by simp [results, Try.results19, go_sem, hc0]) rfl ?_
            rw [HV.out]
            refine ⟨Upd.of_below' ?_, .inr ⟨s, rfl, by rw [HSE.out]; rfl, ?_⟩⟩
            · rw [HG.out]
              exact ((((((((HN6.out.bel.setCell (by simp) _).setCell (by simp) _).setCell (by simp) _).setCell (by simp) _).setCell (by simp) _).setCell (by simp) _).setCell (by simp) _).setCell (by simp) _)
            · rw [HSE.out]
              exact ⟨hwt, hqc, (by show (Lit.int .i64 3).wf = true; decide), hki, hwe, hqn, H.out.name, sl_own_set HO6.out hn5 HS2.out.bytes HN6.out.sb HBL6.out upd8one⟩

end Go.Proofs.Ytlhbikdelbollaa
