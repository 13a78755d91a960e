/- ciceroneref09.Records. -/
import Derived.Test.YtlhbikdelbollaaSameRR
import Derived.Test.YtlhbikdelbollaaRefCopy
namespace Go.Proofs.Ytlhbikdelbollaa
open Go.RowKit Go.Cx Go.Maps

set_option maxRecDepth 100000 in
set_option maxHeartbeats 6400000 in
theorem ref_records (s : SetV) (now : Int) (w : World) (B : Nat) (h : SetAt w B s) (hB : B ≤ w.heap.size) (hn : s.dn ≤ 2000000) : Calls Try.prog 21 #[s.agg, .int .i64 now] w (RecordsIs s.said now w) := by
  obtain ⟨i0, hi0, hz0, hz1, hz2⟩ := info_parts infoRR
  obtain ⟨i1, hi1, hy0, hy1, hy2⟩ := info_parts infoU8
  have H := Lib.hid h
  have hfresh := fun W => ref_fresh s now W
  have HS : Hid (s.cells = [.string s.name, .int .i64 s.type, .int .i64 s.cls, .int .i64 s.rank, .int .i64 s.kind, .int .i64 s.exp, .string s.zone, .slice s.dA s.dn s.dc]) := Lib.hid rfl
  clear h
  obtain ⟨sd, hsd⟩ : ∃ sd, s.said = sd := ⟨_, rfl⟩
  rw [hsd] at hfresh ⊢
  have HSD := Lib.hid hsd
  unfold SetV.agg at hfresh ⊢
  have HFR := Lib.hid hfresh
  clear hsd hfresh
  have hb : Blk (w.alloc (.cells s.cells.toArray 28)) w.heap.size 28 s.cells.toArray := Blk.new w _ _
  have hu : Upd Nix w (w.alloc (.cells s.cells.toArray 28)) := (Upd.refl _ _).alloc _
  unfold SetV.cells at hb hu
  have HB := Lib.hid hb
  have HU := Lib.hid hu
  have hc : ∀ i, (w.alloc (.cells [Value.string s.name, .int .i64 s.type, .int .i64 s.cls, .int .i64 s.rank, .int .i64 s.kind, .int .i64 s.exp, .string s.zone, .slice s.dA s.dn s.dc].toArray 28)).cell? ⟨w.heap.size, i, none⟩ = _ := fun i => hb.cell i
  clear hb hu
  go_enter Try.func21, Try.ntmps21
  go_wp2_with fail
  refine (HFR.out _).mono ?_
  rintro e w1 ⟨rfl, hu1⟩
  have hb1 := HB.out.upd hu1 fun h => h
  have HB1 := Lib.hid hb1
  have HU1 := Lib.hid (HU.out.trans hu1 fun _ _ h => h)
  obtain ⟨g, hg⟩ : ∃ g, w.heap.size = g := ⟨_, rfl⟩
  have HG := Lib.hid hg
  rw [hg] at HB1 hb1 ⊢
  have hc1 : ∀ i, w1.cell? ⟨g, i, none⟩ = _ := fun i => hb1.cell i
  have hgl := hb1.lt
  clear hb1 hu1 hc hg
  by_cases hf : timeL now < s.exp
  · have hfv : freshL sd now = true := by rw [← HSD.out]; exact decide_eq_true hf
    rw [hfv]
    clear hfv
    by_cases hk0 : s.kind = 0
    · have hk0i : (s.kind != 0) = false := by simp [hk0]
      have HK0 := Lib.hid (And.intro hk0 hf)
      clear hk0 hf
      go_wp2_with fail
      go_loopw [5, 20] (fun s5 s20 wr => ∃ (k : Nat) (A1 : Option Addr) (c1 : Nat) (rs : List RRV), k ≤ s.dn ∧ s20 = .int .i64 k ∧ s5 = .slice A1 k c1 ∧ RRsOwn g A1 k c1 rs wr ∧
        rs.map RRV.said = recordsL { sd with datas := (s.rows.map Row.l).take k } now ∧ Upd Nix w wr ∧ Blk wr g 28 [Value.string s.name, .int .i64 s.type, .int .i64 s.cls, .int .i64 s.rank, .int .i64 s.kind, .int .i64 s.exp, .string s.zone, .slice s.dA s.dn s.dc].toArray) (fun _ s20 _ => s.dn - (intOf s20).toNat)
      case atStart => exact ⟨0, none, 0, [], Nat.zero_le _, rfl, rfl, ⟨⟨rfl, .inl ⟨rfl, rfl⟩⟩, rfl, by simp, by simp⟩, by unfold recordsL; split <;> simp, HU1.out, HB1.out⟩
      case round =>
        obtain ⟨k, A1, c1, rs, hk, rfl, rfl, hro, hrs, hu, hb⟩ := hrel
        have HRO := Lib.hid hro
        have HRS := Lib.hid hrs
        have HU2 := Lib.hid hu
        have HB2 := Lib.hid hb
        clear hro hrs hu hb hc1 hgl
        by_cases hkn : k < s.dn
        · have hki : (k : Int) < (s.dn : Int) := by omega
          have hrows := H.out.rows.below (HU2.out.belowNix hB)
          obtain ⟨ad, r, hadB, hr, hmem, hcell, hidx⟩ := hrows.idx hkn
          have hsl := hrows.each r hmem
          have HSL := Lib.hid hsl
          have HR := Lib.hid hr
          have hrn := hsl.len
          have hBw : B ≤ wr.heap.size := Nat.le_trans hB HU2.out.size
          have hgw : g ≤ wr.heap.size := Nat.le_of_lt HB2.out.lt
          have hkeep : ∀ W, Upd Nix wr W → W.cell? ⟨g, 0, none⟩ = some (.string s.name) ∧ W.cell? ⟨g, 1, none⟩ = some (.int .i64 s.type) ∧ W.cell? ⟨g, 2, none⟩ = some (.int .i64 s.cls) ∧ W.cell? ⟨g, 5, none⟩ = some (.int .i64 s.exp) := fun W hW => by
            have := HB2.out.upd hW (by simp [Nix])
            exact ⟨this.cell 0, this.cell 1, this.cell 2, this.cell 5⟩
          have hsrc : ∀ W, Upd Nix wr W → Rd W B 1 r.A r.n (byts r.l) := fun W hW => (HSL.out.below (hW.belowNix hBw)).rd
          have hbc : ∀ u ∈ byts r.l, u.oneCell' = true := by
            intro u hu
            simp only [byts, List.mem_map] at hu
            obtain ⟨b, _, rfl⟩ := hu
            rfl
          have hTT : 35 ≠ 28 := by decide
          have KEEP := Lib.hid hkeep
          have SRC := Lib.hid hsrc
          have HBC := Lib.hid hbc
          have htl := timeL_range now
          have hexp := (wf_i64 H.out.e)
          have hwr : IntKind.i64.wrap (s.exp - timeL now) = s.exp - timeL now := by have := HK0.out.2; rw [IntKind.wrap_i64]; omega
          have hrlm : k + 1 ≤ maxLen := by unfold maxLen; omega
          have hm1 : 0 + r.n ≤ maxLen := by unfold maxLen; omega
          have hm2 : (0 + r.n) * 1 ≤ 140737488355328 := by omega
          have hm3 : (k + 1) * 64 ≤ 140737488355328 := by omega
          clear hkeep hsrc hbc hr hsl hrows hrn
          go_wp2_with fail
          go_region_held3 (fun w' => w'.cell? ⟨g, 0, none⟩ = some (.string s.name) ∧ w'.cell? ⟨g, 1, none⟩ = some (.int .i64 s.type) ∧ w'.cell? ⟨g, 2, none⟩ = some (.int .i64 s.cls) ∧ w'.cell? ⟨g, 5, none⟩ = some (.int .i64 s.exp))
            (first | exact ⟨HB6.out.cell 0, HB6.out.cell 1, HB6.out.cell 2, HB6.out.cell 5⟩ | with_reducible exact KEEP.out _ (HU5.out.alloc _) | with_reducible exact KEEP.out _ HU5.out | with_reducible exact KEEP.out _ ((Upd.refl _ _).drew.alloc _) | with_reducible exact KEEP.out _ (Upd.refl _ _).drew | fail)
            ((first
            | (go_at_call 40; (with_reducible refine (ref_time now _).mono ?_); rintro e wt ⟨rfl, rfl⟩)
            | (refine step_app _ rfl (.tmp 36) (.tmp 37) 33 rfl wr.heap.size 5 i1 _ 1 1 Try.underlying33 hi1 hy0 hy1 hy2 rfl (by omega) (.slice (some ⟨wr.heap.size, 0, none⟩) 0 0) 0 [] rfl (World.ownsRow_lit wr.drew #[] 0 (Nat.le_refl _) (by decide) rfl) B r.A r.n r.c (byts r.l) rfl (SRC.out _ ((Upd.refl Nix wr).drew.alloc _)) HBC.out hm1 hm2 (by simp) ?_; intro A5 c5 w5 hown5 hg5 hat5; simp only [Nat.zero_add, List.nil_append] at hown5; try simp only [Nat.zero_add]; have HU5 := Lib.hid (((Upd.refl Nix wr).drew.alloc (.cells #[] 5)).grown hg5 fun b hb hl => (by simp only [Value.ownBlock, Option.some.injEq] at hb; omega)); have HRO5 := Lib.hid (HRO.out.upd HU5.out); have HOWN5 := Lib.hid hown5; have hg5s := HU5.out.size; clear hown5 hg5 hat5)
            | (refine step_app _ rfl (.tmp 24) (.tmp 40) 22 rfl g 35 i0 _ 5 64 Try.underlying22 hi0 hz0 hz1 hz2 rfl (by omega) (.slice A1 k c1) k ((rs.map RRV.cells).flatten) rfl (HRO5.out.out.alloc _) (w5.heap.size + 1) (some ⟨w5.heap.size, 0, none⟩) 1 1 [.string s.name, .int .i64 s.type, .int .i64 s.cls, .int .i64 (s.exp - timeL now), .slice A5 r.n c5] rfl (Rd.lit _ _ _ 5 1 rfl) (by intro u hu; simp only [List.mem_cons, List.not_mem_nil, or_false] at hu; rcases hu with rfl | rfl | rfl | rfl | rfl <;> rfl) hrlm hm3 (by simp; omega) ?_; intro A6 c6 w6 hown6 hg6 hat6; have HB6 := Lib.hid (((HB2.out.upd HU5.out fun h => h).alloc _).upd (upd_grown (v := .slice A1 k c1) hg6) (fun hS => own_ne_blk' HRO5.out.out (HB2.out.upd HU5.out fun h => h) hTT hS)))))
          all_goals
            go_wp2_with fail
            have hHG := HG.out
            have hu6 : Upd Nix w w6 := ((HU2.out.trans HU5.out fun _ _ h => h).alloc _).grown hg6 fun b hb hlt => by have := own_ge HRO5.out.out b hb; omega
            have hnew : OwnRow w5 g ⟨A5, r.n, c5, r.l⟩ := (⟨HOWN5.out, HSL.out.bytes, HSL.out.len⟩ : OwnRow w5 wr.heap.size ⟨A5, r.n, c5, r.l⟩).base' hgw
            have hpush := HRO5.out.push (r := ⟨s.name, s.type, s.cls, s.exp - timeL now, ⟨A5, r.n, c5, r.l⟩⟩) hnew ⟨H.out.t, H.out.c, (show (Lit.int .i64 (s.exp - timeL now)).wf = true from WalkArith.wf_i64 (by have := HK0.out.2; omega)), H.out.name⟩ hown6 hg6
            refine ⟨⟨k + 1, A6, c6, rs ++ [⟨s.name, s.type, s.cls, s.exp - timeL now, ⟨A5, r.n, c5, r.l⟩⟩], by omega, by rfl, rfl, hpush, ?_, hu6, HB6.out⟩, ?_⟩
            · rw [List.map_append, HRS.out]
              have hkk := HK0.out
              rw [← HSD.out, recordsL_yes { s.said with datas := (s.rows.map Row.l).take k } now hkk, recordsL_yes { s.said with datas := (s.rows.map Row.l).take (k + 1) } now hkk]
              simp only
              rw [List.take_add_one, List.getElem?_map, HR.out]
              simp [RRV.said, SetV.said]
            · simp only [intOf]; omega
        · have hki : ¬ (k : Int) < (s.dn : Int) := by omega
          have hkk : k = s.dn := by omega
          rw [List.take_of_length_le (by rw [List.length_map, H.out.rows.len]; omega)] at HRS
          have hrl := HRO.out.len
          have HRL := Lib.hid hrl
          clear hrl hkk
          go_wp2_with fail
          go_ret
          have hHG := HG.out
          refine ⟨A1, c1, rs, by rw [HRL.out]; rfl, by rw [HRL.out, hHG]; exact HRO.out, ?_, HU2.out⟩
          rw [HRS.out, ← HSD.out]
          rfl
    · have hk0i : (s.kind != 0) = true := by simp [hk0]
      have hrs : recordsL sd now = [] := by rw [← HSD.out]; exact recordsL_no _ _ fun h => hk0 h.1
      have HRS := Lib.hid hrs
      clear hk0 hrs
      go_wp2_with fail
      go_ret
      exact ⟨none, 0, [], rfl, ⟨⟨rfl, .inl ⟨rfl, rfl⟩⟩, rfl, by simp, by simp⟩, by rw [HRS.out]; rfl, HU1.out⟩
  · have hfv : freshL sd now = false := by rw [← HSD.out]; exact decide_eq_false hf
    rw [hfv]
    clear hfv
    have hrs : recordsL sd now = [] := by rw [← HSD.out]; exact recordsL_no _ _ fun h => hf h.2
    have HRS := Lib.hid hrs
    clear hrs hf
    go_wp2_with fail
    go_ret
    exact ⟨none, 0, [], rfl, ⟨⟨rfl, .inl ⟨rfl, rfl⟩⟩, rfl, by simp, by simp⟩, by rw [HRS.out]; rfl, HU1.out⟩
end Go.Proofs.Ytlhbikdelbollaa
