/- rrset.Fresh, rrset.Records. -/
import Derived.Test.YtlhbikdelbollaaGroup
namespace Go.Proofs.Ytlhbikdelbollaa
open Go.RowKit Go.Cx Go.Maps

theorem wf_i64 {z : Int} (h : (Lit.int .i64 z).wf = true) : -9223372036854775808 ≤ z ∧ z ≤ 9223372036854775807 := by
  simp only [Lit.wf, Bool.and_eq_true, decide_eq_true_eq] at h
  exact h
def freshL (s : SetC) (now : Int) : Bool := decide (timeL now < s.exp)
def recordsL (s : SetC) (now : Int) : List RRC := if s.kind = 0 ∧ timeL now < s.exp then s.datas.map fun d => ⟨s.name, s.type, s.cls, s.exp - timeL now, d⟩ else []

theorem recordsL_yes (s : SetC) (now : Int) (h : s.kind = 0 ∧ timeL now < s.exp) : recordsL s now = s.datas.map fun d => ⟨s.name, s.type, s.cls, s.exp - timeL now, d⟩ := by unfold recordsL; rw [if_pos h]
theorem recordsL_no (s : SetC) (now : Int) (h : ¬ (s.kind = 0 ∧ timeL now < s.exp)) : recordsL s now = [] := by unfold recordsL; rw [if_neg h]

set_option maxRecDepth 100000 in
set_option maxHeartbeats 1600000 in
theorem rrset_fresh (s : SetV) (now : Int) (w : World) : Calls Try.prog 22 #[s.agg, .int .i64 now] w fun e w' => e = .returned (.bool (freshL s.said now)) ∧ Upd Nix w w' := by
  unfold SetV.agg freshL SetV.said
  obtain ⟨name, t, c, rank, kind, exp, zone, dA, dn, dc, rows⟩ := s
  simp only
  go_enter Try.func22, Try.ntmps22
  go_wp2_with fail
  have HT := Lib.hid (fun W => rrset_time now W)
  go_quiet ((go_at_call 33; exact quietL (HT.out _)))
  go_wp2_with fail
  go_ret
  exact ⟨rfl, ((Upd.refl _ _).alloc _).drewN _⟩

/-- records of the call's own -/
structure RRsOwn (base : Nat) (A : Option Addr) (n c : Nat) (rs : List RRV) (wr : World) : Prop where
  out : wr.ownsRow base 35 5 (.slice A n c) n ((rs.map RRV.cells).flatten)
  len : rs.length = n
  rows : ∀ r ∈ rs, OwnRow wr base r.data
  ints : ∀ r ∈ rs, (Lit.int .i64 r.type).wf = true ∧ (Lit.int .i64 r.cls).wf = true ∧ (Lit.int .i64 r.ttl).wf = true ∧ r.name.size ≤ 140737488355328
theorem RRsOwn.upd {base : Nat} {A : Option Addr} {n c : Nat} {rs : List RRV} {wr wr' : World} (h : RRsOwn base A n c rs wr) (k : Upd Nix wr wr') : RRsOwn base A n c rs wr' :=
  ⟨own_upd' h.out k fun _ _ h => h, h.len, fun r hr => (h.rows r hr).upd k fun _ _ h => h, h.ints⟩
theorem RRsOwn.push {base : Nat} {A A' : Option Addr} {n c c' : Nat} {rs : List RRV} {r : RRV} {w6 w10 : World} {o : Obj} (h : RRsOwn base A n c rs w6) (hr : OwnRow w6 base r.data)
    (hi : (Lit.int .i64 r.type).wf = true ∧ (Lit.int .i64 r.cls).wf = true ∧ (Lit.int .i64 r.ttl).wf = true ∧ r.name.size ≤ 140737488355328)
    (hown : w10.ownsRow base 35 5 (.slice A' (n + 1) c') (n + 1) ((rs.map RRV.cells).flatten ++ r.cells)) (hg : (w6.alloc o).grownBy w10 (Value.slice A n c).ownBlock) : RRsOwn base A' (n + 1) c' (rs ++ [r]) w10 := by
  have u1 : Upd Nix w6 (w6.alloc o) := (Upd.refl _ _).alloc o
  have u2 := upd_grown (v := .slice A n c) hg
  have hout := own_upd' h.out u1 fun _ _ h => h
  have keep : ∀ x : RRV, OwnRow w6 base x.data → OwnRow w10 base x.data := fun x hx => by
    have h1 := hx.upd u1 fun _ _ h => h
    exact h1.upd u2 fun b hb hS => own_ne_own h1.own hout (by decide) b hb hS
  refine ⟨by simpa using hown, by simp [h.len], fun x hx => ?_, fun x hx => ?_⟩
  · rcases List.mem_append.1 hx with hx | hx
    · exact keep x (h.rows x hx)
    · simp only [List.mem_singleton] at hx
      subst hx
      exact keep x hr
  · rcases List.mem_append.1 hx with hx | hx
    · exact h.ints x hx
    · simp only [List.mem_singleton] at hx
      subst hx
      exact hi

def RecordsIs (s : SetC) (now : Int) (w : World) (e : Ending) (w' : World) : Prop :=
  ∃ (A' : Option Addr) (c' : Nat) (rs : List RRV), e = .returned (.slice A' rs.length c') ∧ RRsOwn w.heap.size A' rs.length c' rs w' ∧ rs.map RRV.said = recordsL s now ∧ Upd Nix w w'

set_option maxRecDepth 100000 in
set_option maxHeartbeats 6400000 in
theorem rrset_records (s : SetV) (now : Int) (w : World) (B : Nat) (h : SetAt w B s) (hB : B ≤ w.heap.size) (hn : s.dn ≤ 2000000) : Calls Try.prog 10 #[s.agg, .int .i64 now] w (RecordsIs s.said now w) := by
  obtain ⟨i0, hi0, hz0, hz1, hz2⟩ := info_parts infoRR
  have H := Lib.hid h
  have hfresh := fun W => rrset_fresh s now W
  have HS : Hid (s.cells = [.string s.name, .int .i64 s.type, .int .i64 s.cls, .int .i64 s.rank, .int .i64 s.kind, .int .i64 s.exp, .string s.zone, .slice s.dA s.dn s.dc]) := Lib.hid rfl
  clear h
  obtain ⟨sd, hsd⟩ : ∃ sd, s.said = sd := ⟨_, rfl⟩
  rw [hsd] at hfresh ⊢
  have HSD := Lib.hid hsd
  unfold SetV.agg at hfresh ⊢
  have HFR := Lib.hid hfresh
  clear hsd hfresh
  go_enter Try.func10, Try.ntmps10
  go_wp2_with fail
  have hb : Blk (w.alloc (.cells s.cells.toArray 28)) w.heap.size 28 s.cells.toArray := Blk.new w _ _
  have hu : Upd Nix w (w.alloc (.cells s.cells.toArray 28)) := (Upd.refl _ _).alloc _
  unfold SetV.cells at hb hu
  obtain ⟨g, hg⟩ : ∃ g, w.heap.size = g := ⟨_, rfl⟩
  rw [hg] at hb ⊢
  have HG := Lib.hid hg
  generalize (w.alloc (.cells [Value.string s.name, .int .i64 s.type, .int .i64 s.cls, .int .i64 s.rank, .int .i64 s.kind, .int .i64 s.exp, .string s.zone, .slice s.dA s.dn s.dc].toArray 28)) = wa at *
  have HB := Lib.hid hb
  have HU := Lib.hid hu
  clear hg hb hu
  go_loopw [5, 11] (fun s5 s11 wr => ∃ (k : Nat) (A1 : Option Addr) (c1 : Nat) (rs : List RRV), k ≤ s.dn ∧ s11 = .int .i64 k ∧ s5 = .slice A1 rs.length c1 ∧ RRsOwn g A1 rs.length c1 rs wr ∧ rs.length ≤ k ∧
      rs.map RRV.said = recordsL { sd with datas := (s.rows.map Row.l).take k } now ∧ Upd Nix w wr ∧ Blk wr g 28 [Value.string s.name, .int .i64 s.type, .int .i64 s.cls, .int .i64 s.rank, .int .i64 s.kind, .int .i64 s.exp, .string s.zone, .slice s.dA s.dn s.dc].toArray) (fun _ s11 _ => s.dn - (intOf s11).toNat)
  case atStart => exact ⟨0, none, 0, [], Nat.zero_le _, rfl, rfl, ⟨⟨rfl, .inl ⟨rfl, rfl⟩⟩, rfl, by simp, by simp⟩, Nat.le_refl _, by unfold recordsL; split <;> simp, HU.out, HB.out⟩
  case round =>
    obtain ⟨k, A1, c1, rs, hk, rfl, rfl, hro, hrk, hrs, hu, hb⟩ := hrel
    have HRO := Lib.hid hro
    have HRS := Lib.hid hrs
    have HU2 := Lib.hid hu
    have HB2 := Lib.hid hb
    have hc : ∀ i, wr.cell? ⟨g, i, none⟩ = _ := fun i => hb.cell i
    have hgl := hb.lt
    obtain ⟨rl, hrl⟩ : ∃ rl, rs.length = rl := ⟨_, rfl⟩
    rw [hrl] at HRO hrk ⊢
    have HRL := Lib.hid hrl
    clear hro hrs hu hb hrl
    by_cases hkn : k < s.dn
    · have hki : (k : Int) < (s.dn : Int) := by omega
      have hrows := H.out.rows.below (HU2.out.belowNix hB)
      obtain ⟨ad, r, hadB, hr, hmem, hcell, hidx⟩ := hrows.idx hkn
      have hsl := hrows.each r hmem
      have HSL := Lib.hid hsl
      have HR := Lib.hid hr
      clear hr hsl hrows
      by_cases hkf : s.kind = 0 ∧ timeL now < s.exp
      · obtain ⟨hk0, hf⟩ := hkf
        have hk0i : (s.kind == 0) = true := by simp [hk0]
        have HK0 := Lib.hid (And.intro hk0 hf)
        clear hk0
        go_wp2_with fail
        refine (HFR.out wr).mono ?_
        rintro e w2 ⟨rfl, hu2⟩
        have hfv : freshL sd now = true := by rw [← HSD.out]; exact decide_eq_true hf
        rw [hfv]
        clear hfv
        have hb2 := HB2.out.upd hu2 (by simp [Nix])
        have HU3 := Lib.hid (HU2.out.trans hu2 fun _ _ h => h)
        have HRO2 := Lib.hid (HRO.out.upd hu2)
        have HSL2 := Lib.hid (HSL.out.below (hu2.belowNix (Nat.le_trans hB HU2.out.size)))
        have HB3 := Lib.hid hb2
        have hkeep : ∀ W, Upd Nix w2 W → W.cell? ⟨g, 0, none⟩ = some (.string s.name) ∧ W.cell? ⟨g, 1, none⟩ = some (.int .i64 s.type) ∧ W.cell? ⟨g, 2, none⟩ = some (.int .i64 s.cls) ∧ W.cell? ⟨g, 5, none⟩ = some (.int .i64 s.exp) := fun W hW => by
          have := HB3.out.upd hW (by simp [Nix])
          exact ⟨this.cell 0, this.cell 1, this.cell 2, this.cell 5⟩
        have hclone : ∀ W, Upd Nix w2 W → Calls Try.prog 35 #[.slice r.A r.n r.c] W _ := fun W hW =>
          bytes_clone W B r.A r.n r.c r.l (HSL2.out.below (hW.belowNix (Nat.le_trans hB HU3.out.size))).rd (Nat.le_trans hB (Nat.le_trans HU3.out.size hW.size)) HSL2.out.len
        have hTT : 35 ≠ 28 := by decide
        have KEEP := Lib.hid hkeep
        have CLONE := Lib.hid hclone
        have htl := timeL_range now
        have hexp := (wf_i64 H.out.e)
        have hwr : IntKind.i64.wrap (s.exp - timeL now) = s.exp - timeL now := by rw [IntKind.wrap_i64]; omega
        have hrlm : rl + 1 ≤ maxLen := by unfold maxLen; omega
        have hgw : g ≤ w2.heap.size := Nat.le_of_lt HB3.out.lt
        clear hb2 hu2 hkeep hclone hc hgl hcell hidx
        go_wp2_with fail
        go_region_held3 (fun w' => w'.cell? ⟨g, 0, none⟩ = some (.string s.name) ∧ w'.cell? ⟨g, 1, none⟩ = some (.int .i64 s.type) ∧ w'.cell? ⟨g, 2, none⟩ = some (.int .i64 s.cls) ∧ w'.cell? ⟨g, 5, none⟩ = some (.int .i64 s.exp))
          (first | exact ⟨HB6.out.cell 0, HB6.out.cell 1, HB6.out.cell 2, HB6.out.cell 5⟩ | with_reducible exact KEEP.out _ (HU5.out.alloc _) | with_reducible exact KEEP.out _ HU5.out | with_reducible exact KEEP.out _ (Upd.refl _ _).drew | fail)
          ((first
          | (go_at_call 33; (with_reducible refine (rrset_time now _).mono ?_); rintro e wt ⟨rfl, rfl⟩)
          | (go_at_call 35; (with_reducible refine (CLONE.out _ (Upd.refl _ _).drew).mono ?_); rintro e w5 ⟨A5, c5, rfl, hown5, hnil5, hge5, hu5⟩; have HU5 := Lib.hid ((Upd.refl Nix w2).drew.trans hu5 (fun _ _ h => h)); have HRO5 := Lib.hid (HRO2.out.upd HU5.out); have HOWN5 := Lib.hid hown5; have hg5 := HU5.out.size; clear hown5 hnil5 hge5 hu5)
          | (refine step_app _ rfl (.tmp 23) (.tmp 38) 22 rfl g 35 i0 _ 5 64 Try.underlying22 hi0 hz0 hz1 hz2 rfl (by omega) (.slice A1 rl c1) rl ((rs.map RRV.cells).flatten) rfl (HRO5.out.out.alloc _) (w5.heap.size + 1) (some ⟨w5.heap.size, 0, none⟩) 1 1 [.string s.name, .int .i64 s.type, .int .i64 s.cls, .int .i64 (s.exp - timeL now), .slice A5 r.n c5] rfl (Rd.lit _ _ _ 5 1 rfl) (by intro u hu; simp only [List.mem_cons, List.not_mem_nil, or_false] at hu; rcases hu with rfl | rfl | rfl | rfl | rfl <;> rfl) hrlm (by omega) (by simp; omega) ?_; intro A6 c6 w6 hown6 hg6 hat6; have HB6 := Lib.hid (((HB3.out.upd HU5.out fun h => h).alloc _).upd (upd_grown (v := .slice A1 rl c1) hg6) (fun hS => own_ne_blk' HRO5.out.out (HB3.out.upd HU5.out fun h => h) hTT hS)))))
        all_goals
          go_wp2_with fail
          have hHG := HG.out
          have hu6 : Upd Nix w w6 := ((HU3.out.trans HU5.out fun _ _ h => h).alloc _).grown hg6 fun b hb hlt => by have := own_ge HRO5.out.out b hb; omega
          have hnew : OwnRow w5 g ⟨A5, r.n, c5, r.l⟩ := (⟨HOWN5.out, HSL2.out.bytes, HSL2.out.len⟩ : OwnRow w5 w2.drew.heap.size ⟨A5, r.n, c5, r.l⟩).base' hgw
          have hpush := HRO5.out.push (r := ⟨s.name, s.type, s.cls, s.exp - timeL now, ⟨A5, r.n, c5, r.l⟩⟩) hnew ⟨H.out.t, H.out.c, (show (Lit.int .i64 (s.exp - timeL now)).wf = true from WalkArith.wf_i64 (by have := HK0.out.2; omega)), H.out.name⟩ hown6 hg6
          have hl10 : (rs ++ [(⟨s.name, s.type, s.cls, s.exp - timeL now, ⟨A5, r.n, c5, r.l⟩⟩ : RRV)]).length = rl + 1 := by rw [List.length_append, HRL.out]; rfl
          refine ⟨⟨k + 1, A6, c6, rs ++ [⟨s.name, s.type, s.cls, s.exp - timeL now, ⟨A5, r.n, c5, r.l⟩⟩], by omega, by rfl, by rw [hl10], by rw [hl10]; exact hpush, by rw [hl10]; omega, ?_, hu6, HB6.out⟩, ?_⟩
          · rw [List.map_append, HRS.out]
            have hkk := HK0.out
            rw [← HSD.out, recordsL_yes { s.said with datas := (s.rows.map Row.l).take k } now hkk, recordsL_yes { s.said with datas := (s.rows.map Row.l).take (k + 1) } now hkk]
            simp only
            rw [List.take_add_one, List.getElem?_map, HR.out]
            simp [RRV.said, SetV.said]
          · simp only [intOf]; omega
      · have hrn : recordsL { sd with datas := (s.rows.map Row.l).take (k + 1) } now = recordsL { sd with datas := (s.rows.map Row.l).take k } now := by
          rw [← HSD.out, recordsL_no { s.said with datas := (s.rows.map Row.l).take k } now hkf, recordsL_no { s.said with datas := (s.rows.map Row.l).take (k + 1) } now hkf]
        have HRN := Lib.hid hrn
        clear hrn
        by_cases hk0 : s.kind = 0
        · have hf : ¬ timeL now < s.exp := fun h => hkf ⟨hk0, h⟩
          have hk0i : (s.kind == 0) = true := by simp [hk0]
          clear hk0 hkf
          go_wp2_with fail
          refine (HFR.out wr).mono ?_
          rintro e w2 ⟨rfl, hu2⟩
          have hfv : freshL sd now = false := by rw [← HSD.out]; exact decide_eq_false (by show ¬ timeL now < s.exp; omega)
          rw [hfv]
          clear hfv hf
          have HU3 := Lib.hid (HU2.out.trans hu2 fun _ _ h => h)
          have HRO2 := Lib.hid (HRO.out.upd hu2)
          have HB3 := Lib.hid (HB2.out.upd hu2 (by simp [Nix]))
          clear hu2 hc hgl hcell hidx
          go_wp2_with fail
          refine ⟨⟨k + 1, A1, c1, rs, by omega, by rfl, by rw [HRL.out], by rw [HRL.out]; exact HRO2.out, by rw [HRL.out]; omega, by rw [HRN.out]; exact HRS.out, HU3.out, HB3.out⟩, ?_⟩
          simp only [intOf]; omega
        · have hk0i : (s.kind == 0) = false := by simp [hk0]
          clear hk0 hkf
          go_wp2_with fail
          refine ⟨⟨k + 1, A1, c1, rs, by omega, by rfl, by rw [HRL.out], by rw [HRL.out]; exact HRO.out, by rw [HRL.out]; omega, by rw [HRN.out]; exact HRS.out, HU2.out, HB2.out⟩, ?_⟩
          simp only [intOf]; omega
    · have hki : ¬ (k : Int) < (s.dn : Int) := by omega
      have hkk : k = s.dn := by omega
      rw [List.take_of_length_le (by rw [List.length_map, H.out.rows.len]; omega)] at HRS
      clear hc
      go_wp2_with fail
      go_ret
      have hHG := HG.out
      refine ⟨A1, c1, rs, by rw [HRL.out]; rfl, by rw [HRL.out, hHG]; exact HRO.out, ?_, HU2.out⟩
      rw [HRS.out, ← HSD.out]
      rfl
end Go.Proofs.Ytlhbikdelbollaa
