/- HttpReplied: the walk. -/
import Derived.Test.YtbjjimbnaicbfaaDoorHttpC
import Derived.Test.YtbjjimbnaicbfaaDoorOpenB
namespace Go.Proofs.YtbjjimbnaicbfaaDoor
open Go.RowKit Go.Cx Go.Maps

theorem replyL_len (l : List Nat) (keep : Bool) (h : l.length ≤ 2000) : 1 ≤ (replyL l keep).length ∧ (replyL l keep).length ≤ 2100 := by
  have h1 := itoa_len l.length 4 (by omega)
  have h2 : (behindL keep).length ≤ 23 := by cases keep <;> decide +kernel
  have h3 : goodL.length = 72 := by decide +kernel
  unfold replyL
  rw [List.length_append, List.length_append, List.length_append]
  omega
theorem itoa_lt (n : Nat) : ∀ b ∈ itoaL n, b < 256 := fun b hb => by
  have := itoa_dig n b hb
  simp [isDig] at this
  omega
theorem replyL_lt (l : List Nat) (keep : Bool) (h : ∀ b ∈ l, b < 256) : ∀ b ∈ replyL l keep, b < 256 := by
  have h1 : ∀ b ∈ goodL, b < 256 := by decide +kernel
  have h2 : ∀ b ∈ behindL keep, b < 256 := by cases keep <;> decide +kernel
  intro b hb
  unfold replyL at hb
  rcases List.mem_append.1 hb with hb | hb
  · rcases List.mem_append.1 hb with hb | hb
    · rcases List.mem_append.1 hb with hb | hb
      · exact h1 b hb
      · exact itoa_lt _ b hb
    · exact h2 b hb
  · exact h b hb

set_option maxRecDepth 100000 in
set_option maxHeartbeats 1600000 in
theorem httpReplied (r0 r1 : Row) (keep : Bool) (nn : Int) (w : World) (h0 : RowIn w w.heap.size r0) (h1 : RowIn w w.heap.size r1) (_hz : (Lit.int .i64 nn).wf = true) (ht : Tab10 w) :
    Calls Tryd.prog 3 #[r0.val, r1.val, .bool keep, .int .i64 nn] w fun e w' => e = .returned (.bool true) ∧ Below w.heap.size w w' := by
  obtain ⟨A0, n0, c0, l0⟩ := r0
  obtain ⟨A1, n1, c1, l1⟩ := r1
  obtain ⟨hnc0, _, hx0, hb0⟩ := h0
  obtain ⟨hnc1, hcap1, hx1, hb1⟩ := h1
  unfold Row.val
  simp only at *
  have HX0 := Lib.hid hx0
  have HB0 := Lib.hid hb0
  have HX1 := Lib.hid hx1
  have HB1 := Lib.hid hb1
  have HT := Lib.hid ht
  clear hx0 hb0 hx1 hb1 ht
  go_enter Tryd.func3, Tryd.ntmps3
  go_upto_region 1 with fail
  go_cut [0] (fun s0 wx => w = wx ∧ ∃ (n : Nat) (l : List Nat), s0 = .slice A0 n c0 ∧ n ≤ 2000 ∧ n ≤ c0 ∧ Rd w w.heap.size 1 A0 n (byts l) ∧ ∀ b ∈ l, b < 256)
  case first =>
    by_cases hl : n0 ≤ 2000
    · have hmin : min (n0 : Int) 2000 = (n0 : Int) := by omega
      go_wp2
      go_meet
      exact ⟨rfl, n0, l0, rfl, hl, hnc0, HX0.out, HB0.out⟩
    · have hmin : min (n0 : Int) 2000 = 2000 := by omega
      go_wp2
      go_meet
      refine ⟨rfl, 2000, l0.take 2000, rfl, Nat.le_refl _, by omega, ?_, fun b hb => HB0.out b (List.mem_of_mem_take hb)⟩
      have := HX0.out.front (k := 2000) (by omega)
      simpa [byts] using this
  case rest =>
  obtain ⟨rfl, n, l, rfl, hn, hnc, hx, hb⟩ := hcut
  have hlenl : l.length = n := by
    have := hx.1
    simpa [byts] using this
  have HX := Lib.hid hx
  have HB := Lib.hid hb
  clear hx hb
  go_wp2_with fail
  refine (http_reply A0 n c0 l keep w HX.out (by omega) HT.out).mono ?_
  rintro e w1 ⟨⟨Ab, L, cb, rfl, hL, hcb, hrb⟩, hu1⟩
  obtain ⟨R, hR⟩ : ∃ R, replyL l keep = R := ⟨_, rfl⟩
  have hLb := replyL_len l keep (by omega)
  have hRb := replyL_lt l keep HB.out
  rw [hR] at hrb hL hLb hRb
  rw [← hL] at hLb
  have HR := Lib.hid hR
  have HRB := Lib.hid hrb
  have HU1 := Lib.hid hu1
  have HRL := Lib.hid hRb
  have HL := Lib.hid hL
  clear hR hrb hu1 hRb hL
  have hL0 : ¬ (L : Int) = 0 := by omega
  go_wp2_with fail
  refine (bytes_clone w1 _ Ab L cb R HRB.out (Nat.le_refl _) (by omega)).mono ?_
  rintro e w2 ⟨A2, c2, rfl, hr2, ⟨_, hc2⟩, hfresh2, hu2⟩
  have HR2 := Lib.hid hr2
  have HU2 := Lib.hid hu2
  have hb02 : Below w.heap.size w w2 := (Upd.belowNix HU1.out (Nat.le_refl _)).trans (Upd.belowNix hu2 HU1.out.size)
  have hx12 : Rd w2 w.heap.size 1 A1 n1 (byts l1) := HX1.out.below hb02
  have HB02 := Lib.hid hb02
  have HX12 := Lib.hid hx12
  clear hr2 hfresh2 hu2 hb02 hx12
  obtain ⟨i0, hi0, hz0, hz1, hz2⟩ := info_parts infoU8
  have hbc : ∀ u ∈ byts l1, u.oneCell' = true := by
    intro u hu
    simp only [byts, List.mem_map] at hu
    obtain ⟨b, _, rfl⟩ := hu
    rfl
  have HBC := Lib.hid hbc
  clear hbc
  have hm1 : L + n1 ≤ maxLen := by unfold maxLen; omega
  have hm2 : (L + n1) * 1 ≤ 140737488355328 := by omega
  go_wp2_with (at_builtin; refine wpList_app _ rfl (.tmp 34) (.tmp 35) 22 rfl w1.heap.size 5 i0 _ 1 1 Tryd.underlying22 hi0 hz0 hz1 hz2 rfl (by omega) (.slice A2 L c2) L (byts R) rfl HR2.out w.heap.size A1 n1 c1 (byts l1) rfl HX12.out HBC.out hm1 hm2 HU2.out.size ?_; intro A5 c5 w5 hown5 hgr5 hat5)
  have hb15 : Below w1.heap.size w1 w5 := (Upd.belowNix HU2.out (Nat.le_refl _)).grown hgr5 HU2.out.size (fun b hb => (HR2.out.lt b hb).1)
  have hb05 : Below w.heap.size w w5 := (Upd.belowNix HU1.out (Nat.le_refl _)).trans (hb15.mono HU1.out.size)
  have hr5 : Rd w5 w5.heap.size 1 A5 (L + n1) (byts (R ++ l1)) := by
    have := Rd.own hown5
    simpa [byts] using this
  have HB15 := Lib.hid hb15
  have HB05 := Lib.hid hb05
  have HR5 := Lib.hid hr5
  clear hown5 hgr5 hat5 hb15 hb05 hr5
  refine (http_parse A5 (L + n1) c5 (R ++ l1) w5 HR5.out ?_ (by omega) (HT.out.upd (Upd.of_below' HB05.out))).mono ?_
  · intro b hb
    rcases List.mem_append.1 hb with h | h
    · exact HRL.out b h
    · exact HB1.out b h
  have hp1 : parseL (R ++ l1) = (200, l, l1, 0) := by rw [← HR.out]; exact parse_reply l l1 keep (by omega)
  rw [hp1]
  rintro e w6 ⟨A6, n6, c6, A7, n7, c7, rfl, hr6, hr7, hu6⟩
  simp only at hr6 hr7 ⊢
  have hb06 := HB05.out.trans (Upd.belowNix hu6 HB05.out.size)
  have hb16 := HB15.out.trans (Upd.belowNix hu6 HB15.out.size)
  have HR6 := Lib.hid hr6
  have HR7 := Lib.hid hr7
  have HB06 := Lib.hid hb06
  have HB16 := Lib.hid hb16
  clear hp1 hr6 hr7 hu6 hb06 hb16
  go_wp2_with fail
  refine (bytes_equal w6 _ _ A6 A0 n6 n c6 c0 l l HR6.out (HX.out.below HB06.out) HB.out HB.out).mono ?_
  rw [decide_eq_true rfl]
  rintro e w7 ⟨rfl, rfl⟩
  go_wp2_with fail
  refine (bytes_equal w6 _ _ A7 A1 n7 n1 c7 c1 l1 l1 HR7.out (HX1.out.below HB06.out) HB1.out HB1.out).mono ?_
  rw [decide_eq_true rfl]
  rintro e w7 ⟨rfl, rfl⟩
  obtain ⟨k, hk, hkl⟩ : ∃ k : Nat, wrap64 ((IntKind.u64.wrap nn).tmod (L : Int)) = (k : Int) ∧ k < L := by
    have hnz : (L : Int) ≠ 0 := by omega
    have h1 := Int.emod_nonneg (nn % 18446744073709551616) hnz
    have h2 := Int.emod_lt_of_pos (nn % 18446744073709551616) (show (0 : Int) < L by omega)
    refine ⟨(nn % 18446744073709551616 % L).toNat, ?_, by omega⟩
    rw [IntKind.wrap_u64, Int.tmod_eq_emod_of_nonneg (by omega)]
    generalize nn % 18446744073709551616 % (L : Int) = q at h1 h2 ⊢
    unfold wrap64
    omega
  have hk0 : 0 ≤ wrap64 ((IntKind.u64.wrap nn).tmod (L : Int)) := by omega
  have hk1 : wrap64 ((IntKind.u64.wrap nn).tmod (L : Int)) ≤ (cb : Int) := by omega
  have hkt : (wrap64 ((IntKind.u64.wrap nn).tmod (L : Int))).toNat = k := by omega
  have HKT := Lib.hid hkt
  clear hk hkt
  go_wp2_with fail
  rw [HKT.out]
  have hrk : Rd w6 w6.heap.size 1 Ab k (byts (R.take k)) := by
    have h1 := ((HRB.out.below HB16.out).front (k := k) (by omega)).more (B' := w6.heap.size) HB16.out.size
    simpa [byts] using h1
  refine (http_parse Ab k cb (R.take k) w6 hrk (fun b hb => HRL.out b (List.mem_of_mem_take hb)) (by omega) (HT.out.upd (Upd.of_below' HB06.out))).mono ?_
  have hp2 : parseL (R.take k) = (0, [], [], 20) := by
    rw [← HR.out]
    exact parse_short l keep (by omega) k (by rw [HR.out, ← HL.out]; exact hkl)
  rw [hp2]
  rintro e w8 ⟨A8, n8, c8, A9, n9, c9, rfl, hr8, hr9, hu8⟩
  have h80 : n8 = 0 := by have := hr8.1; simp [byts] at this; exact this.symm
  have h90 : n9 = 0 := by have := hr9.1; simp [byts] at this; exact this.symm
  subst h80
  subst h90
  have hbl := HB06.out.trans (Upd.belowNix hu8 HB06.out.size)
  have HBL := Lib.hid hbl
  clear hp2 hr8 hr9 hu8 hrk hbl
  simp only
  go_wp2
  go_ret
  exact ⟨rfl, HBL.out⟩
end Go.Proofs.YtbjjimbnaicbfaaDoor
