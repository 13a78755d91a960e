/- ChunkFull: the walk. -/
import Derived.Test.YtphnehfablaakaaDoorChunkN
import Derived.Test.YtphnehfablaakaaDoorChunkFullL
import Derived.Test.YtphnehfablaakaaDoorChunkBack
import Derived.Test.YtphnehfablaakaaDoorEncodeC
import Derived.Test.YtphnehfablaakaaDoorOpenB
namespace Go.Proofs.YtphnehfablaakaaDoor
open Go.RowKit Go.Cx Go.Maps

theorem CInv.withE {s : CS} (h : CInv s) (e : Nat) : CInv { s with e := e } := ⟨h.digits, h.left0, h.left, h.most, h.body, h.fits, h.left2, h.left3, h.st, h.bytes⟩
theorem feedGo_inv : ∀ (l : List Nat) (s : CS) (k : Nat), CInv s → (∀ b ∈ l, b < 256) → CInv (feedGo l s k).2
  | [], s, k, hi, _ => hi
  | c :: l, s, k, hi, hb => by
    by_cases h7 : s.st = 7
    · rw [feedGo, if_pos h7]; exact hi
    · have hi2 := cbyte_inv hi (hb c (by simp))
      rcases hc : cbyte s c with ⟨e, s1⟩
      rw [hc] at hi2
      rw [feedGo, if_neg h7, hc]
      cases e with
      | zero => exact feedGo_inv l s1 (k + 1) hi2 fun b hb' => hb b (by simp [hb'])
      | succ e => exact hi2.withE _

set_option maxRecDepth 100000 in
set_option maxHeartbeats 1600000 in
/-- a beginning of it -/
theorem bytes_prefix (w : World) (B B' : Nat) (A A' : Option Addr) (n n' c c' : Nat) (l : List Nat) (j : Nat) (hx : Rd w B 1 A n (byts l)) (hx' : Rd w B' 1 A' n' (byts (l.take j))) (hb : ∀ b ∈ l, b < 256) (hnc : n ≤ c) (_hc : n ≤ 140737488355328) :
    Calls Tryd.prog 14 #[.slice A n c, .slice A' n' c'] w fun e w' => e = .returned (.bool true) ∧ w = w' := by
  have hl := hx.1
  have hl' := hx'.1
  simp only [byts, List.length_map, Nat.mul_one] at hl hl'
  have hle : n' ≤ n := by rw [List.length_take] at hl'; omega
  have htk : l.take j = l.take n' := by
    rw [List.length_take] at hl'
    rcases Nat.le_total j l.length with h | h
    · rw [Nat.min_eq_left h] at hl'; rw [hl']
    · rw [Nat.min_eq_right h] at hl'
      rw [List.take_of_length_le h, List.take_of_length_le (by omega)]
  have HX := Lib.hid hx
  have HX' := Lib.hid hx'
  have HTK := Lib.hid htk
  have HB := Lib.hid hb
  clear hx hx' htk hb hl hl'
  go_enter Tryd.func14, Tryd.ntmps14
  go_wp2_with fail
  have hf : Rd w B 1 A n' (byts (l.take n')) := by
    have := HX.out.front (k := n') hle
    simpa [byts] using this
  have hx2 : Rd w B' 1 A' n' (byts (l.take n')) := by rw [← HTK.out]; exact HX'.out
  refine (bytes_equal w B B' A A' n' n' _ _ _ _ hf hx2 (fun b hb => HB.out b (List.mem_of_mem_take hb)) (fun b hb => HB.out b (List.mem_of_mem_take hb))).mono ?_
  rw [decide_eq_true rfl]
  rintro e w1 ⟨rfl, rfl⟩
  go_wp2
  go_ret
  exact ⟨rfl, rfl⟩

set_option maxRecDepth 100000 in
set_option maxHeartbeats 3200000 in
theorem chunkFull (r0 : Row) (size most : Int) (w : World) (h0 : RowIn w w.heap.size r0) (_hu0 : r0.n ≤ 1048576) (_hz : (Lit.int .i64 size).wf = true) (_hm : (Lit.int .i64 most).wf = true) :
    Calls Tryd.prog 6 #[r0.val, .int .i64 size, .int .i64 most] w fun e w' => e = .returned (.bool true) ∧ Below w.heap.size w w' := by
  obtain ⟨A0, n0, c0, l0⟩ := r0
  obtain ⟨hnc0, _, hx0, hb0⟩ := h0
  unfold Row.val
  simp only at *
  have HX0 := Lib.hid hx0
  have HB0 := Lib.hid hb0
  clear hx0 hb0
  go_enter Tryd.func6, Tryd.ntmps6
  go_upto_region 1 with fail
  go_cut [0] (fun s0 wx => ∃ (A : Option Addr) (n c : Nat) (l : List Nat), s0 = .slice A n c ∧ 1 ≤ n ∧ n ≤ 1001 ∧ n ≤ c ∧ Rd wx wx.heap.size 1 A n (byts l) ∧ (∀ b ∈ l, b < 256) ∧ Below w.heap.size w wx)
  case first =>
    obtain ⟨k, hk⟩ : ∃ k : Nat, min n0 1000 = k := ⟨_, rfl⟩
    have hmin : min (n0 : Int) 1000 = (k : Int) := by omega
    have hfr : Rd w w.heap.size 1 A0 k (byts (l0.take k)) := by
      have := HX0.out.front (k := k) (by omega)
      simpa [byts] using this
    have HFR := Lib.hid hfr
    have HK := Lib.hid hk
    clear hfr hk
    have hk1 := HK.out
    go_wp2_with fail
    refine (bytes_clone w _ A0 k c0 _ HFR.out (Nat.le_refl _) (by omega)).mono ?_
    rintro e w1 ⟨A1, c1, rfl, hr1, ⟨_, hc1⟩, hfresh1, hu1⟩
    have HR1 := Lib.hid hr1
    have HU1 := Lib.hid hu1
    clear hr1 hu1 hfresh1
    obtain ⟨i0, hi0, hz0, hz1, hz2⟩ := info_parts infoU8
    have hm1 : k + 1 ≤ maxLen := by unfold maxLen; omega
    have hm2 : (k + 1) * 1 ≤ 140737488355328 := by omega
    go_wp2_with (at_builtin; refine wpList_app _ rfl (.tmp 20) (.tmp 21) 22 rfl w.heap.size 5 i0 _ 1 1 Tryd.underlying22 hi0 hz0 hz1 hz2 rfl (by omega) (.slice A1 k c1) k (byts (l0.take k)) rfl (HR1.out.alloc _) (w1.heap.size + 1) _ 1 _ [.int .u8 1] rfl (Rd.lit1 w1 (.int .u8 1) _) (oneInt .u8 1) hm1 hm2 (by simp only [World.size_alloc]; have := HU1.out.size; omega) ?_; intro A5 c5 w5 hown5 hgr5 hat5)
    go_meet
    have hb15 : Below w.heap.size w w5 := ((Upd.belowNix HU1.out (Nat.le_refl _)).alloc HU1.out.size _).grown hgr5 (by have := HU1.out.size; simp; omega) (fun b hb => (HR1.out.lt b hb).1)
    refine ⟨A5, k + 1, c5, l0.take k ++ [1], rfl, by omega, by omega, own_cap hown5, ?_, ?_, hb15⟩
    · have := Rd.own hown5
      simpa [byts] using this
    · intro b hb
      rcases List.mem_append.1 hb with h | h
      · exact HB0.out b (List.mem_of_mem_take h)
      · simp at h; omega
  case rest =>
  obtain ⟨A, n, c, l, rfl, hn1, hn2, hnc, hx, hb, hbl⟩ := hcut
  have HX := Lib.hid hx
  have HB := Lib.hid hb
  have HBL := Lib.hid hbl
  clear hx hb hbl
  go_upto_region 2 with fail
  go_cut [1] (fun s2 wx => wc = wx ∧ ∃ s : Nat, s2 = .int .i64 ((s + 1 : Nat) : Int) ∧ s < 100)
  case first =>
    go_wp2
    go_meet
    refine ⟨rfl, (size % 18446744073709551616 % 100).toNat, ?_, by omega⟩
    rw [IntKind.wrap_u64, Int.tmod_eq_emod_of_nonneg (by omega)]
    congr 1
    unfold wrap64
    omega
  case rest =>
  obtain ⟨rfl, s, rfl, hs⟩ := hcut
  go_upto_region 3 with fail
  go_cut [2] (fun s2 wx => wc = wx ∧ ∃ m : Nat, s2 = .int .i64 (m : Int) ∧ m < n)
  case first =>
    go_wp2
    go_meet
    have hnz : (n : Int) ≠ 0 := by omega
    have h1 := Int.emod_nonneg (most % 18446744073709551616) hnz
    have h2 := Int.emod_lt_of_pos (most % 18446744073709551616) (show (0 : Int) < n by omega)
    refine ⟨rfl, (most % 18446744073709551616 % n).toNat, ?_, by omega⟩
    rw [IntKind.wrap_u64, Int.tmod_eq_emod_of_nonneg (by omega)]
    congr 1
    generalize most % 18446744073709551616 % (n : Int) = q at h1 h2 ⊢
    unfold wrap64
    omega
  case rest =>
  obtain ⟨rfl, m, rfl, hm⟩ := hcut
  go_wp2_with fail
  refine (chunk_encode_in A n c s l wc (by omega) HX.out hnc (by omega)).mono ?_
  rintro e w1 ⟨AE, cE, rfl, hrE, hbE, hcE⟩
  have hlenl : l.length = n := by
    have := HX.out.1
    simpa [byts] using this
  have hEl := encL_len s l
  have hEb := encL_lt s l HB.out
  obtain ⟨dE, leftE, j, hfE, hjE⟩ := feed_full m s (by omega) n l [] 0 hlenl (by simp) (by simp; omega)
  rw [List.nil_append] at hfE
  rw [List.length_nil, Nat.zero_add] at hjE
  obtain ⟨p, hp⟩ : ∃ p, l.take j = p := ⟨_, rfl⟩
  rw [hp] at hfE hjE
  have HP := Lib.hid hp
  clear hp
  obtain ⟨E, hE⟩ : ∃ E, encL s l = E := ⟨_, rfl⟩
  rw [hE] at hrE hEl hcE hEb hfE
  rw [hE]
  obtain ⟨L, hL⟩ : ∃ L, E.length = L := ⟨_, rfl⟩
  rw [hL] at hrE hEl hcE
  rw [hL]
  have hLb : L ≤ 7012 := by omega
  have HRE := Lib.hid hrE
  have HBE := Lib.hid hbE
  have HFE := Lib.hid hfE
  have HEB := Lib.hid hEb
  clear hrE hbE hEb hfE hE hL hEl
  have hmm : new0 (m : Int) = ⟨m, 0, 0, 0, [], 0⟩ := by
    have : most0 (m : Int) = m := by unfold most0; omega
    unfold new0
    rw [this]
  go_wp2_with fail
  refine (chunk_new (m : Int) w1).mono ?_
  rw [hmm]
  have hi2 := new0_inv (m : Int)
  rw [hmm] at hi2
  rintro e w2 ⟨rfl, hc2, hu2, hs2⟩
  have HC2 := Lib.hid hc2
  have HI2 := Lib.hid hi2
  have hb2 := Upd.belowNix hu2 (Nat.le_refl _)
  have hr2 : Rd w2 w1.heap.size 1 AE L (byts E) := HRE.out.below hb2
  have HB2 := Lib.hid hb2
  have HR2 := Lib.hid hr2
  have HS2 := Lib.hid hs2
  clear hc2 hi2 hu2 hb2 hr2 hs2 hmm
  go_wp2_with fail
  have hf1 : feed ⟨m, 0, 0, 0, [], 0⟩ E = ((0, false, 4), ⟨m, dE, 0, leftE, p, 4⟩) := by
    unfold feed
    rw [if_neg (by simp)]
    exact HFE.out
  refine (chunk_feed w1.heap.size _ _ AE L cE E w2 HC2.out HI2.out (HR2.out.more (by rw [HS2.out]; omega)) HEB.out (fun ad ha hp hf => ?_) (by omega)).mono ?_
  · obtain ⟨ad', ha', hlt', _⟩ := HR2.out.2 hp
    rw [ha] at ha'
    injection ha' with ha'
    subst ha'
    rcases hf with hf | hf
    · omega
    · cases hf
  rw [hf1]
  rintro e w3 ⟨rfl, ⟨v3, hc3, hm3⟩, hu3⟩
  simp only
  have hfoot : ∀ b, Foot w1.heap.size (.slice none 0 0) b → w1.heap.size ≤ b := by
    rintro b (h | h)
    · omega
    · cases h
  have hown3 : ∀ b, Foot w1.heap.size v3 b → w1.heap.size ≤ b := from_moved (v := .slice none 0 0) hfoot hm3 (by rw [HS2.out]; omega)
  have hi3 : CInv ⟨m, dE, 0, leftE, p, 4⟩ := by
    have := feedGo_inv E _ 0 HI2.out HEB.out
    rw [HFE.out] at this
    exact this
  have hb3 : Below w1.heap.size w1 w3 := HB2.out.trans (hu3.below (by rw [HS2.out]; omega) fun b _ hb => hfoot b hb)
  have HC3 := Lib.hid hc3
  have HO3 := Lib.hid hown3
  have HI3 := Lib.hid hi3
  have HB3 := Lib.hid hb3
  clear hf1 hc3 hm3 hu3 hown3 hi3 hb3 hfoot
  go_wp2_with fail
  have hf4 : feed ⟨m, dE, 0, leftE, p, 4⟩ E = ((0, false, 4), ⟨m, dE, 0, leftE, p, 4⟩) := by
    unfold feed
    rw [if_pos (by simp)]
  refine (chunk_feed w1.heap.size v3 _ AE L cE E w3 HC3.out HI3.out ((HRE.out.below HB3.out).more HB3.out.size) HEB.out (fun ad ha hp hf => ?_) (by omega)).mono ?_
  · obtain ⟨ad', ha', hlt', _⟩ := HR2.out.2 hp
    rw [ha] at ha'
    injection ha' with ha'
    subst ha'
    have := HO3.out _ hf
    omega
  rw [hf4]
  rintro e w4 ⟨rfl, ⟨v4, hc4, hm4⟩, hu4⟩
  simp only
  have hb4 : Below w1.heap.size w1 w4 := HB3.out.trans (hu4.below (Nat.le_of_lt HC3.out.1.lt) fun b _ hb => HO3.out b hb)
  have HC4 := Lib.hid hc4
  have HB4 := Lib.hid hb4
  clear hf4 hc4 hm4 hu4 hb4
  go_wp2_with fail
  refine (chunk_body w1.heap.size v4 _ w4 HC4.out HI3.out).mono ?_
  rintro e w5 ⟨A5, n5, c5, rfl, hn5, hr5, hu5⟩
  simp only at hn5
  have hc5 : CR w5 w1.heap.size v4 ⟨m, dE, 0, leftE, p, 4⟩ := HC4.out.upd hu5 fun _ _ h => h
  have hb5 := HB4.out.trans (Upd.belowNix hu5 (Nat.le_of_lt HC4.out.1.lt))
  have hle5 : n5 ≤ m := by omega
  have hle : (n5 : Int) ≤ (m : Int) := by omega
  have hdec : decide ((n5 : Int) ≤ (m : Int)) = true := decide_eq_true hle
  have HB5 := Lib.hid hb5
  have HC5 := Lib.hid hc5
  clear hr5 hu5 hb5 hn5 hc5
  go_wp2_with fail
  refine (chunk_body w1.heap.size v4 _ w5 HC5.out HI3.out).mono ?_
  rintro e w6 ⟨A6, n6, c6, rfl, hn6, hr6, hu6⟩
  simp only at hn6 hr6
  have hb6 := HB5.out.trans (Upd.belowNix hu6 (Nat.le_of_lt HC5.out.1.lt))
  have hb26 : Below wc.heap.size wc w6 := HBE.out.trans (hb6.mono HBE.out.size)
  have hx6 : Rd w6 wc.heap.size 1 A n (byts l) := HX.out.below hb26
  have hr6' : Rd w6 w6.heap.size 1 A6 n6 (byts (l.take j)) := by rw [HP.out]; exact hr6
  have hbl6 : Below w.heap.size w w6 := HBL.out.trans (hb26.mono HBL.out.size)
  have HX6 := Lib.hid hx6
  have HR6 := Lib.hid hr6'
  have HB6 := Lib.hid hbl6
  clear hn6 hr6 hu6 hb6 hb26 hx6 hr6' hbl6
  go_wp2_with fail
  refine (bytes_prefix w6 _ _ A A6 n n6 c c6 l j HX6.out HR6.out HB.out hnc (by omega)).mono ?_
  rintro e w7 ⟨rfl, rfl⟩
  go_wp2
  go_ret
  exact ⟨rfl, HB6.out⟩
end Go.Proofs.YtphnehfablaakaaDoor
