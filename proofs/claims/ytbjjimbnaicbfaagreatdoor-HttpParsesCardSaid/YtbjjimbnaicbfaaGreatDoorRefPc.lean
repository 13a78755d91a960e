/- ciceroneref13.ParseReply. -/
import Derived.Test.YtbjjimbnaicbfaaGreatDoorRefPb
namespace Go.Proofs.YtbjjimbnaicbfaaGreatDoor
open Go.RowKit Go.Cx Go.Maps

theorem upd_ownP {w w' : World} {v : Value} (h : w.grownBy w' v.ownBlock) : Upd (fun b => v.ownBlock = some b) w w' := (Upd.refl _ _).grown h fun _ hb _ => hb

set_option maxRecDepth 100000 in
set_option maxHeartbeats 12800000 in
theorem ref_parse_not (A : Option Addr) (n c : Nat) (l : List Nat) (w : World) (hx : Rd w w.heap.size 1 A n (byts l)) (hb : ∀ b ∈ l, b < 256) (hn : n ≤ 140737488355328) (hnc : n ≤ c) (hbad : ¬ badL <+: l) :
    Calls Tryz.prog 14 #[.slice A n c] w (Parsed (parseL l) w) := by
  have k1 := run_conv w hx c
  have hlen := hx.1
  simp only [byts, List.length_map, Nat.mul_one] at hlen
  have hbs := bytesOf_strN hb
  generalize strN l = s at k1 hbs
  have hss : s.size = n := by rw [← bytesOf_len, hbs, hlen]
  have hb66 : badL.length = 66 := rfl
  have hg72 : goodL.length = 72 := rfl
  obtain ⟨i0, hi0, hy0, hy1, hy2⟩ := info_parts infoU8
  have hq : 66 ≤ n → ((s.extract 0 66).toList == ([72, 84, 84, 80, 47, 49, 46, 49, 32, 52, 48, 48, 32, 66, 97, 100, 32, 82, 101, 113, 117, 101, 115, 116, 13, 10, 67, 111, 110, 116, 101, 110, 116, 45, 76, 101, 110, 103, 116, 104, 58, 32, 48, 13, 10, 67, 111, 110, 110, 101, 99, 116, 105, 111, 110, 58, 32, 99, 108, 111, 115, 101, 13, 10, 13, 10] : List UInt8)) = false := fun h66 => by
    rw [str_lit (s.extract 0 66) _ badL rfl, bytesOf_to, hbs]
    exact decide_eq_false fun h => hbad (by rw [← h]; exact List.take_prefix _ _)
  have HQ := Lib.hid hq
  have HX := Lib.hid hx
  have HB := Lib.hid hb
  have HBS := Lib.hid hbs
  have HLEN := Lib.hid hlen
  have HSS := Lib.hid hss
  have hs2 : s.size ≤ 140737488355328 := by omega
  clear hx hb hbs hlen hss hq
  go_enter Tryz.func14, Tryz.ntmps14
  go_upto_region 2 with fail
  go_cut [21] (fun s21 wx => w = wx ∧ s21 = .bool false)
  case first =>
    by_cases h66 : 66 ≤ n
    · have hi66 : (66 : Int) ≤ (s.size : Int) := by have := HSS.out; omega
      have hq := HQ.out h66
      go_wp2_with fail
      go_meet
      exact ⟨rfl, rfl⟩
    · have hi66 : ¬ (66 : Int) ≤ (s.size : Int) := by have := HSS.out; omega
      go_wp2_with fail
      go_meet
      exact ⟨rfl, rfl⟩
  case rest =>
  obtain ⟨rfl, rfl⟩ := hcut
  obtain ⟨gb, hgb⟩ : ∃ gb, begB l goodL = gb := ⟨_, rfl⟩
  go_wp2_with fail
  have hgood : ∀ x : ByteArray, bytesOf x = goodL → begB (bytesOf s) (bytesOf x) = gb := fun x hx => by rw [HBS.out, hx, hgb]
  refine (ref_begins s _ w hs2 (by decide +kernel)).mono ?_
  rw [hgood _ (by decide +kernel)]
  rintro e w1 ⟨rfl, hu1⟩
  have HU1 := Lib.hid hu1
  have HGB := Lib.hid hgb
  clear hu1 hgood hgb
  cases gb with
  | false =>
    have hng : ¬ (l <+: goodL ∨ goodL <+: l) := of_decide_eq_false HGB.out
    have hn1 : ¬ l <+: goodL := fun h => hng (.inl h)
    have hn2 : ¬ goodL <+: l := fun h => hng (.inr h)
    clear hng
    by_cases h66 : 66 ≤ n
    · have hi66 : ¬ (s.size : Int) < 66 := by have := HSS.out; omega
      have hn3 : ¬ l <+: badL := fun h => by
        have h1 := h.length_le
        have h2 := HLEN.out
        have h3 : l = badL := h.eq_of_length (by omega)
        exact hbad (h3 ▸ List.prefix_refl _)
      have HP := Lib.hid (parse_none hbad hn2 hn3 hn1)
      clear hn1 hn2 hn3
      go_wp2_with fail
      refine bodyPost_ret (results_tmp4 rfl _ _ _) rfl ?_
      rw [HP.out]
      exact parsed_err 130 w w1 HU1.out
    · have hi66 : (s.size : Int) < 66 := by have := HSS.out; omega
      obtain ⟨bb, hbb⟩ : ∃ bb, begB l badL = bb := ⟨_, rfl⟩
      have HBB := Lib.hid hbb
      have H1 := Lib.hid hn1
      have H2 := Lib.hid hn2
      clear hn1 hn2
      go_wp2_with fail
      have hbadb : ∀ x : ByteArray, bytesOf x = badL → begB (bytesOf s) (bytesOf x) = bb := fun x hx => by rw [HBS.out, hx, hbb]
      refine (ref_begins s _ w1 hs2 (by decide +kernel)).mono ?_
      rw [hbadb _ (by decide +kernel)]
      rintro e w2 ⟨rfl, hu2⟩
      have HU2 := Lib.hid (HU1.out.trans hu2 fun _ _ h => h)
      clear hu2 hbadb hbb
      cases bb with
      | true =>
        have h3 : l <+: badL := by
          rcases of_decide_eq_true HBB.out with h | h
          · exact h
          · exact absurd h hbad
        have HP := Lib.hid (parse_short' hbad H2.out h3)
        clear h3
        go_wp2_with fail
        refine bodyPost_ret (results_tmp4 rfl _ _ _) rfl ?_
        rw [HP.out]
        exact parsed_err 20 w w2 HU2.out
      | false =>
        have h3 : ¬ l <+: badL := fun h => (of_decide_eq_false HBB.out) (.inl h)
        have HP := Lib.hid (parse_none hbad H2.out h3 H1.out)
        clear h3
        go_wp2_with fail
        refine bodyPost_ret (results_tmp4 rfl _ _ _) rfl ?_
        rw [HP.out]
        exact parsed_err 130 w w2 HU2.out
  | true =>
    go_upto_block 0 with fail
    obtain ⟨t, ht⟩ : ∃ t, l.drop 72 = t := ⟨_, rfl⟩
    obtain ⟨D, hD⟩ : ∃ D, ((t.take 6).takeWhile isDig).length = D := ⟨_, rfl⟩
    have hD6 : D ≤ 6 := by
      have h1 := (List.takeWhile_prefix (l := t.take 6) isDig).length_le
      have h2 := List.length_take_le 6 t
      omega
    have htl : t.length = n - 72 := by rw [← ht, List.length_drop, HLEN.out]
    have hDt : D ≤ t.length := by
      have h1 := (List.takeWhile_prefix (l := t.take 6) isDig).length_le
      rw [List.length_take] at h1
      omega
    have hidx : ∀ (k b : Nat), (t.take 6)[k]? = some b → ∀ W, (Instr.index 9 (.string s) (.int .i64 ((72 + k : Nat) : Int))).run Tryz.prog W = .ok (.int .u8 b) W := by
      intro k b hb W
      have hk6 : k < (t.take 6).length := (List.getElem?_eq_some_iff.1 hb).1
      rw [List.length_take] at hk6
      have hbt : t[k]? = some b := by
        rw [List.getElem?_take] at hb
        rwa [if_pos (by omega)] at hb
      have hbl : l[72 + k]? = some b := by rw [← ht, List.getElem?_drop] at hbt; exact hbt
      have hks : 72 + k < s.size := by rw [HSS.out]; omega
      have h1 := bytesOf_at s (72 + k) hks
      rw [HBS.out, hbl] at h1
      injection h1 with h1
      rw [run_index_string (P := Tryz.prog) W 9 s .i64 ((72 + k : Nat) : Int) Tryz.underlying9, dif_pos ⟨by omega, by omega⟩]
      simp only [Int.toNat_natCast, h1]
    have HD := Lib.hid hD
    have HT := Lib.hid ht
    have HTL := Lib.hid htl
    have HIDX := Lib.hid hidx
    clear hD ht htl hidx
    go_cut [7] (fun s7 wx => w1 = wx ∧ s7 = .int .i64 ((72 + D : Nat) : Int))
    case first =>
      go_wp2_with fail
      go_loopw [7] (fun s7 wr => w1 = wr ∧ ∃ m : Nat, 72 ≤ m ∧ m ≤ 72 + D ∧ s7 = .int .i64 (m : Nat)) (fun s7 _ => 72 + D - (intOf s7).toNat)
      case atStart => exact ⟨rfl, 72, by omega, by omega, rfl⟩
      case round =>
        obtain ⟨rfl, m, hm1, hm2, rfl⟩ := hrel
        obtain ⟨k, rfl⟩ : ∃ k, m = 72 + k := ⟨m - 72, by omega⟩
        by_cases hkD : k < D
        · obtain ⟨b, hb, hd⟩ := tw_in (p := isDig) (l := t.take 6) (k := k) (by rw [HD.out]; exact hkD)
          have hix := HIDX.out k b hb
          have hb1 : 48 ≤ b ∧ b ≤ 57 := by simpa [isDig] using hd
          have hi1 : (48 : Int) ≤ (b : Int) := by omega
          have hi2 : (b : Int) ≤ 57 := by omega
          have hi3 : ((72 + k : Nat) : Int) < (s.size : Int) := by have := HTL.out; have := HSS.out; omega
          have hi4 : ((72 + k : Nat) : Int) < 78 := by omega
          obtain ⟨m, hm⟩ : ∃ m, 72 + k = m := ⟨_, rfl⟩
          rw [hm] at hix hi3 hi4 ⊢
          have hmD : m < 72 + D := by omega
          have hm72 : 72 ≤ m := by omega
          clear hb hd hkD hm hm1 hm2
          go_wp2_with fail
          refine ⟨⟨trivial, m + 1, by omega, by omega, by rfl⟩, ?_⟩
          simp only [intOf]; omega
        · have hkD' : k = D := by omega
          subst hkD'
          rcases tw_end (p := isDig) (l := t.take 6) with h | ⟨b, hb, hd⟩
          · rw [HD.out, List.length_take] at h
            by_cases hlt : 72 + k < n
            · have hi3 : ((72 + k : Nat) : Int) < (s.size : Int) := by have := HSS.out; omega
              have hk6 : k = 6 := by have := HTL.out; omega
              have hi4 : ¬ ((72 + k : Nat) : Int) < 78 := by omega
              obtain ⟨m, hm⟩ : ∃ m, 72 + k = m := ⟨_, rfl⟩
              rw [hm] at hi3 hi4 ⊢
              have HM := Lib.hid hm
              clear h hlt hk6 hm
              go_wp2_with fail
              go_meet
              exact ⟨rfl, by rw [HM.out]⟩
            · have hi3 : ¬ ((72 + k : Nat) : Int) < (s.size : Int) := by have := HSS.out; omega
              obtain ⟨m, hm⟩ : ∃ m, 72 + k = m := ⟨_, rfl⟩
              rw [hm] at hi3 ⊢
              have HM := Lib.hid hm
              clear h hlt hm
              go_wp2_with fail
              go_meet
              exact ⟨rfl, by rw [HM.out]⟩
          · rw [HD.out] at hb
            have hix := HIDX.out k b hb
            have hk6 := (List.getElem?_eq_some_iff.1 hb).1
            rw [List.length_take] at hk6
            have hi3 : ((72 + k : Nat) : Int) < (s.size : Int) := by have := HTL.out; have := HSS.out; omega
            have hi4 : ((72 + k : Nat) : Int) < 78 := by omega
            obtain ⟨m, hm⟩ : ∃ m, 72 + k = m := ⟨_, rfl⟩
            rw [hm] at hix hi3 hi4 ⊢
            have HM := Lib.hid hm
            clear hb hk6 hm
            by_cases h48 : 48 ≤ b
            · have hi1 : (48 : Int) ≤ (b : Int) := by omega
              have hi2 : ¬ (b : Int) ≤ 57 := by
                have : ¬ (48 ≤ b ∧ b ≤ 57) := by simpa [isDig] using hd
                omega
              clear hd
              go_wp2_with fail
              go_meet
              exact ⟨rfl, by rw [HM.out]⟩
            · have hi1 : ¬ (48 : Int) ≤ (b : Int) := by omega
              clear hd
              go_wp2_with fail
              go_meet
              exact ⟨rfl, by rw [HM.out]⟩
    case rest =>
    obtain ⟨rfl, rfl⟩ := hcut
    obtain ⟨a, ha⟩ : ∃ a, 72 + D = a := ⟨_, rfl⟩
    rw [ha]
    have HA := Lib.hid ha
    clear ha
    have hpre : l <+: goodL ∨ goodL <+: l := of_decide_eq_true HGB.out
    have HPRE := Lib.hid hpre
    clear hpre
    by_cases hna : n ≤ a
    · have hi : (s.size : Int) ≤ (a : Int) := by have := HSS.out; omega
      have hdig : 72 < s.size → l.drop 72 = digP (l.drop 72) := fun h => by
        rw [HT.out]
        unfold digP
        have h1 := List.takeWhile_prefix (l := t.take 6) isDig
        have h2 : (t.take 6) <+: t := List.take_prefix 6 t
        refine ((h1.trans h2).eq_of_length ?_).symm
        have e1 := HA.out
        have e2 := HSS.out
        have e3 := HTL.out
        have e4 := HD.out
        omega
      have hcode : parseL l = (0, [], [], (sizedL (l.drop 72)).2.2.2) := by
        by_cases hg : goodL <+: l
        · have hp := parse_good' hg
          rw [hg72] at hp
          rw [hp]
          have hn72 : 72 ≤ n := by have := hg.length_le; have := HLEN.out; omega
          rcases Nat.eq_or_lt_of_le hn72 with h | h
          · rw [List.drop_eq_nil_of_le (by rw [HLEN.out]; omega), sized_nil]
          · have hdd := hdig (by rw [HSS.out]; exact h)
            have hne : l.drop 72 ≠ [] := by
              intro h'
              have := congrArg List.length h'
              rw [List.length_drop, HLEN.out, List.length_nil] at this
              omega
            cases hsz : sizeL (digP (l.drop 72)) with
            | none => rw [sized_none hne hsz]
            | some m =>
              by_cases hi2 : itoaL m = digP (l.drop 72)
              · rw [sized_ends hsz hi2, ← hdd, List.drop_length, ends_nil]
              · rw [sized_odd hsz hi2]
        · have hl : l <+: goodL := by
            rcases HPRE.out with h | h
            · exact h
            · exact absurd h hg
          rw [parse_begun hbad hg hl, List.drop_eq_nil_of_le (by have := hl.length_le; omega), sized_nil]
      have hsh := ref_short s l w1 HBS.out hs2 a (by have := HA.out; have := HSS.out; have := HTL.out; omega) (by have := HA.out; omega) hdig
      have HCODE := Lib.hid hcode
      have HSH := Lib.hid hsh
      clear hdig hcode hsh
      go_wp2_with fail
      refine HSH.out.mono ?_
      rintro e w2 ⟨rfl, hu2⟩
      have HU2 := Lib.hid (HU1.out.trans hu2 fun _ _ h => h)
      clear hu2
      go_wp2_with fail
      refine bodyPost_ret (results_tmp4 rfl _ _ _) rfl ?_
      rw [HCODE.out]
      exact parsed_err _ w w2 HU2.out
    · have hi : ¬ (s.size : Int) ≤ (a : Int) := by have := HSS.out; omega
      have hg : goodL <+: l := by
        rcases HPRE.out with h | h
        · have h1 := h.length_le
          have h2 := HLEN.out
          have h3 := HA.out
          omega
        · exact h
      have hp := parse_good' hg
      rw [hg72, HT.out] at hp
      have htne : t ≠ [] := by
        rintro rfl
        have h1 := HTL.out
        have h2 := HA.out
        simp only [List.length_nil] at h1
        omega
      have hdt : digP t = t.take D := by
        have h1 := List.takeWhile_prefix (l := t.take 6) isDig
        have h2 : (t.take 6) <+: t := List.take_prefix 6 t
        have h3 := List.prefix_iff_eq_take.1 (h1.trans h2)
        rw [HD.out] at h3
        exact h3
      obtain ⟨Dg, hDg⟩ : ∃ Dg, s.extract 72 a = Dg := ⟨_, rfl⟩
      have hDl : bytesOf Dg = digP t := by
        rw [← hDg, bytesOf_extract, HBS.out, HT.out, hdt]
        congr 1
        have := HA.out
        omega
      have hDs : Dg.size ≤ 140737488355328 := by
        rw [← bytesOf_len, hDl, hdt, List.length_take]
        omega
      have hnum := fun (W : World) => ref_number Dg W hDs
      rw [hDl] at hnum
      have HDG := Lib.hid hDg
      have HDL := Lib.hid hDl
      have HNUM := Lib.hid hnum
      have HP := Lib.hid hp
      have HNE := Lib.hid htne
      have HDT := Lib.hid hdt
      have hj1 : (a : Int) ≤ (s.size : Int) := by omega
      have hj2 : (72 : Int) ≤ (a : Int) := by have := HA.out; omega
      clear hg hp htne hdt hDg hDl hDs hnum
      cases hsz : sizeL (digP t) with
      | none =>
        rw [numZ_neg hsz] at HNUM
        have HZ := Lib.hid (sized_none HNE.out hsz)
        clear hsz
        go_wp2_with fail
        rw [HDG.out]
        refine (HNUM.out w1).mono ?_
        rintro e w2 ⟨rfl, rfl⟩
        go_wp2_with fail
        refine bodyPost_ret (results_tmp4 rfl _ _ _) rfl ?_
        rw [HP.out, HZ.out]
        exact parsed_err _ w w1 HU1.out
      | some m =>
        obtain ⟨hz1, hz2⟩ := numZ_pos hsz
        rw [hz1] at HNUM
        by_cases hi2 : itoaL m = digP t
        · have hends := sized_ends hsz hi2
          have hdl : (digP t).length = D := HD.out
          rw [hdl] at hends
          obtain ⟨u, hu⟩ : ∃ u, t.drop D = u := ⟨_, rfl⟩
          rw [hu] at hends
          have hul : l.drop a = u := by rw [← hu, ← HT.out, List.drop_drop, HA.out]
          have hulen : u.length = n - a := by rw [← hul, List.length_drop, HLEN.out]
          have HE := Lib.hid (HP.out.trans hends)
          have HUL := Lib.hid hul
          have HULEN := Lib.hid hulen
          have HI := Lib.hid hi2
          clear hsz hz1 hi2 hends hdl hu hul hulen
          go_wp2_with fail
          rw [HDG.out]
          refine (HNUM.out w1).mono ?_
          rintro e w2 ⟨rfl, rfl⟩
          go_wp2_with fail
          refine (ref_decimal m hz2 w1).mono ?_
          rintro e w2 ⟨x, rfl, hx, rfl⟩
          obtain rfl : x = Dg := bytesOf_inj (by rw [hx, HDL.out, HI.out])
          clear hx
          go_wp2_with fail
          have hb0 := Blk.new w1 9 #[.string ⟨#[13, 10, 13, 10]⟩, .string ⟨#[13, 10, 67, 111, 110, 110, 101, 99, 116, 105, 111, 110, 58, 32, 99, 108, 111, 115, 101, 13, 10, 13, 10]⟩]
          have hu0 : Upd Nix w1 (w1.alloc (.cells #[.string ⟨#[13, 10, 13, 10]⟩, .string ⟨#[13, 10, 67, 111, 110, 110, 101, 99, 116, 105, 111, 110, 58, 32, 99, 108, 111, 115, 101, 13, 10, 13, 10]⟩] 9)) := (Upd.refl _ _).alloc _
          obtain ⟨g, hgg⟩ : ∃ g, w1.heap.size = g := ⟨_, rfl⟩
          rw [hgg] at hb0 ⊢
          generalize (w1.alloc (.cells #[.string ⟨#[13, 10, 13, 10]⟩, .string ⟨#[13, 10, 67, 111, 110, 110, 101, 99, 116, 105, 111, 110, 58, 32, 99, 108, 111, 115, 101, 13, 10, 13, 10]⟩] 9)) = wa at *
          have HB0 := Lib.hid hb0
          have HU0 := Lib.hid (HU1.out.trans hu0 fun _ _ h => h)
          clear hb0 hu0 hgg
          go_loopw [7, 84] (fun s7 s84 wr => ∃ k : Nat, k ≤ 2 ∧ s84 = .int .i64 (k : Nat) ∧ s7 = .int .i64 (a : Nat) ∧ Upd Nix w wr ∧ Blk wr g 9 #[.string ⟨#[13, 10, 13, 10]⟩, .string ⟨#[13, 10, 67, 111, 110, 110, 101, 99, 116, 105, 111, 110, 58, 32, 99, 108, 111, 115, 101, 13, 10, 13, 10]⟩] ∧ (1 ≤ k → ¬ endL <+: u ∧ ¬ u <+: endL) ∧ (2 ≤ k → ¬ closeL <+: u ∧ ¬ u <+: closeL)) (fun _ s84 _ => 2 - (intOf s84).toNat)
          case atStart => exact ⟨0, by omega, rfl, rfl, HU0.out, HB0.out, fun h => absurd h (by omega), fun h => absurd h (by omega)⟩
          case round =>
            obtain ⟨k, hk, rfl, rfl, hur, hbr, hn1, hn2⟩ := hrel
            have HUR := Lib.hid hur
            have HBR := Lib.hid hbr
            by_cases hk2 : k < 2
            · have hki : (k : Int) < 2 := by omega
              have hR : ∃ (R : ByteArray) (RL : List Nat), (#[.string ⟨#[13, 10, 13, 10]⟩, .string ⟨#[13, 10, 67, 111, 110, 110, 101, 99, 116, 105, 111, 110, 58, 32, 99, 108, 111, 115, 101, 13, 10, 13, 10]⟩] : Array Value)[k]? = some (.string R) ∧ bytesOf R = RL ∧ R.size = RL.length ∧ R.size ≤ 30 ∧
                  (RL <+: u → parseL l = if u.length - RL.length < m then (0, [], [], 20) else (200, (u.drop RL.length).take m, (u.drop RL.length).drop m, 0)) ∧
                  (¬ RL <+: u → u <+: RL → parseL l = (0, [], [], 20)) ∧
                  (¬ RL <+: u → ¬ u <+: RL → (1 ≤ k + 1 → ¬ endL <+: u ∧ ¬ u <+: endL) ∧ (2 ≤ k + 1 → ¬ closeL <+: u ∧ ¬ u <+: closeL)) := by
                rcases (by omega : k = 0 ∨ k = 1) with rfl | rfl
                · refine ⟨_, endL, rfl, by decide +kernel, by decide +kernel, by decide +kernel, fun h => ?_, fun h h' => ?_, fun h h' => ⟨fun _ => ⟨h, h'⟩, fun h2 => absurd h2 (by omega)⟩⟩
                  · rw [HE.out, endsR, if_pos h]; rfl
                  · rw [HE.out, endsR, if_neg h, if_pos h']
                · obtain ⟨e1, e2⟩ := hn1 (by omega)
                  refine ⟨_, closeL, rfl, by decide +kernel, by decide +kernel, by decide +kernel, fun h => ?_, fun h h' => ?_, fun h h' => ⟨fun _ => ⟨e1, e2⟩, fun _ => ⟨h, h'⟩⟩⟩
                  · rw [HE.out, endsR, if_neg e1, if_neg e2, if_pos h]; rfl
                  · rw [HE.out, endsR, if_neg e1, if_neg e2, if_neg h, if_pos h']
              obtain ⟨R, RL, hRc, hRb, hRs, hR30, hR1, hR2, hR3⟩ := hR
              have hcell : wr.cell? ⟨g, k, none⟩ = some (.string R) := (hbr.cell k).trans hRc
              have hsn : s.size = n := HSS.out
              have hun : u.length = n - a := HULEN.out
              have hext : bytesOf (s.extract a (a + R.size)) = u.take R.size := by
                rw [bytesOf_extract, HBS.out, HUL.out]
                congr 1
                omega
              have HEXT := Lib.hid hext
              have HRB := Lib.hid hRb
              have HRS := Lib.hid hRs
              have HR1 := Lib.hid hR1
              have HR2 := Lib.hid hR2
              have HR3 := Lib.hid hR3
              have HSN := Lib.hid hsn
              have HUN := Lib.hid hun
              clear hur hbr hn1 hn2 hRc hext hRb hRs hR1 hR2 hR3 hsn hun
              by_cases hpre : RL <+: u
              · have hle := hpre.length_le
                have hq : ((s.extract a (a + R.size)).toList == R.toList) = true := by
                  rw [str_eq, HEXT.out, HRB.out, HRS.out]
                  exact decide_eq_true (List.prefix_iff_eq_take.1 hpre).symm
                have e1 : (R.size : Int) ≤ (s.size : Int) - (a : Int) := by
                  have := HRS.out; have := HSN.out; have := HUN.out; omega
                have e2 : (a : Int) + (R.size : Int) ≤ (s.size : Int) := by omega
                have hp := HR1.out hpre
                by_cases hm : u.length - RL.length < m
                · rw [if_pos hm] at hp
                  have HPP := Lib.hid hp
                  have e3 : (s.size : Int) - ((a : Int) + (R.size : Int)) < (m : Int) := by
                    have := HRS.out; have := HSN.out; have := HUN.out; omega
                  clear hpre hle hp hm
                  go_wp2_with fail
                  refine bodyPost_ret (results_tmp4 rfl _ _ _) rfl ?_
                  rw [HPP.out]
                  exact parsed_err _ w wr HUR.out
                · rw [if_neg hm] at hp
                  have HPP := Lib.hid hp
                  have e3 : ¬ (s.size : Int) - ((a : Int) + (R.size : Int)) < (m : Int) := by
                    have := HRS.out; have := HSN.out; have := HUN.out; omega
                  have HPRE2 := Lib.hid hpre
                  have HLE2 := Lib.hid hle
                  have HM2 := Lib.hid hm
                  have q1 : 72 ≤ a := by have := HA.out; omega
                  have q2 : a + R.size + m ≤ n := by have := HRS.out; have := HUN.out; omega
                  have q3 : a + R.size + m ≤ c := by omega
                  have hwr : IntKind.i64.wrap ((a : Int) + (R.size : Int) + (m : Int)) = (a : Int) + (R.size : Int) + (m : Int) := by rw [IntKind.wrap_i64]; omega
                  have hsz1 : ∀ W, (sizeOf (Tryz.prog.elem 26)).run Tryz.prog W = .ok 1 W := fun W => by kernel_rfl
                  obtain ⟨B1, hB1⟩ : ∃ B1, (if c = a + R.size then A else A.map (·.add ((a + R.size) * 1))) = B1 := ⟨_, rfl⟩
                  obtain ⟨B2, hB2⟩ : ∃ B2, (if c = a + R.size + m then A else A.map (·.add ((a + R.size + m) * 1))) = B2 := ⟨_, rfl⟩
                  have hs1 : ∀ W, (Instr.slice 26 (.slice A n c) (some (.int .i64 ((a : Int) + (R.size : Int)))) (some (.int .i64 ((a : Int) + (R.size : Int) + (m : Int)))) none).run Tryz.prog W = .ok (.slice B1 m (c - (a + R.size))) W := by
                    intro W
                    rw [run_slice_lh W 26 A n c Tryz.underlying26 .i64 .i64 _ _ (by omega) (by omega) (by omega), hsz1 W]
                    have e5 : ((a : Int) + (R.size : Int)).toNat = a + R.size := by omega
                    have e6 : ((a : Int) + (R.size : Int) + (m : Int)).toNat = a + R.size + m := by omega
                    rw [e5, e6, ← hB1]
                    simp only [Result.andThen, sliced, Nat.add_sub_cancel_left]
                  have hs2 : ∀ W, (Instr.slice 26 (.slice A n c) (some (.int .i64 ((a : Int) + (R.size : Int) + (m : Int)))) none none).run Tryz.prog W = .ok (.slice B2 (n - (a + R.size + m)) (c - (a + R.size + m))) W := by
                    intro W
                    rw [run_slice_l W 26 A n c Tryz.underlying26 .i64 _ (by omega) (by omega), hsz1 W]
                    have e6 : ((a : Int) + (R.size : Int) + (m : Int)).toNat = a + R.size + m := by omega
                    rw [e6, ← hB2]
                    simp only [Result.andThen, sliced]
                  have hx : Rd wr w.heap.size 1 A n (byts l) := HX.out.below (HUR.out.belowNix (Nat.le_refl _))
                  have hul2 : u.drop RL.length = l.drop (a + R.size) := by rw [← HUL.out, List.drop_drop, HRS.out]
                  have hr1 : Rd wr w.heap.size 1 B1 m (byts ((u.drop RL.length).take m)) := by
                    have h1 := (hx.cut (k := a + R.size) (by omega) hnc).front (k := m) (by omega)
                    rw [hB1] at h1
                    rw [hul2]
                    simpa [byts] using h1
                  have hr2 : Rd wr w.heap.size 1 B2 (n - (a + R.size + m)) (byts ((u.drop RL.length).drop m)) := by
                    have h1 := hx.cut (k := a + R.size + m) (by omega) hnc
                    rw [hB2] at h1
                    rw [hul2, List.drop_drop]
                    simpa [byts] using h1
                  obtain ⟨X1, hX1⟩ : ∃ X1, (u.drop RL.length).take m = X1 := ⟨_, rfl⟩
                  obtain ⟨X2, hX2⟩ : ∃ X2, (u.drop RL.length).drop m = X2 := ⟨_, rfl⟩
                  rw [hX1] at hr1
                  rw [hX2] at hr2
                  rw [hX1, hX2] at HPP
                  have hbc : ∀ (X : List Nat), ∀ u ∈ byts X, u.oneCell' = true := by
                    intro X u hu
                    simp only [byts, List.mem_map] at hu
                    obtain ⟨b, _, rfl⟩ := hu
                    rfl
                  obtain ⟨n2, hn2⟩ : ∃ n2, n - (a + R.size + m) = n2 := ⟨_, rfl⟩
                  rw [hn2] at hr2 hs2
                  have m1 : 0 + m ≤ maxLen := by unfold maxLen; omega
                  have m2 : (0 + m) * 1 ≤ 140737488355328 := by omega
                  have m3 : 0 + n2 ≤ maxLen := by unfold maxLen; omega
                  have m4 : (0 + n2) * 1 ≤ 140737488355328 := by omega
                  have m5 : w.heap.size ≤ wr.heap.size := HUR.out.size
                  have HR1' := Lib.hid hr1
                  have HR2' := Lib.hid hr2
                  have HBC := Lib.hid hbc
                  have hsE : (((wr.alloc (.cells #[] 5)).alloc (.cells #[] 5)).drew).heap.size = wr.heap.size + 2 := by
                    show ((wr.alloc (.cells #[] 5)).alloc (.cells #[] 5)).heap.size = wr.heap.size + 2
                    simp
                  have hsB : wr.heap.size ≤ (((wr.alloc (.cells #[] 5)).alloc (.cells #[] 5)).drew).heap.size := by omega
                  have hlA : (((wr.alloc (.cells #[] 5)).alloc (.cells #[] 5)).drew).ownsRow wr.heap.size 5 1 (.slice (some ⟨wr.heap.size, 0, none⟩) 0 0) 0 [] := (World.ownsRow_lit wr #[] 0 (Nat.le_refl _) (by decide) rfl).alloc (.cells #[] 5)
                  have hlB : (((wr.alloc (.cells #[] 5)).alloc (.cells #[] 5)).drew).ownsRow wr.heap.size 5 1 (.slice (some ⟨wr.heap.size + 1, 0, none⟩) 0 0) 0 [] := by
                    have h1 := World.ownsRow_lit (base := wr.heap.size) (e := 5) (size := 1) (wr.alloc (.cells #[] 5)) #[] 0 (by simp) (by decide) rfl
                    have h2 : (wr.alloc (.cells #[] 5)).heap.size = wr.heap.size + 1 := by simp
                    rw [h2] at h1
                    exact h1
                  have HSE := Lib.hid hsE
                  have HLA := Lib.hid hlA
                  have HLB := Lib.hid hlB
                  clear hsE hlA hlB
                  clear hpre hle hp hm hx hul2 hr1 hr2 hX1 hX2 hbc hB1 hB2 hsz1 hn2
                  go_wp2_with fail
                  go_region_held3 (fun _ => True) (trivial)
                    ((first
                    | (refine step_app _ rfl (.tmp 116) (.tmp 122) 26 rfl wr.heap.size 5 i0 _ 1 1 Tryz.underlying26 hi0 hy0 hy1 hy2 rfl (by omega) (.slice (some ⟨wr.heap.size, 0, none⟩) 0 0) 0 [] rfl (World.ownsRow_lit wr #[] 0 (Nat.le_refl _) (by decide) rfl) w.heap.size B1 m (c - (a + R.size)) (byts X1) rfl (HR1'.out.below ((((Upd.refl Nix wr).alloc (.cells #[] 5)).drew).belowNix m5)) (HBC.out X1) m1 m2 (Nat.le_of_lt (by show wr.heap.size < (wr.alloc (.cells #[] 5)).heap.size; simp)) ?_; intro A5 c5 w5 hown5 hg5 hat5; simp only [Nat.zero_add, List.nil_append] at hown5; (try simp only [Nat.zero_add]); have HU5 := Lib.hid ((((Upd.refl Nix wr).alloc (.cells #[] 5)).drew).grown hg5 fun b hb hl => (by simp only [Value.ownBlock, Option.some.injEq] at hb; omega)); have HO5 := Lib.hid hown5; clear hown5 hg5 hat5)
                    | (refine step_app _ rfl (.tmp 124) (.tmp 129) 26 rfl w5.heap.size 5 i0 _ 1 1 Tryz.underlying26 hi0 hy0 hy1 hy2 rfl (by omega) (.slice (some ⟨w5.heap.size, 0, none⟩) 0 0) 0 [] rfl (World.ownsRow_lit w5 #[] 0 (Nat.le_refl _) (by decide) rfl) w.heap.size B2 n2 (c - (a + R.size + m)) (byts X2) rfl (HR2'.out.below ((HU5.out.alloc (.cells #[] 5)).belowNix m5)) (HBC.out X2) m3 m4 (by simp) ?_; intro A6 c6 w6 hown6 hg6 hat6; simp only [Nat.zero_add, List.nil_append] at hown6; (try simp only [Nat.zero_add]); have HU6 := Lib.hid ((HU5.out.alloc (.cells #[] 5)).grown hg6 fun b hb hl => (by simp only [Value.ownBlock, Option.some.injEq] at hb; have := HU5.out.size; omega)); have HU56 := Lib.hid (((Upd.refl Nix w5).alloc (.cells #[] 5)).grown hg6 fun b hb hl => (by simp only [Value.ownBlock, Option.some.injEq] at hb; omega)); have HO6 := Lib.hid hown6; have HR6 : Hid (Rd w6 w6.heap.size 1 A5 m (byts X1)) := Lib.hid (((Rd.own HO5.out).below (HU56.out.belowNix (Nat.le_refl _))).more HU56.out.size); clear hown6 hg6 hat6)
                    | (refine step_app _ rfl (.tmp 116) (.tmp 122) 26 rfl wr.heap.size 5 i0 _ 1 1 Tryz.underlying26 hi0 hy0 hy1 hy2 rfl (by omega) (.slice (some ⟨wr.heap.size, 0, none⟩) 0 0) 0 [] rfl HLA.out w.heap.size B1 m (c - (a + R.size)) (byts X1) rfl (HR1'.out.below (((((Upd.refl Nix wr).alloc (.cells #[] 5)).alloc (.cells #[] 5)).drew).belowNix m5)) (HBC.out X1) m1 m2 hsB ?_; intro A5 c5 w5 hown5 hg5 hat5; simp only [Nat.zero_add, List.nil_append] at hown5 hat5; (try simp only [Nat.zero_add]); have HU5 := Lib.hid (((((Upd.refl Nix wr).alloc (.cells #[] 5)).alloc (.cells #[] 5)).drew).grown hg5 fun b hb hl => (by simp only [Value.ownBlock, Option.some.injEq] at hb; omega)); have HO5 := Lib.hid hown5; have HL2 := Lib.hid (own_upd' HLB.out (upd_ownP hg5) fun b hb hS => (by simp only [Value.ownBlock, Option.some.injEq] at hb hS; omega)); have HAT5 := Lib.hid hat5; clear hown5 hg5 hat5)
                    | (refine step_app _ rfl (.tmp 124) (.tmp 129) 26 rfl wr.heap.size 5 i0 _ 1 1 Tryz.underlying26 hi0 hy0 hy1 hy2 rfl (by omega) (.slice (some ⟨wr.heap.size + 1, 0, none⟩) 0 0) 0 [] rfl HL2.out w.heap.size B2 n2 (c - (a + R.size + m)) (byts X2) rfl (HR2'.out.below (HU5.out.belowNix m5)) (HBC.out X2) m3 m4 HU5.out.size ?_; intro A6 c6 w6 hown6 hg6 hat6; simp only [Nat.zero_add, List.nil_append] at hown6; (try simp only [Nat.zero_add]); have HU6 := Lib.hid (HU5.out.grown hg6 fun b hb hl => (by simp only [Value.ownBlock, Option.some.injEq] at hb; omega)); have HO6 := Lib.hid hown6; have HR6 : Hid (Rd w6 w6.heap.size 1 A5 m (byts X1)) := Lib.hid (Rd.own (own_upd' HO5.out (upd_ownP hg6) fun b hb hS => (by have h9 := HAT5.out; have h8 := HSE.out; simp only [Value.ownBlock, Option.some.injEq] at hS; rcases h9 with h9 | h9 <;> (rw [hb] at h9; simp only [Value.ownBlock, Option.some.injEq] at h9; omega)))); clear hown6 hg6 hat6)
                    | (refine step_app _ rfl (.tmp 116) (.tmp 122) 26 rfl wr.heap.size 5 i0 _ 1 1 Tryz.underlying26 hi0 hy0 hy1 hy2 rfl (by omega) (.slice (some ⟨wr.heap.size + 1, 0, none⟩) 0 0) 0 [] rfl HLB.out w.heap.size B1 m (c - (a + R.size)) (byts X1) rfl (HR1'.out.below (((((Upd.refl Nix wr).alloc (.cells #[] 5)).alloc (.cells #[] 5)).drew).belowNix m5)) (HBC.out X1) m1 m2 hsB ?_; intro A5 c5 w5 hown5 hg5 hat5; simp only [Nat.zero_add, List.nil_append] at hown5 hat5; (try simp only [Nat.zero_add]); have HU5 := Lib.hid (((((Upd.refl Nix wr).alloc (.cells #[] 5)).alloc (.cells #[] 5)).drew).grown hg5 fun b hb hl => (by simp only [Value.ownBlock, Option.some.injEq] at hb; omega)); have HO5 := Lib.hid hown5; have HL2 := Lib.hid (own_upd' HLA.out (upd_ownP hg5) fun b hb hS => (by simp only [Value.ownBlock, Option.some.injEq] at hb hS; omega)); have HAT5 := Lib.hid hat5; clear hown5 hg5 hat5)
                    | (refine step_app _ rfl (.tmp 124) (.tmp 129) 26 rfl wr.heap.size 5 i0 _ 1 1 Tryz.underlying26 hi0 hy0 hy1 hy2 rfl (by omega) (.slice (some ⟨wr.heap.size, 0, none⟩) 0 0) 0 [] rfl HL2.out w.heap.size B2 n2 (c - (a + R.size + m)) (byts X2) rfl (HR2'.out.below (HU5.out.belowNix m5)) (HBC.out X2) m3 m4 HU5.out.size ?_; intro A6 c6 w6 hown6 hg6 hat6; simp only [Nat.zero_add, List.nil_append] at hown6; (try simp only [Nat.zero_add]); have HU6 := Lib.hid (HU5.out.grown hg6 fun b hb hl => (by simp only [Value.ownBlock, Option.some.injEq] at hb; omega)); have HO6 := Lib.hid hown6; have HR6 : Hid (Rd w6 w6.heap.size 1 A5 m (byts X1)) := Lib.hid (Rd.own (own_upd' HO5.out (upd_ownP hg6) fun b hb hS => (by have h9 := HAT5.out; have h8 := HSE.out; simp only [Value.ownBlock, Option.some.injEq] at hS; rcases h9 with h9 | h9 <;> (rw [hb] at h9; simp only [Value.ownBlock, Option.some.injEq] at h9; omega)))); clear hown6 hg6 hat6)
                    | (refine step_app _ rfl (.tmp 124) (.tmp 129) 26 rfl wr.heap.size 5 i0 _ 1 1 Tryz.underlying26 hi0 hy0 hy1 hy2 rfl (by omega) (.slice (some ⟨wr.heap.size, 0, none⟩) 0 0) 0 [] rfl (World.ownsRow_lit wr #[] 0 (Nat.le_refl _) (by decide) rfl) w.heap.size B2 n2 (c - (a + R.size + m)) (byts X2) rfl (HR2'.out.below ((((Upd.refl Nix wr).alloc (.cells #[] 5)).drew).belowNix m5)) (HBC.out X2) m3 m4 (Nat.le_of_lt (by show wr.heap.size < (wr.alloc (.cells #[] 5)).heap.size; simp)) ?_; intro A5 c5 w5 hown5 hg5 hat5; simp only [Nat.zero_add, List.nil_append] at hown5; (try simp only [Nat.zero_add]); have HU5 := Lib.hid ((((Upd.refl Nix wr).alloc (.cells #[] 5)).drew).grown hg5 fun b hb hl => (by simp only [Value.ownBlock, Option.some.injEq] at hb; omega)); have HO5 := Lib.hid hown5; clear hown5 hg5 hat5)
                    | (refine step_app _ rfl (.tmp 116) (.tmp 122) 26 rfl w5.heap.size 5 i0 _ 1 1 Tryz.underlying26 hi0 hy0 hy1 hy2 rfl (by omega) (.slice (some ⟨w5.heap.size, 0, none⟩) 0 0) 0 [] rfl (World.ownsRow_lit w5 #[] 0 (Nat.le_refl _) (by decide) rfl) w.heap.size B1 m (c - (a + R.size)) (byts X1) rfl (HR1'.out.below ((HU5.out.alloc (.cells #[] 5)).belowNix m5)) (HBC.out X1) m1 m2 (by simp) ?_; intro A6 c6 w6 hown6 hg6 hat6; simp only [Nat.zero_add, List.nil_append] at hown6; (try simp only [Nat.zero_add]); have HU6 := Lib.hid ((HU5.out.alloc (.cells #[] 5)).grown hg6 fun b hb hl => (by simp only [Value.ownBlock, Option.some.injEq] at hb; have := HU5.out.size; omega)); have HU56 := Lib.hid (((Upd.refl Nix w5).alloc (.cells #[] 5)).grown hg6 fun b hb hl => (by simp only [Value.ownBlock, Option.some.injEq] at hb; omega)); have HO6 := Lib.hid hown6; have HR6 : Hid (Rd w6 w6.heap.size 1 A5 n2 (byts X2)) := Lib.hid (((Rd.own HO5.out).below (HU56.out.belowNix (Nat.le_refl _))).more HU56.out.size); clear hown6 hg6 hat6)
                    | (refine step_app _ rfl (.tmp 124) (.tmp 129) 26 rfl wr.heap.size 5 i0 _ 1 1 Tryz.underlying26 hi0 hy0 hy1 hy2 rfl (by omega) (.slice (some ⟨wr.heap.size, 0, none⟩) 0 0) 0 [] rfl HLA.out w.heap.size B2 n2 (c - (a + R.size + m)) (byts X2) rfl (HR2'.out.below (((((Upd.refl Nix wr).alloc (.cells #[] 5)).alloc (.cells #[] 5)).drew).belowNix m5)) (HBC.out X2) m3 m4 hsB ?_; intro A5 c5 w5 hown5 hg5 hat5; simp only [Nat.zero_add, List.nil_append] at hown5 hat5; (try simp only [Nat.zero_add]); have HU5 := Lib.hid (((((Upd.refl Nix wr).alloc (.cells #[] 5)).alloc (.cells #[] 5)).drew).grown hg5 fun b hb hl => (by simp only [Value.ownBlock, Option.some.injEq] at hb; omega)); have HO5 := Lib.hid hown5; have HL2 := Lib.hid (own_upd' HLB.out (upd_ownP hg5) fun b hb hS => (by simp only [Value.ownBlock, Option.some.injEq] at hb hS; omega)); have HAT5 := Lib.hid hat5; clear hown5 hg5 hat5)
                    | (refine step_app _ rfl (.tmp 116) (.tmp 122) 26 rfl wr.heap.size 5 i0 _ 1 1 Tryz.underlying26 hi0 hy0 hy1 hy2 rfl (by omega) (.slice (some ⟨wr.heap.size + 1, 0, none⟩) 0 0) 0 [] rfl HL2.out w.heap.size B1 m (c - (a + R.size)) (byts X1) rfl (HR1'.out.below (HU5.out.belowNix m5)) (HBC.out X1) m1 m2 HU5.out.size ?_; intro A6 c6 w6 hown6 hg6 hat6; simp only [Nat.zero_add, List.nil_append] at hown6; (try simp only [Nat.zero_add]); have HU6 := Lib.hid (HU5.out.grown hg6 fun b hb hl => (by simp only [Value.ownBlock, Option.some.injEq] at hb; omega)); have HO6 := Lib.hid hown6; have HR6 : Hid (Rd w6 w6.heap.size 1 A5 n2 (byts X2)) := Lib.hid (Rd.own (own_upd' HO5.out (upd_ownP hg6) fun b hb hS => (by have h9 := HAT5.out; have h8 := HSE.out; simp only [Value.ownBlock, Option.some.injEq] at hS; rcases h9 with h9 | h9 <;> (rw [hb] at h9; simp only [Value.ownBlock, Option.some.injEq] at h9; omega)))); clear hown6 hg6 hat6)
                    | (refine step_app _ rfl (.tmp 124) (.tmp 129) 26 rfl wr.heap.size 5 i0 _ 1 1 Tryz.underlying26 hi0 hy0 hy1 hy2 rfl (by omega) (.slice (some ⟨wr.heap.size + 1, 0, none⟩) 0 0) 0 [] rfl HLB.out w.heap.size B2 n2 (c - (a + R.size + m)) (byts X2) rfl (HR2'.out.below (((((Upd.refl Nix wr).alloc (.cells #[] 5)).alloc (.cells #[] 5)).drew).belowNix m5)) (HBC.out X2) m3 m4 hsB ?_; intro A5 c5 w5 hown5 hg5 hat5; simp only [Nat.zero_add, List.nil_append] at hown5 hat5; (try simp only [Nat.zero_add]); have HU5 := Lib.hid (((((Upd.refl Nix wr).alloc (.cells #[] 5)).alloc (.cells #[] 5)).drew).grown hg5 fun b hb hl => (by simp only [Value.ownBlock, Option.some.injEq] at hb; omega)); have HO5 := Lib.hid hown5; have HL2 := Lib.hid (own_upd' HLA.out (upd_ownP hg5) fun b hb hS => (by simp only [Value.ownBlock, Option.some.injEq] at hb hS; omega)); have HAT5 := Lib.hid hat5; clear hown5 hg5 hat5)
                    | (refine step_app _ rfl (.tmp 116) (.tmp 122) 26 rfl wr.heap.size 5 i0 _ 1 1 Tryz.underlying26 hi0 hy0 hy1 hy2 rfl (by omega) (.slice (some ⟨wr.heap.size, 0, none⟩) 0 0) 0 [] rfl HL2.out w.heap.size B1 m (c - (a + R.size)) (byts X1) rfl (HR1'.out.below (HU5.out.belowNix m5)) (HBC.out X1) m1 m2 HU5.out.size ?_; intro A6 c6 w6 hown6 hg6 hat6; simp only [Nat.zero_add, List.nil_append] at hown6; (try simp only [Nat.zero_add]); have HU6 := Lib.hid (HU5.out.grown hg6 fun b hb hl => (by simp only [Value.ownBlock, Option.some.injEq] at hb; omega)); have HO6 := Lib.hid hown6; have HR6 : Hid (Rd w6 w6.heap.size 1 A5 n2 (byts X2)) := Lib.hid (Rd.own (own_upd' HO5.out (upd_ownP hg6) fun b hb hS => (by have h9 := HAT5.out; have h8 := HSE.out; simp only [Value.ownBlock, Option.some.injEq] at hS; rcases h9 with h9 | h9 <;> (rw [hb] at h9; simp only [Value.ownBlock, Option.some.injEq] at h9; omega)))); clear hown6 hg6 hat6)))
                  all_goals
                    go_wp2_with fail
                    refine bodyPost_ret (results_tmp4 rfl _ _ _) rfl ?_
                    rw [HPP.out]
                    first
                    | exact ⟨_, _, _, _, _, _, rfl, HR6.out, Rd.own HO6.out, HUR.out.trans HU6.out fun _ _ h => h⟩
                    | exact ⟨_, _, _, _, _, _, rfl, Rd.own HO6.out, HR6.out, HUR.out.trans HU6.out fun _ _ h => h⟩
              · by_cases hlen2 : R.size ≤ u.length
                · have hq : ((s.extract a (a + R.size)).toList == R.toList) = false := by
                    rw [str_eq, HEXT.out, HRB.out]
                    refine decide_eq_false fun h => hpre ?_
                    rw [← h]
                    exact List.take_prefix _ _
                  have e1 : (R.size : Int) ≤ (s.size : Int) - (a : Int) := by
                    have := HSN.out; have := HUN.out; omega
                  have e2 : (a : Int) + (R.size : Int) ≤ (s.size : Int) := by omega
                  have e4 : ¬ (s.size : Int) - (a : Int) < (R.size : Int) := by omega
                  have hnu : ¬ u <+: RL := fun h => by
                    have h1 := h.length_le
                    have h2 : u = RL := h.eq_of_length (by have := HRS.out; omega)
                    exact hpre (h2 ▸ List.prefix_refl _)
                  have HNX := Lib.hid (HR3.out hpre hnu)
                  clear hpre hnu
                  go_wp2_with fail
                  refine ⟨⟨k + 1, by omega, by rfl, rfl, HUR.out, HBR.out, HNX.out.1, HNX.out.2⟩, ?_⟩
                  simp only [intOf]; omega
                · have e1 : ¬ (R.size : Int) ≤ (s.size : Int) - (a : Int) := by
                    have := HSN.out; have := HUN.out; omega
                  have e4 : (s.size : Int) - (a : Int) < (R.size : Int) := by omega
                  obtain ⟨bb, hbb⟩ : ∃ bb, begB u RL = bb := ⟨_, rfl⟩
                  have HBB := Lib.hid hbb
                  have HPRE2 := Lib.hid hpre
                  have hbeg : Calls Tryz.prog 27 #[.string (s.extract a s.size), .string R] wr fun e w' => e = .returned (.bool bb) ∧ Upd Nix wr w' := by
                    have h1 := ref_begins (s.extract a s.size) R wr (by rw [← bytesOf_len, bytesOf_from, List.length_drop, HBS.out, HLEN.out]; omega) (by omega)
                    rw [bytesOf_from, HBS.out, HUL.out, HRB.out, hbb] at h1
                    exact h1
                  have HBEG := Lib.hid hbeg
                  clear hpre hbb hbeg
                  go_wp2_with fail
                  refine HBEG.out.mono ?_
                  rintro e w3 ⟨rfl, hu3⟩
                  have HU3 := Lib.hid (HUR.out.trans hu3 fun _ _ h => h)
                  have HB3 := Lib.hid (HBR.out.upd hu3 fun h => h)
                  clear hu3 hcell
                  cases bb with
                  | true =>
                    have h3 : u <+: RL := by
                      rcases of_decide_eq_true HBB.out with h | h
                      · exact h
                      · exact absurd h HPRE2.out
                    have HPP := Lib.hid (HR2.out HPRE2.out h3)
                    clear h3
                    go_wp2_with fail
                    refine bodyPost_ret (results_tmp4 rfl _ _ _) rfl ?_
                    rw [HPP.out]
                    exact parsed_err _ w w3 HU3.out
                  | false =>
                    have h3 : ¬ u <+: RL := fun h => (of_decide_eq_false HBB.out) (.inl h)
                    have HNX := Lib.hid (HR3.out HPRE2.out h3)
                    clear h3
                    go_wp2_with fail
                    refine ⟨⟨k + 1, by omega, by rfl, rfl, HU3.out, HB3.out, HNX.out.1, HNX.out.2⟩, ?_⟩
                    simp only [intOf]; omega
            · have hki : ¬ (k : Int) < 2 := by omega
              obtain ⟨e1, e2⟩ := hn1 (by omega)
              obtain ⟨e3, e4⟩ := hn2 (by omega)
              have hp : parseL l = (0, [], [], 130) := by rw [HE.out, endsR, if_neg e1, if_neg e2, if_neg e3, if_neg e4]
              have HPP := Lib.hid hp
              clear hur hbr hn1 hn2 e1 e2 e3 e4 hp
              go_wp2_with fail
              refine bodyPost_ret (results_tmp4 rfl _ _ _) rfl ?_
              rw [HPP.out]
              exact parsed_err _ w wr HUR.out
        · have HZ := Lib.hid (sized_odd hsz hi2)
          have HI := Lib.hid hi2
          clear hsz hz1 hi2
          go_wp2_with fail
          rw [HDG.out]
          refine (HNUM.out w1).mono ?_
          rintro e w2 ⟨rfl, rfl⟩
          go_wp2_with fail
          refine (ref_decimal m hz2 w1).mono ?_
          rintro e w2 ⟨x, rfl, hx, rfl⟩
          have hxd : (x.toList == Dg.toList) = false := by
            rw [str_eq, hx, HDL.out]
            exact decide_eq_false HI.out
          clear hx
          go_wp2_with fail
          refine bodyPost_ret (results_tmp4 rfl _ _ _) rfl ?_
          rw [HP.out, HZ.out]
          exact parsed_err _ w w1 HU1.out
end Go.Proofs.YtbjjimbnaicbfaaGreatDoor
