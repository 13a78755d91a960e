/- A body in chunks: the program's Encode. -/
import Derived.Test.YtbjjimbnaicbfaaGreatDoorEncode
import Derived.Test.YtbjjimbnaicbfaaGreatDoorShelf
namespace Go.Proofs.YtbjjimbnaicbfaaGreatDoor
open Go.RowKit Go.Cx Go.Maps

set_option maxRecDepth 100000 in
set_option maxHeartbeats 3200000 in
theorem chunk_encode_in (A : Option Addr) (n c s : Nat) (l : List Nat) (w : World) (hs : s + 1 ≤ 16777215) (hx : Rd w w.heap.size 1 A n (byts l)) (hnc : n ≤ c) (hn : n ≤ 16777216) :
    Calls Tryz.prog 42 #[.slice A n c, .int .i64 ((s + 1 : Nat) : Int)] w fun e w' => ∃ A' c', e = .returned (.tuple #[.slice A' (encL s l).length c', .int .i64 0]) ∧ Rd w' w'.heap.size 1 A' (encL s l).length (byts (encL s l)) ∧ Below w.heap.size w w' ∧ (encL s l).length ≤ c' := by
  have hlen := hx.1
  simp only [byts, List.length_map, Nat.mul_one] at hlen
  have hbc0 : ∀ (x : List Nat), ∀ u ∈ byts x, u.oneCell' = true := by
    intro x u hu
    simp only [byts, List.mem_map] at hu
    obtain ⟨b, _, rfl⟩ := hu
    rfl
  have HX := Lib.hid hx
  have HL := Lib.hid hlen
  clear hx hlen
  go_enter Tryz.func42, Tryz.ntmps42
  go_wp2
  have hbf := Lib.fresh_isBuffer 106 5 w
  have hbe0 := (Below.refl w.heap.size w).alloc (Nat.le_refl _) (.cells #[.slice none 0 0, .int .i64 0, .int .i8 0] 106)
  have hrd0 := HX.out.alloc (Nat.le_refl _) (.cells #[.slice none 0 0, .int .i64 0, .int .i8 0] 106)
  have HBF := Lib.hid hbf
  have HBE0 := Lib.hid hbe0
  have HRD0 := Lib.hid hrd0
  clear hbf hbe0 hrd0
  go_loopw [0] (fun v wr => ∃ (k : Nat) (Av : Option Addr) (cv : Nat) (pre : List Nat), k ≤ n ∧ v = .slice Av (n - k) cv ∧ n - k ≤ cv ∧ Rd wr w.heap.size 1 Av (n - k) (byts (l.drop k)) ∧
      Lib.IsBuffer 106 5 w.heap.size w.heap.size (byts pre) wr ∧ pre ++ encL s (l.drop k) = encL s l ∧ Below w.heap.size w wr) (fun v _ => lenV v)
  case atStart => exact ⟨0, A, c, [], Nat.zero_le _, rfl, hnc, HRD0.out, HBF.out, rfl, HBE0.out⟩
  case round =>
    obtain ⟨k, Av, cv, pre, hk, rfl, hcv, hrd, hown, hpre, hbel⟩ := hrel
    obtain ⟨q, hq⟩ : ∃ q, n - k = q := ⟨_, rfl⟩
    rw [hq] at hcv hrd ⊢
    have hdl : (l.drop k).length = q := by rw [List.length_drop, HL.out]; exact hq
    obtain ⟨r, hr⟩ : ∃ r, l.drop k = r := ⟨_, rfl⟩
    rw [hr] at hrd hpre hdl
    have hplen : pre.length + (encL s r).length = (encL s l).length := by rw [← hpre, List.length_append]
    have hle := encL_len s l
    rw [HL.out] at hle
    have HRD := Lib.hid hrd
    have HOWN := Lib.hid hown
    have HPRE := Lib.hid hpre
    have HBEL := Lib.hid hbel
    have HR := Lib.hid hr
    have HDL := Lib.hid hdl
    clear hrd hown hpre hbel hr hdl
    by_cases hq0 : q = 0
    · subst hq0
      have hr0 : r = [] := List.eq_nil_of_length_eq_zero HDL.out
      have HR0 := Lib.hid hr0
      clear hr0
      have hl5 : lastC.size = 5 := rfl
      have hb5 : byts pre ++ Lib.byteCells lastC.data.toList = byts (encL s l) := by
        rw [← HPRE.out, HR0.out, encL_nil]
        simp only [byts, List.map_append]
        congr 1
      have hlim : (byts pre).length + lastC.size ≤ 140737488355328 := by
        rw [hl5]
        simp only [byts, List.length_map]
        omega
      have hle' : (encL s l).length ≤ 140737488355328 := by omega
      have HB5 := Lib.hid hb5
      have HLE := Lib.hid hle'
      clear hb5 hl5 hle hplen hle'
      go_wp2_with (fail)
      refine (Tryz.Buffer_WriteString_k w.heap.size w.heap.size _ lastC wr HOWN.out HBEL.out.size (hbc0 _) hlim).mono ?_
      rintro e w1 ⟨rfl, hbuf1, hbe1, _⟩
      rw [HB5.out] at hbuf1
      have hbl1 := HBEL.out.trans hbe1
      have HB1 := Lib.hid hbuf1
      have HL1 := Lib.hid hbl1
      clear hbuf1 hbe1 hbl1
      go_wp2_with (fail)
      refine (Tryz.Buffer_Bytes w.heap.size w.heap.size _ w1 HB1.out).mono ?_
      rintro e w2 ⟨v2, rfl, hown2, nq, rfl⟩
      have hlb : (byts (encL s l)).length = (encL s l).length := by simp [byts]
      rw [hlb] at hown2
      obtain ⟨A2, c2, rfl⟩ := own_form hown2
      have HO2 := Lib.hid hown2
      clear hown2 hlb
      go_wp2_with (fail)
      refine (bytes_clone _ _ A2 _ c2 (encL s l) (Rd.own HO2.out) (Nat.le_refl _) HLE.out).mono ?_
      rintro e w3 ⟨A3, c3, rfl, hrd3, ⟨_, hcap3⟩, _, hu3⟩
      have hbl3 := HL1.out.trans (Upd.belowNix (Upd.ofDrewN hu3) HL1.out.size)
      have HR3 := Lib.hid hrd3
      have HL3 := Lib.hid hbl3
      clear hrd3 hu3 hbl3
      go_wp2_with (fail)
      refine bodyPost_ret (results_tmp2 rfl _ _ _) rfl ?_
      exact ⟨A3, c3, rfl, Rd.own HR3.out, HL3.out, hcap3⟩
    · have hr0 : r ≠ [] := fun h => by rw [h] at HDL; exact hq0 HDL.out.symm
      have hplm : pre.length + 7 * q ≤ 140737488355000 := by
        have h1 : pre.length ≤ (encL s l).length := by omega
        omega
      have HPL := Lib.hid hplen
      have HR0 := Lib.hid hr0
      clear hplen hle hr0
      obtain ⟨m, hm⟩ : ∃ m, min (s + 1) q = m := ⟨_, rfl⟩
      have hm1 : m ≤ q := by omega
      have hm0 : 1 ≤ m := by omega
      have hm3 : m < 16777216 := by omega
      have HM := Lib.hid hm
      go_upto_region 5 with fail
      go_cut [7] (fun s7 wx => wx = wr ∧ s7 = .int .i64 m)
      case first =>
        by_cases hsq : s + 1 ≤ q
        · have hms : m = s + 1 := by omega
          clear hm
          go_wp2
          go_meet
          exact ⟨rfl, by congr 1; omega⟩
        · have hms : m = q := by omega
          clear hm
          go_wp2
          go_meet
          exact ⟨rfl, by congr 1; omega⟩
      case rest =>
        obtain ⟨rfl, rfl⟩ := hcut
        clear hm
        have hhs := hexS_size m
        obtain ⟨z, hz⟩ : ∃ z, (hexS m ++ crlf).size = z := ⟨_, rfl⟩
        have hz' : z ≤ m + 3 := by
          rw [← hz, ByteArray.size_append]
          have : crlf.size = 2 := rfl
          omega
        obtain ⟨S, hS⟩ : ∃ S, S = hexS m ++ crlf := ⟨_, rfl⟩
        rw [← hS] at hz
        have hml : pre.length + S.size ≤ maxLen := by rw [hz]; unfold maxLen; omega
        have hmb : pre.length + S.size ≤ 140737488355328 := by rw [hz]; omega
        have HS := Lib.hid hS
        have hml2 : pre.length + S.size + m ≤ maxLen := by rw [hz]; unfold maxLen; omega
        have hmb2 : (pre.length + S.size + m) * 1 ≤ 140737488355328 := by rw [hz]; omega
        have hcs : crlf.size = 2 := rfl
        have hml3 : pre.length + S.size + m + crlf.size ≤ maxLen := by rw [hz, hcs]; unfold maxLen; omega
        have hmb3 : pre.length + S.size + m + crlf.size ≤ 140737488355328 := by rw [hz, hcs]; omega
        clear hz hS hcs
        have hlm1 : (byts pre).length + S.size ≤ 140737488355328 := by simp only [byts, List.length_map]; exact hmb
        have hlm2 : (byts (pre ++ bytesOf S)).length + m ≤ 140737488355328 := by simp only [byts, List.length_map, List.length_append, bytesOf_len]; omega
        have hlm3 : (byts (pre ++ bytesOf S ++ r.take m)).length + crlf.size ≤ 140737488355328 := by
          have : (r.take m).length ≤ m := by rw [List.length_take]; omega
          simp only [byts, List.length_map, List.length_append, bytesOf_len] at this ⊢
          omega
        obtain ⟨ad, rfl, hadB, _⟩ := HRD.out.2 (by omega)
        go_wp2_with (go_at_call 56; refine (chunk_hex m _ hm3).mono ?_; rintro e w' ⟨rfl, rfl⟩)
        rw [show hexS m ++ { data := #[13, 10] } = S from HS.out.symm]
        refine (Tryz.Buffer_WriteString_k w.heap.size w.heap.size _ S wc HOWN.out HBEL.out.size (hbc0 _) hlm1).mono ?_
        rintro e w1 ⟨rfl, hbuf1, hb01, _⟩
        rw [show byts pre ++ Lib.byteCells S.data.toList = byts (pre ++ bytesOf S) by simp only [byts, List.map_append, bytesOf, List.map_map]; rfl] at hbuf1
        have hrd1 := (HRD.out.below hb01).front hm1
        have hbel1 := HBEL.out.trans hb01
        have HB1 := Lib.hid hbuf1
        have HRD1 := Lib.hid hrd1
        have HL1 := Lib.hid hbel1
        have HB01 := Lib.hid hb01
        clear hbuf1 hrd1 hbel1 hb01
        go_wp2_with (fail)
        obtain ⟨ad', had', _, hcell1⟩ := HRD1.out.2 (by omega)
        injection had' with had'
        subst had'
        refine (Tryz.Buffer_Write_k w.heap.size w.heap.size _ ((byts r).take (m * 1)) ad m cv w1 HB1.out HL1.out.size (hbc0 _) (by rw [HRD1.out.1, Nat.mul_one]) hadB hcell1 (fun u hu => hbc0 _ u (List.mem_of_mem_take hu)) hlm2).mono ?_
        rintro e w2 ⟨rfl, hbuf2, hb12, _⟩
        rw [show byts (pre ++ bytesOf S) ++ (byts r).take (m * 1) = byts (pre ++ bytesOf S ++ r.take m) by simp [byts]] at hbuf2
        have hbel2 := HL1.out.trans hb12
        have HB2 := Lib.hid hbuf2
        have HL2 := Lib.hid hbel2
        have HB12 := Lib.hid hb12
        clear hbuf2 hbel2 hb12 hcell1
        go_wp2_with (fail)
        refine (Tryz.Buffer_WriteString_k w.heap.size w.heap.size _ crlf w2 HB2.out HL2.out.size (hbc0 _) hlm3).mono ?_
        rintro e w3 ⟨rfl, hbuf3, hb23, _⟩
        rw [show byts (pre ++ bytesOf S ++ r.take m) ++ Lib.byteCells crlf.data.toList = byts (pre ++ bytesOf S ++ r.take m ++ [13, 10]) by simp only [byts, List.map_append]; rfl] at hbuf3
        have hbel3 := HL2.out.trans hb23
        have HB3 := Lib.hid hbuf3
        have HL3 := Lib.hid hbel3
        have HB23 := Lib.hid hb23
        clear hbuf3 hbel3 hb23
        go_wp2_with (fail)
        have hsplit : encL s r = bytesOf S ++ r.take m ++ [13, 10] ++ encL s (r.drop m) := by
          rw [encL_cons s r HR0.out, HDL.out, HM.out, ← HS.out]
          have hlenr := HDL.out
          have hM := HM.out
          by_cases hsq : s + 1 ≤ q
          · have : m = s + 1 := by omega
            rw [this]
          · have : m = q := by omega
            rw [List.take_of_length_le (by omega), List.take_of_length_le (by omega), List.drop_eq_nil_of_le (by omega), List.drop_eq_nil_of_le (by omega)]
        have hqk : n - (k + m) = q - m := by omega
        have hdr : l.drop (k + m) = r.drop m := by rw [← HR.out, List.drop_drop]
        refine ⟨⟨k + m, if cv = m then some ad else some (ad.add m), cv - m, pre ++ bytesOf S ++ r.take m ++ [13, 10], by omega, by rw [hqk], by omega, ?_, HB3.out, ?_, HL3.out⟩, ?_⟩
        · rw [hqk, hdr]
          have h1 := (((HRD.out.cut hm1 hcv).below HB01.out).below HB12.out).below HB23.out
          simpa [byts] using h1
        · rw [hdr, ← HPRE.out, hsplit]
          simp only [List.append_assoc]
        · show q - m < q
          omega
end Go.Proofs.YtbjjimbnaicbfaaGreatDoor
