/- ChunkBack: the walk. -/
import Derived.Test.YtphnehfablaakaaDoorChunkN
import Derived.Test.YtphnehfablaakaaDoorChunkLaw
import Derived.Test.YtphnehfablaakaaDoorEncodeC
import Derived.Test.YtphnehfablaakaaDoorOpenB
namespace Go.Proofs.YtphnehfablaakaaDoor
open Go.RowKit Go.Cx Go.Maps

theorem runB_e : ∀ (l : List Nat) (s s' : CS), runB s l = some s' → s'.e = s.e
  | [], s, s', h => by injection h with h; rw [h]
  | c :: l, s, s', h => by
    by_cases h7 : s.st = 7
    · rw [runB, if_pos h7] at h; cases h
    · have he := cbyte_e s c
      rcases hc : cbyte s c with ⟨e, s1⟩
      rw [hc] at he
      rw [runB, if_neg h7, hc] at h
      cases e with
      | zero => rw [runB_e l s1 s' h]; exact he
      | succ e => cases h
theorem runB_inv : ∀ (l : List Nat) (s s' : CS), CInv s → (∀ b ∈ l, b < 256) → runB s l = some s' → CInv s'
  | [], s, s', hi, _, h => by injection h with h; exact h ▸ hi
  | c :: l, s, s', hi, hb, h => by
    by_cases h7 : s.st = 7
    · rw [runB, if_pos h7] at h; cases h
    · have hi2 := cbyte_inv hi (hb c (by simp))
      rcases hc : cbyte s c with ⟨e, s1⟩
      rw [hc] at hi2
      rw [runB, if_neg h7, hc] at h
      cases e with
      | zero => exact runB_inv l s1 s' hi2 (fun b hb' => hb b (by simp [hb'])) h
      | succ e => cases h
theorem runB_not7 {l : List Nat} {s s' : CS} (hl : l ≠ []) (h : runB s l = some s') : s.st ≠ 7 := by
  cases l with
  | nil => exact absurd rfl hl
  | cons c l =>
    intro h7
    rw [runB, if_pos h7] at h
    cases h
/-- a run that is cut -/
theorem runB_cut {l : List Nat} {s s' : CS} (k : Nat) (h : runB s l = some s') : ∃ s1, runB s (l.take k) = some s1 ∧ runB s1 (l.drop k) = some s' := by
  rw [← List.take_append_drop k l, runB_append] at h
  cases h1 : runB s (l.take k) with
  | none => rw [h1] at h; cases h
  | some s1 => rw [h1] at h; exact ⟨s1, rfl, h⟩

theorem from_moved {w : World} {r : Nat} {v v' : Value} {B : Nat} (h : ∀ b, Foot r v b → B ≤ b) (m : Moved w v v') (hB : B ≤ w.heap.size) : ∀ b, Foot r v' b → B ≤ b := by
  intro b hb
  rcases hb with hb | hb
  · exact h b (.inl hb)
  · rcases m with m | ⟨g, m, hg⟩
    · exact h b (.inr (m ▸ hb))
    · rw [m] at hb
      injection hb with hb
      omega
/-- k bytes of E are taken, and not all -/
structure BackAt (w : World) (B : Nat) (E : List Nat) (L k : Nat) (Ab : Option Addr) (cb : Nat) (vk : Value) (sk : CS) (wr : World) : Prop where
  lt : k < L
  cap : L - k ≤ cb
  rd : Rd wr B 1 Ab (L - k) (byts (E.drop k))
  cr : CR wr B vk sk
  inv : CInv sk
  run : runB (new0 2000) (E.take k) = some sk
  own : ∀ b, Foot B vk b → B ≤ b
  low : w.heap.size ≤ B
  below : Below w.heap.size w wr
theorem BackAt.e {w wr : World} {B L k cb : Nat} {E : List Nat} {Ab : Option Addr} {vk : Value} {sk : CS} (h : BackAt w B E L k Ab cb vk sk wr) : sk.e = 0 := runB_e _ _ _ h.run
theorem BackAt.rest {w wr : World} {B L k cb : Nat} {E : List Nat} {Ab : Option Addr} {vk : Value} {sk sf : CS} (h : BackAt w B E L k Ab cb vk sk wr) (hf : runB (new0 2000) E = some sf) : runB sk (E.drop k) = some sf := by
  obtain ⟨s1, h1, h2⟩ := runB_cut k hf
  rw [h.run] at h1
  injection h1 with h1
  exact h1 ▸ h2

set_option maxRecDepth 100000 in
set_option maxHeartbeats 3200000 in
theorem chunkBack (r0 r1 : Row) (size : Int) (A : Option Addr) (nc cc : Nat) (cuts : List Int) (w : World) (h0 : RowIn w w.heap.size r0) (_hu0 : r0.n ≤ 1048576) (h1 : RowIn w w.heap.size r1) (hu1 : r1.n ≤ 1048576) (_hz : (Lit.int .i64 size).wf = true)
    (hcu : Rd w w.heap.size 1 A nc (cuts.map (.int .i64))) (_hncc : nc ≤ cc) (hwc : ∀ x ∈ cuts, (Lit.int .i64 x).wf = true) (_hcc : cc * Tryd.prog.bytesOf 3 ≤ reachBytes) (hu3 : nc ≤ 1048576) :
    Calls Tryd.prog 4 #[r0.val, r1.val, .int .i64 size, .slice A nc cc] w fun e w' => e = .returned (.bool true) ∧ Below w.heap.size w w' := by
  obtain ⟨A0, n0, c0, l0⟩ := r0
  obtain ⟨A1, n1, c1, l1⟩ := r1
  obtain ⟨hnc0, _, hx0, hb0⟩ := h0
  obtain ⟨hnc1, _, hx1, hb1⟩ := h1
  unfold Row.val
  simp only at *
  have HX0 := Lib.hid hx0
  have HB0 := Lib.hid hb0
  have HX1 := Lib.hid hx1
  have HB1 := Lib.hid hb1
  have HCU := Lib.hid hcu
  have HWC := Lib.hid hwc
  clear hx0 hb0 hx1 hb1 hcu hwc
  go_enter Tryd.func4, Tryd.ntmps4
  go_upto_region 1 with fail
  go_cut [0] (fun s0 wx => w = wx ∧ ∃ (n : Nat) (l : List Nat), s0 = .slice A0 n c0 ∧ n ≤ 2000 ∧ n ≤ c0 ∧ Rd w w.heap.size 1 A0 n (byts l) ∧ ∀ b ∈ l, b < 256)
  case first =>
    by_cases hl : n0 ≤ 2000
    · have hmin : min (n0 : Int) 2000 = (n0 : Int) := by omega
      go_wp2
      go_meet
      exact ⟨rfl, n0, l0, rfl, hl, hnc0, HX0.out, HB0.out⟩
    · have hmin : min (n0 : Int) 2000 = 2000 := by omega
      go_wp2
      go_meet
      refine ⟨rfl, 2000, l0.take 2000, rfl, Nat.le_refl _, by omega, ?_, fun b hb => HB0.out b (List.mem_of_mem_take hb)⟩
      have := HX0.out.front (k := 2000) (by omega)
      simpa [byts] using this
  case rest =>
  obtain ⟨rfl, n, l, rfl, hn, hnc, hx, hb⟩ := hcut
  have HX := Lib.hid hx
  have HB := Lib.hid hb
  clear hx hb
  go_upto_region 2 with fail
  go_cut [2] (fun s2 wx => w = wx ∧ ∃ s : Nat, s2 = .int .i64 ((s + 1 : Nat) : Int) ∧ s < 300)
  case first =>
    go_wp2
    go_meet
    refine ⟨rfl, (size % 18446744073709551616 % 300).toNat, ?_, by omega⟩
    rw [IntKind.wrap_u64, Int.tmod_eq_emod_of_nonneg (by omega)]
    congr 1
    unfold wrap64
    omega
  case rest =>
  obtain ⟨rfl, s, rfl, hs⟩ := hcut
  go_wp2_with fail
  refine (chunk_encode_in A0 n c0 s l w (by omega) HX.out hnc (by omega)).mono ?_
  rintro e w1 ⟨AE, cE, rfl, hrE, hbE, hcE⟩
  have hlenl : l.length = n := by
    have := HX.out.1
    simpa [byts] using this
  have hEl := encL_len s l
  obtain ⟨E, hE⟩ : ∃ E, encL s l = E := ⟨_, rfl⟩
  rw [hE] at hrE hEl hcE
  rw [hE]
  obtain ⟨L, hL⟩ : ∃ L, E.length = L := ⟨_, rfl⟩
  rw [hL] at hrE hEl hcE
  rw [hL]
  obtain ⟨dE, hrunE⟩ := run_enc 2000 s (by omega) n l [] hlenl (by simp; omega)
  rw [hE, List.nil_append] at hrunE
  have hEb := encL_lt s l HB.out
  rw [hE] at hEb
  have hLb : L ≤ 14005 := by omega
  have HRE := Lib.hid hrE
  have HBE := Lib.hid hbE
  have HRUN := Lib.hid hrunE
  have HEB := Lib.hid hEb
  have HE := Lib.hid hE
  have HLL := Lib.hid hL
  clear hrE hbE hrunE hEb hE hL hEl
  go_wp2_with fail
  refine (chunk_new 2000 w1).mono ?_
  rintro e w2 ⟨rfl, hc2, hu2, hs2⟩
  have HC2 := Lib.hid hc2
  have HU2 := Lib.hid hu2
  have HS2 := Lib.hid hs2
  clear hc2 hu2 hs2
  have hat0 : BackAt w w1.heap.size E L 0 AE cE (.slice none 0 0) (new0 2000) w2 := by
    have hpos : 0 < L := by
      rcases Nat.eq_zero_or_pos L with h | h
      · have hE0 : E = [] := List.eq_nil_of_length_eq_zero (by rw [HLL.out]; exact h)
        have := HRUN.out
        rw [hE0] at this
        have h2 := congrArg (Option.map CS.st) this
        simp [runB] at h2
      · exact h
    have hb12 := Upd.belowNix HU2.out (Nat.le_refl _)
    refine ⟨hpos, ?_, ?_, HC2.out, new0_inv _, rfl, ?_, HBE.out.size, HBE.out.trans (hb12.mono HBE.out.size)⟩
    · exact hcE
    · exact HRE.out.below hb12
    · rintro b (h | h)
      · omega
      · cases h
  have HAT0 := Lib.hid hat0
  clear hat0
  go_upto_block 0 with fail
  go_cut [9] (fun s9 wx => ∃ (k : Nat) (Ab : Option Addr) (cb : Nat) (vk : Value) (sk : CS), s9 = .slice Ab (L - k) cb ∧ BackAt w w1.heap.size E L k Ab cb vk sk wx)
  case first =>
    go_wp2_with fail
    go_loopw [9, 44] (fun s9 i wr => ∃ (j k : Nat) (Ab : Option Addr) (cb : Nat) (vk : Value) (sk : CS), j ≤ nc ∧ i = .int .i64 j ∧ s9 = .slice Ab (L - k) cb ∧ BackAt w w1.heap.size E L k Ab cb vk sk wr) (fun _ i _ => nc - (intOf i).toNat)
    case atStart => exact ⟨0, 0, AE, cE, _, _, Nat.zero_le _, rfl, rfl, HAT0.out⟩
    case round =>
      obtain ⟨j, k, Ab, cb, vk, sk, hj, rfl, rfl, hat⟩ := hrel
      have HAT := Lib.hid hat
      clear hat
      by_cases hjn : j < nc
      · obtain ⟨adc, rfl, hcB, hccell⟩ := HCU.out.2 (by omega)
        have hjl : j < cuts.length := by
          have := HCU.out.1
          simp at this
          omega
        have hcx := hccell j (.int .i64 cuts[j]) (by rw [List.getElem?_map, List.getElem?_eq_getElem hjl]; rfl)
        have hcr := (HAT.out.below.cell (p := adc.add j) (by rw [block_add]; exact hcB)).trans hcx
        obtain ⟨x, hx⟩ : ∃ x, x = cuts[j] := ⟨_, rfl⟩
        rw [← hx] at hcr
        clear hcx hccell hx
        have hkL := HAT.out.lt
        have hcap := HAT.out.cap
        obtain ⟨q, hq⟩ : ∃ q, L - k = q := ⟨_, rfl⟩
        have HQ := Lib.hid hq
        rw [hq] at hcap ⊢
        have hq0 : 0 < q := by omega
        clear hq
        go_upto_region 10 with fail
        go_cut [14] (fun s14 wx => wr = wx ∧ ∃ m : Nat, s14 = .int .i64 m ∧ m ≤ q ∧ m < 60)
        case first =>
          go_wp2
          go_meet
          refine ⟨rfl, min (x % 18446744073709551616 % 60).toNat q, ?_, by omega, by omega⟩
          rw [IntKind.wrap_u64, Int.tmod_eq_emod_of_nonneg (by omega)]
          unfold wrap64
          congr 1
          omega
        case rest =>
          obtain ⟨rfl, m, rfl, hmq, _⟩ := hcut
          by_cases hme : m = q
          · subst hme
            go_wp2_with fail
            go_meet
            exact ⟨k, Ab, cb, vk, sk, by rw [HQ.out], HAT.out⟩
          · have hmlt : m < q := by omega
            obtain ⟨s1, hs1, hs2⟩ := runB_cut m (HAT.out.rest HRUN.out)
            have hdne : (E.drop k).drop m ≠ [] := by
              intro h
              have := congrArg List.length h
              rw [List.length_drop, List.length_drop, HLL.out] at this
              have := HQ.out
              simp at *
              omega
            have h7 := runB_not7 hdne hs2
            have hfeed : feed sk ((E.drop k).take m) = ((m, false, 0), s1) := by
              unfold feed
              rw [if_neg (by rw [HAT.out.e]; simp)]
              have := feedGo_run _ [] sk s1 0 hs1
              rw [List.append_nil] at this
              rw [this, feed_nil _ _ h7, List.length_take, List.length_drop, HLL.out, HQ.out]
              congr 2
              omega
            have hbt : ∀ b ∈ (E.drop k).take m, b < 256 := fun b hb => HEB.out b (List.mem_of_mem_drop (List.mem_of_mem_take hb))
            have hrdm : Rd wr wr.heap.size 1 Ab m (byts ((E.drop k).take m)) := by
              have h1 := HAT.out.rd
              rw [HQ.out] at h1
              have h2 := (h1.front hmq).more (B' := wr.heap.size) (by have := HAT.out.cr.1.lt; omega)
              simpa [byts] using h2
            have hrun2 : runB (new0 2000) (E.take (k + m)) = some s1 := by
              rw [List.take_add]
              exact runB_then HAT.out.run hs1
            have hi2 := runB_inv _ _ _ HAT.out.inv hbt hs1
            have HRD := Lib.hid hrdm
            have HFE := Lib.hid hfeed
            have HRU := Lib.hid hrun2
            have HI2 := Lib.hid hi2
            have HBT := Lib.hid hbt
            clear hrdm hfeed hrun2 hi2 hbt hdne h7 hs1 hs2
            go_wp2_with fail
            refine (chunk_feed w1.heap.size vk sk Ab m cb _ wr HAT.out.cr HAT.out.inv HRD.out HBT.out (fun ad ha hp hf => ?_) (by omega)).mono ?_
            · have h1 := HAT.out.rd
              rw [HQ.out] at h1
              obtain ⟨ad', ha', hlt', _⟩ := h1.2 hq0
              rw [ha] at ha'
              injection ha' with ha'
              subst ha'
              have := HAT.out.own _ hf
              omega
            rw [HFE.out]
            rintro e w3 ⟨rfl, ⟨v3, hc3, hm3⟩, hu3⟩
            simp only
            have hat3 : BackAt w w1.heap.size E L (k + m) (Ab.map (·.add m)) (cb - m) v3 s1 w3 := by
              have hbl : Below w1.heap.size wr w3 := hu3.below (Nat.le_of_lt HAT.out.cr.1.lt) fun b _ hb => HAT.out.own b hb
              have h1 := HAT.out.rd
              rw [HQ.out] at h1
              have hqm : L - (k + m) = q - m := by have := HQ.out; omega
              refine ⟨by have := HQ.out; omega, by omega, ?_, hc3, HI2.out, HRU.out, from_moved HAT.out.own hm3 (Nat.le_of_lt HAT.out.cr.1.lt), HAT.out.low, HAT.out.below.trans (hbl.mono HAT.out.low)⟩
              have h2 := (h1.cut hmq hcap).below hbl
              rw [if_neg (by omega)] at h2
              rw [hqm, ← List.drop_drop]
              simpa [byts] using h2
            have HAT3 := Lib.hid hat3
            clear hat3 hc3 hm3 hu3
            go_wp2_with fail
            refine ⟨⟨j + 1, k + m, _, _, v3, s1, by omega, by rfl, by rw [show L - (k + m) = q - m by have := HQ.out; omega], HAT3.out⟩, ?_⟩
            simp [intOf]
            omega
      · go_wp2_with fail
        go_meet
        exact ⟨k, Ab, cb, vk, sk, rfl, HAT.out⟩
  case rest =>
  obtain ⟨k, Ab, cb, vk, sk, rfl, hat⟩ := hcut
  have hkL := hat.lt
  have hcapb := hat.cap
  obtain ⟨q, hq⟩ : ∃ q, L - k = q := ⟨_, rfl⟩
  have HQ := Lib.hid hq
  rw [hq] at hcapb ⊢
  have hq0 : 0 < q := by omega
  have hqL : q ≤ 14005 := by omega
  have HAT := Lib.hid hat
  clear hat hq
  have hrb : Rd wc wc.heap.size 1 Ab q (byts (E.drop k)) := by
    have h1 := HAT.out.rd
    rw [HQ.out] at h1
    exact h1.more (by have := HAT.out.cr.1.lt; omega)
  have HRB := Lib.hid hrb
  clear hrb
  go_wp2_with fail
  refine (bytes_clone wc _ Ab q cb _ HRB.out (Nat.le_refl _) (by omega)).mono ?_
  rintro e w4 ⟨A4, c4, rfl, hr4, ⟨_, hc4⟩, hfresh4, hu4⟩
  have hx14 : Rd w4 w.heap.size 1 A1 n1 (byts l1) := HX1.out.below (HAT.out.below.trans ((Upd.belowNix hu4 (Nat.le_refl _)).mono (Nat.le_trans HAT.out.low (Nat.le_of_lt HAT.out.cr.1.lt))))
  have hws : w.heap.size ≤ wc.heap.size := Nat.le_trans HAT.out.low (Nat.le_of_lt HAT.out.cr.1.lt)
  obtain ⟨i0, hi0, hz0, hz1, hz2⟩ := info_parts infoU8
  have hbc : ∀ u ∈ byts l1, u.oneCell' = true := by
    intro u hu
    simp only [byts, List.mem_map] at hu
    obtain ⟨b, _, rfl⟩ := hu
    rfl
  have hm1 : q + n1 ≤ maxLen := by unfold maxLen; omega
  have hm2 : (q + n1) * 1 ≤ 140737488355328 := by omega
  have hs4 := hu4.size
  go_wp2_with (at_builtin; refine wpList_app _ rfl (.tmp 85) (.tmp 86) 22 rfl wc.heap.size 5 i0 _ 1 1 Tryd.underlying22 hi0 hz0 hz1 hz2 rfl (by omega) (.slice A4 q c4) q (byts (E.drop k)) rfl hr4 w.heap.size A1 n1 c1 (byts l1) rfl hx14 hbc hm1 hm2 hs4 ?_; intro A5 c5 w5 hown5 hgr5 hat5)
  have hb45 : Below wc.heap.size wc w5 := (Upd.belowNix hu4 (Nat.le_refl _)).grown hgr5 hs4 (fun b hb => (hr4.lt b hb).1)
  have hltk := HAT.out.cr.lt
  have hcr5 : CR w5 w1.heap.size vk sk := HAT.out.cr.upd (Upd.of_below hb45) fun b hb h => by
    have := hltk b hb
    unfold From at h
    omega
  have hrunk := HAT.out.rest HRUN.out
  have hfeed : feed sk (E.drop k ++ l1) = ((q, true, 0), ⟨2000, dE, 7, 0, l, 0⟩) := by
    unfold feed
    rw [if_neg (by rw [HAT.out.e]; simp), feedGo_run _ l1 sk _ 0 hrunk, feed_whole _ _ _ rfl, List.length_drop, HLL.out, HQ.out, Nat.zero_add]
  have hb5 : ∀ b ∈ E.drop k ++ l1, b < 256 := fun b hb => by
    rcases List.mem_append.1 hb with h | h
    · exact HEB.out b (List.mem_of_mem_drop h)
    · exact HB1.out b h
  have hrd5 : Rd w5 w5.heap.size 1 A5 (q + n1) (byts (E.drop k ++ l1)) := by
    have := Rd.own hown5
    simpa [byts] using this
  have hfr5 : ∀ ad, A5 = some ad → wc.heap.size ≤ ad.block := fun ad h => (hown5.lt ad.block (by rw [h]; rfl)).1
  have HFE := Lib.hid hfeed
  have HOR := Lib.hid (⟨hs4, hb45⟩ : wc.heap.size ≤ w4.heap.size ∧ Below wc.heap.size wc w5)
  refine (chunk_feed w1.heap.size vk sk A5 (q + n1) c5 _ w5 hcr5 HAT.out.inv hrd5 hb5 (fun ad ha _ hf => ?_) (by omega)).mono ?_
  · have := hfr5 ad ha
    have := hltk _ hf
    omega
  rw [HFE.out]
  rintro e w6 ⟨rfl, ⟨v6, hc6, hm6⟩, hu6⟩
  simp only
  have hbl6 : Below w1.heap.size wc w6 := (hb45.mono (Nat.le_of_lt HAT.out.cr.1.lt)).trans (hu6.below (Nat.le_of_lt hcr5.1.lt) fun b _ hb => HAT.out.own b hb)
  have hown6 := from_moved HAT.out.own hm6 (Nat.le_of_lt hcr5.1.lt)
  have hinv6 : CInv ⟨2000, dE, 7, 0, l, 0⟩ := runB_inv _ _ _ HAT.out.inv (fun b hb => HEB.out b (List.mem_of_mem_drop hb)) hrunk
  have HBL6 := Lib.hid hbl6
  have HC6 := Lib.hid hc6
  have HOW6 := Lib.hid hown6
  have HI6 := Lib.hid hinv6
  clear hx14 hws hbc hm1 hm2 hs4 hown5 hgr5 hat5 hb45 hltk hcr5 hrunk hfeed hb5 hrd5 hfr5 hc6 hm6 hu6 hbl6 hown6 hinv6 hr4 hc4 hfresh4 hu4
  go_wp2_with fail
  have hx16 : Rd w6 w6.heap.size 1 A1 n1 (byts l1) := (HX1.out.below (HAT.out.below.trans (HBL6.out.mono HAT.out.low))).more (Nat.le_trans HAT.out.below.size HBL6.out.size)
  have hf7 : feed ⟨2000, dE, 7, 0, l, 0⟩ l1 = ((0, true, 0), ⟨2000, dE, 7, 0, l, 0⟩) := by
    unfold feed
    rw [if_neg (by simp), feed_whole _ _ _ rfl]
  have HF7 := Lib.hid hf7
  refine (chunk_feed w1.heap.size v6 _ A1 n1 c1 l1 w6 HC6.out HI6.out hx16 HB1.out (fun ad ha hp hf => ?_) (by omega)).mono ?_
  · obtain ⟨ad', ha', hlt', _⟩ := HX1.out.2 hp
    rw [ha] at ha'
    injection ha' with ha'
    subst ha'
    have := HOW6.out _ hf
    have := HAT.out.low
    omega
  rw [HF7.out]
  rintro e w7 ⟨rfl, ⟨v7, hc7, hm7⟩, hu7⟩
  simp only
  have hbl7 : Below w1.heap.size wc w7 := HBL6.out.trans (hu7.below (Nat.le_of_lt HC6.out.1.lt) fun b _ hb => HOW6.out b hb)
  have HBL7 := Lib.hid hbl7
  have HC7 := Lib.hid hc7
  clear hx16 hf7 hc7 hm7 hu7 hbl7
  go_wp2_with fail
  refine (chunk_body w1.heap.size v7 _ w7 HC7.out HI6.out).mono ?_
  rintro e w8 ⟨A8, _, c8, rfl, rfl, hr8, hu8⟩
  have hb8 := Upd.belowNix hu8 (Nat.le_refl _)
  have hbl8 : Below w.heap.size w w8 := HAT.out.below.trans ((HBL7.out.trans (hb8.mono (Nat.le_of_lt HC7.out.1.lt))).mono HAT.out.low)
  have HR8 := Lib.hid hr8
  have HBL8 := Lib.hid hbl8
  clear hr8 hu8 hb8 hbl8
  go_wp2_with fail
  have hr8' : Rd w8 w8.heap.size 1 A8 n (byts l) := by rw [← hlenl]; exact HR8.out
  refine (bytes_equal w8 _ _ A8 A0 n n c8 c0 l l hr8' (HX.out.below HBL8.out) HI6.out.bytes HB.out).mono ?_
  rw [decide_eq_true rfl]
  rintro e w9 ⟨rfl, rfl⟩
  go_wp2
  go_ret
  exact ⟨rfl, HBL8.out⟩
end Go.Proofs.YtphnehfablaakaaDoor
