/- ciceroneref13: the body behind a head. -/
import Derived.Test.YtbiapeplkegjlaaGreatDoorR13E
import Derived.Test.YtbiapeplkegjlaaGreatDoorRefNum
import Derived.Test.YtbiapeplkegjlaaGreatDoorHttpBg
import Derived.Test.YtbiapeplkegjlaaGreatDoorChunkS
namespace Go.Proofs.YtbiapeplkegjlaaGreatDoor
open Go.RowKit Go.Cx Go.Maps

theorem headL_2000 {b : List Nat} {l : List (List Nat)} {n : Nat} (h : headL b = some (some (l, n))) : n ≤ 2000 := by
  unfold headL at h
  have h0 : headGo (b.take 2000) false [] [] 0 = some (some (l, n)) := by
    split at h
    · split at h <;> cases h
    · exact h
  have hle : ∀ (r : List Nat) (ret : Bool) (cur : List Nat) (l : List (List Nat)) (i : Nat) l' n, headGo r ret cur l i = some (some (l', n)) → n ≤ i + r.length := by
    intro r
    induction r with
    | nil => intro _ _ _ _ _ _ h; simp [headGo] at h
    | cons c r ih =>
      intro ret cur l i l' n h
      rw [headGo] at h
      split at h
      · cases h
      split at h
      · have := ih _ _ _ _ _ _ h; simp only [List.length_cons]; omega
      split at h
      · cases h
      split at h
      · simp only [Option.some.injEq, Prod.mk.injEq] at h; simp only [List.length_cons]; omega
      · have := ih _ _ _ _ _ _ h; simp only [List.length_cons]; omega
  have := hle _ _ _ _ _ _ _ h0
  have h2 := List.length_take_le 2000 b
  omega
theorem lines_ne {b : List Nat} {l : List (List Nat)} {n : Nat} (h : headL b = some (some (l, n))) : linesGo (b.take n) [] [] ≠ [] := by
  have hn := headL_2000 h
  unfold headL at h
  have h0 : headGo (b.take 2000) false [] [] 0 = some (some (l, n)) := by
    split at h
    · split at h <;> cases h
    · exact h
  obtain ⟨_, h1, _⟩ := lines_go (b.take 2000) false [] [] [] 0 l n (by simp) (by simp) h0
  rw [List.take_take, Nat.sub_zero, Nat.min_eq_left hn] at h1
  rw [h1]
  simp
/-- the first of a row of texts of one's own -/
theorem own_first {w : World} {base m c : Nat} {A : Option Addr} {ss : List ByteArray} (h : w.ownsRow base 9 1 (.slice A m c) m (ss.map Value.string)) (hm : 0 < m) : ∃ g s, A = some ⟨g, 0, none⟩ ∧ ss[0]? = some s ∧ g < w.heap.size ∧ base ≤ g ∧ (∃ cs, Blk w g 9 cs) ∧ ∀ W, Upd Nix w W → W.cell? ⟨g, 0, none⟩ = some (.string s) := by
  obtain ⟨g, cap, he, hb, hg⟩ := h.form hm
  injection he with hA
  have hl := h.1
  simp only [List.length_map, Nat.mul_one] at hl
  obtain ⟨s, hs⟩ : ∃ s, ss[0]? = some s := ⟨_, List.getElem?_eq_getElem (by omega)⟩
  subst hA
  refine ⟨g, s, rfl, hs, hg, hb, (own_in h rfl).2, fun W hW => ?_⟩
  have h2 := (own_upd' h hW fun _ _ h => h).cells (g := g) rfl 0 (.string s) (by rw [List.getElem?_map, hs]; rfl)
  have hadd : (⟨g, 0, none⟩ : Addr).add 0 = ⟨g, 0, none⟩ := rfl
  rwa [hadd] at h2
theorem one_of {ss : List ByteArray} {s : ByteArray} (h : ss.length = 1) (hs : ss[0]? = some s) : ss.map bytesOf = [bytesOf s] := by
  match ss, h, hs with
  | [a], _, h => simp at h; subst h; rfl
theorem own_len13 {w : World} {base m c : Nat} {A : Option Addr} {ss : List ByteArray} (h : w.ownsRow base 9 1 (.slice A m c) m (ss.map Value.string)) : ss.length = m := by
  have := h.1
  simpa using this
theorem longOf_none {x y : List (List Nat)} {k : Bool} (h : x.length + y.length ≠ 1) : longOf x y k = none := by
  match x, y, h with
  | [], [], _ => rfl
  | [_], [], h => simp at h
  | [], [_], h => simp at h
  | [_], _ :: _, _ => rfl
  | [], _ :: _ :: _, _ => rfl
  | _ :: _ :: _, _, _ => rfl
theorem sizeL_le {l : List Nat} {n : Nat} (h : sizeL l = some n) : n ≤ 65535 := by
  unfold sizeL at h
  split at h
  · injection h with h; omega
  · cases h
/-- the document's reader's block is written -/
def RBegin (rb : Nat) (bv : Value) (L : List (List Nat)) (w : World) (e : Ending) (w' : World) : Prop :=
  Upd (One rb) w w' ∧ ((beginL L = none ∧ e = .returned (.bool false) ∧ ∃ a b c d f, Blk w' rb 29 #[bv, .bool false, a, b, c, d, f]) ∨
    ∃ d p, beginL L = some d ∧ e = .returned (.bool true) ∧ Blk w' rb 29 #[bv, .bool false, .bool true, .bool d.keep, .int .i64 d.left, .slice none 0 0, .pointer (p.map fun r => ⟨r, 0, none⟩)] ∧ d.got = [] ∧ d.left ≤ 65535 ∧ (d.c = none → p = none) ∧
      ∀ s, d.c = some s → ∃ r, p = some r ∧ RR w' r (.slice none 0 0) s ∧ CInv s ∧ w.heap.size ≤ r)
theorem fieldsL_nm (fl : Option (List (List Nat × List Nat))) (w : World) (nm : List Nat) (e : Ending) (w' : World) (h : ValsIs fl nm w e w') (hn : fl = none) : e = .returned (.tuple #[.slice none 0 0, .bool false]) ∧ Upd Nix w w' := by
  obtain ⟨hu, ⟨_, he⟩ | ⟨fs, _, _, _, _, hf, _⟩⟩ := h
  · exact ⟨he, hu⟩
  · rw [hn] at hf; cases hf
theorem fieldsL_sm (fl : Option (List (List Nat × List Nat))) (w : World) (nm : List Nat) (e : Ending) (w' : World) (fs : List (List Nat × List Nat)) (h : ValsIs fl nm w e w') (hn : fl = some fs) : Upd Nix w w' ∧ ∃ (A : Option Addr) (m c : Nat) (ss : List ByteArray), e = .returned (.tuple #[.slice A m c, .bool true]) ∧ w'.ownsRow w.heap.size 9 1 (.slice A m c) m (ss.map Value.string) ∧ ss.map bytesOf = valuesOf fs nm := by
  obtain ⟨hu, ⟨hno, _⟩ | ⟨fs', A, m, c, ss, hf, he, ho, hv⟩⟩ := h
  · rw [hn] at hno; cases hno
  · rw [hn] at hf
    injection hf with hf
    subst hf
    exact ⟨hu, A, m, c, ss, he, ho, hv⟩
set_option maxRecDepth 100000 in
set_option maxHeartbeats 12800000 in
theorem ref_begin13 (rb : Nat) (bv u2 u3 u4 u5 u6 : Value) (A : Option Addr) (n c B : Nat) (b : List Nat) (L : List (List Nat)) (w : World) (hb : Blk w rb 29 #[bv, .bool false, u2, u3, u4, u5, u6]) (hx : Rd w B 1 A n (byts (b.take n))) (hB : B ≤ w.heap.size) (hbb : ∀ c ∈ b, c < 256) (hh : headL b = some (some (L, n))) :
    Calls Tryz.prog 16 #[.pointer (some ⟨rb, 0, none⟩), .slice A n c] w (RBegin rb bv L w) := by
  have hn := headL_2000 hh
  have hsm := headL_small hh
  have hle := lines_eq b L n hh
  have hlines := ref_lines13 A n c (b.take n) B w hx hB (fun c hc => hbb c (List.mem_of_mem_take hc)) (by omega) (lines_ne hh)
  rw [hle] at hlines
  have HLI := Lib.hid hlines
  have HB := Lib.hid hb
  have HSM := Lib.hid hsm
  clear hb hx hbb hh hsm hle hlines
  go_enter Tryz.func16, Tryz.ntmps16
  go_wp2_with fail
  refine HLI.out.mono ?_
  rintro e w1 ⟨A1, m1, c1, ss, rfl, hr1, hmc, hlen, hss, hu1⟩
  have hlL : L.length = m1 := by rw [← hss, List.length_map, hlen]
  have hm1 : m1 ≤ 2000 := by rw [← hlL]; exact HSM.out.1
  have hsz : ∀ s ∈ ss, s.size ≤ 2000 := fun s hs => by
    rw [← bytesOf_len]
    exact HSM.out.2 _ (by rw [← hss]; exact List.mem_map_of_mem hs)
  have hb1 := HB.out.upd hu1 (by simp [Nix])
  have HB1 := Lib.hid hb1
  have HU1 := Lib.hid hu1
  have HR1 := Lib.hid hr1
  have HSS := Lib.hid hss
  have HLEN := Lib.hid hlen
  have HSZ := Lib.hid hsz
  clear hb1 hu1 hr1 hss hlen hsz hlL HB HLI
  by_cases h0 : m1 = 0
  · have e0 : ((m1 : Int) == 0) = true := by simp [h0]
    have hbg : beginL L = none := by
      have : ss = [] := List.eq_nil_of_length_eq_zero (by rw [HLEN.out]; exact h0)
      rw [← HSS.out, this]
      rfl
    have HBG := Lib.hid hbg
    clear h0 hbg
    go_wp2_with fail
    go_ret
    exact ⟨HU1.out.mono fun _ _ h => h.elim, .inl ⟨HBG.out, rfl, _, _, _, _, _, HB1.out⟩⟩
  have e0 : ((m1 : Int) == 0) = false := by simp; omega
  obtain ⟨s0, hs0⟩ : ∃ s, ss[0]? = some s := ⟨_, List.getElem?_eq_getElem (by rw [HLEN.out]; omega)⟩
  obtain ⟨ad, rfl, hadB, hcl⟩ := HR1.out.2 (by omega)
  have hcell : w1.cell? ad = some (.string s0) := by
    have := hcl 0 (.string s0) (by rw [List.getElem?_map, hs0]; rfl)
    simpa [Addr.add] using this
  have hL : L = bytesOf s0 :: (ss.drop 1).map bytesOf := by
    rw [← HSS.out]
    match ss, hs0 with
    | a :: r, h => simp at h; subst h; rfl
  have HL := Lib.hid hL
  have hq := str_lit s0 [80, 79, 83, 84, 32, 47, 100, 110, 115, 45, 113, 117, 101, 114, 121, 32, 72, 84, 84, 80, 47, 49, 46, 49] firstL rfl
  have hm0 : 0 < m1 := by omega
  clear hs0 hcl hL h0
  by_cases hf : bytesOf s0 = firstL
  case neg =>
    rw [decide_eq_false hf] at hq
    have hbg : beginL L = none := by rw [HL.out, beginL, if_pos hf]
    have HBG := Lib.hid hbg
    clear hf hbg
    go_wp2_with fail
    go_ret
    exact ⟨HU1.out.mono fun _ _ h => h.elim, .inl ⟨HBG.out, rfl, _, _, _, _, _, HB1.out⟩⟩
  rw [decide_eq_true hf] at hq
  have hbeg : beginL L = match fieldsL ((ss.drop 1).map bytesOf) with
    | none => none
    | some fs => if valuesOf fs ctypeL ≠ [kindL] then none else match keepOf (valuesOf fs connL) with
      | none => none
      | some keep => longOf (valuesOf fs clenL) (valuesOf fs codedL) keep := by
    rw [HL.out, beginL, if_neg (fun h => h hf)]
    rfl
  have HBEG := Lib.hid hbeg
  clear hbeg hf
  go_upto_region 4 with fail
  go_cut [5] (fun s5 wx => ∃ A2 c2, s5 = .slice A2 (m1 - 1) c2 ∧ w1 = wx ∧ Rd w1 w1.heap.size 1 A2 (m1 - 1) ((ss.drop 1).map Value.string))
  case first =>
    have hcut := HR1.out.cut (k := 1) (by omega) hmc
    rw [Nat.mul_one, ← List.map_drop] at hcut
    have HCUT := Lib.hid hcut
    clear hcell hq hcut
    by_cases hc1 : c1 = 1
    · go_wp2_with fail
      go_meet
      have h := HCUT.out
      rw [if_pos hc1] at h
      exact ⟨_, _, rfl, rfl, h⟩
    · go_wp2_with fail
      go_meet
      have h := HCUT.out
      rw [if_neg hc1] at h
      exact ⟨_, _, rfl, rfl, h⟩
  case rest =>
  obtain ⟨A2, c2, rfl, rfl, hr2⟩ := hcut
  have hvals := fun (nm : ByteArray) (W : World) (hW : Upd Nix w1 W) => ref_values13 A2 (m1 - 1) c2 (ss.drop 1) nm w1.heap.size W (hr2.below (hW.belowNix (Nat.le_refl _))) hW.size (by omega) (fun s hs => Nat.le_trans (HSZ.out s (List.mem_of_mem_drop hs)) (by omega))
  have HV := Lib.hid hvals
  clear hvals hr2 hcell hq
  cases hfl : fieldsL ((ss.drop 1).map bytesOf) with
  | none =>
    have HFL := Lib.hid hfl
    have hbg : beginL L = none := by rw [HBEG.out, hfl]
    have HBG := Lib.hid hbg
    clear hfl hbg
    go_wp2_with fail
    refine (HV.out _ _ (Upd.refl _ _)).mono ?_
    intro e w2 h2
    obtain ⟨rfl, hu2⟩ := fieldsL_nm _ _ _ _ _ h2 HFL.out
    have HU2 := Lib.hid hu2
    clear h2 hu2
    go_wp2_with fail
    refine (HV.out _ _ HU2.out).mono ?_
    intro e w3 h3
    obtain ⟨rfl, hu3⟩ := fieldsL_nm _ _ _ _ _ h3 HFL.out
    have HU3 := Lib.hid (HU2.out.trans hu3 fun _ _ h => h)
    clear h3 hu3
    go_wp2_with fail
    refine (HV.out _ _ HU3.out).mono ?_
    intro e w4 h4
    obtain ⟨rfl, hu4⟩ := fieldsL_nm _ _ _ _ _ h4 HFL.out
    have HU4 := Lib.hid (HU3.out.trans hu4 fun _ _ h => h)
    clear h4 hu4
    go_wp2_with fail
    refine (HV.out _ _ HU4.out).mono ?_
    intro e w5 h5
    obtain ⟨rfl, hu5⟩ := fieldsL_nm _ _ _ _ _ h5 HFL.out
    have HU5 := Lib.hid (HU4.out.trans hu5 fun _ _ h => h)
    clear h5 hu5
    go_wp2_with fail
    go_ret
    exact ⟨(HU1.out.trans HU5.out fun _ _ h => h).mono fun _ _ h => h.elim, .inl ⟨HBG.out, rfl, _, _, _, _, _, HB1.out.upd HU5.out (by simp [Nix])⟩⟩
  | some fs =>
    have HFL := Lib.hid hfl
    have hbeg := HBEG.out
    rw [hfl] at hbeg
    simp only at hbeg
    have HBEG2 := Lib.hid hbeg
    have hfs : fs.length ≤ 2000 := by
      have h1 := fieldsL_len _ _ hfl
      rw [List.length_map, List.length_drop, HLEN.out] at h1
      omega
    clear hfl hbeg HBEG
    go_wp2_with fail
    refine (HV.out _ _ (Upd.refl _ _)).mono ?_
    intro e w2 h2
    obtain ⟨hu2, K1, n1, k1, ss1, rfl, ho1, hv1⟩ := fieldsL_sm _ _ _ _ _ fs h2 HFL.out
    have HU2 := Lib.hid hu2
    have HO1 := Lib.hid ho1
    have HV1 := Lib.hid (show ss1.map bytesOf = valuesOf fs ctypeL from hv1)
    clear h2 hu2 ho1 hv1
    go_wp2_with fail
    refine (HV.out _ _ HU2.out).mono ?_
    intro e w3 h3
    obtain ⟨hu3, K2, n2, k2, ss2, rfl, ho2, hv2⟩ := fieldsL_sm _ _ _ _ _ fs h3 HFL.out
    have HU3 := Lib.hid (HU2.out.trans hu3 fun _ _ h => h)
    have HO1 := Lib.hid (own_upd' HO1.out hu3 fun _ _ h => h)
    have HO2 := Lib.hid ho2
    have HV2 := Lib.hid (show ss2.map bytesOf = valuesOf fs clenL from hv2)
    clear h3 hu3 ho2 hv2
    go_wp2_with fail
    refine (HV.out _ _ HU3.out).mono ?_
    intro e w4 h4
    obtain ⟨hu4, K3, n3, k3, ss3, rfl, ho3, hv3⟩ := fieldsL_sm _ _ _ _ _ fs h4 HFL.out
    have HU4 := Lib.hid (HU3.out.trans hu4 fun _ _ h => h)
    have HO1 := Lib.hid (own_upd' HO1.out hu4 fun _ _ h => h)
    have HO2 := Lib.hid (own_upd' HO2.out hu4 fun _ _ h => h)
    have HO3 := Lib.hid ho3
    have HV3 := Lib.hid (show ss3.map bytesOf = valuesOf fs codedL from hv3)
    clear h4 hu4 ho3 hv3
    go_wp2_with fail
    refine (HV.out _ _ HU4.out).mono ?_
    intro e w5 h5
    obtain ⟨hu5, K4, n4, k4, ss4, rfl, ho4, hv4⟩ := fieldsL_sm _ _ _ _ _ fs h5 HFL.out
    have HU5 := Lib.hid ((HU1.out.trans (HU4.out.trans hu5 fun _ _ h => h) fun _ _ h => h).mono (S' := One rb) fun _ _ h => h.elim)
    have HB5 := Lib.hid (HB1.out.upd (HU4.out.trans hu5 fun _ _ h => h) (by simp [Nix]))
    have HO1 := Lib.hid (own_upd' HO1.out hu5 fun _ _ h => h)
    have HO2 := Lib.hid (own_upd' HO2.out hu5 fun _ _ h => h)
    have HO3 := Lib.hid (own_upd' HO3.out hu5 fun _ _ h => h)
    have HO4 := Lib.hid ho4
    have HV4 := Lib.hid (show ss4.map bytesOf = valuesOf fs connL from hv4)
    have hn1 : n1 ≤ 2000 := by have h1 := strs_map HV1.out (own_len13 HO1.out); have h2 := valuesOf_len fs ctypeL; omega
    have hn2 : n2 ≤ 2000 := by have h1 := strs_map HV2.out (own_len13 HO2.out); have h2 := valuesOf_len fs clenL; omega
    have hn3 : n3 ≤ 2000 := by have h1 := strs_map HV3.out (own_len13 HO3.out); have h2 := valuesOf_len fs codedL; omega
    have hn4 : n4 ≤ 2000 := by have h1 := strs_map HV4.out (own_len13 HO4.out); have h2 := valuesOf_len fs connL; omega
    have hdone : ∀ (h : beginL L = none), RBegin rb bv L w (.returned (.bool false)) w5 := fun h => ⟨HU5.out, .inl ⟨h, rfl, _, _, _, _, _, HB5.out⟩⟩
    have HDONE := Lib.hid hdone
    clear h5 hu5 ho4 hv4 HV HB1 HU1 HR1 HSS HSZ HLEN HU2 HU3 HU4 HFL HL hdone
    -- the type
    by_cases h1 : n1 = 1
    case neg =>
      have e1 : ((n1 : Int) != 1) = true := by simp; omega
      have hbg : beginL L = none := by
        rw [HBEG2.out, if_pos]
        intro h
        have h3 := strs_map HV1.out (own_len13 HO1.out)
        rw [h] at h3
        exact h1 h3.symm
      have HBG := Lib.hid hbg
      clear h1 hbg
      go_wp2_with fail
      go_ret
      exact HDONE.out HBG.out
    obtain rfl := h1
    obtain ⟨g1, s1, rfl, hs1, hg1, hgb1, hgt1, hcell1⟩ := own_first HO1.out (by omega)
    have hv1 := one_of (own_len13 HO1.out) hs1
    rw [HV1.out] at hv1
    have hc1 := hcell1 _ (Upd.refl _ _)
    have hq1 := str_lit s1 [97, 112, 112, 108, 105, 99, 97, 116, 105, 111, 110, 47, 100, 110, 115, 45, 109, 101, 115, 115, 97, 103, 101] kindL rfl
    clear hs1 hcell1 hgt1
    by_cases hk : bytesOf s1 = kindL
    case neg =>
      rw [decide_eq_false hk] at hq1
      have hbg : beginL L = none := by
        rw [HBEG2.out, if_pos]
        rw [hv1]
        intro h
        injection h with h
        exact hk h
      have HBG := Lib.hid hbg
      clear hk hbg hv1
      go_wp2_with fail
      go_ret
      exact HDONE.out HBG.out
    rw [decide_eq_true hk] at hq1
    have hbeg := HBEG2.out
    rw [if_neg (by rw [hv1, hk]; simp)] at hbeg
    have HBEG3 := Lib.hid hbeg
    clear hk hbeg hv1 HBEG2
    by_cases hsum : n2 + n3 = 1
    case neg =>
      have es : ((n2 : Int) + (n3 : Int) != 1) = true := by simp; omega
      have hbg : beginL L = none := by
        rw [HBEG3.out]
        cases keepOf (valuesOf fs connL) with
        | none => rfl
        | some k =>
          simp only
          have a2 := strs_map HV2.out (own_len13 HO2.out)
          have a3 := strs_map HV3.out (own_len13 HO3.out)
          exact longOf_none (by rw [a2, a3]; exact hsum)
      have HBG := Lib.hid hbg
      clear hsum hbg
      go_wp2_with fail
      go_ret
      exact HDONE.out HBG.out
    have es : ((n2 : Int) + (n3 : Int) != 1) = false := by simp; omega
    by_cases h4 : 1 < n4
    · have e4 : (1 : Int) < (n4 : Int) := by omega
      have hbg : beginL L = none := by
        rw [HBEG3.out]
        have a4 := strs_map HV4.out (own_len13 HO4.out)
        match hx : valuesOf fs connL with
        | [] => rw [hx] at a4; simp at a4; omega
        | [_] => rw [hx] at a4; simp at a4; omega
        | _ :: _ :: _ => rfl
      have HBG := Lib.hid hbg
      clear h4 hbg
      go_wp2_with fail
      go_ret
      exact HDONE.out HBG.out
    have e4 : ¬ (1 : Int) < (n4 : Int) := by omega
    have hb5 := HB5.out
    have hc5 : ∀ i, w5.cell? ⟨rb, i, none⟩ = _ := fun i => hb5.cell i
    have hf5 : ∀ i, w5.frozen? ⟨rb, i, none⟩ = _ := fun i => hb5.free i
    have hrl := hb5.lt
    clear hb5
    go_upto_region 11 with fail
    clear es hq1 h4
    go_cut [87] (fun s87 wx => w5 = wx ∧ (keepOf (valuesOf fs connL) = none ∧ s87 = .bool true ∨ ∃ keep, s87 = .bool false ∧ keepOf (valuesOf fs connL) = some keep ∧ (n4 = 0 ∧ keep = true ∨ n4 = 1 ∧ ∃ g s, K4 = some ⟨g, 0, none⟩ ∧ w5.cell? ⟨g, 0, none⟩ = some (.string s) ∧ decide (bytesOf s = shutL) = !keep)))
    case first =>
      clear hc1 hc5 hf5
      by_cases h0 : n4 = 0
      · have e0 : ((n4 : Int) == 1) = false := by simp [h0]
        have hke : keepOf (valuesOf fs connL) = some true := by
          have h1 := strs_map HV4.out (own_len13 HO4.out)
          rw [List.eq_nil_of_length_eq_zero (h1.trans h0)]
          rfl
        have HKE := Lib.hid hke
        have H0 := Lib.hid h0
        clear hke h0
        go_wp2_with fail
        go_meet
        exact ⟨rfl, .inr ⟨true, rfl, HKE.out, .inl ⟨H0.out, rfl⟩⟩⟩
      · obtain rfl : n4 = 1 := by omega
        obtain ⟨g4, s4, rfl, hs4, hg4, hgb4, hgt4, hcell4⟩ := own_first HO4.out (by omega)
        have hv4 := one_of (own_len13 HO4.out) hs4
        rw [HV4.out] at hv4
        have hc4 := hcell4 _ (Upd.refl _ _)
        have hqa := str_lit s4 [107, 101, 101, 112, 45, 97, 108, 105, 118, 101] keepL rfl
        have hqb := str_lit s4 [99, 108, 111, 115, 101] shutL rfl
        have HV4' := Lib.hid hv4
        have HC4 := Lib.hid hc4
        clear hs4 hcell4 hgt4 hv4 h0
        by_cases hsh : bytesOf s4 = shutL
        · rw [decide_eq_true hsh] at hqb
          have HKE := Lib.hid (show keepOf (valuesOf fs connL) = some false by rw [HV4'.out, keepOf, if_neg (by rw [hsh]; decide), if_pos hsh])
          have HSH := Lib.hid hsh
          clear hsh hqa
          go_wp2_with fail
          go_meet
          exact ⟨rfl, .inr ⟨false, rfl, HKE.out, .inr ⟨trivial, g4, s4, rfl, HC4.out, by rw [decide_eq_true HSH.out]; rfl⟩⟩⟩
        · rw [decide_eq_false hsh] at hqb
          by_cases hka : bytesOf s4 = keepL
          · rw [decide_eq_true hka] at hqa
            have HKE := Lib.hid (show keepOf (valuesOf fs connL) = some true by rw [HV4'.out, keepOf, if_pos hka])
            have HSH := Lib.hid hsh
            clear hsh hka
            go_wp2_with fail
            go_meet
            exact ⟨rfl, .inr ⟨true, rfl, HKE.out, .inr ⟨trivial, g4, s4, rfl, HC4.out, by rw [decide_eq_false HSH.out]; rfl⟩⟩⟩
          · rw [decide_eq_false hka] at hqa
            have HKE := Lib.hid (show keepOf (valuesOf fs connL) = none by rw [HV4'.out, keepOf, if_neg hka, if_neg hsh])
            clear hsh hka
            go_wp2_with fail
            go_meet
            exact ⟨rfl, .inl ⟨HKE.out, rfl⟩⟩
    case rest =>
    obtain ⟨rfl, ⟨hke, rfl⟩ | ⟨keep, rfl, hke, hk4⟩⟩ := hcut
    · have HBG := Lib.hid (show beginL L = none by rw [HBEG3.out, hke])
      clear hke
      go_wp2_with fail
      go_ret
      exact HDONE.out HBG.out
    have hbeg := HBEG3.out
    rw [hke] at hbeg
    simp only at hbeg
    have HBEG4 := Lib.hid hbeg
    clear hbeg hke HBEG3 hc1
    go_upto_region 13 with fail
    go_cut [8] (fun s8 wx => s8 = .slice K2 n2 k2 ∧ wx = w5.setCell ⟨rb, 3, none⟩ (.bool keep))
    case first =>
      rcases hk4 with ⟨rfl, rfl⟩ | ⟨rfl, g4, s4, rfl, hc4, hd4⟩
      · go_wp2_with fail
        go_meet
        exact ⟨rfl, rfl⟩
      · have hqb := str_lit s4 [99, 108, 111, 115, 101] shutL rfl
        rw [hd4] at hqb
        have HD := Lib.hid hd4
        clear hd4
        cases keep
        · go_wp2_with fail
          go_meet
          exact ⟨rfl, rfl⟩
        · go_wp2_with fail
          go_meet
          exact ⟨rfl, rfl⟩
    case rest =>
    obtain ⟨rfl, rfl⟩ := hcut
    clear hk4
    go_upto_region 15 with fail
    have hb6 := (((((HB5.out.set 3 (.bool keep)).set 2 (.bool true)).set 5 (.slice none 0 0)).set 6 (.pointer none)).set 4 (.int .i64 0))
    have hu6 : Upd (One rb) w5 (((((w5.setCell ⟨rb, 3, none⟩ (.bool keep)).setCell ⟨rb, 2, none⟩ (.bool true)).setCell ⟨rb, 5, none⟩ (.slice none 0 0)).setCell ⟨rb, 6, none⟩ (.pointer none)).setCell ⟨rb, 4, none⟩ (.int .i64 0)) :=
      (((((Upd.refl (One rb) _).set rfl _).set rfl _).set rfl _).set rfl _).set rfl _
    have hb6 : Blk (((((w5.setCell ⟨rb, 3, none⟩ (.bool keep)).setCell ⟨rb, 2, none⟩ (.bool true)).setCell ⟨rb, 5, none⟩ (.slice none 0 0)).setCell ⟨rb, 6, none⟩ (.pointer none)).setCell ⟨rb, 4, none⟩ (.int .i64 0)) rb 29 #[bv, .bool false, .bool true, .bool keep, .int .i64 0, .slice none 0 0, .pointer none] := hb6
    generalize (((((w5.setCell ⟨rb, 3, none⟩ (.bool keep)).setCell ⟨rb, 2, none⟩ (.bool true)).setCell ⟨rb, 5, none⟩ (.slice none 0 0)).setCell ⟨rb, 6, none⟩ (.pointer none)).setCell ⟨rb, 4, none⟩ (.int .i64 0)) = w6 at *
    have hc6 : ∀ i, w6.cell? ⟨rb, i, none⟩ = _ := fun i => hb6.cell i
    have hf6 : ∀ i, w6.frozen? ⟨rb, i, none⟩ = _ := fun i => hb6.free i
    have hrl6 := hb6.lt
    have HB6 := Lib.hid hb6
    have HU6 := Lib.hid hu6
    have hws := HU5.out.size
    have HB6' := HB5
    clear hb6 hu6 hc5 hf5 hrl HB5 HDONE
    by_cases h3 : n3 = 1
    · obtain rfl : n3 = 1 := h3
      obtain rfl : n2 = 0 := by omega
      obtain ⟨g3, s3, rfl, hs3, hg3, hgb3, hgt3, hcell3⟩ := own_first HO3.out (by omega)
      have hv3 := one_of (own_len13 HO3.out) hs3
      rw [HV3.out] at hv3
      have hv2 : valuesOf fs clenL = [] := List.eq_nil_of_length_eq_zero (strs_map HV2.out (own_len13 HO2.out))
      have hne : g3 ≠ rb := by
        obtain ⟨cs, hcs⟩ := hgt3
        exact Blk.ne hcs HB6'.out (by decide)
      have hc3 : ∀ W, Upd Nix w6 W → W.cell? ⟨g3, 0, none⟩ = some (.string s3) := fun W hW => (hW.cell (p := ⟨g3, 0, none⟩) (Nat.lt_of_lt_of_le hg3 HU6.out.size) (fun h => h)).trans ((HU6.out.cell (p := ⟨g3, 0, none⟩) hg3 hne).trans (hcell3 _ (Upd.refl _ _)))
      have hlong : longOf (valuesOf fs clenL) (valuesOf fs codedL) keep = if bytesOf s3 = chunkedL then some ⟨keep, 0, [], some (new0 65535)⟩ else none := by rw [hv2, hv3]; rfl
      have HLO := Lib.hid hlong
      have HC3 := Lib.hid hc3
      have hq := str_lit s3 [99, 104, 117, 110, 107, 101, 100] chunkedL rfl
      have hg3' : g3 < w6.heap.size := Nat.lt_of_lt_of_le hg3 HU6.out.size
      clear hs3 hcell3 hgt3 hv3 hv2 hlong hc3 HB6'
      go_wp2_with fail
      refine (cr_new 65535 w6).mono ?_
      rintro e w7 ⟨rfl, hrr, hu7, hs7⟩
      have hb7 := HB6.out.upd hu7 (by simp)
      have hc7 : ∀ i, w7.cell? ⟨rb, i, none⟩ = _ := fun i => hb7.cell i
      have hf7 : ∀ i, w7.frozen? ⟨rb, i, none⟩ = _ := fun i => hb7.free i
      have hl7 := hb7.lt
      have hu7' : Upd Nix w6 w7 := hu7
      have hcx := HC3.out w7 hu7'
      have HB7 := Lib.hid hb7
      have HRR := Lib.hid hrr
      have HU7 := Lib.hid hu7'
      clear hb7 hrr hu7 hu7' hc6 hf6
      go_wp2_with fail
      go_ret
      have hset : Upd (One rb) w7 (w7.setCell ⟨rb, 6, none⟩ (.pointer (some ⟨w6.heap.size, 0, none⟩))) := (Upd.refl (One rb) _).set rfl _
      have hu : Upd (One rb) w (w7.setCell ⟨rb, 6, none⟩ (.pointer (some ⟨w6.heap.size, 0, none⟩))) := ((HU5.out.trans HU6.out fun _ _ h => h).trans HU7.out fun _ _ h => h.elim).trans hset fun _ _ h => h
      have hb := HB7.out.set 6 (.pointer (some ⟨w6.heap.size, 0, none⟩))
      show RBegin rb bv L w (.returned (.bool (decide (bytesOf s3 = chunkedL)))) _
      by_cases hch : bytesOf s3 = chunkedL
      · rw [decide_eq_true hch]
        refine ⟨hu, .inr ⟨⟨keep, 0, [], some (new0 65535)⟩, some w6.heap.size, by rw [HBEG4.out, HLO.out, if_pos hch], rfl, hb, rfl, Nat.zero_le _, fun h => (by cases h), fun s h => ?_⟩⟩
        injection h with h
        subst h
        have hsz := HU6.out.size
        refine ⟨w6.heap.size, rfl, HRR.out.upd hset ?_, new0_inv _, by omega⟩
        rintro b (rfl | hb) h
        · have h : w6.heap.size = rb := h
          omega
        · cases hb
      · rw [decide_eq_false hch]
        exact ⟨hu, .inl ⟨by rw [HBEG4.out, HLO.out, if_neg hch], rfl, _, _, _, _, _, hb⟩⟩
    · obtain rfl : n3 = 0 := by omega
      obtain rfl : n2 = 1 := by omega
      obtain ⟨g2, s2, rfl, hs2, hg2, hgb2, hgt2, hcell2⟩ := own_first HO2.out (by omega)
      have hv2 := one_of (own_len13 HO2.out) hs2
      rw [HV2.out] at hv2
      have hv3 : valuesOf fs codedL = [] := List.eq_nil_of_length_eq_zero (strs_map HV3.out (own_len13 HO3.out))
      have hne : g2 ≠ rb := by
        obtain ⟨cs, hcs⟩ := hgt2
        exact Blk.ne hcs HB6'.out (by decide)
      have hc2 : w6.cell? ⟨g2, 0, none⟩ = some (.string s2) := (HU6.out.cell (p := ⟨g2, 0, none⟩) hg2 hne).trans (hcell2 _ (Upd.refl _ _))
      have hlong : longOf (valuesOf fs clenL) (valuesOf fs codedL) keep = (sizeL (bytesOf s2)).map fun n => ⟨keep, n, [], none⟩ := by rw [hv2, hv3]; rfl
      have HLO := Lib.hid hlong
      have hg2' : g2 < w6.heap.size := Nat.lt_of_lt_of_le hg2 HU6.out.size
      clear hs2 hcell2 hgt2 hv3 hv2 hlong HB6' h3
      go_wp2_with fail
      refine (ref_number0 s2 w6).mono ?_
      rintro e w7 ⟨rfl, rfl⟩
      obtain ⟨z, hz⟩ : ∃ z, numZ (bytesOf s2) = z := ⟨_, rfl⟩
      rw [hz]
      have HZ := Lib.hid hz
      clear hz
      go_wp2_with fail
      go_ret
      have hset : Upd (One rb) w6 (w6.setCell ⟨rb, 4, none⟩ (.int .i64 z)) := (Upd.refl (One rb) _).set rfl _
      have hu : Upd (One rb) w (w6.setCell ⟨rb, 4, none⟩ (.int .i64 z)) := (HU5.out.trans HU6.out fun _ _ h => h).trans hset fun _ _ h => h
      have hb := HB6.out.set 4 (.int .i64 z)
      have hzz := HZ.out
      unfold numZ at hzz
      cases hsz : sizeL (bytesOf s2) with
      | none =>
        rw [hsz] at hzz
        simp only at hzz
        subst hzz
        exact ⟨hu, .inl ⟨by rw [HBEG4.out, HLO.out, hsz]; rfl, rfl, _, _, _, _, _, hb⟩⟩
      | some m =>
        rw [hsz] at hzz
        simp only at hzz
        subst hzz
        refine ⟨hu, .inr ⟨⟨keep, m, [], none⟩, none, by rw [HBEG4.out, HLO.out, hsz]; rfl, ?_, hb, rfl, sizeL_le hsz, fun _ => rfl, fun s h => (by cases h)⟩⟩
        exact congrArg (fun b => Ending.returned (.bool b)) (decide_eq_true (by omega))
end Go.Proofs.YtbiapeplkegjlaaGreatDoor
