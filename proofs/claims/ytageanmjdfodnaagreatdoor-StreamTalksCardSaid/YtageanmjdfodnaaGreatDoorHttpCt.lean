/- A line's name and value: strings.Cut at a colon, strings.Trim of blanks, what may not stand in a name. -/
import Derived.Test.YtageanmjdfodnaaGreatDoorHttpSm
import Derived.Test.YtageanmjdfodnaaGreatDoorHttpZ
import Derived.Shelf.Strings.SlTrimAscii
namespace Go.Proofs.YtageanmjdfodnaaGreatDoor
open Go.RowKit Go.Cx Go.Maps Go.Shelf

theorem index_cut : ∀ l : List UInt8, (Lib.indexByte l 58 = -1 ∧ cutF (l.map UInt8.toNat) = none) ∨ ∃ i : Nat, Lib.indexByte l 58 = (i : Int) ∧ i < l.length ∧ cutF (l.map UInt8.toNat) = some ((l.map UInt8.toNat).take i, (l.map UInt8.toNat).drop (i + 1))
  | [] => .inl ⟨rfl, rfl⟩
  | b :: l => by
    rw [Lib.indexByte, List.map_cons, cutF]
    by_cases h : b = 58
    · subst h
      right
      exact ⟨0, by simp, by simp, by simp⟩
    · have h2 : ¬ b.toNat = 58 := fun e => h (UInt8.toNat_inj.1 e)
      rw [if_neg (by simpa using h), if_neg h2]
      rcases index_cut l with ⟨h3, h4⟩ | ⟨i, h3, h4, h5⟩
      · left
        rw [h3, h4]
        exact ⟨rfl, rfl⟩
      · right
        rw [h3, h5]
        refine ⟨i + 1, ?_, by simpa using h4, by simp⟩
        rw [if_neg (by simp)]
        simp
set_option maxRecDepth 100000 in
set_option maxHeartbeats 800000 in
theorem slite_index (s : ByteArray) (w : World) : Calls Tryz.prog 104 #[.string s, .string ⟨#[58]⟩] w fun e w' => e = .returned (.int .i64 (Lib.indexByte s.data.toList 58)) ∧ w = w' := by
  have hcall := Tryz.stringslite_IndexByte s 58 w
  rw [show ((58 : Int).toNat.toUInt8) = (58 : UInt8) by decide] at hcall
  have HC := Lib.hid hcall
  clear hcall
  cases hq : ([58] == s.toList) with
  | true =>
    have h0 : Lib.indexByte s.data.toList 58 = 0 := by
      have h1 : [58] = s.toList := by simpa using hq
      rw [Lib.toList_data] at h1
      rw [← h1]
      rfl
    have H0 := Lib.hid h0
    clear h0
    go_enter Tryz.func104, Tryz.ntmps104
    go_wp2_with fail
    go_ret
    exact ⟨by rw [H0.out]; rfl, rfl⟩
  | false =>
    go_enter Tryz.func104, Tryz.ntmps104
    go_wp2_with (go_at_call 110; refine HC.out.mono ?_; rintro e w' ⟨rfl, rfl⟩)
    go_ret
    exact ⟨rfl, rfl⟩
/-- what a line comes to -/
def CutIs (l : List Nat) (w : World) (e : Ending) (w' : World) : Prop :=
  Upd Nix w w' ∧ ((cutF l = none ∧ ∃ a b : ByteArray, e = .returned (.tuple #[.string a, .string b, .bool false]) ∧ a.size ≤ l.length) ∨ ∃ a b : ByteArray, cutF l = some (bytesOf a, bytesOf b) ∧ e = .returned (.tuple #[.string a, .string b, .bool true]) ∧ a.size ≤ l.length ∧ b.size ≤ l.length)
set_option maxRecDepth 100000 in
set_option maxHeartbeats 800000 in
theorem slite_cut (s : ByteArray) (w : World) (hs : s.size ≤ 140737488355328) : Calls Tryz.prog 95 #[.string s, .string ⟨#[58]⟩] w (CutIs (bytesOf s) w) := by
  have hl := bytesOf_len s
  have hd : s.data.toList.length = s.size := Array.length_toList
  rcases index_cut s.data.toList with ⟨h1, h2⟩ | ⟨i, h1, h2, h3⟩
  · have H2 : Hid (cutF (bytesOf s) = none) := Lib.hid h2
    have H1 := Lib.hid h1
    have HL := Lib.hid hl
    clear h1 h2 hl hd
    go_enter Tryz.func95, Tryz.ntmps95
    go_wp2_with (go_at_call 104; refine (slite_index _ _).mono ?_; rw [H1.out]; rintro e w' ⟨rfl, rfl⟩)
    refine bodyPost_ret (results_tmp3 rfl _ _ _) rfl ?_
    exact ⟨Upd.refl _ _, .inl ⟨H2.out, _, _, rfl, by rw [HL.out]; exact Nat.le_refl _⟩⟩
  · have H3 : Hid (cutF (bytesOf s) = some ((bytesOf s).take i, (bytesOf s).drop (i + 1))) := Lib.hid h3
    have H1 := Lib.hid h1
    have HL := Lib.hid hl
    have hi : i < s.size := by omega
    have hii : (i : Int) < (s.size : Int) := by omega
    clear h1 h3 hl hd h2
    go_enter Tryz.func95, Tryz.ntmps95
    go_wp2_with (go_at_call 104; refine (slite_index _ _).mono ?_; rw [H1.out]; rintro e w' ⟨rfl, rfl⟩)
    go_quiet (fail)
    go_wp2_with fail
    refine bodyPost_ret (results_tmp3 rfl _ _ _) rfl ?_
    refine ⟨(Upd.refl _ _).drewN _, .inr ⟨_, _, ?_, rfl, ?_, ?_⟩⟩
    · rw [H3.out, bytesOf_to, bytesOf_from]
    · rw [HL.out]; simp; omega
    · rw [HL.out]; simp
set_option maxRecDepth 100000 in
theorem strings_cut (s : ByteArray) (w : World) (hs : s.size ≤ 140737488355328) : Calls Tryz.prog 91 #[.string s, .string ⟨#[58]⟩] w (CutIs (bytesOf s) w) := by
  have HC := Lib.hid (slite_cut s w hs)
  go_enter Tryz.func91, Tryz.ntmps91
  go_wp2_with fail
  refine HC.out.mono ?_
  rintro e w1 ⟨hu, ⟨hc, a, b, rfl, ha⟩ | ⟨a, b, hc, rfl, ha, hb⟩⟩
  · have HH := Lib.hid hc
    have HU := Lib.hid hu
    clear hc hu
    go_wp2_with fail
    refine bodyPost_ret (results_tmp3 rfl _ _ _) rfl ?_
    exact ⟨HU.out, .inl ⟨HH.out, _, _, rfl, ha⟩⟩
  · have HH := Lib.hid hc
    have HU := Lib.hid hu
    clear hc hu
    go_wp2_with fail
    refine bodyPost_ret (results_tmp3 rfl _ _ _) rfl ?_
    exact ⟨HU.out, .inr ⟨_, _, HH.out, rfl, ha, hb⟩⟩
theorem trim_map (l : List UInt8) : (Lib.trimS l [32, 9]).map UInt8.toNat = trimF (l.map UInt8.toNat) := by
  have hp : (fun b : UInt8 => ([32, 9] : List UInt8).contains b) = blankF ∘ UInt8.toNat := by
    funext b
    simp only [List.contains_cons, List.contains_nil, Bool.or_false, Function.comp_apply, blankF]
    have e : ∀ c : UInt8, (b == c) = decide (b.toNat = c.toNat) := by
      intro c
      by_cases h : b = c
      · subst h; simp
      · rw [decide_eq_false (fun e => h (UInt8.toNat_inj.1 e))]
        simpa using h
    rw [e, e]
    rfl
  unfold Lib.trimS Lib.trimLeftS Lib.trimRightS trimF
  rw [hp, ← List.dropWhile_map, List.map_reverse, ← List.dropWhile_map, List.map_reverse]
theorem strings_trim (s : ByteArray) (w : World) (hs : s.size ≤ 140737488355328) : Calls Tryz.prog 93 #[.string s, .string ⟨#[32, 9]⟩] w fun e w' => (∃ r : ByteArray, e = .returned (.string r) ∧ bytesOf r = trimF (bytesOf s) ∧ r.size ≤ s.size) ∧ Upd Nix w w' := by
  have hcon := Any.strings_Trim_laid Tryz.lays160 (by kernel_rfl) s ⟨#[32, 9]⟩ w (by omega) (by decide) (ascii_of_all (by decide))
  refine hcon.mono fun e w' ⟨he, hb⟩ => ⟨⟨_, he, ?_, ?_⟩, Upd.of_below' hb⟩
  · exact trim_map s.data.toList
  · have h1 : (⟨(Lib.trimS s.data.toList [32, 9]).toArray⟩ : ByteArray).size = (Lib.trimS s.data.toList [32, 9]).length := by simp [ByteArray.size]
    have h2 : s.data.toList.length = s.size := Array.length_toList
    show (⟨(Lib.trimS s.data.toList [32, 9]).toArray⟩ : ByteArray).size ≤ _
    rw [h1]
    unfold Lib.trimS Lib.trimLeftS Lib.trimRightS
    have a1 := (List.dropWhile_sublist (fun b : UInt8 => ([32, 9] : List UInt8).contains b) (l := (s.data.toList.reverse.dropWhile fun b => ([32, 9] : List UInt8).contains b).reverse)).length_le
    have a2 := (List.dropWhile_sublist (fun b : UInt8 => ([32, 9] : List UInt8).contains b) (l := s.data.toList.reverse)).length_le
    rw [List.length_reverse] at a1 a2
    exact Nat.le_trans a1 (by omega)
set_option maxRecDepth 100000 in
set_option maxHeartbeats 1600000 in
theorem fields_odd (b : Nat) (w : World) :
    Calls Tryz.prog 90 #[.int .u8 b] w fun e w' => e = .returned (.bool (oddC b)) ∧ w = w' := by
  have hv : oddC b = ((decide (b < 97) || decide (122 < b)) && (decide (b < 48) || decide (57 < b)) && decide (b ≠ 45)) := rfl
  have HV := Lib.hid hv
  clear hv
  go_enter Tryz.func90, Tryz.ntmps90
  by_cases h1 : b < 97
  · have i1 : (b : Int) < 97 := by omega
    by_cases h2 : b < 48
    · have i2 : (b : Int) < 48 := by omega
      by_cases h3 : b = 45
      · have i3 : ((b : Int) != 45) = false := by simp [h3]
        have HB : Hid (oddC b = false) := Lib.hid (by rw [HV.out]; simp [h3])
        clear h3
        go_wp2
        go_ret
        exact ⟨by rw [HB.out]; rfl, rfl⟩
      · have i3 : ((b : Int) != 45) = true := by simp; omega
        have HB : Hid (oddC b = true) := Lib.hid (by rw [HV.out]; simp [h1, h2, h3])
        clear h3
        go_wp2
        go_ret
        exact ⟨by rw [HB.out]; rfl, rfl⟩
    · have i2 : ¬ (b : Int) < 48 := by omega
      by_cases h4 : 57 < b
      · have i4 : (57 : Int) < (b : Int) := by omega
        have i3 : ((b : Int) != 45) = true := by simp; omega
        have HB : Hid (oddC b = true) := Lib.hid (by rw [HV.out]; simp [h1, h4]; omega)
        go_wp2
        go_ret
        exact ⟨by rw [HB.out]; rfl, rfl⟩
      · have i4 : ¬ (57 : Int) < (b : Int) := by omega
        have HB : Hid (oddC b = false) := Lib.hid (by rw [HV.out]; simp [h2, h4])
        go_wp2
        go_ret
        exact ⟨by rw [HB.out]; rfl, rfl⟩
  · have i1 : ¬ (b : Int) < 97 := by omega
    by_cases h5 : 122 < b
    · have i5 : (122 : Int) < (b : Int) := by omega
      have i2 : ¬ (b : Int) < 48 := by omega
      have i4 : (57 : Int) < (b : Int) := by omega
      have i3 : ((b : Int) != 45) = true := by simp; omega
      have HB : Hid (oddC b = true) := Lib.hid (by rw [HV.out]; simp [h5]; omega)
      go_wp2
      go_ret
      exact ⟨by rw [HB.out]; rfl, rfl⟩
    · have i5 : ¬ (122 : Int) < (b : Int) := by omega
      have HB : Hid (oddC b = false) := Lib.hid (by rw [HV.out]; simp [h1, h5])
      go_wp2
      go_ret
      exact ⟨by rw [HB.out]; rfl, rfl⟩
end Go.Proofs.YtageanmjdfodnaaGreatDoor
