/- ciceroneref13: decimal, Ask; http.Ask of any body. -/
import Derived.Test.YtageanmjdfodnaaGreatDoorAskL
import Derived.Test.YtageanmjdfodnaaGreatDoorStrs
import Derived.Outline
namespace Go.Proofs.YtageanmjdfodnaaGreatDoor
open Go.RowKit Go.Cx Go.Maps

theorem dig_slice : (List.range 10).all (fun d => decide (bytesOf ((⟨#[48, 49, 50, 51, 52, 53, 54, 55, 56, 57]⟩ : ByteArray).extract d (d + 1)) = [d + 48])) = true := by decide +kernel
theorem dig_one (d : Nat) (h : d < 10) : bytesOf ((⟨#[48, 49, 50, 51, 52, 53, 54, 55, 56, 57]⟩ : ByteArray).extract d (d + 1)) = [d + 48] := by
  have := List.all_eq_true.1 dig_slice d (List.mem_range.2 h)
  simpa using this
def DecIs (n : Nat) (w : World) (e : Ending) (w' : World) : Prop := ∃ s : ByteArray, e = .returned (.string s) ∧ bytesOf s = itoaL n ∧ w = w'
set_option maxRecDepth 100000 in
theorem ref_decimal : ∀ (n : Nat), n ≤ 65535 → ∀ w, Calls Tryz.prog 15 #[.int .i64 (n : Nat)] w (DecIs n w) := by
  intro n
  induction n using Nat.strongRecOn with
  | _ n ih =>
    intro hn w
    have hm : ((n : Int) % 10).toNat = n % 10 := by omega
    have hd := dig_one (n % 10) (by omega)
    by_cases h10 : n < 10
    · have hi : (n : Int) < 10 := by omega
      have hv := itoa_small h10
      have HV := Lib.hid hv
      have HD := Lib.hid hd
      clear hv hd ih
      go_enter Tryz.func15, Tryz.ntmps15
      go_wp2_with fail
      go_ret
      exact ⟨_, rfl, by rw [HD.out, HV.out, Nat.mod_eq_of_lt h10], rfl⟩
    · have hi : ¬ (n : Int) < 10 := by omega
      have hv := itoa_big h10
      have hih := ih (n / 10) (by omega) (by omega) w
      have HV := Lib.hid hv
      have HD := Lib.hid hd
      rw [show ((n / 10 : Nat) : Int) = (n : Int) / 10 by omega] at hih
      have HIH := Lib.hid hih
      clear hv hd ih hih
      go_enter Tryz.func15, Tryz.ntmps15
      go_wp2_with fail
      refine HIH.out.mono ?_
      rintro e w1 ⟨s, rfl, hs, rfl⟩
      have hs5 : s.size ≤ 5 := by
        rw [← bytesOf_len, hs]
        exact (itoa_len (n / 10) 4 (by omega)).2
      have hd1 : ((⟨#[48, 49, 50, 51, 52, 53, 54, 55, 56, 57]⟩ : ByteArray).extract (n % 10) (n % 10 + 1)).size ≤ 1 := by
        rw [← bytesOf_len, HD.out]
        simp
      have HS := Lib.hid hs
      clear hs
      generalize (⟨#[48, 49, 50, 51, 52, 53, 54, 55, 56, 57]⟩ : ByteArray).extract (n % 10) (n % 10 + 1) = dg at *
      go_wp2_with fail
      go_ret
      exact ⟨_, rfl, by rw [bytesOf_append, HS.out, HD.out, HV.out], rfl⟩
set_option maxRecDepth 100000 in
set_option maxHeartbeats 6400000 in
theorem ref_ask (A : Option Addr) (n c : Nat) (l : List Nat) (chunked : Bool) (w : World) (hx : Rd w w.heap.size 1 A n (byts l)) (hnc : n ≤ c) (hn : n ≤ 65535) :
    Calls Tryz.prog 6 #[.slice A n c, .bool chunked] w (AskIs l chunked w) := by
  have kc := fun (w : World) (s : ByteArray) => Lib.run_convert_string_bytes (P := Tryz.prog) w 9 29 5 s Tryz.underlying9 Tryz.underlying29 Tryz.underlying5
  have hlen := hx.1
  simp only [byts, List.length_map, Nat.mul_one] at hlen
  have hni : ¬ (65535 : Int) < (n : Int) := by omega
  have HX := Lib.hid hx
  have HLEN := Lib.hid hlen
  clear hx hlen
  obtain ⟨i0, hi0, hz0, hz1, hz2⟩ := info_parts infoU8
  cases chunked
  · go_enter Tryz.func6, Tryz.ntmps6
    go_wp2_with fail
    refine (ref_decimal n hn w).mono ?_
    rintro e w1 ⟨a, rfl, ha, rfl⟩
    have han : a.size ≤ 5 := by
      rw [← bytesOf_len, ha]
      exact (itoa_len n 4 (by omega)).2
    have HA := Lib.hid ha
    clear ha
    have hgl : ∀ x y z : ByteArray, bytesOf x = preL → bytesOf y = clenH → bytesOf z = endL → bytesOf (x ++ y ++ a ++ z) = textL (askLines n false false) := fun x y z hx hy hz => by
      rw [bytesOf_append, bytesOf_append, bytesOf_append, hx, hy, hz, HA.out, text_plain]
    go_wp2_with (at_builtin; refine wpList_app_str rfl (.tmp 21) (.tmp 22) 29 rfl w _ 5 i0 _ Tryz.underlying29 hi0 hz0 hz1 hz2 rfl (97 + a.size + 4) _ (hgl _ _ _ (by decide +kernel) (by decide +kernel) (by decide +kernel)) (by simp only [ByteArray.size_append]; rfl) rfl w.heap.size A n c l rfl (HX.out.below (below_str w _ _ (Nat.le_refl _))) (by omega) ?_; intro ad c' w2 hr2 hc2 hf2 hu2)
    have hlt : (textL (askLines n false false)).length = 97 + a.size + 4 := by
      rw [text_plain, List.length_append, List.length_append, List.length_append, ← HA.out, bytesOf_len]
      rfl
    have HR2 := Lib.hid hr2
    have HU2 := Lib.hid hu2
    have HLT := Lib.hid hlt
    clear hr2 hu2 hf2 hlt
    go_wp2_with fail
    refine bodyPost_ret (results_tmp2 rfl _ _ _) rfl ?_
    refine ⟨⟨_, _, _, rfl, ?_, hc2, ?_⟩, HU2.out⟩
    · unfold askL
      rw [HLEN.out, List.length_append, HLT.out]
      simp [HLEN.out]
    · have := HR2.out
      unfold askL
      rw [HLEN.out]
      simpa using this
  · go_enter Tryz.func6, Tryz.ntmps6
    go_wp2_with fail
    refine (ref_encode_in A n c 99 l w (by omega) HX.out hnc (by omega)).mono ?_
    rintro e w1 ⟨A1, c1, rfl, hown1, hb1⟩
    have hle := encL_len 99 l
    rw [HLEN.out] at hle
    obtain ⟨m, hm⟩ : ∃ m, (encL 99 l).length = m := ⟨_, rfl⟩
    have hr1 := Rd.own hown1
    rw [hm] at hr1 hle ⊢
    have HM := Lib.hid hm
    have HR1 := Lib.hid hr1
    have HB1 := Lib.hid hb1
    clear hm hr1 hb1 hown1
    have hgl : ∀ x y : ByteArray, bytesOf x = preL → bytesOf y = chunkH ++ endL → bytesOf (x ++ y) = textL (askLines n true false) := fun x y hx hy => by
      rw [bytesOf_append, hx, hy, text_chunk, List.append_assoc]
    go_wp2_with (at_builtin; refine wpList_app_str rfl (.tmp 31) (.tmp 32) 29 rfl w1 _ 5 i0 _ Tryz.underlying29 hi0 hz0 hz1 hz2 rfl 111 _ (hgl _ _ (by decide +kernel) (by decide +kernel)) (by simp only [ByteArray.size_append]; rfl) rfl w1.heap.size A1 m c1 (encL 99 l) rfl (HR1.out.below (below_str w1 _ _ (Nat.le_refl _))) (by omega) ?_; intro ad c' w2 hr2 hc2 hf2 hu2)
    have hlt : (textL (askLines n true false)).length = 111 := by
      rw [text_chunk]
      rfl
    have HR2 := Lib.hid hr2
    have HU2 := Lib.hid hu2
    have HLT := Lib.hid hlt
    clear hr2 hu2 hf2 hlt
    go_wp2_with fail
    refine bodyPost_ret (results_tmp2 rfl _ _ _) rfl ?_
    refine ⟨⟨_, _, _, rfl, ?_, hc2, ?_⟩, (Upd.of_below' HB1.out).trans HU2.out fun _ _ h => h⟩
    · unfold askL
      rw [HLEN.out, List.length_append, HLT.out]
      simp [HM.out]
    · have := HR2.out
      unfold askL
      rw [HLEN.out]
      simpa using this
/-- a body that is too long -/
theorem ref_ask_no (A : Option Addr) (n c : Nat) (ch : Bool) (w : World) (hn : 65535 < n) : Calls Tryz.prog 6 #[.slice A n c, .bool ch] w fun e w' => e = .returned (.tuple #[.slice none 0 0, .int .i64 1]) ∧ w = w' := by
  have hni : (65535 : Int) < (n : Int) := by omega
  go_enter Tryz.func6, Tryz.ntmps6
  go_wp2_with fail
  go_ret2
  exact ⟨rfl, rfl⟩
end Go.Proofs.YtageanmjdfodnaaGreatDoor
