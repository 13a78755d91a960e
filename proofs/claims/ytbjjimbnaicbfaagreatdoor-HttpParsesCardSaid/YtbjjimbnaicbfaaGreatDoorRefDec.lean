/- ciceroneref13.decimal. -/
import Derived.Test.YtbjjimbnaicbfaaGreatDoorHttpL
import Derived.Test.YtbjjimbnaicbfaaGreatDoorStrs
namespace Go.Proofs.YtbjjimbnaicbfaaGreatDoor
open Go.RowKit Go.Cx Go.Maps

theorem dig_slice : (List.range 10).all (fun d => decide (bytesOf ((⟨#[48, 49, 50, 51, 52, 53, 54, 55, 56, 57]⟩ : ByteArray).extract d (d + 1)) = [d + 48])) = true := by decide +kernel
theorem dig_one (d : Nat) (h : d < 10) : bytesOf ((⟨#[48, 49, 50, 51, 52, 53, 54, 55, 56, 57]⟩ : ByteArray).extract d (d + 1)) = [d + 48] := by
  have := List.all_eq_true.1 dig_slice d (List.mem_range.2 h)
  simpa using this
def DecIs (n : Nat) (w : World) (e : Ending) (w' : World) : Prop := ∃ s : ByteArray, e = .returned (.string s) ∧ bytesOf s = itoaL n ∧ w = w'
set_option maxRecDepth 100000 in
theorem ref_decimal : ∀ (n : Nat), n ≤ 65535 → ∀ w, Calls Tryz.prog 30 #[.int .i64 (n : Nat)] w (DecIs n w) := by
  intro n
  induction n using Nat.strongRecOn with
  | _ n ih =>
    intro hn w
    have hm : ((n : Int) % 10).toNat = n % 10 := by omega
    have hd := dig_one (n % 10) (by omega)
    by_cases h10 : n < 10
    · have hi : (n : Int) < 10 := by omega
      have hv := itoa_small h10
      have HV := Lib.hid hv
      have HD := Lib.hid hd
      clear hv hd ih
      go_enter Tryz.func30, Tryz.ntmps30
      go_wp2_with fail
      go_ret
      exact ⟨_, rfl, by rw [HD.out, HV.out, Nat.mod_eq_of_lt h10], rfl⟩
    · have hi : ¬ (n : Int) < 10 := by omega
      have hv := itoa_big h10
      have hih := ih (n / 10) (by omega) (by omega) w
      have HV := Lib.hid hv
      have HD := Lib.hid hd
      rw [show ((n / 10 : Nat) : Int) = (n : Int) / 10 by omega] at hih
      have HIH := Lib.hid hih
      clear hv hd ih hih
      go_enter Tryz.func30, Tryz.ntmps30
      go_wp2_with fail
      refine HIH.out.mono ?_
      rintro e w1 ⟨s, rfl, hs, rfl⟩
      have hs5 : s.size ≤ 5 := by
        rw [← bytesOf_len, hs]
        exact (itoa_len (n / 10) 4 (by omega)).2
      have hd1 : ((⟨#[48, 49, 50, 51, 52, 53, 54, 55, 56, 57]⟩ : ByteArray).extract (n % 10) (n % 10 + 1)).size ≤ 1 := by
        rw [← bytesOf_len, HD.out]
        simp
      have HS := Lib.hid hs
      clear hs
      generalize (⟨#[48, 49, 50, 51, 52, 53, 54, 55, 56, 57]⟩ : ByteArray).extract (n % 10) (n % 10 + 1) = dg at *
      go_wp2_with fail
      go_ret
      exact ⟨_, rfl, by rw [bytesOf_append, HS.out, HD.out, HV.out], rfl⟩
end Go.Proofs.YtbjjimbnaicbfaaGreatDoor
