/- A number's hexadecimal digits: both functions. -/
import Derived.WalkMore
import Derived.Test.YtageanmjdfodnaaGreatDoorBytes
namespace Go.Proofs.YtageanmjdfodnaaGreatDoor
open Go.RowKit Go.Cx Go.Maps

/-- the digits' text -/
def digs : ByteArray := { data := #[48, 49, 50, 51, 52, 53, 54, 55, 56, 57, 97, 98, 99, 100, 101, 102] }
def dig (k : Nat) : ByteArray := digs.extract k (k + 1)
def hexS (n : Nat) : ByteArray := if n < 16 then dig n else hexS (n / 16) ++ dig (n % 16)

theorem dig_size (k : Nat) : (dig k).size ≤ 1 := by
  unfold dig
  rw [ByteArray.size_extract]
  omega
theorem hexS_size (n : Nat) : (hexS n).size ≤ n + 1 := by
  induction n using Nat.strongRecOn with
  | _ n ih =>
    unfold hexS
    split
    · have := dig_size n; omega
    · have h1 := ih (n / 16) (by omega)
      have h2 := dig_size (n % 16)
      rw [ByteArray.size_append]
      omega
theorem and15 (n : Nat) (h : n < 9223372036854775808) : bits .and .i64 (n : Int) 15 = ((n % 16 : Nat) : Int) := by
  have h15 : (BitVec.ofInt 64 15).toNat = 15 := by decide
  show IntKind.i64.wrap ((BitVec.ofInt 64 (n : Int) &&& BitVec.ofInt 64 15).toNat : Int) = _
  rw [BitVec.toNat_and, BitVec.ofInt_natCast, BitVec.toNat_ofNat, Nat.mod_eq_of_lt (by omega), h15, Nat.and_two_pow_sub_one_eq_mod n 4, IntKind.wrap_i64]
  omega


theorem ref_hex (n : Nat) (w : World) (h : n < 16777216) :
    Calls Tryz.prog 22 #[.int .i64 n] w fun e w' => e = .returned (.string (hexS n)) ∧ w = w' := by
  induction n using Nat.strongRecOn generalizing w with
  | _ n ih =>
    have hlt : (n % 16 : Nat) < 16 := by omega
    by_cases h16 : n < 16
    · have hd : hexS n = dig (n % 16) := by rw [hexS, if_pos h16, Nat.mod_eq_of_lt h16]
      rw [hd]
      clear ih hd
      go_enter Tryz.func22, Tryz.ntmps22
      go_wp2
      go_ret
      exact ⟨rfl, rfl⟩
    · have hd : hexS n = hexS (n / 16) ++ dig (n % 16) := by rw [hexS, if_neg h16]
      have ih' := fun w => ih (n / 16) (by omega) w (by omega)
      have IH := Lib.hid ih'
      clear ih ih'
      rw [hd]
      clear hd
      have hsz := hexS_size (n / 16)
      go_enter Tryz.func22, Tryz.ntmps22
      go_wp2_with (go_at_call 22; refine (IH.out _).mono ?_; rintro e w' ⟨rfl, rfl⟩)
      go_ret
      exact ⟨rfl, rfl⟩
end Go.Proofs.YtageanmjdfodnaaGreatDoor
