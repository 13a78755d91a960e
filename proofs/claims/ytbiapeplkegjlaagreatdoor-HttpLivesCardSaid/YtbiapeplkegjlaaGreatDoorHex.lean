/- A number's hexadecimal digits: both functions. -/
import Derived.WalkMore
import Derived.Test.YtbiapeplkegjlaaGreatDoorBytes
namespace Go.Proofs.YtbiapeplkegjlaaGreatDoor
open Go.RowKit Go.Cx Go.Maps

/-- the digits' text -/
def digs : ByteArray := { data := #[48, 49, 50, 51, 52, 53, 54, 55, 56, 57, 97, 98, 99, 100, 101, 102] }
def dig (k : Nat) : ByteArray := digs.extract k (k + 1)
def hexS (n : Nat) : ByteArray := if n < 16 then dig n else hexS (n / 16) ++ dig (n % 16)

theorem dig_size (k : Nat) : (dig k).size ≤ 1 := by
  unfold dig
  rw [ByteArray.size_extract]
  omega
theorem hexS_size (n : Nat) : (hexS n).size ≤ n + 1 := by
  induction n using Nat.strongRecOn with
  | _ n ih =>
    unfold hexS
    split
    · have := dig_size n; omega
    · have h1 := ih (n / 16) (by omega)
      have h2 := dig_size (n % 16)
      rw [ByteArray.size_append]
      omega
theorem and15 (n : Nat) (h : n < 9223372036854775808) : bits .and .i64 (n : Int) 15 = ((n % 16 : Nat) : Int) := by
  have h15 : (BitVec.ofInt 64 15).toNat = 15 := by decide
  show IntKind.i64.wrap ((BitVec.ofInt 64 (n : Int) &&& BitVec.ofInt 64 15).toNat : Int) = _
  rw [BitVec.toNat_and, BitVec.ofInt_natCast, BitVec.toNat_ofNat, Nat.mod_eq_of_lt (by omega), h15, Nat.and_two_pow_sub_one_eq_mod n 4, IntKind.wrap_i64]
  omega

theorem chunk_hex (n : Nat) (w : World) (h : n < 16777216) :
    Calls Tryz.prog 47 #[.int .i64 n] w fun e w' => e = .returned (.string (hexS n)) ∧ w = w' := by
  go_enter Tryz.func47, Tryz.ntmps47
  go_wp2
  go_loop [0, 3] (fun i t => ∃ (k : Nat) (s : ByteArray), k ≤ n ∧ i = .int .i64 k ∧ t = .string s ∧ hexS n = hexS k ++ s) (fun i _ => (intOf i).toNat)
  case atStart => exact ⟨n, ⟨#[]⟩, Nat.le_refl _, rfl, rfl, ByteArray.append_empty.symm⟩
  case round =>
    obtain ⟨k, s, hk, rfl, rfl, hs⟩ := hrel
    have ha := and15 k (by omega)
    have hsz : s.size ≤ 16777216 := by
      have h1 := congrArg ByteArray.size hs
      rw [ByteArray.size_append] at h1
      have := hexS_size n
      omega
    have HS := Lib.hid hs
    clear hs
    by_cases hk16 : k < 16
    · go_wp2
      go_ret
      refine ⟨?_, rfl⟩
      rw [HS.out]
      unfold hexS
      rw [if_pos hk16]
      rfl
    · have hlt : (k % 16 : Nat) < 16 := by omega
      have hstep : hexS k = hexS (k / 16) ++ dig (k % 16) := by rw [hexS, if_neg hk16]
      have HST := Lib.hid hstep
      clear hstep
      go_wp2
      refine ⟨⟨k / 16, dig (k % 16) ++ s, by omega, by simp, rfl, ?_⟩, ?_⟩
      · rw [HS.out, HST.out, ByteArray.append_assoc]
      · simp [intOf]
        omega

end Go.Proofs.YtbiapeplkegjlaaGreatDoor
