/- chunk.value: what a hexadecimal digit is. -/
import Derived.WalkLawsBesides
import Derived.Test.YtageanmjdfodnaaGreatDoorAppend
import Derived.Test.YtageanmjdfodnaaGreatDoorShelf
import Derived.Test.YtageanmjdfodnaaGreatDoorRows
namespace Go.Proofs.YtageanmjdfodnaaGreatDoor
open Go.RowKit Go.Cx

/-- what a hexadecimal digit is; -1: it is none -/
def hexv (c : Nat) : Int := if 48 ≤ c ∧ c ≤ 57 then (c : Int) - 48 else if 97 ≤ c ∧ c ≤ 102 then (c : Int) - 87 else if 65 ≤ c ∧ c ≤ 70 then (c : Int) - 55 else -1

def lowb (c : Nat) : Nat := if 65 ≤ c ∧ c ≤ 70 then c + 32 else c
def hexOk (c : Nat) : Bool := decide (Lib.indexByte [48, 49, 50, 51, 52, 53, 54, 55, 56, 57, 97, 98, 99, 100, 101, 102] (lowb c).toUInt8 = hexv c)
theorem hex_all : (List.range 256).all hexOk = true := by decide +kernel
theorem hex_ok (c : Nat) (h : c < 256) : Lib.indexByte [48, 49, 50, 51, 52, 53, 54, 55, 56, 57, 97, 98, 99, 100, 101, 102] (lowb c).toUInt8 = hexv c := by
  have := List.all_eq_true.1 hex_all c (List.mem_range.2 h)
  simpa [hexOk] using this
theorem hexv_bound (c : Nat) : -1 ≤ hexv c ∧ hexv c ≤ 15 := by
  unfold hexv
  split
  · omega
  · split
    · omega
    · split <;> omega

theorem or_32 (c : Nat) (h : 65 ≤ c) (h2 : c ≤ 70) : bits .or .u8 (c : Int) 32 = ((c + 32 : Nat) : Int) := by
  rcases (by omega : c = 65 ∨ c = 66 ∨ c = 67 ∨ c = 68 ∨ c = 69 ∨ c = 70) with rfl | rfl | rfl | rfl | rfl | rfl <;> decide

theorem value_any (c : Nat) (w : World) (h : c < 256) :
    Calls Tryz.prog 109 #[.int .u8 c] w fun e w' => e = .returned (.int .i64 (hexv c)) ∧ w = w' := by
  have hok := hex_ok c h
  by_cases h1 : 65 ≤ c
  · by_cases h2 : c ≤ 70
    · have e1 : lowb c = c + 32 := by unfold lowb; rw [if_pos ⟨h1, h2⟩]
      rw [e1] at hok
      have hor := or_32 c h1 h2
      have H := Lib.hid hok
      clear hok e1
      go_enter Tryz.func109, Tryz.ntmps109
      go_wp2_with (go_at_call 117; refine (Tryz.strings_IndexByte _ _ _).mono ?_; rintro e w' ⟨rfl, rfl⟩)
      go_ret
      refine ⟨?_, rfl⟩
      rw [← H.out]
      rfl
    · have e1 : lowb c = c := by unfold lowb; rw [if_neg (by omega)]
      rw [e1] at hok
      have H := Lib.hid hok
      clear hok e1
      go_enter Tryz.func109, Tryz.ntmps109
      go_wp2_with (go_at_call 117; refine (Tryz.strings_IndexByte _ _ _).mono ?_; rintro e w' ⟨rfl, rfl⟩)
      go_ret
      refine ⟨?_, rfl⟩
      rw [← H.out]
      rfl
  · have e1 : lowb c = c := by unfold lowb; rw [if_neg (by omega)]
    rw [e1] at hok
    have H := Lib.hid hok
    clear hok e1
    go_enter Tryz.func109, Tryz.ntmps109
    go_wp2_with (go_at_call 117; refine (Tryz.strings_IndexByte _ _ _).mono ?_; rintro e w' ⟨rfl, rfl⟩)
    go_ret
    refine ⟨?_, rfl⟩
    rw [← H.out]
    rfl
end Go.Proofs.YtageanmjdfodnaaGreatDoor
