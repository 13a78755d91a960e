/- Replies: the walks of the small functions. -/
import Derived.Test.YtageanmjdfodnaaGreatDoorStrs
import Derived.Test.YtageanmjdfodnaaGreatDoorHttpZ
import Derived.Test.YtageanmjdfodnaaGreatDoorHttpL
import Derived.Test.YtageanmjdfodnaaGreatDoorShelf
import Derived.Deep.DeepCutAuto
import Derived.Deep.CutBlock
namespace Go.Proofs.YtageanmjdfodnaaGreatDoor
open Go.RowKit Go.Cx Go.Maps

theorem prefix_take {p s : ByteArray} : ((s.extract 0 p.size).toList == p.toList) = decide (bytesOf p <+: bytesOf s) := by
  have key : (s.extract 0 p.size = p) ↔ (bytesOf p <+: bytesOf s) := by
    rw [List.prefix_iff_eq_take, ← bytesOf_to, bytesOf_len]
    exact ⟨fun e => by rw [e], fun e => (bytesOf_inj e).symm⟩
  by_cases hk : bytesOf p <+: bytesOf s
  · rw [decide_eq_true hk, key.2 hk]
    simp
  · rw [decide_eq_false hk]
    have hne : ¬ s.extract 0 p.size = p := fun e => hk (key.1 e)
    have : (s.extract 0 p.size).toList ≠ p.toList := fun e => hne (by
      have h1 : ∀ (x : ByteArray), x.toList = x.data.toList := fun x => Lib.toList_data x
      rw [h1, h1] at e
      exact bytesOf_inj (by unfold bytesOf; rw [e]))
    simpa using this

set_option maxRecDepth 100000 in
set_option maxHeartbeats 1600000 in
theorem slite_prefix (s p : ByteArray) (w : World) :
    Calls Tryz.prog 26 #[.string s, .string p] w fun e w' => e = .returned (.bool (decide (bytesOf p <+: bytesOf s))) ∧ w = w' := by
  go_enter Tryz.func26, Tryz.ntmps26
  by_cases h : p.size ≤ s.size
  · have hi : (p.size : Int) ≤ (s.size : Int) := by omega
    go_wp2
    go_ret
    rw [← prefix_take]
    exact ⟨rfl, rfl⟩
  · have hi : ¬ (p.size : Int) ≤ (s.size : Int) := by omega
    go_wp2
    go_ret
    rw [decide_eq_false (fun hp => h (by have := hp.length_le; rw [bytesOf_len, bytesOf_len] at this; exact this))]
    exact ⟨rfl, rfl⟩

set_option maxRecDepth 100000 in
set_option maxHeartbeats 1600000 in
theorem strings_prefix (s p : ByteArray) (w : World) :
    Calls Tryz.prog 23 #[.string s, .string p] w fun e w' => e = .returned (.bool (decide (bytesOf p <+: bytesOf s))) ∧ w = w' := by
  go_enter Tryz.func23, Tryz.ntmps23
  go_wp2_with fail
  refine (slite_prefix s p w).mono ?_
  rintro e w1 ⟨rfl, rfl⟩
  go_wp2
  go_ret
  exact ⟨rfl, rfl⟩

set_option maxRecDepth 100000 in
set_option maxHeartbeats 3200000 in
theorem http_after (s want : ByteArray) (w : World) :
    Calls Tryz.prog 20 #[.string s, .string want] w fun e w' => (∃ r : ByteArray, e = .returned (.tuple #[.string r, .int .i64 ((afterL (bytesOf s) (bytesOf want)).2 : Nat)]) ∧ bytesOf r = (afterL (bytesOf s) (bytesOf want)).1) ∧ w = w' := by
  go_enter Tryz.func20, Tryz.ntmps20
  go_wp2_with fail
  refine (strings_prefix s want w).mono ?_
  rintro e w1 ⟨rfl, rfl⟩
  by_cases h1 : bytesOf want <+: bytesOf s
  · have hsz : want.size ≤ s.size := by have := h1.length_le; rw [bytesOf_len, bytesOf_len] at this; exact this
    have ha : afterL (bytesOf s) (bytesOf want) = ((bytesOf s).drop (bytesOf want).length, 0) := by unfold afterL; rw [if_pos h1]
    rw [decide_eq_true h1]
    have hi : (want.size : Int) ≤ (s.size : Int) := by omega
    have HA := Lib.hid ha
    have H1 := Lib.hid h1
    clear ha h1
    go_wp2_with fail
    refine bodyPost_ret (results_tmp2 rfl _ _ _) rfl ?_
    rw [HA.out]
    refine ⟨⟨_, rfl, ?_⟩, rfl⟩
    have hfr := bytesOf_from s want.size
    rw [bytesOf_len]
    first | exact hfr | simpa using hfr
  · rw [decide_eq_false h1]
    have H1 := Lib.hid h1
    go_wp2_with fail
    refine (strings_prefix want s w).mono ?_
    rintro e w2 ⟨rfl, rfl⟩
    by_cases h2 : bytesOf s <+: bytesOf want
    · have ha : afterL (bytesOf s) (bytesOf want) = ([], 20) := by unfold afterL; rw [if_neg H1.out, if_pos h2]
      rw [decide_eq_true h2]
      have HA := Lib.hid ha
      clear h1 h2 ha
      go_wp2_with fail
      refine bodyPost_ret (results_tmp2 rfl _ _ _) rfl ?_
      rw [HA.out]
      exact ⟨⟨_, rfl, rfl⟩, rfl⟩
    · have ha : afterL (bytesOf s) (bytesOf want) = ([], 130) := by unfold afterL; rw [if_neg H1.out, if_neg h2]
      rw [decide_eq_false h2]
      have HA := Lib.hid ha
      clear h1 h2 ha
      go_wp2_with fail
      refine bodyPost_ret (results_tmp2 rfl _ _ _) rfl ?_
      rw [HA.out]
      exact ⟨⟨_, rfl, rfl⟩, rfl⟩

end Go.Proofs.YtageanmjdfodnaaGreatDoor
