/- Replies: the walks of the small functions. -/
import Derived.Test.YtbiapeplkegjlaaGreatDoorStrs
import Derived.Test.YtbiapeplkegjlaaGreatDoorHttpZ
import Derived.Test.YtbiapeplkegjlaaGreatDoorHttpL
import Derived.Test.YtbiapeplkegjlaaGreatDoorShelf
import Derived.Deep.DeepCutAuto
import Derived.Deep.CutBlock
namespace Go.Proofs.YtbiapeplkegjlaaGreatDoor
open Go.RowKit Go.Cx Go.Maps

theorem prefix_take {p s : ByteArray} : ((s.extract 0 p.size).toList == p.toList) = decide (bytesOf p <+: bytesOf s) := by
  have key : (s.extract 0 p.size = p) ↔ (bytesOf p <+: bytesOf s) := by
    rw [List.prefix_iff_eq_take, ← bytesOf_to, bytesOf_len]
    exact ⟨fun e => by rw [e], fun e => (bytesOf_inj e).symm⟩
  by_cases hk : bytesOf p <+: bytesOf s
  · rw [decide_eq_true hk, key.2 hk]
    simp
  · rw [decide_eq_false hk]
    have hne : ¬ s.extract 0 p.size = p := fun e => hk (key.1 e)
    have : (s.extract 0 p.size).toList ≠ p.toList := fun e => hne (by
      have h1 : ∀ (x : ByteArray), x.toList = x.data.toList := fun x => Lib.toList_data x
      rw [h1, h1] at e
      exact bytesOf_inj (by unfold bytesOf; rw [e]))
    simpa using this




end Go.Proofs.YtbiapeplkegjlaaGreatDoor
