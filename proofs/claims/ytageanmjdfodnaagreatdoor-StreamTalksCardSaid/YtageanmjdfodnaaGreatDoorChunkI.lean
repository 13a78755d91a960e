/- The reader of chunks: what holds of its state, behind Feed. -/
import Derived.Test.YtageanmjdfodnaaGreatDoorChunkN
namespace Go.Proofs.YtageanmjdfodnaaGreatDoor
open Go.RowKit Go.Cx Go.Maps

theorem feedGo_inv : ∀ (l : List Nat) (s : CS) (k : Nat), CInv s → (∀ b ∈ l, b < 256) → CInv (feedGo l s k).2
  | [], s, k, h, _ => h
  | c :: l, s, k, h, hb => by
    by_cases h7 : s.st = 7
    · rw [feed_whole _ _ _ h7]; exact h
    · rw [feed_cons _ _ _ _ h7]
      have h2 := cbyte_inv h (hb c (by simp))
      rcases hcb : cbyte s c with ⟨e, s'⟩
      rw [hcb] at h2
      cases e with
      | zero => exact feedGo_inv l s' (k + 1) h2 fun b hb' => hb b (by simp [hb'])
      | succ m => exact ⟨h2.digits, h2.left0, h2.left, h2.most, h2.body, h2.fits, h2.left2, h2.left3, h2.st, h2.bytes⟩
theorem feed_inv {l : List Nat} {s : CS} (h : CInv s) (hb : ∀ b ∈ l, b < 256) : CInv (feed s l).2 := by
  unfold feed
  split
  · exact h
  · exact feedGo_inv l s 0 h hb

end Go.Proofs.YtageanmjdfodnaaGreatDoor
