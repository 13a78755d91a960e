/- A request's bytes, plain. -/
import Derived.Test.YtageanmjdfodnaaGreatDoorHttpAk
import Derived.Outline
namespace Go.Proofs.YtageanmjdfodnaaGreatDoor
open Go.RowKit Go.Cx Go.Maps

def AskIs (l : List Nat) (chunked : Bool) (w : World) (e : Ending) (w' : World) : Prop :=
  (∃ ad n' c', e = .returned (.tuple #[.slice (some ad) n' c', .int .i64 0]) ∧ n' = (askL l chunked false).length ∧ n' ≤ c' ∧ Rd w' w'.heap.size 1 (some ad) n' (byts (askL l chunked false))) ∧ Upd Nix w w'
def preL : List Nat := firstL ++ [13, 10] ++ (hostL ++ [13, 10] ++ (ctL ++ [13, 10]))
theorem text_plain (n : Nat) : textL (askLines n false false) = preL ++ clenH ++ itoaL n ++ endL := by
  simp [textL, askLines, preL, endL]
theorem text_chunk (n : Nat) : textL (askLines n true false) = preL ++ chunkH ++ endL := by
  simp [textL, askLines, preL, endL]
end Go.Proofs.YtageanmjdfodnaaGreatDoor
