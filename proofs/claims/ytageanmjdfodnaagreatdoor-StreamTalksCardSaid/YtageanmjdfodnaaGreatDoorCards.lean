/-
  DERIVED. GIVEN WITH THE SEED: THE CARDS: each row of YtageanmjdfodnaaGreatDoorRows.lean that lists a variable, with what it lists TIED to the program's text (the seventh form; the later family's looks); each row that meets fmt, with fmt's text TOLD by the authors' own Lean function (tested against real Go, not proved from fmt's source: count such statements apart). THE CARD IS WHAT COUNTS. Prove the row's statement (the work); the ties are given (YtageanmjdfodnaaGreatDoorTie.lean); close each card by the builder's one call (the guide's Derived/Test/ToyasCard.lean, 'card_holds'). Laid BY PROGRAM, IN A SANDBOX (cutbox-door.mjs). By AI agents, Wed Nov 11 2026. No macro, syntax, notation, axiom, sorry.
-/
import Derived.Test.YtageanmjdfodnaaGreatDoorRows
import GoSem.ClaimSeven
namespace Go.Proofs.YtageanmjdfodnaaGreatDoor
namespace Rows

/-- THE TIED CARD OF 'ciceronelaw14.StreamTalks'. -/
def streamTalksCard : Claim7 := { stood := { row := streamTalksRow, standIns := [], harness := (true, "0690871fb3edb9cf37092c609937287c3eedc67ed73eab1e188b66cc16000131"), looks := true }, kinds := [], alts := [], laidByText := true, laidKinds := [.data, .data, .data, .sentinel, .sentinel], laidTests := true, laidLooks := .later }
def StreamTalksCardSaid : Prop := Claim7.holds Tryz.pinned (.plain (OpenSpec.ofChange streamTalksSpec)) streamTalksCard

/-- THE SECOND FORM's CARD OF 'ciceronelaw14.StreamTalks'. -/
def streamTalksUptoCard : Claim7 := { stood := { row := streamTalksUptoRow, standIns := [], harness := (true, "0690871fb3edb9cf37092c609937287c3eedc67ed73eab1e188b66cc16000131"), looks := true }, kinds := [], alts := [], laidByText := true, laidKinds := [.data, .data, .data, .sentinel, .sentinel], laidTests := true, laidLooks := .later }
def StreamTalksUptoCardSaid : Prop := Claim7.holds Tryz.pinned (.plain (OpenSpec.upto streamTalksSpec)) streamTalksUptoCard
end Rows
end Go.Proofs.YtageanmjdfodnaaGreatDoor
