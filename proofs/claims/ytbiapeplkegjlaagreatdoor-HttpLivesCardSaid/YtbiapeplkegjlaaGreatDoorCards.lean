/-
  DERIVED. GIVEN WITH THE SEED: THE CARDS: each row of YtbiapeplkegjlaaGreatDoorRows.lean that lists a variable, with what it lists TIED to the program's text (the seventh form; the later family's looks); each row that meets fmt, with fmt's text TOLD by the authors' own Lean function (tested against real Go, not proved from fmt's source: count such statements apart). THE CARD IS WHAT COUNTS. Prove the row's statement (the work); the ties are given (YtbiapeplkegjlaaGreatDoorTie.lean); close each card by the builder's one call (the guide's Derived/Test/ToyasCard.lean, 'card_holds'). Laid BY PROGRAM, IN A SANDBOX (cutbox-door.mjs). By AI agents, Wed Nov 11 2026. No macro, syntax, notation, axiom, sorry.
-/
import Derived.Test.YtbiapeplkegjlaaGreatDoorRows
import GoSem.ClaimSeven
namespace Go.Proofs.YtbiapeplkegjlaaGreatDoor
namespace Rows

/-- THE TIED CARD OF 'ciceronelaw13.HttpLives'. -/
def httpLivesCard : Claim7 := { stood := { row := httpLivesRow, standIns := [], harness := (true, "750ca24e12fe7d278b1bbafd161ad546b67e40f381a81284e47999fa27922cc7"), looks := true }, kinds := [], alts := [], laidByText := true, laidKinds := [.data, .data, .data, .data, .sentinel, .sentinel, .sentinel, .pinned], laidTests := true, laidLooks := .later }
def HttpLivesCardSaid : Prop := Claim7.holds Tryz.pinned (.plain (OpenSpec.ofChange httpLivesSpec)) httpLivesCard

/-- THE SECOND FORM's CARD OF 'ciceronelaw13.HttpLives'. -/
def httpLivesUptoCard : Claim7 := { stood := { row := httpLivesUptoRow, standIns := [], harness := (true, "750ca24e12fe7d278b1bbafd161ad546b67e40f381a81284e47999fa27922cc7"), looks := true }, kinds := [], alts := [], laidByText := true, laidKinds := [.data, .data, .data, .data, .sentinel, .sentinel, .sentinel, .pinned], laidTests := true, laidLooks := .later }
def HttpLivesUptoCardSaid : Prop := Claim7.holds Tryz.pinned (.plain (OpenSpec.upto httpLivesSpec)) httpLivesUptoCard
end Rows
end Go.Proofs.YtbiapeplkegjlaaGreatDoor
