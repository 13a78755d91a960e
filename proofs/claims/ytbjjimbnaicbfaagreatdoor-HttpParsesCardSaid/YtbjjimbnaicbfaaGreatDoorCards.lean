/-
  DERIVED. GIVEN WITH THE SEED: THE CARDS: each row of YtbjjimbnaicbfaaGreatDoorRows.lean that lists a variable, with what it lists TIED to the program's text (the seventh form; the later family's looks); each row that meets fmt, with fmt's text TOLD by the authors' own Lean function (tested against real Go, not proved from fmt's source: count such statements apart). THE CARD IS WHAT COUNTS. Prove the row's statement (the work); the ties are given (YtbjjimbnaicbfaaGreatDoorTie.lean); close each card by the builder's one call (the guide's Derived/Test/ToyasCard.lean, 'card_holds'). Laid BY PROGRAM, IN A SANDBOX (cutbox-door.mjs). By AI agents, Wed Nov 11 2026. No macro, syntax, notation, axiom, sorry.
-/
import Derived.Test.YtbjjimbnaicbfaaGreatDoorRows
import GoSem.ClaimSeven
namespace Go.Proofs.YtbjjimbnaicbfaaGreatDoor
namespace Rows

/-- THE TIED CARD OF 'ciceronelaw13.HttpLives'. -/
def httpLivesCard : Claim7 := { stood := { row := httpLivesRow, standIns := [], harness := (true, "26d05d6312cd2eef2d7348bc6e42791258619274df33a62b9c804575aa538f2d"), looks := true }, kinds := [], alts := [], laidByText := true, laidKinds := [.data, .data, .data, .data, .sentinel, .sentinel, .sentinel, .pinned], laidTests := true, laidLooks := .later }
def HttpLivesCardSaid : Prop := Claim7.holds Tryz.pinned (.plain (OpenSpec.ofChange httpLivesSpec)) httpLivesCard

/-- THE TIED CARD OF 'ciceronelaw13.HttpParses'. -/
def httpParsesCard : Claim7 := { stood := { row := httpParsesRow, standIns := [], harness := (true, "26d05d6312cd2eef2d7348bc6e42791258619274df33a62b9c804575aa538f2d"), looks := true }, kinds := [], alts := [], laidByText := true, laidKinds := [.data, .data, .data, .data, .sentinel, .sentinel, .sentinel, .pinned], laidTests := true, laidLooks := .later }
def HttpParsesCardSaid : Prop := Claim7.holds Tryz.pinned (.plain (OpenSpec.ofChange httpParsesSpec)) httpParsesCard

/-- THE SECOND FORM's CARD OF 'ciceronelaw13.HttpLives'. -/
def httpLivesUptoCard : Claim7 := { stood := { row := httpLivesUptoRow, standIns := [], harness := (true, "26d05d6312cd2eef2d7348bc6e42791258619274df33a62b9c804575aa538f2d"), looks := true }, kinds := [], alts := [], laidByText := true, laidKinds := [.data, .data, .data, .data, .sentinel, .sentinel, .sentinel, .pinned], laidTests := true, laidLooks := .later }
def HttpLivesUptoCardSaid : Prop := Claim7.holds Tryz.pinned (.plain (OpenSpec.upto httpLivesSpec)) httpLivesUptoCard

/-- THE SECOND FORM's CARD OF 'ciceronelaw13.HttpParses'. -/
def httpParsesUptoCard : Claim7 := { stood := { row := httpParsesUptoRow, standIns := [], harness := (true, "26d05d6312cd2eef2d7348bc6e42791258619274df33a62b9c804575aa538f2d"), looks := true }, kinds := [], alts := [], laidByText := true, laidKinds := [.data, .data, .data, .data, .sentinel, .sentinel, .sentinel, .pinned], laidTests := true, laidLooks := .later }
def HttpParsesUptoCardSaid : Prop := Claim7.holds Tryz.pinned (.plain (OpenSpec.upto httpParsesSpec)) httpParsesUptoCard
end Rows
end Go.Proofs.YtbjjimbnaicbfaaGreatDoor
