/-
  DERIVED. GIVEN WITH THE SEED: THE CARDS: each row of YtbjjimbnaicbfaaDoorRows.lean that lists a variable, with what it lists TIED to the program's text (the seventh form; the later family's looks); each row that meets fmt, with fmt's text TOLD by the authors' own Lean function (tested against real Go, not proved from fmt's source: count such statements apart). THE CARD IS WHAT COUNTS. Prove the row's statement (the work); the ties are given (YtbjjimbnaicbfaaDoorTie.lean); close each card by the builder's one call (the guide's Derived/Test/ToyasCard.lean, 'card_holds'). Laid BY PROGRAM, IN A SANDBOX (cutbox-door.mjs). By AI agents, Wed Nov 11 2026. No macro, syntax, notation, axiom, sorry.
-/
import Derived.Test.YtbjjimbnaicbfaaDoorRows
import GoSem.ClaimSeven
namespace Go.Proofs.YtbjjimbnaicbfaaDoor
namespace Rows

/-- THE TIED CARD OF 'ciceronelaw13.HttpReplied'. -/
def httpRepliedCard : Claim7 := { stood := { row := httpRepliedRow, standIns := [], harness := (true, "a05ce7366ab0a5eabdee6fc718a86d58279c592f7efad7233b33de59a61940b5"), looks := true }, kinds := [], alts := [], laidByText := true, laidKinds := [.data, .data, .data, .sentinel, .sentinel], laidTests := true, laidLooks := .later }
def HttpRepliedCardSaid : Prop := Claim7.holds Tryd.pinned (.plain (OpenSpec.ofChange httpRepliedSpec)) httpRepliedCard

/-- THE TIED CARD OF 'ciceronelaw13.HttpBad'. -/
def httpBadCard : Claim7 := { stood := { row := httpBadRow, standIns := [], harness := (true, "a05ce7366ab0a5eabdee6fc718a86d58279c592f7efad7233b33de59a61940b5"), looks := true }, kinds := [], alts := [], laidByText := true, laidKinds := [.data, .data, .data, .data, .sentinel, .sentinel, .pinned], laidTests := true, laidLooks := .later }
def HttpBadCardSaid : Prop := Claim7.holds Tryd.pinned (.plain (OpenSpec.ofChange httpBadSpec)) httpBadCard

/-- THE TIED CARD OF 'ciceronelaw13.HttpNobody'. -/
def httpNobodyCard : Claim7 := { stood := { row := httpNobodyRow, standIns := [], harness := (true, "a05ce7366ab0a5eabdee6fc718a86d58279c592f7efad7233b33de59a61940b5"), looks := true }, kinds := [], alts := [], laidByText := true, laidKinds := [.data, .data, .data, .data, .sentinel, .sentinel, .sentinel, .pinned], laidTests := true, laidLooks := .later }
def HttpNobodyCardSaid : Prop := Claim7.holds Tryd.pinned (.plain (OpenSpec.ofChange httpNobodySpec)) httpNobodyCard

/-- THE TIED CARD OF 'ciceronelaw13.HttpWrites'. -/
def httpWritesCard : Claim7 := { stood := { row := httpWritesRow, standIns := [], harness := (true, "a05ce7366ab0a5eabdee6fc718a86d58279c592f7efad7233b33de59a61940b5"), looks := true }, kinds := [], alts := [], laidByText := true, laidKinds := [.data, .data, .data, .data, .sentinel, .sentinel, .sentinel, .pinned], laidTests := true, laidLooks := .later }
def HttpWritesCardSaid : Prop := Claim7.holds Tryd.pinned (.plain (OpenSpec.ofChange httpWritesSpec)) httpWritesCard

/-- THE TIED CARD OF 'ciceronelaw13.HttpAsked'. -/
def httpAskedCard : Claim7 := { stood := { row := httpAskedRow, standIns := [], harness := (true, "a05ce7366ab0a5eabdee6fc718a86d58279c592f7efad7233b33de59a61940b5"), looks := true }, kinds := [], alts := [], laidByText := true, laidKinds := [.data, .data, .data, .data, .sentinel, .sentinel, .sentinel, .pinned], laidTests := true, laidLooks := .later }
def HttpAskedCardSaid : Prop := Claim7.holds Tryd.pinned (.plain (OpenSpec.ofChange httpAskedSpec)) httpAskedCard

/-- THE TIED CARD OF 'ciceronelaw13.HttpCloses'. -/
def httpClosesCard : Claim7 := { stood := { row := httpClosesRow, standIns := [], harness := (true, "a05ce7366ab0a5eabdee6fc718a86d58279c592f7efad7233b33de59a61940b5"), looks := true }, kinds := [], alts := [], laidByText := true, laidKinds := [.data, .data, .data, .data, .sentinel, .sentinel, .sentinel, .pinned], laidTests := true, laidLooks := .later }
def HttpClosesCardSaid : Prop := Claim7.holds Tryd.pinned (.plain (OpenSpec.ofChange httpClosesSpec)) httpClosesCard

/-- THE SECOND FORM's CARD OF 'ciceronelaw13.HttpReplied'. -/
def httpRepliedUptoCard : Claim7 := { stood := { row := httpRepliedUptoRow, standIns := [], harness := (true, "a05ce7366ab0a5eabdee6fc718a86d58279c592f7efad7233b33de59a61940b5"), looks := true }, kinds := [], alts := [], laidByText := true, laidKinds := [.data, .data, .data, .sentinel, .sentinel], laidTests := true, laidLooks := .later }
def HttpRepliedUptoCardSaid : Prop := Claim7.holds Tryd.pinned (.plain (OpenSpec.upto httpRepliedSpec)) httpRepliedUptoCard

/-- THE SECOND FORM's CARD OF 'ciceronelaw13.HttpBad'. -/
def httpBadUptoCard : Claim7 := { stood := { row := httpBadUptoRow, standIns := [], harness := (true, "a05ce7366ab0a5eabdee6fc718a86d58279c592f7efad7233b33de59a61940b5"), looks := true }, kinds := [], alts := [], laidByText := true, laidKinds := [.data, .data, .data, .data, .sentinel, .sentinel, .pinned], laidTests := true, laidLooks := .later }
def HttpBadUptoCardSaid : Prop := Claim7.holds Tryd.pinned (.plain (OpenSpec.upto httpBadSpec)) httpBadUptoCard

/-- THE SECOND FORM's CARD OF 'ciceronelaw13.HttpNobody'. -/
def httpNobodyUptoCard : Claim7 := { stood := { row := httpNobodyUptoRow, standIns := [], harness := (true, "a05ce7366ab0a5eabdee6fc718a86d58279c592f7efad7233b33de59a61940b5"), looks := true }, kinds := [], alts := [], laidByText := true, laidKinds := [.data, .data, .data, .data, .sentinel, .sentinel, .sentinel, .pinned], laidTests := true, laidLooks := .later }
def HttpNobodyUptoCardSaid : Prop := Claim7.holds Tryd.pinned (.plain (OpenSpec.upto httpNobodySpec)) httpNobodyUptoCard

/-- THE SECOND FORM's CARD OF 'ciceronelaw13.HttpWrites'. -/
def httpWritesUptoCard : Claim7 := { stood := { row := httpWritesUptoRow, standIns := [], harness := (true, "a05ce7366ab0a5eabdee6fc718a86d58279c592f7efad7233b33de59a61940b5"), looks := true }, kinds := [], alts := [], laidByText := true, laidKinds := [.data, .data, .data, .data, .sentinel, .sentinel, .sentinel, .pinned], laidTests := true, laidLooks := .later }
def HttpWritesUptoCardSaid : Prop := Claim7.holds Tryd.pinned (.plain (OpenSpec.upto httpWritesSpec)) httpWritesUptoCard

/-- THE SECOND FORM's CARD OF 'ciceronelaw13.HttpAsked'. -/
def httpAskedUptoCard : Claim7 := { stood := { row := httpAskedUptoRow, standIns := [], harness := (true, "a05ce7366ab0a5eabdee6fc718a86d58279c592f7efad7233b33de59a61940b5"), looks := true }, kinds := [], alts := [], laidByText := true, laidKinds := [.data, .data, .data, .data, .sentinel, .sentinel, .sentinel, .pinned], laidTests := true, laidLooks := .later }
def HttpAskedUptoCardSaid : Prop := Claim7.holds Tryd.pinned (.plain (OpenSpec.upto httpAskedSpec)) httpAskedUptoCard

/-- THE SECOND FORM's CARD OF 'ciceronelaw13.HttpCloses'. -/
def httpClosesUptoCard : Claim7 := { stood := { row := httpClosesUptoRow, standIns := [], harness := (true, "a05ce7366ab0a5eabdee6fc718a86d58279c592f7efad7233b33de59a61940b5"), looks := true }, kinds := [], alts := [], laidByText := true, laidKinds := [.data, .data, .data, .data, .sentinel, .sentinel, .sentinel, .pinned], laidTests := true, laidLooks := .later }
def HttpClosesUptoCardSaid : Prop := Claim7.holds Tryd.pinned (.plain (OpenSpec.upto httpClosesSpec)) httpClosesUptoCard
end Rows
end Go.Proofs.YtbjjimbnaicbfaaDoor
