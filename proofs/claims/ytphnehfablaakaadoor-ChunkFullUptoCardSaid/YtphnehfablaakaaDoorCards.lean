/-
  DERIVED. GIVEN WITH THE SEED: THE CARDS: each row of YtphnehfablaakaaDoorRows.lean that lists a variable, with what it lists TIED to the program's text (the seventh form; the later family's looks); each row that meets fmt, with fmt's text TOLD by the authors' own Lean function (tested against real Go, not proved from fmt's source: count such statements apart). THE CARD IS WHAT COUNTS. Prove the row's statement (the work); the ties are given (YtphnehfablaakaaDoorTie.lean); close each card by the builder's one call (the guide's Derived/Test/ToyasCard.lean, 'card_holds'). Laid BY PROGRAM, IN A SANDBOX (cutbox-door.mjs). By AI agents, Wed Nov 11 2026. No macro, syntax, notation, axiom, sorry.
-/
import Derived.Test.YtphnehfablaakaaDoorRows
import GoSem.ClaimSeven
namespace Go.Proofs.YtphnehfablaakaaDoor
namespace Rows

/-- THE TIED CARD OF 'ciceronelaw12.ChunkWrites'. -/
def chunkWritesCard : Claim7 := { stood := { row := chunkWritesRow, standIns := [], harness := (true, "346c0ddd063975b540564d542937196f57dfd83ba6a496eb7e1fa9bcb3e27d76"), looks := false }, kinds := [], alts := [], laidByText := true, laidKinds := [.sentinel], laidTests := true, laidLooks := .later }
def ChunkWritesCardSaid : Prop := Claim7.holds Tryd.pinned (.plain (OpenSpec.ofChange chunkWritesSpec)) chunkWritesCard

/-- THE TIED CARD OF 'ciceronelaw12.ChunkBack'. -/
def chunkBackCard : Claim7 := { stood := { row := chunkBackRow, standIns := [], harness := (true, "346c0ddd063975b540564d542937196f57dfd83ba6a496eb7e1fa9bcb3e27d76"), looks := false }, kinds := [], alts := [], laidByText := true, laidKinds := [.sentinel], laidTests := true, laidLooks := .later }
def ChunkBackCardSaid : Prop := Claim7.holds Tryd.pinned (.plain (OpenSpec.ofChange chunkBackSpec)) chunkBackCard

/-- THE TIED CARD OF 'ciceronelaw12.ChunkNobody'. -/
def chunkNobodyCard : Claim7 := { stood := { row := chunkNobodyRow, standIns := [], harness := (true, "346c0ddd063975b540564d542937196f57dfd83ba6a496eb7e1fa9bcb3e27d76"), looks := false }, kinds := [], alts := [], laidByText := true, laidKinds := [.sentinel], laidTests := true, laidLooks := .later }
def ChunkNobodyCardSaid : Prop := Claim7.holds Tryd.pinned (.plain (OpenSpec.ofChange chunkNobodySpec)) chunkNobodyCard

/-- THE TIED CARD OF 'ciceronelaw12.ChunkFull'. -/
def chunkFullCard : Claim7 := { stood := { row := chunkFullRow, standIns := [], harness := (true, "346c0ddd063975b540564d542937196f57dfd83ba6a496eb7e1fa9bcb3e27d76"), looks := false }, kinds := [], alts := [], laidByText := true, laidKinds := [.sentinel], laidTests := true, laidLooks := .later }
def ChunkFullCardSaid : Prop := Claim7.holds Tryd.pinned (.plain (OpenSpec.ofChange chunkFullSpec)) chunkFullCard

/-- THE SECOND FORM's CARD OF 'ciceronelaw12.ChunkWrites'. -/
def chunkWritesUptoCard : Claim7 := { stood := { row := chunkWritesUptoRow, standIns := [], harness := (true, "346c0ddd063975b540564d542937196f57dfd83ba6a496eb7e1fa9bcb3e27d76"), looks := false }, kinds := [], alts := [], laidByText := true, laidKinds := [.sentinel], laidTests := true, laidLooks := .later }
def ChunkWritesUptoCardSaid : Prop := Claim7.holds Tryd.pinned (.plain (OpenSpec.upto chunkWritesSpec)) chunkWritesUptoCard

/-- THE SECOND FORM's CARD OF 'ciceronelaw12.ChunkBack'. -/
def chunkBackUptoCard : Claim7 := { stood := { row := chunkBackUptoRow, standIns := [], harness := (true, "346c0ddd063975b540564d542937196f57dfd83ba6a496eb7e1fa9bcb3e27d76"), looks := false }, kinds := [], alts := [], laidByText := true, laidKinds := [.sentinel], laidTests := true, laidLooks := .later }
def ChunkBackUptoCardSaid : Prop := Claim7.holds Tryd.pinned (.plain (OpenSpec.upto chunkBackSpec)) chunkBackUptoCard

/-- THE SECOND FORM's CARD OF 'ciceronelaw12.ChunkNobody'. -/
def chunkNobodyUptoCard : Claim7 := { stood := { row := chunkNobodyUptoRow, standIns := [], harness := (true, "346c0ddd063975b540564d542937196f57dfd83ba6a496eb7e1fa9bcb3e27d76"), looks := false }, kinds := [], alts := [], laidByText := true, laidKinds := [.sentinel], laidTests := true, laidLooks := .later }
def ChunkNobodyUptoCardSaid : Prop := Claim7.holds Tryd.pinned (.plain (OpenSpec.upto chunkNobodySpec)) chunkNobodyUptoCard

/-- THE SECOND FORM's CARD OF 'ciceronelaw12.ChunkFull'. -/
def chunkFullUptoCard : Claim7 := { stood := { row := chunkFullUptoRow, standIns := [], harness := (true, "346c0ddd063975b540564d542937196f57dfd83ba6a496eb7e1fa9bcb3e27d76"), looks := false }, kinds := [], alts := [], laidByText := true, laidKinds := [.sentinel], laidTests := true, laidLooks := .later }
def ChunkFullUptoCardSaid : Prop := Claim7.holds Tryd.pinned (.plain (OpenSpec.upto chunkFullSpec)) chunkFullUptoCard
end Rows
end Go.Proofs.YtphnehfablaakaaDoor
