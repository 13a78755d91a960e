/-
  NARROWER THAN 'FOR EVERY INPUT', by the rows' own cells (each row's printed sentence says how): ChunkWrites: laid · ChunkBack: laid · ChunkNobody: laid · ChunkFull: laid.
  DERIVED. THE GIVEN ROWS OF THIS SEAT. 4 by the template 'for every input the law returns true; each argument reads behind the call as it read before'; 0 by the template 'total and deterministic' (their statements: YtphnehfablaakaaDoorTotals.lean).
  GIVEN WITH THE SEED: the statements are not yours to turn. If you find one false, say at which input.
  Laid BY PROGRAM, IN A SANDBOX (cutbox-rows.mjs): the forced cells as the released guide's own fill.sh prints them over the translation 15ad63a34b7173b1… (all of the seat's roots in one cut). By AI agents, Wed Nov 11 2026. No macro, syntax, notation, axiom, sorry.
-/
import Derived.Test.YtphnehfablaakaaDoorChecked
import GoSem.Claim
import GoSem.ClaimJoined
import GoSem.ClaimMapViews
import Derived.JoinedTies
import Derived.KernelRfl
namespace Go.Proofs.YtphnehfablaakaaDoor
/- THE CELL 'sum', in the pinned program and in every row, IS THE sha256 OF THE DUMP (.gsa) THAT YtphnehfablaakaaDoorProg.lean LOADS. Nothing in Lean hashes anything: it is a label: what it is worth is what the hold of that sum in a sandbox is worth. -/
noncomputable def Tryd.pinned : Pinned := { name := "ytphnehfablaakaadoor", sum := "15ad63a34b7173b18729a9ca21f82a0bbd15b20d4a2332c29501657ab68f9b92", checked := Tryd.checked }
namespace Rows
def none {H : Type} : Left H := { results := [], args := [] }

/- WHAT THE LISTED PACKAGE-LEVEL VARIABLES READ AS WHEN THE CALL BEGINS. Each datum BY PROGRAM (the guide's laid-datum.mjs) off the statement by which the dump's own 'gosem.cut.vars' lays the variable. In a bare row this is a premise. The card (YtphnehfablaakaaDoorCards.lean) ties it to the program's text. -/
def laid_bytes_ErrTooLarge {H : Type} : DataW H := .iface "*errors.errorString" (.ptr (.agg [.lit (.string [98, 121, 116, 101, 115, 46, 66, 117, 102, 102, 101, 114, 58, 32, 116, 111, 111, 32, 108, 97, 114, 103, 101])]))

/-- 'ciceronelaw12.ChunkWrites': WHATEVER THE INPUT: true; the input reads as it did. -/
def chunkWritesSpec : ChangeSpec := { name := "chunkWrites", fn := fun _ => fun
  | [d1, d2] => { results := [.lit (.bool true)], args := [d1, d2] }
  | _ => none }
def chunkWritesRow : OpenClaim := { program := "ytphnehfablaakaadoor", sum := "15ad63a34b7173b18729a9ca21f82a0bbd15b20d4a2332c29501657ab68f9b92", func := "cicerone/ciceronelaw12.ChunkWrites", spec := "chunkWrites", recurses := true, named := ["bytes.ErrTooLarge"], apart := false, laid := [("bytes.ErrTooLarge", laid_bytes_ErrTooLarge)] }
def ChunkWritesSaid : Prop := chunkWritesRow.holds Tryd.pinned (OpenSpec.ofChange chunkWritesSpec)

/-- ITS FALSE NEIGHBOUR: 'it returns false'. Refute it at one input. -/
def chunkWritesWrong : ChangeSpec := { name := "chunkWrites", fn := fun _ => fun
  | [d1, d2] => { results := [.lit (.bool false)], args := [d1, d2] }
  | _ => none }
def ChunkWritesWrongFalsely : Prop := chunkWritesRow.holds Tryd.pinned (OpenSpec.ofChange chunkWritesWrong)

/-- 'ciceronelaw12.ChunkBack': WHATEVER THE INPUT: true; the input reads as it did. -/
def chunkBackSpec : ChangeSpec := { name := "chunkBack", fn := fun _ => fun
  | [d1, d2, d3, d4] => { results := [.lit (.bool true)], args := [d1, d2, d3, d4] }
  | _ => none }
def chunkBackRow : OpenClaim := { program := "ytphnehfablaakaadoor", sum := "15ad63a34b7173b18729a9ca21f82a0bbd15b20d4a2332c29501657ab68f9b92", func := "cicerone/ciceronelaw12.ChunkBack", spec := "chunkBack", inPlace := ["internal/bytealg.IndexByteString"], named := ["bytes.ErrTooLarge"], apart := false, laid := [("bytes.ErrTooLarge", laid_bytes_ErrTooLarge)] }
def ChunkBackSaid : Prop := chunkBackRow.holds Tryd.pinned (OpenSpec.ofChange chunkBackSpec)

/-- ITS FALSE NEIGHBOUR: 'it returns false'. Refute it at one input. -/
def chunkBackWrong : ChangeSpec := { name := "chunkBack", fn := fun _ => fun
  | [d1, d2, d3, d4] => { results := [.lit (.bool false)], args := [d1, d2, d3, d4] }
  | _ => none }
def ChunkBackWrongFalsely : Prop := chunkBackRow.holds Tryd.pinned (OpenSpec.ofChange chunkBackWrong)

/-- 'ciceronelaw12.ChunkNobody': WHATEVER THE INPUT: true; the input reads as it did. -/
def chunkNobodySpec : ChangeSpec := { name := "chunkNobody", fn := fun _ => fun
  | [d] => { results := [.lit (.bool true)], args := [d] }
  | _ => none }
def chunkNobodyRow : OpenClaim := { program := "ytphnehfablaakaadoor", sum := "15ad63a34b7173b18729a9ca21f82a0bbd15b20d4a2332c29501657ab68f9b92", func := "cicerone/ciceronelaw12.ChunkNobody", spec := "chunkNobody", inPlace := ["internal/bytealg.IndexByteString"], named := ["bytes.ErrTooLarge"], apart := false, laid := [("bytes.ErrTooLarge", laid_bytes_ErrTooLarge)] }
def ChunkNobodySaid : Prop := chunkNobodyRow.holds Tryd.pinned (OpenSpec.ofChange chunkNobodySpec)

/-- ITS FALSE NEIGHBOUR: 'it returns false'. Refute it at one input. -/
def chunkNobodyWrong : ChangeSpec := { name := "chunkNobody", fn := fun _ => fun
  | [d] => { results := [.lit (.bool false)], args := [d] }
  | _ => none }
def ChunkNobodyWrongFalsely : Prop := chunkNobodyRow.holds Tryd.pinned (OpenSpec.ofChange chunkNobodyWrong)

/-- 'ciceronelaw12.ChunkFull': WHATEVER THE INPUT: true; the input reads as it did. -/
def chunkFullSpec : ChangeSpec := { name := "chunkFull", fn := fun _ => fun
  | [d1, d2, d3] => { results := [.lit (.bool true)], args := [d1, d2, d3] }
  | _ => none }
def chunkFullRow : OpenClaim := { program := "ytphnehfablaakaadoor", sum := "15ad63a34b7173b18729a9ca21f82a0bbd15b20d4a2332c29501657ab68f9b92", func := "cicerone/ciceronelaw12.ChunkFull", spec := "chunkFull", inPlace := ["internal/bytealg.IndexByteString"], named := ["bytes.ErrTooLarge"], apart := false, laid := [("bytes.ErrTooLarge", laid_bytes_ErrTooLarge)] }
def ChunkFullSaid : Prop := chunkFullRow.holds Tryd.pinned (OpenSpec.ofChange chunkFullSpec)

/-- ITS FALSE NEIGHBOUR: 'it returns false'. Refute it at one input. -/
def chunkFullWrong : ChangeSpec := { name := "chunkFull", fn := fun _ => fun
  | [d1, d2, d3] => { results := [.lit (.bool false)], args := [d1, d2, d3] }
  | _ => none }
def ChunkFullWrongFalsely : Prop := chunkFullRow.holds Tryd.pinned (OpenSpec.ofChange chunkFullWrong)

/- THE SECOND FORM. 'bulk': how many values and letters a reading holds, each counted each time it is reached (what is shared counts as often as it is met; a slice's spare places count too). A statement '..UptoSaid' is the law's where the arguments, and the package variables that the reading takes, are together of bulk at most 1048576: NARROWER than '..Said'. Prove '..Said' where nothing that the law and all that it calls make is longer than what came in: it says more and counts as full. Else prove '..UptoSaid'. A law counts once. -/
mutual
def uptoBulk {H : Type} : DataW H → Nat
  | .lit (.string bytes) => bytes.length + 1
  | .lit _ => 1
  | .nil => 1
  | .ptr d => uptoBulk d + 1
  | .slice elems spare => uptoBulkAll elems + uptoBulkAll spare + 1
  | .agg parts => uptoBulkAll parts + 1
  | .iface _ d => uptoBulk d + 1
  | .map entries => uptoBulkEntries entries + 1
  | .held _ => 1
def uptoBulkAll {H : Type} : List (DataW H) → Nat
  | [] => 0
  | d :: r => uptoBulk d + uptoBulkAll r
def uptoBulkEntries {H : Type} : List (Lit × DataW H) → Nat
  | [] => 0
  | x :: r => uptoBulkEntry x + uptoBulkEntries r
def uptoBulkEntry {H : Type} : Lit × DataW H → Nat
  | (.string bytes, d) => bytes.length + uptoBulk d + 1
  | (_, d) => uptoBulk d + 1
 end
def uptoSmall : (H : Type) → List (DataW H) → Bool := fun _ ds => decide (uptoBulkAll ds ≤ 1048576)
def OpenSpec.upto (s : _root_.Go.ChangeSpec) : _root_.Go.OpenSpec := { _root_.Go.OpenSpec.ofChange s with cond := some uptoSmall }

/-- 'ciceronelaw12.ChunkWrites', WHERE WHAT IT READS IS OF BULK AT MOST 1048576: true; the input reads as it did. -/
def chunkWritesUptoRow : OpenClaim := { program := "ytphnehfablaakaadoor", sum := "15ad63a34b7173b18729a9ca21f82a0bbd15b20d4a2332c29501657ab68f9b92", func := "cicerone/ciceronelaw12.ChunkWrites", spec := "chunkWrites", recurses := true, named := ["bytes.ErrTooLarge"], apart := false, laid := [("bytes.ErrTooLarge", laid_bytes_ErrTooLarge)], narrowed := true }
def ChunkWritesUptoSaid : Prop := chunkWritesUptoRow.holds Tryd.pinned (OpenSpec.upto chunkWritesSpec)

/-- 'ciceronelaw12.ChunkBack', WHERE WHAT IT READS IS OF BULK AT MOST 1048576: true; the input reads as it did. -/
def chunkBackUptoRow : OpenClaim := { program := "ytphnehfablaakaadoor", sum := "15ad63a34b7173b18729a9ca21f82a0bbd15b20d4a2332c29501657ab68f9b92", func := "cicerone/ciceronelaw12.ChunkBack", spec := "chunkBack", inPlace := ["internal/bytealg.IndexByteString"], named := ["bytes.ErrTooLarge"], apart := false, laid := [("bytes.ErrTooLarge", laid_bytes_ErrTooLarge)], narrowed := true }
def ChunkBackUptoSaid : Prop := chunkBackUptoRow.holds Tryd.pinned (OpenSpec.upto chunkBackSpec)

/-- 'ciceronelaw12.ChunkNobody', WHERE WHAT IT READS IS OF BULK AT MOST 1048576: true; the input reads as it did. -/
def chunkNobodyUptoRow : OpenClaim := { program := "ytphnehfablaakaadoor", sum := "15ad63a34b7173b18729a9ca21f82a0bbd15b20d4a2332c29501657ab68f9b92", func := "cicerone/ciceronelaw12.ChunkNobody", spec := "chunkNobody", inPlace := ["internal/bytealg.IndexByteString"], named := ["bytes.ErrTooLarge"], apart := false, laid := [("bytes.ErrTooLarge", laid_bytes_ErrTooLarge)], narrowed := true }
def ChunkNobodyUptoSaid : Prop := chunkNobodyUptoRow.holds Tryd.pinned (OpenSpec.upto chunkNobodySpec)

/-- 'ciceronelaw12.ChunkFull', WHERE WHAT IT READS IS OF BULK AT MOST 1048576: true; the input reads as it did. -/
def chunkFullUptoRow : OpenClaim := { program := "ytphnehfablaakaadoor", sum := "15ad63a34b7173b18729a9ca21f82a0bbd15b20d4a2332c29501657ab68f9b92", func := "cicerone/ciceronelaw12.ChunkFull", spec := "chunkFull", inPlace := ["internal/bytealg.IndexByteString"], named := ["bytes.ErrTooLarge"], apart := false, laid := [("bytes.ErrTooLarge", laid_bytes_ErrTooLarge)], narrowed := true }
def ChunkFullUptoSaid : Prop := chunkFullUptoRow.holds Tryd.pinned (OpenSpec.upto chunkFullSpec)

end Rows
end Go.Proofs.YtphnehfablaakaaDoor
