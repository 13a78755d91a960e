/-
  No cell of these rows narrows 'for every input' (looked for: loops, veiled, ifaces, maps, wideKeys, modest, calm, conditions, laid).
  DERIVED. THE GIVEN ROWS OF THIS SEAT. 6 by the template 'for every input the law returns true; each argument reads behind the call as it read before'; 0 by the template 'total and deterministic' (their statements: YtphnehfablaakaaTotals.lean).
  GIVEN WITH THE SEED: the statements are not yours to turn. If you find one false, say at which input.
  Laid BY PROGRAM, IN A SANDBOX (cutbox-rows.mjs): the forced cells as the released guide's own fill.sh prints them over the translation a16e9b4f73b3749d… (all of the seat's roots in one cut). By AI agents, Wed Nov 11 2026. No macro, syntax, notation, axiom, sorry.
-/
import Derived.Test.YtphnehfablaakaaChecked
import GoSem.Claim
import GoSem.ClaimJoined
import GoSem.ClaimMapViews
import Derived.JoinedTies
import Derived.KernelRfl
namespace Go.Proofs.Ytphnehfablaakaa
/- THE CELL 'sum', in the pinned program and in every row, IS THE sha256 OF THE DUMP (.gsa) THAT YtphnehfablaakaaProg.lean LOADS. Nothing in Lean hashes anything: it is a label: what it is worth is what the hold of that sum in a sandbox is worth. -/
noncomputable def Try.pinned : Pinned := { name := "ytphnehfablaakaa", sum := "a16e9b4f73b3749d6d36ff545d3bb25a700db5a49e4ca8516fb9794458d2655a", checked := Try.checked }
namespace Rows
def none {H : Type} : Left H := { results := [], args := [] }

/-- 'ciceronelaw16.RateDraws': WHATEVER THE INPUT: true; the input reads as it did. -/
def rateDrawsSpec : ChangeSpec := { name := "rateDraws", fn := fun _ => fun
  | [d1, d2] => { results := [.lit (.bool true)], args := [d1, d2] }
  | _ => none }
def rateDrawsRow : OpenClaim := { program := "ytphnehfablaakaa", sum := "a16e9b4f73b3749d6d36ff545d3bb25a700db5a49e4ca8516fb9794458d2655a", func := "cicerone/ciceronelaw16.RateDraws", spec := "rateDraws", apart := false }
def RateDrawsSaid : Prop := rateDrawsRow.holds Try.pinned (OpenSpec.ofChange rateDrawsSpec)

/-- ITS FALSE NEIGHBOUR: 'it returns false'. Refute it at one input. -/
def rateDrawsWrong : ChangeSpec := { name := "rateDraws", fn := fun _ => fun
  | [d1, d2] => { results := [.lit (.bool false)], args := [d1, d2] }
  | _ => none }
def RateDrawsWrongFalsely : Prop := rateDrawsRow.holds Try.pinned (OpenSpec.ofChange rateDrawsWrong)

/-- 'ciceronelaw16.RateBounds': WHATEVER THE INPUT: true; the input reads as it did. -/
def rateBoundsSpec : ChangeSpec := { name := "rateBounds", fn := fun _ => fun
  | [d1, d2] => { results := [.lit (.bool true)], args := [d1, d2] }
  | _ => none }
def rateBoundsRow : OpenClaim := { program := "ytphnehfablaakaa", sum := "a16e9b4f73b3749d6d36ff545d3bb25a700db5a49e4ca8516fb9794458d2655a", func := "cicerone/ciceronelaw16.RateBounds", spec := "rateBounds", apart := false }
def RateBoundsSaid : Prop := rateBoundsRow.holds Try.pinned (OpenSpec.ofChange rateBoundsSpec)

/-- ITS FALSE NEIGHBOUR: 'it returns false'. Refute it at one input. -/
def rateBoundsWrong : ChangeSpec := { name := "rateBounds", fn := fun _ => fun
  | [d1, d2] => { results := [.lit (.bool false)], args := [d1, d2] }
  | _ => none }
def RateBoundsWrongFalsely : Prop := rateBoundsRow.holds Try.pinned (OpenSpec.ofChange rateBoundsWrong)

/-- 'ciceronelaw16.RateLives': WHATEVER THE INPUT: true; the input reads as it did. -/
def rateLivesSpec : ChangeSpec := { name := "rateLives", fn := fun _ => fun
  | [d1, d2, d3] => { results := [.lit (.bool true)], args := [d1, d2, d3] }
  | _ => none }
def rateLivesRow : OpenClaim := { program := "ytphnehfablaakaa", sum := "a16e9b4f73b3749d6d36ff545d3bb25a700db5a49e4ca8516fb9794458d2655a", func := "cicerone/ciceronelaw16.RateLives", spec := "rateLives", apart := false }
def RateLivesSaid : Prop := rateLivesRow.holds Try.pinned (OpenSpec.ofChange rateLivesSpec)

/-- ITS FALSE NEIGHBOUR: 'it returns false'. Refute it at one input. -/
def rateLivesWrong : ChangeSpec := { name := "rateLives", fn := fun _ => fun
  | [d1, d2, d3] => { results := [.lit (.bool false)], args := [d1, d2, d3] }
  | _ => none }
def RateLivesWrongFalsely : Prop := rateLivesRow.holds Try.pinned (OpenSpec.ofChange rateLivesWrong)

/-- 'ciceronelaw16.RateNobody': WHATEVER THE INPUT: true; the input reads as it did. -/
def rateNobodySpec : ChangeSpec := { name := "rateNobody", fn := fun _ => fun
  | [d] => { results := [.lit (.bool true)], args := [d] }
  | _ => none }
def rateNobodyRow : OpenClaim := { program := "ytphnehfablaakaa", sum := "a16e9b4f73b3749d6d36ff545d3bb25a700db5a49e4ca8516fb9794458d2655a", func := "cicerone/ciceronelaw16.RateNobody", spec := "rateNobody", apart := false }
def RateNobodySaid : Prop := rateNobodyRow.holds Try.pinned (OpenSpec.ofChange rateNobodySpec)

/-- ITS FALSE NEIGHBOUR: 'it returns false'. Refute it at one input. -/
def rateNobodyWrong : ChangeSpec := { name := "rateNobody", fn := fun _ => fun
  | [d] => { results := [.lit (.bool false)], args := [d] }
  | _ => none }
def RateNobodyWrongFalsely : Prop := rateNobodyRow.holds Try.pinned (OpenSpec.ofChange rateNobodyWrong)

/-- 'ciceronelaw16.RateBest': WHATEVER THE INPUT: true; the input reads as it did. -/
def rateBestSpec : ChangeSpec := { name := "rateBest", fn := fun _ => fun
  | [d1, d2, d3] => { results := [.lit (.bool true)], args := [d1, d2, d3] }
  | _ => none }
def rateBestRow : OpenClaim := { program := "ytphnehfablaakaa", sum := "a16e9b4f73b3749d6d36ff545d3bb25a700db5a49e4ca8516fb9794458d2655a", func := "cicerone/ciceronelaw16.RateBest", spec := "rateBest", apart := false }
def RateBestSaid : Prop := rateBestRow.holds Try.pinned (OpenSpec.ofChange rateBestSpec)

/-- ITS FALSE NEIGHBOUR: 'it returns false'. Refute it at one input. -/
def rateBestWrong : ChangeSpec := { name := "rateBest", fn := fun _ => fun
  | [d1, d2, d3] => { results := [.lit (.bool false)], args := [d1, d2, d3] }
  | _ => none }
def RateBestWrongFalsely : Prop := rateBestRow.holds Try.pinned (OpenSpec.ofChange rateBestWrong)

/-- 'ciceronelaw12.ChunkLives': WHATEVER THE INPUT: true; the input reads as it did. -/
def chunkLivesSpec : ChangeSpec := { name := "chunkLives", fn := fun _ => fun
  | [d1, d2] => { results := [.lit (.bool true)], args := [d1, d2] }
  | _ => none }
def chunkLivesRow : OpenClaim := { program := "ytphnehfablaakaa", sum := "a16e9b4f73b3749d6d36ff545d3bb25a700db5a49e4ca8516fb9794458d2655a", func := "cicerone/ciceronelaw12.ChunkLives", spec := "chunkLives", inPlace := ["internal/bytealg.IndexByteString"], apart := false }
def ChunkLivesSaid : Prop := chunkLivesRow.holds Try.pinned (OpenSpec.ofChange chunkLivesSpec)

/-- ITS FALSE NEIGHBOUR: 'it returns false'. Refute it at one input. -/
def chunkLivesWrong : ChangeSpec := { name := "chunkLives", fn := fun _ => fun
  | [d1, d2] => { results := [.lit (.bool false)], args := [d1, d2] }
  | _ => none }
def ChunkLivesWrongFalsely : Prop := chunkLivesRow.holds Try.pinned (OpenSpec.ofChange chunkLivesWrong)

/- THE SECOND FORM. 'bulk': how many values and letters a reading holds, each counted each time it is reached (what is shared counts as often as it is met; a slice's spare places count too). A statement '..UptoSaid' is the law's where the arguments, and the package variables that the reading takes, are together of bulk at most 1048576: NARROWER than '..Said'. Prove '..Said' where nothing that the law and all that it calls make is longer than what came in: it says more and counts as full. Else prove '..UptoSaid'. A law counts once. -/
mutual
def uptoBulk {H : Type} : DataW H → Nat
  | .lit (.string bytes) => bytes.length + 1
  | .lit _ => 1
  | .nil => 1
  | .ptr d => uptoBulk d + 1
  | .slice elems spare => uptoBulkAll elems + uptoBulkAll spare + 1
  | .agg parts => uptoBulkAll parts + 1
  | .iface _ d => uptoBulk d + 1
  | .map entries => uptoBulkEntries entries + 1
  | .held _ => 1
def uptoBulkAll {H : Type} : List (DataW H) → Nat
  | [] => 0
  | d :: r => uptoBulk d + uptoBulkAll r
def uptoBulkEntries {H : Type} : List (Lit × DataW H) → Nat
  | [] => 0
  | x :: r => uptoBulkEntry x + uptoBulkEntries r
def uptoBulkEntry {H : Type} : Lit × DataW H → Nat
  | (.string bytes, d) => bytes.length + uptoBulk d + 1
  | (_, d) => uptoBulk d + 1
 end
def uptoSmall : (H : Type) → List (DataW H) → Bool := fun _ ds => decide (uptoBulkAll ds ≤ 1048576)
def OpenSpec.upto (s : _root_.Go.ChangeSpec) : _root_.Go.OpenSpec := { _root_.Go.OpenSpec.ofChange s with cond := some uptoSmall }

/-- 'ciceronelaw16.RateDraws', WHERE WHAT IT READS IS OF BULK AT MOST 1048576: true; the input reads as it did. -/
def rateDrawsUptoRow : OpenClaim := { program := "ytphnehfablaakaa", sum := "a16e9b4f73b3749d6d36ff545d3bb25a700db5a49e4ca8516fb9794458d2655a", func := "cicerone/ciceronelaw16.RateDraws", spec := "rateDraws", apart := false, narrowed := true }
def RateDrawsUptoSaid : Prop := rateDrawsUptoRow.holds Try.pinned (OpenSpec.upto rateDrawsSpec)

/-- 'ciceronelaw16.RateBounds', WHERE WHAT IT READS IS OF BULK AT MOST 1048576: true; the input reads as it did. -/
def rateBoundsUptoRow : OpenClaim := { program := "ytphnehfablaakaa", sum := "a16e9b4f73b3749d6d36ff545d3bb25a700db5a49e4ca8516fb9794458d2655a", func := "cicerone/ciceronelaw16.RateBounds", spec := "rateBounds", apart := false, narrowed := true }
def RateBoundsUptoSaid : Prop := rateBoundsUptoRow.holds Try.pinned (OpenSpec.upto rateBoundsSpec)

/-- 'ciceronelaw16.RateLives', WHERE WHAT IT READS IS OF BULK AT MOST 1048576: true; the input reads as it did. -/
def rateLivesUptoRow : OpenClaim := { program := "ytphnehfablaakaa", sum := "a16e9b4f73b3749d6d36ff545d3bb25a700db5a49e4ca8516fb9794458d2655a", func := "cicerone/ciceronelaw16.RateLives", spec := "rateLives", apart := false, narrowed := true }
def RateLivesUptoSaid : Prop := rateLivesUptoRow.holds Try.pinned (OpenSpec.upto rateLivesSpec)

/-- 'ciceronelaw16.RateNobody', WHERE WHAT IT READS IS OF BULK AT MOST 1048576: true; the input reads as it did. -/
def rateNobodyUptoRow : OpenClaim := { program := "ytphnehfablaakaa", sum := "a16e9b4f73b3749d6d36ff545d3bb25a700db5a49e4ca8516fb9794458d2655a", func := "cicerone/ciceronelaw16.RateNobody", spec := "rateNobody", apart := false, narrowed := true }
def RateNobodyUptoSaid : Prop := rateNobodyUptoRow.holds Try.pinned (OpenSpec.upto rateNobodySpec)

/-- 'ciceronelaw16.RateBest', WHERE WHAT IT READS IS OF BULK AT MOST 1048576: true; the input reads as it did. -/
def rateBestUptoRow : OpenClaim := { program := "ytphnehfablaakaa", sum := "a16e9b4f73b3749d6d36ff545d3bb25a700db5a49e4ca8516fb9794458d2655a", func := "cicerone/ciceronelaw16.RateBest", spec := "rateBest", apart := false, narrowed := true }
def RateBestUptoSaid : Prop := rateBestUptoRow.holds Try.pinned (OpenSpec.upto rateBestSpec)

/-- 'ciceronelaw12.ChunkLives', WHERE WHAT IT READS IS OF BULK AT MOST 1048576: true; the input reads as it did. -/
def chunkLivesUptoRow : OpenClaim := { program := "ytphnehfablaakaa", sum := "a16e9b4f73b3749d6d36ff545d3bb25a700db5a49e4ca8516fb9794458d2655a", func := "cicerone/ciceronelaw12.ChunkLives", spec := "chunkLives", inPlace := ["internal/bytealg.IndexByteString"], apart := false, narrowed := true }
def ChunkLivesUptoSaid : Prop := chunkLivesUptoRow.holds Try.pinned (OpenSpec.upto chunkLivesSpec)

end Rows
end Go.Proofs.Ytphnehfablaakaa
