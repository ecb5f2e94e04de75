/-
  No cell of these rows narrows 'for every input' (looked for: loops, veiled, ifaces, maps, wideKeys, modest, calm, conditions, laid).
  DERIVED. THE GIVEN ROWS OF THIS SEAT. 12 by the template 'for every input the law returns true; each argument reads behind the call as it read before'; 0 by the template 'total and deterministic' (their statements: YtfkhngjkpjcdfaaTotals.lean).
  GIVEN WITH THE SEED: the statements are not yours to turn. If you find one false, say at which input.
  Laid BY PROGRAM, IN A SANDBOX (cutbox-rows.mjs): the forced cells as the released guide's own fill.sh prints them over the translation 0283318dc094b197… (all of the seat's roots in one cut). By AI agents, Wed Nov 11 2026. No macro, syntax, notation, axiom, sorry.
-/
import Derived.Test.YtfkhngjkpjcdfaaChecked
import GoSem.Claim
import GoSem.ClaimJoined
import GoSem.ClaimMapViews
import Derived.JoinedTies
import Derived.KernelRfl
namespace Go.Proofs.Ytfkhngjkpjcdfaa
/- THE CELL 'sum', in the pinned program and in every row, IS THE sha256 OF THE DUMP (.gsa) THAT YtfkhngjkpjcdfaaProg.lean LOADS. Nothing in Lean hashes anything: it is a label: what it is worth is what the hold of that sum in a sandbox is worth. -/
noncomputable def Try.pinned : Pinned := { name := "ytfkhngjkpjcdfaa", sum := "0283318dc094b1976cdbf6e9056faedd0b0c02dc9e4be00f5d20d66f30c3f545", checked := Try.checked }
namespace Rows
def none {H : Type} : Left H := { results := [], args := [] }

/-- 'laws.FnExactCountBranchesWith': WHATEVER THE INPUT: true; the input reads as it did. -/
def fnExactCountBranchesWithSpec : ChangeSpec := { name := "fnExactCountBranchesWith", fn := fun _ => fun
  | [d] => { results := [.lit (.bool true)], args := [d] }
  | _ => none }
def fnExactCountBranchesWithRow : OpenClaim := { program := "ytfkhngjkpjcdfaa", sum := "0283318dc094b1976cdbf6e9056faedd0b0c02dc9e4be00f5d20d66f30c3f545", func := "loop.example/g01140/laws.FnExactCountBranchesWith", spec := "fnExactCountBranchesWith", unfollowed := true, recurses := true, apart := false }
def FnExactCountBranchesWithSaid : Prop := fnExactCountBranchesWithRow.holds Try.pinned (OpenSpec.ofChange fnExactCountBranchesWithSpec)

/-- ITS FALSE NEIGHBOUR: 'it returns false'. Refute it at one input. -/
def fnExactCountBranchesWithWrong : ChangeSpec := { name := "fnExactCountBranchesWith", fn := fun _ => fun
  | [d] => { results := [.lit (.bool false)], args := [d] }
  | _ => none }
def FnExactCountBranchesWithWrongFalsely : Prop := fnExactCountBranchesWithRow.holds Try.pinned (OpenSpec.ofChange fnExactCountBranchesWithWrong)

/-- 'laws.FnExactAllBranches': WHATEVER THE INPUT: true; the input reads as it did. -/
def fnExactAllBranchesSpec : ChangeSpec := { name := "fnExactAllBranches", fn := fun _ => fun
  | [d] => { results := [.lit (.bool true)], args := [d] }
  | _ => none }
def fnExactAllBranchesRow : OpenClaim := { program := "ytfkhngjkpjcdfaa", sum := "0283318dc094b1976cdbf6e9056faedd0b0c02dc9e4be00f5d20d66f30c3f545", func := "loop.example/g01140/laws.FnExactAllBranches", spec := "fnExactAllBranches", unfollowed := true, recurses := true, apart := false }
def FnExactAllBranchesSaid : Prop := fnExactAllBranchesRow.holds Try.pinned (OpenSpec.ofChange fnExactAllBranchesSpec)

/-- ITS FALSE NEIGHBOUR: 'it returns false'. Refute it at one input. -/
def fnExactAllBranchesWrong : ChangeSpec := { name := "fnExactAllBranches", fn := fun _ => fun
  | [d] => { results := [.lit (.bool false)], args := [d] }
  | _ => none }
def FnExactAllBranchesWrongFalsely : Prop := fnExactAllBranchesRow.holds Try.pinned (OpenSpec.ofChange fnExactAllBranchesWrong)

/-- 'laws.FnExactBranchSpectrum': WHATEVER THE INPUT: true; the input reads as it did. -/
def fnExactBranchSpectrumSpec : ChangeSpec := { name := "fnExactBranchSpectrum", fn := fun _ => fun
  | [d] => { results := [.lit (.bool true)], args := [d] }
  | _ => none }
def fnExactBranchSpectrumRow : OpenClaim := { program := "ytfkhngjkpjcdfaa", sum := "0283318dc094b1976cdbf6e9056faedd0b0c02dc9e4be00f5d20d66f30c3f545", func := "loop.example/g01140/laws.FnExactBranchSpectrum", spec := "fnExactBranchSpectrum", recurses := true, apart := false }
def FnExactBranchSpectrumSaid : Prop := fnExactBranchSpectrumRow.holds Try.pinned (OpenSpec.ofChange fnExactBranchSpectrumSpec)

/-- ITS FALSE NEIGHBOUR: 'it returns false'. Refute it at one input. -/
def fnExactBranchSpectrumWrong : ChangeSpec := { name := "fnExactBranchSpectrum", fn := fun _ => fun
  | [d] => { results := [.lit (.bool false)], args := [d] }
  | _ => none }
def FnExactBranchSpectrumWrongFalsely : Prop := fnExactBranchSpectrumRow.holds Try.pinned (OpenSpec.ofChange fnExactBranchSpectrumWrong)

/-- 'laws.FnExactPlaceOfBranch': WHATEVER THE INPUT: true; the input reads as it did. -/
def fnExactPlaceOfBranchSpec : ChangeSpec := { name := "fnExactPlaceOfBranch", fn := fun _ => fun
  | [d] => { results := [.lit (.bool true)], args := [d] }
  | _ => none }
def fnExactPlaceOfBranchRow : OpenClaim := { program := "ytfkhngjkpjcdfaa", sum := "0283318dc094b1976cdbf6e9056faedd0b0c02dc9e4be00f5d20d66f30c3f545", func := "loop.example/g01140/laws.FnExactPlaceOfBranch", spec := "fnExactPlaceOfBranch", unfollowed := true, recurses := true, apart := false }
def FnExactPlaceOfBranchSaid : Prop := fnExactPlaceOfBranchRow.holds Try.pinned (OpenSpec.ofChange fnExactPlaceOfBranchSpec)

/-- ITS FALSE NEIGHBOUR: 'it returns false'. Refute it at one input. -/
def fnExactPlaceOfBranchWrong : ChangeSpec := { name := "fnExactPlaceOfBranch", fn := fun _ => fun
  | [d] => { results := [.lit (.bool false)], args := [d] }
  | _ => none }
def FnExactPlaceOfBranchWrongFalsely : Prop := fnExactPlaceOfBranchRow.holds Try.pinned (OpenSpec.ofChange fnExactPlaceOfBranchWrong)

/-- 'laws.FnExactSpliceWeights': WHATEVER THE INPUT: true; the input reads as it did. -/
def fnExactSpliceWeightsSpec : ChangeSpec := { name := "fnExactSpliceWeights", fn := fun _ => fun
  | [d1, d2] => { results := [.lit (.bool true)], args := [d1, d2] }
  | _ => none }
def fnExactSpliceWeightsRow : OpenClaim := { program := "ytfkhngjkpjcdfaa", sum := "0283318dc094b1976cdbf6e9056faedd0b0c02dc9e4be00f5d20d66f30c3f545", func := "loop.example/g01140/laws.FnExactSpliceWeights", spec := "fnExactSpliceWeights", unfollowed := true, recurses := true, apart := false }
def FnExactSpliceWeightsSaid : Prop := fnExactSpliceWeightsRow.holds Try.pinned (OpenSpec.ofChange fnExactSpliceWeightsSpec)

/-- ITS FALSE NEIGHBOUR: 'it returns false'. Refute it at one input. -/
def fnExactSpliceWeightsWrong : ChangeSpec := { name := "fnExactSpliceWeights", fn := fun _ => fun
  | [d1, d2] => { results := [.lit (.bool false)], args := [d1, d2] }
  | _ => none }
def FnExactSpliceWeightsWrongFalsely : Prop := fnExactSpliceWeightsRow.holds Try.pinned (OpenSpec.ofChange fnExactSpliceWeightsWrong)

/-- 'laws.FnExactLinkingNumber': WHATEVER THE INPUT: true; the input reads as it did. -/
def fnExactLinkingNumberSpec : ChangeSpec := { name := "fnExactLinkingNumber", fn := fun _ => fun
  | [d1, d2, d3] => { results := [.lit (.bool true)], args := [d1, d2, d3] }
  | _ => none }
def fnExactLinkingNumberRow : OpenClaim := { program := "ytfkhngjkpjcdfaa", sum := "0283318dc094b1976cdbf6e9056faedd0b0c02dc9e4be00f5d20d66f30c3f545", func := "loop.example/g01140/laws.FnExactLinkingNumber", spec := "fnExactLinkingNumber", recurses := true, apart := false }
def FnExactLinkingNumberSaid : Prop := fnExactLinkingNumberRow.holds Try.pinned (OpenSpec.ofChange fnExactLinkingNumberSpec)

/-- ITS FALSE NEIGHBOUR: 'it returns false'. Refute it at one input. -/
def fnExactLinkingNumberWrong : ChangeSpec := { name := "fnExactLinkingNumber", fn := fun _ => fun
  | [d1, d2, d3] => { results := [.lit (.bool false)], args := [d1, d2, d3] }
  | _ => none }
def FnExactLinkingNumberWrongFalsely : Prop := fnExactLinkingNumberRow.holds Try.pinned (OpenSpec.ofChange fnExactLinkingNumberWrong)

/-- 'laws.FnExactIsRationalGraph': WHATEVER THE INPUT: true; the input reads as it did. -/
def fnExactIsRationalGraphSpec : ChangeSpec := { name := "fnExactIsRationalGraph", fn := fun _ => fun
  | [d] => { results := [.lit (.bool true)], args := [d] }
  | _ => none }
def fnExactIsRationalGraphRow : OpenClaim := { program := "ytfkhngjkpjcdfaa", sum := "0283318dc094b1976cdbf6e9056faedd0b0c02dc9e4be00f5d20d66f30c3f545", func := "loop.example/g01140/laws.FnExactIsRationalGraph", spec := "fnExactIsRationalGraph", unfollowed := true, recurses := true, apart := false }
def FnExactIsRationalGraphSaid : Prop := fnExactIsRationalGraphRow.holds Try.pinned (OpenSpec.ofChange fnExactIsRationalGraphSpec)

/-- ITS FALSE NEIGHBOUR: 'it returns false'. Refute it at one input. -/
def fnExactIsRationalGraphWrong : ChangeSpec := { name := "fnExactIsRationalGraph", fn := fun _ => fun
  | [d] => { results := [.lit (.bool false)], args := [d] }
  | _ => none }
def FnExactIsRationalGraphWrongFalsely : Prop := fnExactIsRationalGraphRow.holds Try.pinned (OpenSpec.ofChange fnExactIsRationalGraphWrong)

/-- 'laws.FnExactFundamentalCycle': WHATEVER THE INPUT: true; the input reads as it did. -/
def fnExactFundamentalCycleSpec : ChangeSpec := { name := "fnExactFundamentalCycle", fn := fun _ => fun
  | [d] => { results := [.lit (.bool true)], args := [d] }
  | _ => none }
def fnExactFundamentalCycleRow : OpenClaim := { program := "ytfkhngjkpjcdfaa", sum := "0283318dc094b1976cdbf6e9056faedd0b0c02dc9e4be00f5d20d66f30c3f545", func := "loop.example/g01140/laws.FnExactFundamentalCycle", spec := "fnExactFundamentalCycle", unfollowed := true, recurses := true, apart := false }
def FnExactFundamentalCycleSaid : Prop := fnExactFundamentalCycleRow.holds Try.pinned (OpenSpec.ofChange fnExactFundamentalCycleSpec)

/-- ITS FALSE NEIGHBOUR: 'it returns false'. Refute it at one input. -/
def fnExactFundamentalCycleWrong : ChangeSpec := { name := "fnExactFundamentalCycle", fn := fun _ => fun
  | [d] => { results := [.lit (.bool false)], args := [d] }
  | _ => none }
def FnExactFundamentalCycleWrongFalsely : Prop := fnExactFundamentalCycleRow.holds Try.pinned (OpenSpec.ofChange fnExactFundamentalCycleWrong)

/-- 'laws.FnExactPathProduct': WHATEVER THE INPUT: true; the input reads as it did. -/
def fnExactPathProductSpec : ChangeSpec := { name := "fnExactPathProduct", fn := fun _ => fun
  | [d1, d2, d3] => { results := [.lit (.bool true)], args := [d1, d2, d3] }
  | _ => none }
def fnExactPathProductRow : OpenClaim := { program := "ytfkhngjkpjcdfaa", sum := "0283318dc094b1976cdbf6e9056faedd0b0c02dc9e4be00f5d20d66f30c3f545", func := "loop.example/g01140/laws.FnExactPathProduct", spec := "fnExactPathProduct", unfollowed := true, recurses := true, apart := false }
def FnExactPathProductSaid : Prop := fnExactPathProductRow.holds Try.pinned (OpenSpec.ofChange fnExactPathProductSpec)

/-- ITS FALSE NEIGHBOUR: 'it returns false'. Refute it at one input. -/
def fnExactPathProductWrong : ChangeSpec := { name := "fnExactPathProduct", fn := fun _ => fun
  | [d1, d2, d3] => { results := [.lit (.bool false)], args := [d1, d2, d3] }
  | _ => none }
def FnExactPathProductWrongFalsely : Prop := fnExactPathProductRow.holds Try.pinned (OpenSpec.ofChange fnExactPathProductWrong)

/-- 'laws.FnExactEdgeDeterminant': WHATEVER THE INPUT: true; the input reads as it did. -/
def fnExactEdgeDeterminantSpec : ChangeSpec := { name := "fnExactEdgeDeterminant", fn := fun _ => fun
  | [d1, d2, d3] => { results := [.lit (.bool true)], args := [d1, d2, d3] }
  | _ => none }
def fnExactEdgeDeterminantRow : OpenClaim := { program := "ytfkhngjkpjcdfaa", sum := "0283318dc094b1976cdbf6e9056faedd0b0c02dc9e4be00f5d20d66f30c3f545", func := "loop.example/g01140/laws.FnExactEdgeDeterminant", spec := "fnExactEdgeDeterminant", unfollowed := true, recurses := true, apart := false }
def FnExactEdgeDeterminantSaid : Prop := fnExactEdgeDeterminantRow.holds Try.pinned (OpenSpec.ofChange fnExactEdgeDeterminantSpec)

/-- ITS FALSE NEIGHBOUR: 'it returns false'. Refute it at one input. -/
def fnExactEdgeDeterminantWrong : ChangeSpec := { name := "fnExactEdgeDeterminant", fn := fun _ => fun
  | [d1, d2, d3] => { results := [.lit (.bool false)], args := [d1, d2, d3] }
  | _ => none }
def FnExactEdgeDeterminantWrongFalsely : Prop := fnExactEdgeDeterminantRow.holds Try.pinned (OpenSpec.ofChange fnExactEdgeDeterminantWrong)

/-- 'laws.FnExactLinkingMatrix': WHATEVER THE INPUT: true; the input reads as it did. -/
def fnExactLinkingMatrixSpec : ChangeSpec := { name := "fnExactLinkingMatrix", fn := fun _ => fun
  | [d] => { results := [.lit (.bool true)], args := [d] }
  | _ => none }
def fnExactLinkingMatrixRow : OpenClaim := { program := "ytfkhngjkpjcdfaa", sum := "0283318dc094b1976cdbf6e9056faedd0b0c02dc9e4be00f5d20d66f30c3f545", func := "loop.example/g01140/laws.FnExactLinkingMatrix", spec := "fnExactLinkingMatrix", recurses := true, apart := false }
def FnExactLinkingMatrixSaid : Prop := fnExactLinkingMatrixRow.holds Try.pinned (OpenSpec.ofChange fnExactLinkingMatrixSpec)

/-- ITS FALSE NEIGHBOUR: 'it returns false'. Refute it at one input. -/
def fnExactLinkingMatrixWrong : ChangeSpec := { name := "fnExactLinkingMatrix", fn := fun _ => fun
  | [d] => { results := [.lit (.bool false)], args := [d] }
  | _ => none }
def FnExactLinkingMatrixWrongFalsely : Prop := fnExactLinkingMatrixRow.holds Try.pinned (OpenSpec.ofChange fnExactLinkingMatrixWrong)

/-- 'laws.FnExactLinkedMultiplicities': WHATEVER THE INPUT: true; the input reads as it did. -/
def fnExactLinkedMultiplicitiesSpec : ChangeSpec := { name := "fnExactLinkedMultiplicities", fn := fun _ => fun
  | [d1, d2] => { results := [.lit (.bool true)], args := [d1, d2] }
  | _ => none }
def fnExactLinkedMultiplicitiesRow : OpenClaim := { program := "ytfkhngjkpjcdfaa", sum := "0283318dc094b1976cdbf6e9056faedd0b0c02dc9e4be00f5d20d66f30c3f545", func := "loop.example/g01140/laws.FnExactLinkedMultiplicities", spec := "fnExactLinkedMultiplicities", recurses := true, apart := false }
def FnExactLinkedMultiplicitiesSaid : Prop := fnExactLinkedMultiplicitiesRow.holds Try.pinned (OpenSpec.ofChange fnExactLinkedMultiplicitiesSpec)

/-- ITS FALSE NEIGHBOUR: 'it returns false'. Refute it at one input. -/
def fnExactLinkedMultiplicitiesWrong : ChangeSpec := { name := "fnExactLinkedMultiplicities", fn := fun _ => fun
  | [d1, d2] => { results := [.lit (.bool false)], args := [d1, d2] }
  | _ => none }
def FnExactLinkedMultiplicitiesWrongFalsely : Prop := fnExactLinkedMultiplicitiesRow.holds Try.pinned (OpenSpec.ofChange fnExactLinkedMultiplicitiesWrong)

/- THE SECOND FORM. 'bulk': how many values and letters a reading holds, each counted each time it is reached (what is shared counts as often as it is met; a slice's spare places count too). A statement '..UptoSaid' is the law's where the arguments, and the package variables that the reading takes, are together of bulk at most 1048576: NARROWER than '..Said'. Prove '..Said' where nothing that the law and all that it calls make is longer than what came in: it says more and counts as full. Else prove '..UptoSaid'. A law counts once. -/
mutual
def uptoBulk {H : Type} : DataW H → Nat
  | .lit (.string bytes) => bytes.length + 1
  | .lit _ => 1
  | .nil => 1
  | .ptr d => uptoBulk d + 1
  | .slice elems spare => uptoBulkAll elems + uptoBulkAll spare + 1
  | .agg parts => uptoBulkAll parts + 1
  | .iface _ d => uptoBulk d + 1
  | .map entries => uptoBulkEntries entries + 1
  | .held _ => 1
def uptoBulkAll {H : Type} : List (DataW H) → Nat
  | [] => 0
  | d :: r => uptoBulk d + uptoBulkAll r
def uptoBulkEntries {H : Type} : List (Lit × DataW H) → Nat
  | [] => 0
  | x :: r => uptoBulkEntry x + uptoBulkEntries r
def uptoBulkEntry {H : Type} : Lit × DataW H → Nat
  | (.string bytes, d) => bytes.length + uptoBulk d + 1
  | (_, d) => uptoBulk d + 1
 end
def uptoSmall : (H : Type) → List (DataW H) → Bool := fun _ ds => decide (uptoBulkAll ds ≤ 1048576)
def OpenSpec.upto (s : _root_.Go.ChangeSpec) : _root_.Go.OpenSpec := { _root_.Go.OpenSpec.ofChange s with cond := some uptoSmall }

/-- 'laws.FnExactCountBranchesWith', WHERE WHAT IT READS IS OF BULK AT MOST 1048576: true; the input reads as it did. -/
def fnExactCountBranchesWithUptoRow : OpenClaim := { program := "ytfkhngjkpjcdfaa", sum := "0283318dc094b1976cdbf6e9056faedd0b0c02dc9e4be00f5d20d66f30c3f545", func := "loop.example/g01140/laws.FnExactCountBranchesWith", spec := "fnExactCountBranchesWith", unfollowed := true, recurses := true, apart := false, narrowed := true }
def FnExactCountBranchesWithUptoSaid : Prop := fnExactCountBranchesWithUptoRow.holds Try.pinned (OpenSpec.upto fnExactCountBranchesWithSpec)

/-- 'laws.FnExactAllBranches', WHERE WHAT IT READS IS OF BULK AT MOST 1048576: true; the input reads as it did. -/
def fnExactAllBranchesUptoRow : OpenClaim := { program := "ytfkhngjkpjcdfaa", sum := "0283318dc094b1976cdbf6e9056faedd0b0c02dc9e4be00f5d20d66f30c3f545", func := "loop.example/g01140/laws.FnExactAllBranches", spec := "fnExactAllBranches", unfollowed := true, recurses := true, apart := false, narrowed := true }
def FnExactAllBranchesUptoSaid : Prop := fnExactAllBranchesUptoRow.holds Try.pinned (OpenSpec.upto fnExactAllBranchesSpec)

/-- 'laws.FnExactBranchSpectrum', WHERE WHAT IT READS IS OF BULK AT MOST 1048576: true; the input reads as it did. -/
def fnExactBranchSpectrumUptoRow : OpenClaim := { program := "ytfkhngjkpjcdfaa", sum := "0283318dc094b1976cdbf6e9056faedd0b0c02dc9e4be00f5d20d66f30c3f545", func := "loop.example/g01140/laws.FnExactBranchSpectrum", spec := "fnExactBranchSpectrum", recurses := true, apart := false, narrowed := true }
def FnExactBranchSpectrumUptoSaid : Prop := fnExactBranchSpectrumUptoRow.holds Try.pinned (OpenSpec.upto fnExactBranchSpectrumSpec)

/-- 'laws.FnExactPlaceOfBranch', WHERE WHAT IT READS IS OF BULK AT MOST 1048576: true; the input reads as it did. -/
def fnExactPlaceOfBranchUptoRow : OpenClaim := { program := "ytfkhngjkpjcdfaa", sum := "0283318dc094b1976cdbf6e9056faedd0b0c02dc9e4be00f5d20d66f30c3f545", func := "loop.example/g01140/laws.FnExactPlaceOfBranch", spec := "fnExactPlaceOfBranch", unfollowed := true, recurses := true, apart := false, narrowed := true }
def FnExactPlaceOfBranchUptoSaid : Prop := fnExactPlaceOfBranchUptoRow.holds Try.pinned (OpenSpec.upto fnExactPlaceOfBranchSpec)

/-- 'laws.FnExactSpliceWeights', WHERE WHAT IT READS IS OF BULK AT MOST 1048576: true; the input reads as it did. -/
def fnExactSpliceWeightsUptoRow : OpenClaim := { program := "ytfkhngjkpjcdfaa", sum := "0283318dc094b1976cdbf6e9056faedd0b0c02dc9e4be00f5d20d66f30c3f545", func := "loop.example/g01140/laws.FnExactSpliceWeights", spec := "fnExactSpliceWeights", unfollowed := true, recurses := true, apart := false, narrowed := true }
def FnExactSpliceWeightsUptoSaid : Prop := fnExactSpliceWeightsUptoRow.holds Try.pinned (OpenSpec.upto fnExactSpliceWeightsSpec)

/-- 'laws.FnExactLinkingNumber', WHERE WHAT IT READS IS OF BULK AT MOST 1048576: true; the input reads as it did. -/
def fnExactLinkingNumberUptoRow : OpenClaim := { program := "ytfkhngjkpjcdfaa", sum := "0283318dc094b1976cdbf6e9056faedd0b0c02dc9e4be00f5d20d66f30c3f545", func := "loop.example/g01140/laws.FnExactLinkingNumber", spec := "fnExactLinkingNumber", recurses := true, apart := false, narrowed := true }
def FnExactLinkingNumberUptoSaid : Prop := fnExactLinkingNumberUptoRow.holds Try.pinned (OpenSpec.upto fnExactLinkingNumberSpec)

/-- 'laws.FnExactIsRationalGraph', WHERE WHAT IT READS IS OF BULK AT MOST 1048576: true; the input reads as it did. -/
def fnExactIsRationalGraphUptoRow : OpenClaim := { program := "ytfkhngjkpjcdfaa", sum := "0283318dc094b1976cdbf6e9056faedd0b0c02dc9e4be00f5d20d66f30c3f545", func := "loop.example/g01140/laws.FnExactIsRationalGraph", spec := "fnExactIsRationalGraph", unfollowed := true, recurses := true, apart := false, narrowed := true }
def FnExactIsRationalGraphUptoSaid : Prop := fnExactIsRationalGraphUptoRow.holds Try.pinned (OpenSpec.upto fnExactIsRationalGraphSpec)

/-- 'laws.FnExactFundamentalCycle', WHERE WHAT IT READS IS OF BULK AT MOST 1048576: true; the input reads as it did. -/
def fnExactFundamentalCycleUptoRow : OpenClaim := { program := "ytfkhngjkpjcdfaa", sum := "0283318dc094b1976cdbf6e9056faedd0b0c02dc9e4be00f5d20d66f30c3f545", func := "loop.example/g01140/laws.FnExactFundamentalCycle", spec := "fnExactFundamentalCycle", unfollowed := true, recurses := true, apart := false, narrowed := true }
def FnExactFundamentalCycleUptoSaid : Prop := fnExactFundamentalCycleUptoRow.holds Try.pinned (OpenSpec.upto fnExactFundamentalCycleSpec)

/-- 'laws.FnExactPathProduct', WHERE WHAT IT READS IS OF BULK AT MOST 1048576: true; the input reads as it did. -/
def fnExactPathProductUptoRow : OpenClaim := { program := "ytfkhngjkpjcdfaa", sum := "0283318dc094b1976cdbf6e9056faedd0b0c02dc9e4be00f5d20d66f30c3f545", func := "loop.example/g01140/laws.FnExactPathProduct", spec := "fnExactPathProduct", unfollowed := true, recurses := true, apart := false, narrowed := true }
def FnExactPathProductUptoSaid : Prop := fnExactPathProductUptoRow.holds Try.pinned (OpenSpec.upto fnExactPathProductSpec)

/-- 'laws.FnExactEdgeDeterminant', WHERE WHAT IT READS IS OF BULK AT MOST 1048576: true; the input reads as it did. -/
def fnExactEdgeDeterminantUptoRow : OpenClaim := { program := "ytfkhngjkpjcdfaa", sum := "0283318dc094b1976cdbf6e9056faedd0b0c02dc9e4be00f5d20d66f30c3f545", func := "loop.example/g01140/laws.FnExactEdgeDeterminant", spec := "fnExactEdgeDeterminant", unfollowed := true, recurses := true, apart := false, narrowed := true }
def FnExactEdgeDeterminantUptoSaid : Prop := fnExactEdgeDeterminantUptoRow.holds Try.pinned (OpenSpec.upto fnExactEdgeDeterminantSpec)

/-- 'laws.FnExactLinkingMatrix', WHERE WHAT IT READS IS OF BULK AT MOST 1048576: true; the input reads as it did. -/
def fnExactLinkingMatrixUptoRow : OpenClaim := { program := "ytfkhngjkpjcdfaa", sum := "0283318dc094b1976cdbf6e9056faedd0b0c02dc9e4be00f5d20d66f30c3f545", func := "loop.example/g01140/laws.FnExactLinkingMatrix", spec := "fnExactLinkingMatrix", recurses := true, apart := false, narrowed := true }
def FnExactLinkingMatrixUptoSaid : Prop := fnExactLinkingMatrixUptoRow.holds Try.pinned (OpenSpec.upto fnExactLinkingMatrixSpec)

/-- 'laws.FnExactLinkedMultiplicities', WHERE WHAT IT READS IS OF BULK AT MOST 1048576: true; the input reads as it did. -/
def fnExactLinkedMultiplicitiesUptoRow : OpenClaim := { program := "ytfkhngjkpjcdfaa", sum := "0283318dc094b1976cdbf6e9056faedd0b0c02dc9e4be00f5d20d66f30c3f545", func := "loop.example/g01140/laws.FnExactLinkedMultiplicities", spec := "fnExactLinkedMultiplicities", recurses := true, apart := false, narrowed := true }
def FnExactLinkedMultiplicitiesUptoSaid : Prop := fnExactLinkedMultiplicitiesUptoRow.holds Try.pinned (OpenSpec.upto fnExactLinkedMultiplicitiesSpec)

end Rows
end Go.Proofs.Ytfkhngjkpjcdfaa
