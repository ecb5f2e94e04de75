/-
  No cell of these rows narrows 'for every input' (looked for: loops, veiled, ifaces, maps, wideKeys, modest, calm, conditions, laid).
  DERIVED. THE GIVEN ROWS OF THIS SEAT. 12 by the template 'for every input the law returns true; each argument reads behind the call as it read before'; 0 by the template 'total and deterministic' (their statements: YtnkdoilpofboeaaTotals.lean).
  GIVEN WITH THE SEED: the statements are not yours to turn. If you find one false, say at which input.
  Laid BY PROGRAM, IN A SANDBOX (cutbox-rows.mjs): the forced cells as the released guide's own fill.sh prints them over the translation 263b607565f3bb68… (all of the seat's roots in one cut). By AI agents, Wed Nov 11 2026. No macro, syntax, notation, axiom, sorry.
-/
import Derived.Test.YtnkdoilpofboeaaChecked
import GoSem.Claim
import GoSem.ClaimJoined
import GoSem.ClaimMapViews
import Derived.JoinedTies
import Derived.KernelRfl
namespace Go.Proofs.Ytnkdoilpofboeaa
/- THE CELL 'sum', in the pinned program and in every row, IS THE sha256 OF THE DUMP (.gsa) THAT YtnkdoilpofboeaaProg.lean LOADS. Nothing in Lean hashes anything: it is a label: what it is worth is what the hold of that sum in a sandbox is worth. -/
noncomputable def Try.pinned : Pinned := { name := "ytnkdoilpofboeaa", sum := "263b607565f3bb680741aa3a6b49fb83fdc8965fe72a1e260d2ae0213c12d520", checked := Try.checked }
namespace Rows
def none {H : Type} : Left H := { results := [], args := [] }

/-- 'laws.FnExactCountCodes': WHATEVER THE INPUT: true; the input reads as it did. -/
def fnExactCountCodesSpec : ChangeSpec := { name := "fnExactCountCodes", fn := fun _ => fun
  | [d] => { results := [.lit (.bool true)], args := [d] }
  | _ => none }
def fnExactCountCodesRow : OpenClaim := { program := "ytnkdoilpofboeaa", sum := "263b607565f3bb680741aa3a6b49fb83fdc8965fe72a1e260d2ae0213c12d520", func := "loop.example/g01140/laws.FnExactCountCodes", spec := "fnExactCountCodes", apart := false }
def FnExactCountCodesSaid : Prop := fnExactCountCodesRow.holds Try.pinned (OpenSpec.ofChange fnExactCountCodesSpec)

/-- ITS FALSE NEIGHBOUR: 'it returns false'. Refute it at one input. -/
def fnExactCountCodesWrong : ChangeSpec := { name := "fnExactCountCodes", fn := fun _ => fun
  | [d] => { results := [.lit (.bool false)], args := [d] }
  | _ => none }
def FnExactCountCodesWrongFalsely : Prop := fnExactCountCodesRow.holds Try.pinned (OpenSpec.ofChange fnExactCountCodesWrong)

/-- 'laws.FnExactIsSpectrum': WHATEVER THE INPUT: true; the input reads as it did. -/
def fnExactIsSpectrumSpec : ChangeSpec := { name := "fnExactIsSpectrum", fn := fun _ => fun
  | [d] => { results := [.lit (.bool true)], args := [d] }
  | _ => none }
def fnExactIsSpectrumRow : OpenClaim := { program := "ytnkdoilpofboeaa", sum := "263b607565f3bb680741aa3a6b49fb83fdc8965fe72a1e260d2ae0213c12d520", func := "loop.example/g01140/laws.FnExactIsSpectrum", spec := "fnExactIsSpectrum", apart := false }
def FnExactIsSpectrumSaid : Prop := fnExactIsSpectrumRow.holds Try.pinned (OpenSpec.ofChange fnExactIsSpectrumSpec)

/-- ITS FALSE NEIGHBOUR: 'it returns false'. Refute it at one input. -/
def fnExactIsSpectrumWrong : ChangeSpec := { name := "fnExactIsSpectrum", fn := fun _ => fun
  | [d] => { results := [.lit (.bool false)], args := [d] }
  | _ => none }
def FnExactIsSpectrumWrongFalsely : Prop := fnExactIsSpectrumRow.holds Try.pinned (OpenSpec.ofChange fnExactIsSpectrumWrong)

/-- 'laws.FnExactGenusOfSpectrum': WHATEVER THE INPUT: true; the input reads as it did. -/
def fnExactGenusOfSpectrumSpec : ChangeSpec := { name := "fnExactGenusOfSpectrum", fn := fun _ => fun
  | [d] => { results := [.lit (.bool true)], args := [d] }
  | _ => none }
def fnExactGenusOfSpectrumRow : OpenClaim := { program := "ytnkdoilpofboeaa", sum := "263b607565f3bb680741aa3a6b49fb83fdc8965fe72a1e260d2ae0213c12d520", func := "loop.example/g01140/laws.FnExactGenusOfSpectrum", spec := "fnExactGenusOfSpectrum", apart := false }
def FnExactGenusOfSpectrumSaid : Prop := fnExactGenusOfSpectrumRow.holds Try.pinned (OpenSpec.ofChange fnExactGenusOfSpectrumSpec)

/-- ITS FALSE NEIGHBOUR: 'it returns false'. Refute it at one input. -/
def fnExactGenusOfSpectrumWrong : ChangeSpec := { name := "fnExactGenusOfSpectrum", fn := fun _ => fun
  | [d] => { results := [.lit (.bool false)], args := [d] }
  | _ => none }
def FnExactGenusOfSpectrumWrongFalsely : Prop := fnExactGenusOfSpectrumRow.holds Try.pinned (OpenSpec.ofChange fnExactGenusOfSpectrumWrong)

/-- 'laws.FnExactAllCodes': WHATEVER THE INPUT: true; the input reads as it did. -/
def fnExactAllCodesSpec : ChangeSpec := { name := "fnExactAllCodes", fn := fun _ => fun
  | [d] => { results := [.lit (.bool true)], args := [d] }
  | _ => none }
def fnExactAllCodesRow : OpenClaim := { program := "ytnkdoilpofboeaa", sum := "263b607565f3bb680741aa3a6b49fb83fdc8965fe72a1e260d2ae0213c12d520", func := "loop.example/g01140/laws.FnExactAllCodes", spec := "fnExactAllCodes", recurses := true, apart := false }
def FnExactAllCodesSaid : Prop := fnExactAllCodesRow.holds Try.pinned (OpenSpec.ofChange fnExactAllCodesSpec)

/-- ITS FALSE NEIGHBOUR: 'it returns false'. Refute it at one input. -/
def fnExactAllCodesWrong : ChangeSpec := { name := "fnExactAllCodes", fn := fun _ => fun
  | [d] => { results := [.lit (.bool false)], args := [d] }
  | _ => none }
def FnExactAllCodesWrongFalsely : Prop := fnExactAllCodesRow.holds Try.pinned (OpenSpec.ofChange fnExactAllCodesWrong)

/-- 'laws.FnExactIsSymmetricSpectrum': WHATEVER THE INPUT: true; the input reads as it did. -/
def fnExactIsSymmetricSpectrumSpec : ChangeSpec := { name := "fnExactIsSymmetricSpectrum", fn := fun _ => fun
  | [d] => { results := [.lit (.bool true)], args := [d] }
  | _ => none }
def fnExactIsSymmetricSpectrumRow : OpenClaim := { program := "ytnkdoilpofboeaa", sum := "263b607565f3bb680741aa3a6b49fb83fdc8965fe72a1e260d2ae0213c12d520", func := "loop.example/g01140/laws.FnExactIsSymmetricSpectrum", spec := "fnExactIsSymmetricSpectrum", apart := false }
def FnExactIsSymmetricSpectrumSaid : Prop := fnExactIsSymmetricSpectrumRow.holds Try.pinned (OpenSpec.ofChange fnExactIsSymmetricSpectrumSpec)

/-- ITS FALSE NEIGHBOUR: 'it returns false'. Refute it at one input. -/
def fnExactIsSymmetricSpectrumWrong : ChangeSpec := { name := "fnExactIsSymmetricSpectrum", fn := fun _ => fun
  | [d] => { results := [.lit (.bool false)], args := [d] }
  | _ => none }
def FnExactIsSymmetricSpectrumWrongFalsely : Prop := fnExactIsSymmetricSpectrumRow.holds Try.pinned (OpenSpec.ofChange fnExactIsSymmetricSpectrumWrong)

/-- 'laws.FnExactCountBelow': WHATEVER THE INPUT: true; the input reads as it did. -/
def fnExactCountBelowSpec : ChangeSpec := { name := "fnExactCountBelow", fn := fun _ => fun
  | [d1, d2, d3] => { results := [.lit (.bool true)], args := [d1, d2, d3] }
  | _ => none }
def fnExactCountBelowRow : OpenClaim := { program := "ytnkdoilpofboeaa", sum := "263b607565f3bb680741aa3a6b49fb83fdc8965fe72a1e260d2ae0213c12d520", func := "loop.example/g01140/laws.FnExactCountBelow", spec := "fnExactCountBelow", apart := false }
def FnExactCountBelowSaid : Prop := fnExactCountBelowRow.holds Try.pinned (OpenSpec.ofChange fnExactCountBelowSpec)

/-- ITS FALSE NEIGHBOUR: 'it returns false'. Refute it at one input. -/
def fnExactCountBelowWrong : ChangeSpec := { name := "fnExactCountBelow", fn := fun _ => fun
  | [d1, d2, d3] => { results := [.lit (.bool false)], args := [d1, d2, d3] }
  | _ => none }
def FnExactCountBelowWrongFalsely : Prop := fnExactCountBelowRow.holds Try.pinned (OpenSpec.ofChange fnExactCountBelowWrong)

/-- 'laws.FnExactMultiplicityIn': WHATEVER THE INPUT: true; the input reads as it did. -/
def fnExactMultiplicityInSpec : ChangeSpec := { name := "fnExactMultiplicityIn", fn := fun _ => fun
  | [d1, d2, d3] => { results := [.lit (.bool true)], args := [d1, d2, d3] }
  | _ => none }
def fnExactMultiplicityInRow : OpenClaim := { program := "ytnkdoilpofboeaa", sum := "263b607565f3bb680741aa3a6b49fb83fdc8965fe72a1e260d2ae0213c12d520", func := "loop.example/g01140/laws.FnExactMultiplicityIn", spec := "fnExactMultiplicityIn", apart := false }
def FnExactMultiplicityInSaid : Prop := fnExactMultiplicityInRow.holds Try.pinned (OpenSpec.ofChange fnExactMultiplicityInSpec)

/-- ITS FALSE NEIGHBOUR: 'it returns false'. Refute it at one input. -/
def fnExactMultiplicityInWrong : ChangeSpec := { name := "fnExactMultiplicityIn", fn := fun _ => fun
  | [d1, d2, d3] => { results := [.lit (.bool false)], args := [d1, d2, d3] }
  | _ => none }
def FnExactMultiplicityInWrongFalsely : Prop := fnExactMultiplicityInRow.holds Try.pinned (OpenSpec.ofChange fnExactMultiplicityInWrong)

/-- 'laws.FnExactBranchesWithin': WHATEVER THE INPUT: true; the input reads as it did. -/
def fnExactBranchesWithinSpec : ChangeSpec := { name := "fnExactBranchesWithin", fn := fun _ => fun
  | [d1, d2] => { results := [.lit (.bool true)], args := [d1, d2] }
  | _ => none }
def fnExactBranchesWithinRow : OpenClaim := { program := "ytnkdoilpofboeaa", sum := "263b607565f3bb680741aa3a6b49fb83fdc8965fe72a1e260d2ae0213c12d520", func := "loop.example/g01140/laws.FnExactBranchesWithin", spec := "fnExactBranchesWithin", recurses := true, apart := false }
def FnExactBranchesWithinSaid : Prop := fnExactBranchesWithinRow.holds Try.pinned (OpenSpec.ofChange fnExactBranchesWithinSpec)

/-- ITS FALSE NEIGHBOUR: 'it returns false'. Refute it at one input. -/
def fnExactBranchesWithinWrong : ChangeSpec := { name := "fnExactBranchesWithin", fn := fun _ => fun
  | [d1, d2] => { results := [.lit (.bool false)], args := [d1, d2] }
  | _ => none }
def FnExactBranchesWithinWrongFalsely : Prop := fnExactBranchesWithinRow.holds Try.pinned (OpenSpec.ofChange fnExactBranchesWithinWrong)

/-- 'laws.FnCodes': WHATEVER THE INPUT: true; the input reads as it did. -/
def fnCodesSpec : ChangeSpec := { name := "fnCodes", fn := fun _ => fun
  | [d] => { results := [.lit (.bool true)], args := [d] }
  | _ => none }
def fnCodesRow : OpenClaim := { program := "ytnkdoilpofboeaa", sum := "263b607565f3bb680741aa3a6b49fb83fdc8965fe72a1e260d2ae0213c12d520", func := "loop.example/g01140/laws.FnCodes", spec := "fnCodes", recurses := true, apart := false }
def FnCodesSaid : Prop := fnCodesRow.holds Try.pinned (OpenSpec.ofChange fnCodesSpec)

/-- ITS FALSE NEIGHBOUR: 'it returns false'. Refute it at one input. -/
def fnCodesWrong : ChangeSpec := { name := "fnCodes", fn := fun _ => fun
  | [d] => { results := [.lit (.bool false)], args := [d] }
  | _ => none }
def FnCodesWrongFalsely : Prop := fnCodesRow.holds Try.pinned (OpenSpec.ofChange fnCodesWrong)

/-- 'laws.FnExactEigenvalueOrders': WHATEVER THE INPUT: true; the input reads as it did. -/
def fnExactEigenvalueOrdersSpec : ChangeSpec := { name := "fnExactEigenvalueOrders", fn := fun _ => fun
  | [d] => { results := [.lit (.bool true)], args := [d] }
  | _ => none }
def fnExactEigenvalueOrdersRow : OpenClaim := { program := "ytnkdoilpofboeaa", sum := "263b607565f3bb680741aa3a6b49fb83fdc8965fe72a1e260d2ae0213c12d520", func := "loop.example/g01140/laws.FnExactEigenvalueOrders", spec := "fnExactEigenvalueOrders", inPlace := ["slices.overlaps[[]int64]"], unfollowed := true, recurses := true, apart := false }
def FnExactEigenvalueOrdersSaid : Prop := fnExactEigenvalueOrdersRow.holds Try.pinned (OpenSpec.ofChange fnExactEigenvalueOrdersSpec)

/-- ITS FALSE NEIGHBOUR: 'it returns false'. Refute it at one input. -/
def fnExactEigenvalueOrdersWrong : ChangeSpec := { name := "fnExactEigenvalueOrders", fn := fun _ => fun
  | [d] => { results := [.lit (.bool false)], args := [d] }
  | _ => none }
def FnExactEigenvalueOrdersWrongFalsely : Prop := fnExactEigenvalueOrdersRow.holds Try.pinned (OpenSpec.ofChange fnExactEigenvalueOrdersWrong)

/-- 'laws.FnExactCurveOfName': WHATEVER THE INPUT: true; the input reads as it did. -/
def fnExactCurveOfNameSpec : ChangeSpec := { name := "fnExactCurveOfName", fn := fun _ => fun
  | [d] => { results := [.lit (.bool true)], args := [d] }
  | _ => none }
def fnExactCurveOfNameRow : OpenClaim := { program := "ytnkdoilpofboeaa", sum := "263b607565f3bb680741aa3a6b49fb83fdc8965fe72a1e260d2ae0213c12d520", func := "loop.example/g01140/laws.FnExactCurveOfName", spec := "fnExactCurveOfName", recurses := true, apart := false }
def FnExactCurveOfNameSaid : Prop := fnExactCurveOfNameRow.holds Try.pinned (OpenSpec.ofChange fnExactCurveOfNameSpec)

/-- ITS FALSE NEIGHBOUR: 'it returns false'. Refute it at one input. -/
def fnExactCurveOfNameWrong : ChangeSpec := { name := "fnExactCurveOfName", fn := fun _ => fun
  | [d] => { results := [.lit (.bool false)], args := [d] }
  | _ => none }
def FnExactCurveOfNameWrongFalsely : Prop := fnExactCurveOfNameRow.holds Try.pinned (OpenSpec.ofChange fnExactCurveOfNameWrong)

/-- 'laws.FnExactPowerSpectrum': WHATEVER THE INPUT: true; the input reads as it did. -/
def fnExactPowerSpectrumSpec : ChangeSpec := { name := "fnExactPowerSpectrum", fn := fun _ => fun
  | [d1, d2] => { results := [.lit (.bool true)], args := [d1, d2] }
  | _ => none }
def fnExactPowerSpectrumRow : OpenClaim := { program := "ytnkdoilpofboeaa", sum := "263b607565f3bb680741aa3a6b49fb83fdc8965fe72a1e260d2ae0213c12d520", func := "loop.example/g01140/laws.FnExactPowerSpectrum", spec := "fnExactPowerSpectrum", recurses := true, apart := false }
def FnExactPowerSpectrumSaid : Prop := fnExactPowerSpectrumRow.holds Try.pinned (OpenSpec.ofChange fnExactPowerSpectrumSpec)

/-- ITS FALSE NEIGHBOUR: 'it returns false'. Refute it at one input. -/
def fnExactPowerSpectrumWrong : ChangeSpec := { name := "fnExactPowerSpectrum", fn := fun _ => fun
  | [d1, d2] => { results := [.lit (.bool false)], args := [d1, d2] }
  | _ => none }
def FnExactPowerSpectrumWrongFalsely : Prop := fnExactPowerSpectrumRow.holds Try.pinned (OpenSpec.ofChange fnExactPowerSpectrumWrong)

/- THE SECOND FORM. 'bulk': how many values and letters a reading holds, each counted each time it is reached (what is shared counts as often as it is met; a slice's spare places count too). A statement '..UptoSaid' is the law's where the arguments, and the package variables that the reading takes, are together of bulk at most 1048576: NARROWER than '..Said'. Prove '..Said' where nothing that the law and all that it calls make is longer than what came in: it says more and counts as full. Else prove '..UptoSaid'. A law counts once. -/
mutual
def uptoBulk {H : Type} : DataW H → Nat
  | .lit (.string bytes) => bytes.length + 1
  | .lit _ => 1
  | .nil => 1
  | .ptr d => uptoBulk d + 1
  | .slice elems spare => uptoBulkAll elems + uptoBulkAll spare + 1
  | .agg parts => uptoBulkAll parts + 1
  | .iface _ d => uptoBulk d + 1
  | .map entries => uptoBulkEntries entries + 1
  | .held _ => 1
def uptoBulkAll {H : Type} : List (DataW H) → Nat
  | [] => 0
  | d :: r => uptoBulk d + uptoBulkAll r
def uptoBulkEntries {H : Type} : List (Lit × DataW H) → Nat
  | [] => 0
  | x :: r => uptoBulkEntry x + uptoBulkEntries r
def uptoBulkEntry {H : Type} : Lit × DataW H → Nat
  | (.string bytes, d) => bytes.length + uptoBulk d + 1
  | (_, d) => uptoBulk d + 1
 end
def uptoSmall : (H : Type) → List (DataW H) → Bool := fun _ ds => decide (uptoBulkAll ds ≤ 1048576)
def OpenSpec.upto (s : _root_.Go.ChangeSpec) : _root_.Go.OpenSpec := { _root_.Go.OpenSpec.ofChange s with cond := some uptoSmall }

/-- 'laws.FnExactCountCodes', WHERE WHAT IT READS IS OF BULK AT MOST 1048576: true; the input reads as it did. -/
def fnExactCountCodesUptoRow : OpenClaim := { program := "ytnkdoilpofboeaa", sum := "263b607565f3bb680741aa3a6b49fb83fdc8965fe72a1e260d2ae0213c12d520", func := "loop.example/g01140/laws.FnExactCountCodes", spec := "fnExactCountCodes", apart := false, narrowed := true }
def FnExactCountCodesUptoSaid : Prop := fnExactCountCodesUptoRow.holds Try.pinned (OpenSpec.upto fnExactCountCodesSpec)

/-- 'laws.FnExactIsSpectrum', WHERE WHAT IT READS IS OF BULK AT MOST 1048576: true; the input reads as it did. -/
def fnExactIsSpectrumUptoRow : OpenClaim := { program := "ytnkdoilpofboeaa", sum := "263b607565f3bb680741aa3a6b49fb83fdc8965fe72a1e260d2ae0213c12d520", func := "loop.example/g01140/laws.FnExactIsSpectrum", spec := "fnExactIsSpectrum", apart := false, narrowed := true }
def FnExactIsSpectrumUptoSaid : Prop := fnExactIsSpectrumUptoRow.holds Try.pinned (OpenSpec.upto fnExactIsSpectrumSpec)

/-- 'laws.FnExactGenusOfSpectrum', WHERE WHAT IT READS IS OF BULK AT MOST 1048576: true; the input reads as it did. -/
def fnExactGenusOfSpectrumUptoRow : OpenClaim := { program := "ytnkdoilpofboeaa", sum := "263b607565f3bb680741aa3a6b49fb83fdc8965fe72a1e260d2ae0213c12d520", func := "loop.example/g01140/laws.FnExactGenusOfSpectrum", spec := "fnExactGenusOfSpectrum", apart := false, narrowed := true }
def FnExactGenusOfSpectrumUptoSaid : Prop := fnExactGenusOfSpectrumUptoRow.holds Try.pinned (OpenSpec.upto fnExactGenusOfSpectrumSpec)

/-- 'laws.FnExactAllCodes', WHERE WHAT IT READS IS OF BULK AT MOST 1048576: true; the input reads as it did. -/
def fnExactAllCodesUptoRow : OpenClaim := { program := "ytnkdoilpofboeaa", sum := "263b607565f3bb680741aa3a6b49fb83fdc8965fe72a1e260d2ae0213c12d520", func := "loop.example/g01140/laws.FnExactAllCodes", spec := "fnExactAllCodes", recurses := true, apart := false, narrowed := true }
def FnExactAllCodesUptoSaid : Prop := fnExactAllCodesUptoRow.holds Try.pinned (OpenSpec.upto fnExactAllCodesSpec)

/-- 'laws.FnExactIsSymmetricSpectrum', WHERE WHAT IT READS IS OF BULK AT MOST 1048576: true; the input reads as it did. -/
def fnExactIsSymmetricSpectrumUptoRow : OpenClaim := { program := "ytnkdoilpofboeaa", sum := "263b607565f3bb680741aa3a6b49fb83fdc8965fe72a1e260d2ae0213c12d520", func := "loop.example/g01140/laws.FnExactIsSymmetricSpectrum", spec := "fnExactIsSymmetricSpectrum", apart := false, narrowed := true }
def FnExactIsSymmetricSpectrumUptoSaid : Prop := fnExactIsSymmetricSpectrumUptoRow.holds Try.pinned (OpenSpec.upto fnExactIsSymmetricSpectrumSpec)

/-- 'laws.FnExactCountBelow', WHERE WHAT IT READS IS OF BULK AT MOST 1048576: true; the input reads as it did. -/
def fnExactCountBelowUptoRow : OpenClaim := { program := "ytnkdoilpofboeaa", sum := "263b607565f3bb680741aa3a6b49fb83fdc8965fe72a1e260d2ae0213c12d520", func := "loop.example/g01140/laws.FnExactCountBelow", spec := "fnExactCountBelow", apart := false, narrowed := true }
def FnExactCountBelowUptoSaid : Prop := fnExactCountBelowUptoRow.holds Try.pinned (OpenSpec.upto fnExactCountBelowSpec)

/-- 'laws.FnExactMultiplicityIn', WHERE WHAT IT READS IS OF BULK AT MOST 1048576: true; the input reads as it did. -/
def fnExactMultiplicityInUptoRow : OpenClaim := { program := "ytnkdoilpofboeaa", sum := "263b607565f3bb680741aa3a6b49fb83fdc8965fe72a1e260d2ae0213c12d520", func := "loop.example/g01140/laws.FnExactMultiplicityIn", spec := "fnExactMultiplicityIn", apart := false, narrowed := true }
def FnExactMultiplicityInUptoSaid : Prop := fnExactMultiplicityInUptoRow.holds Try.pinned (OpenSpec.upto fnExactMultiplicityInSpec)

/-- 'laws.FnExactBranchesWithin', WHERE WHAT IT READS IS OF BULK AT MOST 1048576: true; the input reads as it did. -/
def fnExactBranchesWithinUptoRow : OpenClaim := { program := "ytnkdoilpofboeaa", sum := "263b607565f3bb680741aa3a6b49fb83fdc8965fe72a1e260d2ae0213c12d520", func := "loop.example/g01140/laws.FnExactBranchesWithin", spec := "fnExactBranchesWithin", recurses := true, apart := false, narrowed := true }
def FnExactBranchesWithinUptoSaid : Prop := fnExactBranchesWithinUptoRow.holds Try.pinned (OpenSpec.upto fnExactBranchesWithinSpec)

/-- 'laws.FnCodes', WHERE WHAT IT READS IS OF BULK AT MOST 1048576: true; the input reads as it did. -/
def fnCodesUptoRow : OpenClaim := { program := "ytnkdoilpofboeaa", sum := "263b607565f3bb680741aa3a6b49fb83fdc8965fe72a1e260d2ae0213c12d520", func := "loop.example/g01140/laws.FnCodes", spec := "fnCodes", recurses := true, apart := false, narrowed := true }
def FnCodesUptoSaid : Prop := fnCodesUptoRow.holds Try.pinned (OpenSpec.upto fnCodesSpec)

/-- 'laws.FnExactEigenvalueOrders', WHERE WHAT IT READS IS OF BULK AT MOST 1048576: true; the input reads as it did. -/
def fnExactEigenvalueOrdersUptoRow : OpenClaim := { program := "ytnkdoilpofboeaa", sum := "263b607565f3bb680741aa3a6b49fb83fdc8965fe72a1e260d2ae0213c12d520", func := "loop.example/g01140/laws.FnExactEigenvalueOrders", spec := "fnExactEigenvalueOrders", inPlace := ["slices.overlaps[[]int64]"], unfollowed := true, recurses := true, apart := false, narrowed := true }
def FnExactEigenvalueOrdersUptoSaid : Prop := fnExactEigenvalueOrdersUptoRow.holds Try.pinned (OpenSpec.upto fnExactEigenvalueOrdersSpec)

/-- 'laws.FnExactCurveOfName', WHERE WHAT IT READS IS OF BULK AT MOST 1048576: true; the input reads as it did. -/
def fnExactCurveOfNameUptoRow : OpenClaim := { program := "ytnkdoilpofboeaa", sum := "263b607565f3bb680741aa3a6b49fb83fdc8965fe72a1e260d2ae0213c12d520", func := "loop.example/g01140/laws.FnExactCurveOfName", spec := "fnExactCurveOfName", recurses := true, apart := false, narrowed := true }
def FnExactCurveOfNameUptoSaid : Prop := fnExactCurveOfNameUptoRow.holds Try.pinned (OpenSpec.upto fnExactCurveOfNameSpec)

/-- 'laws.FnExactPowerSpectrum', WHERE WHAT IT READS IS OF BULK AT MOST 1048576: true; the input reads as it did. -/
def fnExactPowerSpectrumUptoRow : OpenClaim := { program := "ytnkdoilpofboeaa", sum := "263b607565f3bb680741aa3a6b49fb83fdc8965fe72a1e260d2ae0213c12d520", func := "loop.example/g01140/laws.FnExactPowerSpectrum", spec := "fnExactPowerSpectrum", recurses := true, apart := false, narrowed := true }
def FnExactPowerSpectrumUptoSaid : Prop := fnExactPowerSpectrumUptoRow.holds Try.pinned (OpenSpec.upto fnExactPowerSpectrumSpec)

end Rows
end Go.Proofs.Ytnkdoilpofboeaa
