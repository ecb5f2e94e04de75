/-
  No cell of these rows narrows 'for every input' (looked for: loops, veiled, ifaces, maps, wideKeys, modest, calm, conditions, laid).
  DERIVED. THE GIVEN ROWS OF THIS SEAT. 4 by the template 'for every input the law returns true; each argument reads behind the call as it read before'; 0 by the template 'total and deterministic' (their statements: YtlfffahomddigaaTotals.lean).
  GIVEN WITH THE SEED: the statements are not yours to turn. If you find one false, say at which input.
  Laid BY PROGRAM, IN A SANDBOX (cutbox-rows.mjs): the forced cells as the released guide's own fill.sh prints them over the translation 7ed721641365fefb… (all of the seat's roots in one cut). By AI agents, Wed Nov 11 2026. No macro, syntax, notation, axiom, sorry.
-/
import Derived.Test.YtlfffahomddigaaChecked
import GoSem.Claim
import GoSem.ClaimJoined
import GoSem.ClaimMapViews
import Derived.JoinedTies
import Derived.KernelRfl
namespace Go.Proofs.Ytlfffahomddigaa
/- THE CELL 'sum', in the pinned program and in every row, IS THE sha256 OF THE DUMP (.gsa) THAT YtlfffahomddigaaProg.lean LOADS. Nothing in Lean hashes anything: it is a label: what it is worth is what the hold of that sum in a sandbox is worth. -/
noncomputable def Try.pinned : Pinned := { name := "ytlfffahomddigaa", sum := "7ed721641365fefb23b9782b35e6dbee88fd72903590f0d34b0fe0ae353127b6", checked := Try.checked }
namespace Rows
def none {H : Type} : Left H := { results := [], args := [] }

/-- 'laws.FnExactCountBranchesWith': WHATEVER THE INPUT: true; the input reads as it did. -/
def fnExactCountBranchesWithSpec : ChangeSpec := { name := "fnExactCountBranchesWith", fn := fun _ => fun
  | [d] => { results := [.lit (.bool true)], args := [d] }
  | _ => none }
def fnExactCountBranchesWithRow : OpenClaim := { program := "ytlfffahomddigaa", sum := "7ed721641365fefb23b9782b35e6dbee88fd72903590f0d34b0fe0ae353127b6", func := "loop.example/g01140/laws.FnExactCountBranchesWith", spec := "fnExactCountBranchesWith", unfollowed := true, recurses := true, apart := false }
def FnExactCountBranchesWithSaid : Prop := fnExactCountBranchesWithRow.holds Try.pinned (OpenSpec.ofChange fnExactCountBranchesWithSpec)

/-- ITS FALSE NEIGHBOUR: 'it returns false'. Refute it at one input. -/
def fnExactCountBranchesWithWrong : ChangeSpec := { name := "fnExactCountBranchesWith", fn := fun _ => fun
  | [d] => { results := [.lit (.bool false)], args := [d] }
  | _ => none }
def FnExactCountBranchesWithWrongFalsely : Prop := fnExactCountBranchesWithRow.holds Try.pinned (OpenSpec.ofChange fnExactCountBranchesWithWrong)

/-- 'laws.FnExactAllBranches': WHATEVER THE INPUT: true; the input reads as it did. -/
def fnExactAllBranchesSpec : ChangeSpec := { name := "fnExactAllBranches", fn := fun _ => fun
  | [d] => { results := [.lit (.bool true)], args := [d] }
  | _ => none }
def fnExactAllBranchesRow : OpenClaim := { program := "ytlfffahomddigaa", sum := "7ed721641365fefb23b9782b35e6dbee88fd72903590f0d34b0fe0ae353127b6", func := "loop.example/g01140/laws.FnExactAllBranches", spec := "fnExactAllBranches", unfollowed := true, recurses := true, apart := false }
def FnExactAllBranchesSaid : Prop := fnExactAllBranchesRow.holds Try.pinned (OpenSpec.ofChange fnExactAllBranchesSpec)

/-- ITS FALSE NEIGHBOUR: 'it returns false'. Refute it at one input. -/
def fnExactAllBranchesWrong : ChangeSpec := { name := "fnExactAllBranches", fn := fun _ => fun
  | [d] => { results := [.lit (.bool false)], args := [d] }
  | _ => none }
def FnExactAllBranchesWrongFalsely : Prop := fnExactAllBranchesRow.holds Try.pinned (OpenSpec.ofChange fnExactAllBranchesWrong)

/-- 'laws.FnExactPlaceOfBranch': WHATEVER THE INPUT: true; the input reads as it did. -/
def fnExactPlaceOfBranchSpec : ChangeSpec := { name := "fnExactPlaceOfBranch", fn := fun _ => fun
  | [d] => { results := [.lit (.bool true)], args := [d] }
  | _ => none }
def fnExactPlaceOfBranchRow : OpenClaim := { program := "ytlfffahomddigaa", sum := "7ed721641365fefb23b9782b35e6dbee88fd72903590f0d34b0fe0ae353127b6", func := "loop.example/g01140/laws.FnExactPlaceOfBranch", spec := "fnExactPlaceOfBranch", unfollowed := true, recurses := true, apart := false }
def FnExactPlaceOfBranchSaid : Prop := fnExactPlaceOfBranchRow.holds Try.pinned (OpenSpec.ofChange fnExactPlaceOfBranchSpec)

/-- ITS FALSE NEIGHBOUR: 'it returns false'. Refute it at one input. -/
def fnExactPlaceOfBranchWrong : ChangeSpec := { name := "fnExactPlaceOfBranch", fn := fun _ => fun
  | [d] => { results := [.lit (.bool false)], args := [d] }
  | _ => none }
def FnExactPlaceOfBranchWrongFalsely : Prop := fnExactPlaceOfBranchRow.holds Try.pinned (OpenSpec.ofChange fnExactPlaceOfBranchWrong)

/-- 'laws.FnBranchLists': WHATEVER THE INPUT: true; the input reads as it did. -/
def fnBranchListsSpec : ChangeSpec := { name := "fnBranchLists", fn := fun _ => fun
  | [d] => { results := [.lit (.bool true)], args := [d] }
  | _ => none }
def fnBranchListsRow : OpenClaim := { program := "ytlfffahomddigaa", sum := "7ed721641365fefb23b9782b35e6dbee88fd72903590f0d34b0fe0ae353127b6", func := "loop.example/g01140/laws.FnBranchLists", spec := "fnBranchLists", unfollowed := true, recurses := true, apart := false }
def FnBranchListsSaid : Prop := fnBranchListsRow.holds Try.pinned (OpenSpec.ofChange fnBranchListsSpec)

/-- ITS FALSE NEIGHBOUR: 'it returns false'. Refute it at one input. -/
def fnBranchListsWrong : ChangeSpec := { name := "fnBranchLists", fn := fun _ => fun
  | [d] => { results := [.lit (.bool false)], args := [d] }
  | _ => none }
def FnBranchListsWrongFalsely : Prop := fnBranchListsRow.holds Try.pinned (OpenSpec.ofChange fnBranchListsWrong)

/- THE SECOND FORM. 'bulk': how many values and letters a reading holds, each counted each time it is reached (what is shared counts as often as it is met; a slice's spare places count too). A statement '..UptoSaid' is the law's where the arguments, and the package variables that the reading takes, are together of bulk at most 1048576: NARROWER than '..Said'. Prove '..Said' where nothing that the law and all that it calls make is longer than what came in: it says more and counts as full. Else prove '..UptoSaid'. A law counts once. -/
mutual
def uptoBulk {H : Type} : DataW H → Nat
  | .lit (.string bytes) => bytes.length + 1
  | .lit _ => 1
  | .nil => 1
  | .ptr d => uptoBulk d + 1
  | .slice elems spare => uptoBulkAll elems + uptoBulkAll spare + 1
  | .agg parts => uptoBulkAll parts + 1
  | .iface _ d => uptoBulk d + 1
  | .map entries => uptoBulkEntries entries + 1
  | .held _ => 1
def uptoBulkAll {H : Type} : List (DataW H) → Nat
  | [] => 0
  | d :: r => uptoBulk d + uptoBulkAll r
def uptoBulkEntries {H : Type} : List (Lit × DataW H) → Nat
  | [] => 0
  | x :: r => uptoBulkEntry x + uptoBulkEntries r
def uptoBulkEntry {H : Type} : Lit × DataW H → Nat
  | (.string bytes, d) => bytes.length + uptoBulk d + 1
  | (_, d) => uptoBulk d + 1
 end
def uptoSmall : (H : Type) → List (DataW H) → Bool := fun _ ds => decide (uptoBulkAll ds ≤ 1048576)
def OpenSpec.upto (s : _root_.Go.ChangeSpec) : _root_.Go.OpenSpec := { _root_.Go.OpenSpec.ofChange s with cond := some uptoSmall }

/-- 'laws.FnExactCountBranchesWith', WHERE WHAT IT READS IS OF BULK AT MOST 1048576: true; the input reads as it did. -/
def fnExactCountBranchesWithUptoRow : OpenClaim := { program := "ytlfffahomddigaa", sum := "7ed721641365fefb23b9782b35e6dbee88fd72903590f0d34b0fe0ae353127b6", func := "loop.example/g01140/laws.FnExactCountBranchesWith", spec := "fnExactCountBranchesWith", unfollowed := true, recurses := true, apart := false, narrowed := true }
def FnExactCountBranchesWithUptoSaid : Prop := fnExactCountBranchesWithUptoRow.holds Try.pinned (OpenSpec.upto fnExactCountBranchesWithSpec)

/-- 'laws.FnExactAllBranches', WHERE WHAT IT READS IS OF BULK AT MOST 1048576: true; the input reads as it did. -/
def fnExactAllBranchesUptoRow : OpenClaim := { program := "ytlfffahomddigaa", sum := "7ed721641365fefb23b9782b35e6dbee88fd72903590f0d34b0fe0ae353127b6", func := "loop.example/g01140/laws.FnExactAllBranches", spec := "fnExactAllBranches", unfollowed := true, recurses := true, apart := false, narrowed := true }
def FnExactAllBranchesUptoSaid : Prop := fnExactAllBranchesUptoRow.holds Try.pinned (OpenSpec.upto fnExactAllBranchesSpec)

/-- 'laws.FnExactPlaceOfBranch', WHERE WHAT IT READS IS OF BULK AT MOST 1048576: true; the input reads as it did. -/
def fnExactPlaceOfBranchUptoRow : OpenClaim := { program := "ytlfffahomddigaa", sum := "7ed721641365fefb23b9782b35e6dbee88fd72903590f0d34b0fe0ae353127b6", func := "loop.example/g01140/laws.FnExactPlaceOfBranch", spec := "fnExactPlaceOfBranch", unfollowed := true, recurses := true, apart := false, narrowed := true }
def FnExactPlaceOfBranchUptoSaid : Prop := fnExactPlaceOfBranchUptoRow.holds Try.pinned (OpenSpec.upto fnExactPlaceOfBranchSpec)

/-- 'laws.FnBranchLists', WHERE WHAT IT READS IS OF BULK AT MOST 1048576: true; the input reads as it did. -/
def fnBranchListsUptoRow : OpenClaim := { program := "ytlfffahomddigaa", sum := "7ed721641365fefb23b9782b35e6dbee88fd72903590f0d34b0fe0ae353127b6", func := "loop.example/g01140/laws.FnBranchLists", spec := "fnBranchLists", unfollowed := true, recurses := true, apart := false, narrowed := true }
def FnBranchListsUptoSaid : Prop := fnBranchListsUptoRow.holds Try.pinned (OpenSpec.upto fnBranchListsSpec)

end Rows
end Go.Proofs.Ytlfffahomddigaa
