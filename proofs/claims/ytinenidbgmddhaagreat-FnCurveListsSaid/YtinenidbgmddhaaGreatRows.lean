/-
  No cell of these rows narrows 'for every input' (looked for: loops, veiled, ifaces, maps, wideKeys, modest, calm, conditions, laid).
  DERIVED. THE GIVEN ROWS OF THIS SEAT. 4 by the template 'for every input the law returns true; each argument reads behind the call as it read before'; 0 by the template 'total and deterministic' (their statements: YtinenidbgmddhaaGreatTotals.lean).
  GIVEN WITH THE SEED: the statements are not yours to turn. If you find one false, say at which input.
  Laid BY PROGRAM, IN A SANDBOX (cutbox-rows.mjs): the forced cells as the released guide's own fill.sh prints them over the translation df8225f832d61c21… (all of the seat's roots in one cut). By AI agents, Wed Nov 11 2026. No macro, syntax, notation, axiom, sorry.
-/
import Derived.Test.YtinenidbgmddhaaGreatChecked
import GoSem.Claim
import GoSem.ClaimJoined
import GoSem.ClaimMapViews
import Derived.JoinedTies
import Derived.KernelRfl
namespace Go.Proofs.YtinenidbgmddhaaGreat
/- THE CELL 'sum', in the pinned program and in every row, IS THE sha256 OF THE DUMP (.gsa) THAT YtinenidbgmddhaaGreatProg.lean LOADS. Nothing in Lean hashes anything: it is a label: what it is worth is what the hold of that sum in a sandbox is worth. -/
noncomputable def Tryz.pinned : Pinned := { name := "ytinenidbgmddhaagreat", sum := "df8225f832d61c214e136788dd47b5da3e041ce37b205e158aebd2f799773cae", checked := Tryz.checked }
namespace Rows
def none {H : Type} : Left H := { results := [], args := [] }

/-- 'laws.FnExactCountCurves': WHATEVER THE INPUT: true; the input reads as it did. -/
def fnExactCountCurvesSpec : ChangeSpec := { name := "fnExactCountCurves", fn := fun _ => fun
  | [d] => { results := [.lit (.bool true)], args := [d] }
  | _ => none }
def fnExactCountCurvesRow : OpenClaim := { program := "ytinenidbgmddhaagreat", sum := "df8225f832d61c214e136788dd47b5da3e041ce37b205e158aebd2f799773cae", func := "loop.example/g01140/laws.FnExactCountCurves", spec := "fnExactCountCurves", unfollowed := true, recurses := true, apart := false }
def FnExactCountCurvesSaid : Prop := fnExactCountCurvesRow.holds Tryz.pinned (OpenSpec.ofChange fnExactCountCurvesSpec)

/-- ITS FALSE NEIGHBOUR: 'it returns false'. Refute it at one input. -/
def fnExactCountCurvesWrong : ChangeSpec := { name := "fnExactCountCurves", fn := fun _ => fun
  | [d] => { results := [.lit (.bool false)], args := [d] }
  | _ => none }
def FnExactCountCurvesWrongFalsely : Prop := fnExactCountCurvesRow.holds Tryz.pinned (OpenSpec.ofChange fnExactCountCurvesWrong)

/-- 'laws.FnExactAllCurves': WHATEVER THE INPUT: true; the input reads as it did. -/
def fnExactAllCurvesSpec : ChangeSpec := { name := "fnExactAllCurves", fn := fun _ => fun
  | [d] => { results := [.lit (.bool true)], args := [d] }
  | _ => none }
def fnExactAllCurvesRow : OpenClaim := { program := "ytinenidbgmddhaagreat", sum := "df8225f832d61c214e136788dd47b5da3e041ce37b205e158aebd2f799773cae", func := "loop.example/g01140/laws.FnExactAllCurves", spec := "fnExactAllCurves", unfollowed := true, recurses := true, apart := false }
def FnExactAllCurvesSaid : Prop := fnExactAllCurvesRow.holds Tryz.pinned (OpenSpec.ofChange fnExactAllCurvesSpec)

/-- ITS FALSE NEIGHBOUR: 'it returns false'. Refute it at one input. -/
def fnExactAllCurvesWrong : ChangeSpec := { name := "fnExactAllCurves", fn := fun _ => fun
  | [d] => { results := [.lit (.bool false)], args := [d] }
  | _ => none }
def FnExactAllCurvesWrongFalsely : Prop := fnExactAllCurvesRow.holds Tryz.pinned (OpenSpec.ofChange fnExactAllCurvesWrong)

/-- 'laws.FnExactPlaceOfCurve': WHATEVER THE INPUT: true; the input reads as it did. -/
def fnExactPlaceOfCurveSpec : ChangeSpec := { name := "fnExactPlaceOfCurve", fn := fun _ => fun
  | [d] => { results := [.lit (.bool true)], args := [d] }
  | _ => none }
def fnExactPlaceOfCurveRow : OpenClaim := { program := "ytinenidbgmddhaagreat", sum := "df8225f832d61c214e136788dd47b5da3e041ce37b205e158aebd2f799773cae", func := "loop.example/g01140/laws.FnExactPlaceOfCurve", spec := "fnExactPlaceOfCurve", unfollowed := true, recurses := true, apart := false }
def FnExactPlaceOfCurveSaid : Prop := fnExactPlaceOfCurveRow.holds Tryz.pinned (OpenSpec.ofChange fnExactPlaceOfCurveSpec)

/-- ITS FALSE NEIGHBOUR: 'it returns false'. Refute it at one input. -/
def fnExactPlaceOfCurveWrong : ChangeSpec := { name := "fnExactPlaceOfCurve", fn := fun _ => fun
  | [d] => { results := [.lit (.bool false)], args := [d] }
  | _ => none }
def FnExactPlaceOfCurveWrongFalsely : Prop := fnExactPlaceOfCurveRow.holds Tryz.pinned (OpenSpec.ofChange fnExactPlaceOfCurveWrong)

/-- 'laws.FnCurveLists': WHATEVER THE INPUT: true; the input reads as it did. -/
def fnCurveListsSpec : ChangeSpec := { name := "fnCurveLists", fn := fun _ => fun
  | [d] => { results := [.lit (.bool true)], args := [d] }
  | _ => none }
def fnCurveListsRow : OpenClaim := { program := "ytinenidbgmddhaagreat", sum := "df8225f832d61c214e136788dd47b5da3e041ce37b205e158aebd2f799773cae", func := "loop.example/g01140/laws.FnCurveLists", spec := "fnCurveLists", unfollowed := true, recurses := true, apart := false }
def FnCurveListsSaid : Prop := fnCurveListsRow.holds Tryz.pinned (OpenSpec.ofChange fnCurveListsSpec)

/-- ITS FALSE NEIGHBOUR: 'it returns false'. Refute it at one input. -/
def fnCurveListsWrong : ChangeSpec := { name := "fnCurveLists", fn := fun _ => fun
  | [d] => { results := [.lit (.bool false)], args := [d] }
  | _ => none }
def FnCurveListsWrongFalsely : Prop := fnCurveListsRow.holds Tryz.pinned (OpenSpec.ofChange fnCurveListsWrong)

/- THE SECOND FORM. 'bulk': how many values and letters a reading holds, each counted each time it is reached (what is shared counts as often as it is met; a slice's spare places count too). A statement '..UptoSaid' is the law's where the arguments, and the package variables that the reading takes, are together of bulk at most 1048576: NARROWER than '..Said'. Prove '..Said' where nothing that the law and all that it calls make is longer than what came in: it says more and counts as full. Else prove '..UptoSaid'. A law counts once. -/
mutual
def uptoBulk {H : Type} : DataW H → Nat
  | .lit (.string bytes) => bytes.length + 1
  | .lit _ => 1
  | .nil => 1
  | .ptr d => uptoBulk d + 1
  | .slice elems spare => uptoBulkAll elems + uptoBulkAll spare + 1
  | .agg parts => uptoBulkAll parts + 1
  | .iface _ d => uptoBulk d + 1
  | .map entries => uptoBulkEntries entries + 1
  | .held _ => 1
def uptoBulkAll {H : Type} : List (DataW H) → Nat
  | [] => 0
  | d :: r => uptoBulk d + uptoBulkAll r
def uptoBulkEntries {H : Type} : List (Lit × DataW H) → Nat
  | [] => 0
  | x :: r => uptoBulkEntry x + uptoBulkEntries r
def uptoBulkEntry {H : Type} : Lit × DataW H → Nat
  | (.string bytes, d) => bytes.length + uptoBulk d + 1
  | (_, d) => uptoBulk d + 1
 end
def uptoSmall : (H : Type) → List (DataW H) → Bool := fun _ ds => decide (uptoBulkAll ds ≤ 1048576)
def OpenSpec.upto (s : _root_.Go.ChangeSpec) : _root_.Go.OpenSpec := { _root_.Go.OpenSpec.ofChange s with cond := some uptoSmall }

/-- 'laws.FnExactCountCurves', WHERE WHAT IT READS IS OF BULK AT MOST 1048576: true; the input reads as it did. -/
def fnExactCountCurvesUptoRow : OpenClaim := { program := "ytinenidbgmddhaagreat", sum := "df8225f832d61c214e136788dd47b5da3e041ce37b205e158aebd2f799773cae", func := "loop.example/g01140/laws.FnExactCountCurves", spec := "fnExactCountCurves", unfollowed := true, recurses := true, apart := false, narrowed := true }
def FnExactCountCurvesUptoSaid : Prop := fnExactCountCurvesUptoRow.holds Tryz.pinned (OpenSpec.upto fnExactCountCurvesSpec)

/-- 'laws.FnExactAllCurves', WHERE WHAT IT READS IS OF BULK AT MOST 1048576: true; the input reads as it did. -/
def fnExactAllCurvesUptoRow : OpenClaim := { program := "ytinenidbgmddhaagreat", sum := "df8225f832d61c214e136788dd47b5da3e041ce37b205e158aebd2f799773cae", func := "loop.example/g01140/laws.FnExactAllCurves", spec := "fnExactAllCurves", unfollowed := true, recurses := true, apart := false, narrowed := true }
def FnExactAllCurvesUptoSaid : Prop := fnExactAllCurvesUptoRow.holds Tryz.pinned (OpenSpec.upto fnExactAllCurvesSpec)

/-- 'laws.FnExactPlaceOfCurve', WHERE WHAT IT READS IS OF BULK AT MOST 1048576: true; the input reads as it did. -/
def fnExactPlaceOfCurveUptoRow : OpenClaim := { program := "ytinenidbgmddhaagreat", sum := "df8225f832d61c214e136788dd47b5da3e041ce37b205e158aebd2f799773cae", func := "loop.example/g01140/laws.FnExactPlaceOfCurve", spec := "fnExactPlaceOfCurve", unfollowed := true, recurses := true, apart := false, narrowed := true }
def FnExactPlaceOfCurveUptoSaid : Prop := fnExactPlaceOfCurveUptoRow.holds Tryz.pinned (OpenSpec.upto fnExactPlaceOfCurveSpec)

/-- 'laws.FnCurveLists', WHERE WHAT IT READS IS OF BULK AT MOST 1048576: true; the input reads as it did. -/
def fnCurveListsUptoRow : OpenClaim := { program := "ytinenidbgmddhaagreat", sum := "df8225f832d61c214e136788dd47b5da3e041ce37b205e158aebd2f799773cae", func := "loop.example/g01140/laws.FnCurveLists", spec := "fnCurveLists", unfollowed := true, recurses := true, apart := false, narrowed := true }
def FnCurveListsUptoSaid : Prop := fnCurveListsUptoRow.holds Tryz.pinned (OpenSpec.upto fnCurveListsSpec)

end Rows
end Go.Proofs.YtinenidbgmddhaaGreat
