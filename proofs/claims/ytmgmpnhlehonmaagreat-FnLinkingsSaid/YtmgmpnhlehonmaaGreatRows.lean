/-
  No cell of these rows narrows 'for every input' (looked for: loops, veiled, ifaces, maps, wideKeys, modest, calm, conditions, laid).
  DERIVED. THE GIVEN ROWS OF THIS SEAT. 4 by the template 'for every input the law returns true; each argument reads behind the call as it read before'; 0 by the template 'total and deterministic' (their statements: YtmgmpnhlehonmaaGreatTotals.lean).
  GIVEN WITH THE SEED: the statements are not yours to turn. If you find one false, say at which input.
  Laid BY PROGRAM, IN A SANDBOX (cutbox-rows.mjs): the forced cells as the released guide's own fill.sh prints them over the translation cfdd4e8aba26ebde… (all of the seat's roots in one cut). By AI agents, Wed Nov 11 2026. No macro, syntax, notation, axiom, sorry.
-/
import Derived.Test.YtmgmpnhlehonmaaGreatChecked
import GoSem.Claim
import GoSem.ClaimJoined
import GoSem.ClaimMapViews
import Derived.JoinedTies
import Derived.KernelRfl
namespace Go.Proofs.YtmgmpnhlehonmaaGreat
/- THE CELL 'sum', in the pinned program and in every row, IS THE sha256 OF THE DUMP (.gsa) THAT YtmgmpnhlehonmaaGreatProg.lean LOADS. Nothing in Lean hashes anything: it is a label: what it is worth is what the hold of that sum in a sandbox is worth. -/
noncomputable def Tryz.pinned : Pinned := { name := "ytmgmpnhlehonmaagreat", sum := "cfdd4e8aba26ebde57dce12782c00289fe4a2efb5484e7187743370e0d6f1eba", checked := Tryz.checked }
namespace Rows
def none {H : Type} : Left H := { results := [], args := [] }

/-- 'laws.FnLinkings': WHATEVER THE INPUT: true; the input reads as it did. -/
def fnLinkingsSpec : ChangeSpec := { name := "fnLinkings", fn := fun _ => fun
  | [d] => { results := [.lit (.bool true)], args := [d] }
  | _ => none }
def fnLinkingsRow : OpenClaim := { program := "ytmgmpnhlehonmaagreat", sum := "cfdd4e8aba26ebde57dce12782c00289fe4a2efb5484e7187743370e0d6f1eba", func := "loop.example/g01140/laws.FnLinkings", spec := "fnLinkings", unfollowed := true, recurses := true, apart := false }
def FnLinkingsSaid : Prop := fnLinkingsRow.holds Tryz.pinned (OpenSpec.ofChange fnLinkingsSpec)

/-- ITS FALSE NEIGHBOUR: 'it returns false'. Refute it at one input. -/
def fnLinkingsWrong : ChangeSpec := { name := "fnLinkings", fn := fun _ => fun
  | [d] => { results := [.lit (.bool false)], args := [d] }
  | _ => none }
def FnLinkingsWrongFalsely : Prop := fnLinkingsRow.holds Tryz.pinned (OpenSpec.ofChange fnLinkingsWrong)

/-- 'laws.FnSpliceDiagrams': WHATEVER THE INPUT: true; the input reads as it did. -/
def fnSpliceDiagramsSpec : ChangeSpec := { name := "fnSpliceDiagrams", fn := fun _ => fun
  | [d] => { results := [.lit (.bool true)], args := [d] }
  | _ => none }
def fnSpliceDiagramsRow : OpenClaim := { program := "ytmgmpnhlehonmaagreat", sum := "cfdd4e8aba26ebde57dce12782c00289fe4a2efb5484e7187743370e0d6f1eba", func := "loop.example/g01140/laws.FnSpliceDiagrams", spec := "fnSpliceDiagrams", unfollowed := true, recurses := true, apart := false }
def FnSpliceDiagramsSaid : Prop := fnSpliceDiagramsRow.holds Tryz.pinned (OpenSpec.ofChange fnSpliceDiagramsSpec)

/-- ITS FALSE NEIGHBOUR: 'it returns false'. Refute it at one input. -/
def fnSpliceDiagramsWrong : ChangeSpec := { name := "fnSpliceDiagrams", fn := fun _ => fun
  | [d] => { results := [.lit (.bool false)], args := [d] }
  | _ => none }
def FnSpliceDiagramsWrongFalsely : Prop := fnSpliceDiagramsRow.holds Tryz.pinned (OpenSpec.ofChange fnSpliceDiagramsWrong)

/-- 'laws.FnResolutions': WHATEVER THE INPUT: true; the input reads as it did. -/
def fnResolutionsSpec : ChangeSpec := { name := "fnResolutions", fn := fun _ => fun
  | [d] => { results := [.lit (.bool true)], args := [d] }
  | _ => none }
def fnResolutionsRow : OpenClaim := { program := "ytmgmpnhlehonmaagreat", sum := "cfdd4e8aba26ebde57dce12782c00289fe4a2efb5484e7187743370e0d6f1eba", func := "loop.example/g01140/laws.FnResolutions", spec := "fnResolutions", unfollowed := true, recurses := true, apart := false }
def FnResolutionsSaid : Prop := fnResolutionsRow.holds Tryz.pinned (OpenSpec.ofChange fnResolutionsSpec)

/-- ITS FALSE NEIGHBOUR: 'it returns false'. Refute it at one input. -/
def fnResolutionsWrong : ChangeSpec := { name := "fnResolutions", fn := fun _ => fun
  | [d] => { results := [.lit (.bool false)], args := [d] }
  | _ => none }
def FnResolutionsWrongFalsely : Prop := fnResolutionsRow.holds Tryz.pinned (OpenSpec.ofChange fnResolutionsWrong)

/-- 'laws.FnClusterLinkings': WHATEVER THE INPUT: true; the input reads as it did. -/
def fnClusterLinkingsSpec : ChangeSpec := { name := "fnClusterLinkings", fn := fun _ => fun
  | [d] => { results := [.lit (.bool true)], args := [d] }
  | _ => none }
def fnClusterLinkingsRow : OpenClaim := { program := "ytmgmpnhlehonmaagreat", sum := "cfdd4e8aba26ebde57dce12782c00289fe4a2efb5484e7187743370e0d6f1eba", func := "loop.example/g01140/laws.FnClusterLinkings", spec := "fnClusterLinkings", unfollowed := true, recurses := true, apart := false }
def FnClusterLinkingsSaid : Prop := fnClusterLinkingsRow.holds Tryz.pinned (OpenSpec.ofChange fnClusterLinkingsSpec)

/-- ITS FALSE NEIGHBOUR: 'it returns false'. Refute it at one input. -/
def fnClusterLinkingsWrong : ChangeSpec := { name := "fnClusterLinkings", fn := fun _ => fun
  | [d] => { results := [.lit (.bool false)], args := [d] }
  | _ => none }
def FnClusterLinkingsWrongFalsely : Prop := fnClusterLinkingsRow.holds Tryz.pinned (OpenSpec.ofChange fnClusterLinkingsWrong)

/- THE SECOND FORM. 'bulk': how many values and letters a reading holds, each counted each time it is reached (what is shared counts as often as it is met; a slice's spare places count too). A statement '..UptoSaid' is the law's where the arguments, and the package variables that the reading takes, are together of bulk at most 1048576: NARROWER than '..Said'. Prove '..Said' where nothing that the law and all that it calls make is longer than what came in: it says more and counts as full. Else prove '..UptoSaid'. A law counts once. -/
mutual
def uptoBulk {H : Type} : DataW H → Nat
  | .lit (.string bytes) => bytes.length + 1
  | .lit _ => 1
  | .nil => 1
  | .ptr d => uptoBulk d + 1
  | .slice elems spare => uptoBulkAll elems + uptoBulkAll spare + 1
  | .agg parts => uptoBulkAll parts + 1
  | .iface _ d => uptoBulk d + 1
  | .map entries => uptoBulkEntries entries + 1
  | .held _ => 1
def uptoBulkAll {H : Type} : List (DataW H) → Nat
  | [] => 0
  | d :: r => uptoBulk d + uptoBulkAll r
def uptoBulkEntries {H : Type} : List (Lit × DataW H) → Nat
  | [] => 0
  | x :: r => uptoBulkEntry x + uptoBulkEntries r
def uptoBulkEntry {H : Type} : Lit × DataW H → Nat
  | (.string bytes, d) => bytes.length + uptoBulk d + 1
  | (_, d) => uptoBulk d + 1
 end
def uptoSmall : (H : Type) → List (DataW H) → Bool := fun _ ds => decide (uptoBulkAll ds ≤ 1048576)
def OpenSpec.upto (s : _root_.Go.ChangeSpec) : _root_.Go.OpenSpec := { _root_.Go.OpenSpec.ofChange s with cond := some uptoSmall }

/-- 'laws.FnLinkings', WHERE WHAT IT READS IS OF BULK AT MOST 1048576: true; the input reads as it did. -/
def fnLinkingsUptoRow : OpenClaim := { program := "ytmgmpnhlehonmaagreat", sum := "cfdd4e8aba26ebde57dce12782c00289fe4a2efb5484e7187743370e0d6f1eba", func := "loop.example/g01140/laws.FnLinkings", spec := "fnLinkings", unfollowed := true, recurses := true, apart := false, narrowed := true }
def FnLinkingsUptoSaid : Prop := fnLinkingsUptoRow.holds Tryz.pinned (OpenSpec.upto fnLinkingsSpec)

/-- 'laws.FnSpliceDiagrams', WHERE WHAT IT READS IS OF BULK AT MOST 1048576: true; the input reads as it did. -/
def fnSpliceDiagramsUptoRow : OpenClaim := { program := "ytmgmpnhlehonmaagreat", sum := "cfdd4e8aba26ebde57dce12782c00289fe4a2efb5484e7187743370e0d6f1eba", func := "loop.example/g01140/laws.FnSpliceDiagrams", spec := "fnSpliceDiagrams", unfollowed := true, recurses := true, apart := false, narrowed := true }
def FnSpliceDiagramsUptoSaid : Prop := fnSpliceDiagramsUptoRow.holds Tryz.pinned (OpenSpec.upto fnSpliceDiagramsSpec)

/-- 'laws.FnResolutions', WHERE WHAT IT READS IS OF BULK AT MOST 1048576: true; the input reads as it did. -/
def fnResolutionsUptoRow : OpenClaim := { program := "ytmgmpnhlehonmaagreat", sum := "cfdd4e8aba26ebde57dce12782c00289fe4a2efb5484e7187743370e0d6f1eba", func := "loop.example/g01140/laws.FnResolutions", spec := "fnResolutions", unfollowed := true, recurses := true, apart := false, narrowed := true }
def FnResolutionsUptoSaid : Prop := fnResolutionsUptoRow.holds Tryz.pinned (OpenSpec.upto fnResolutionsSpec)

/-- 'laws.FnClusterLinkings', WHERE WHAT IT READS IS OF BULK AT MOST 1048576: true; the input reads as it did. -/
def fnClusterLinkingsUptoRow : OpenClaim := { program := "ytmgmpnhlehonmaagreat", sum := "cfdd4e8aba26ebde57dce12782c00289fe4a2efb5484e7187743370e0d6f1eba", func := "loop.example/g01140/laws.FnClusterLinkings", spec := "fnClusterLinkings", unfollowed := true, recurses := true, apart := false, narrowed := true }
def FnClusterLinkingsUptoSaid : Prop := fnClusterLinkingsUptoRow.holds Tryz.pinned (OpenSpec.upto fnClusterLinkingsSpec)

end Rows
end Go.Proofs.YtmgmpnhlehonmaaGreat
