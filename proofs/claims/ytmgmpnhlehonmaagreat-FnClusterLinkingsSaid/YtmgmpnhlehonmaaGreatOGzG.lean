/- FnClusterLinkings: the statement. No condition. -/
import Derived.Test.YtmgmpnhlehonmaaGreatOGxB
import Derived.Test.YtmgmpnhlehonmaaGreatOGzE
import Derived.Test.YtmgmpnhlehonmaaGreatOGzF
import Derived.Test.YtmgmpnhlehonmaaGreatRows
set_option linter.unusedVariables false
set_option linter.unusedSimpArgs false
namespace Go.Proofs.YtmgmpnhlehonmaaGreat
set_option maxRecDepth 100000
set_option maxHeartbeats 20000000
open Go.Pv
open Go.ChangeShapes Go.WideShapes Go.ChangeAt Go.RowKit
attribute [local irreducible] RunU WpA Step CallG CallNG Done DoneN
theorem own : ownKnob Tryz.prog.godebug = none := by kernel_rfl
theorem laidOut : laidOutB Tryz.prog = true := by kernel_rfl
theorem sees_FnClusterLinkings (xs : List Arg) (has : Sees Tryz.prog Tryz.f6.params.toList xs) : CallA Tryz.prog 6 xs [.one (.lit (.bool true))] [] := by
 rw [Tryz.params6] at has
 obtain ⟨l, xs, rfl, hb, h⟩ := sees_by Tryz.underlying22 Tryz.underlying5 (by kernel_rfl) has
 obtain rfl := sees_nil h
 exact law_FnClusterLinkings_c l hb
theorem lifted_FnClusterLinkings (os : Os) (started : os.Started) (H : Type) (enc : TypeId × Value → H) :
  ReturnsInHanded {} Tryz.checked os 6 .any (Rows.fnClusterLinkingsSpec.pre6 enc Tryz.prog Tryz.f6 Rows.fnClusterLinkingsRow.domain false) (Rows.fnClusterLinkingsSpec.post enc Tryz.prog Tryz.f6 false true false false) := by
 refine returnsInHanded_of_change (C := Tryz.checked) own started (by kernel_rfl) Tryz.func6
  (ChangeSpec.witness6 (enc := enc) (C := Tryz.checked) false ⟨#[], #[.slice none 0 0], []⟩ 8 (by kernel_rfl) (by kernel_rfl) (by kernel_rfl) (by kernel_rfl)) ?_
 intro W base args ds gs before hval hW _ _
 refine law_contract (P := Tryz.prog) laidOut (by kernel_rfl) rfl (by kernel_rfl) Tryz.underlying4 (fun ds h => ?_) sees_FnClusterLinkings W base args ds gs before hval hW
 rw [Tryz.params6] at h
 match ds, h with
 | [_], _ => exact ⟨rfl, rfl, rfl⟩
theorem said_FnClusterLinkings : Rows.FnClusterLinkingsSaid :=
 OpenClaim.holds_of_wide 6 Tryz.f6 rfl rfl rfl rfl rfl rfl rfl ⟨rfl, rfl, rfl, rfl, rfl⟩ rfl rfl rfl rfl rfl (by kernel_rfl) Tryz.func6 joined_FnClusterLinkings
  (of_decide_eq_true (by kernel_rfl)) (by unfold Func.isWrapper; first | (rw [if_pos (by decide +kernel)]; kernel_rfl) | (rw [if_neg (by decide +kernel)]; exact ⟨rfl, rfl⟩))
  (fun os started H enc _ => lifted_FnClusterLinkings os started H enc)
end Go.Proofs.YtmgmpnhlehonmaaGreat
