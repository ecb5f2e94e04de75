/- FnGraphs: the statement. No condition. -/
import Derived.Test.YtneomlnhlpkbjaaGreatMGwL
import Derived.Test.YtneomlnhlpkbjaaGreatMGwJ
import Derived.Test.YtneomlnhlpkbjaaGreatRows
set_option linter.unusedVariables false
set_option linter.unusedSimpArgs false
namespace Go.Proofs.YtneomlnhlpkbjaaGreat
set_option maxHeartbeats 20000000
open Go.Pv
open Go.ChangeShapes Go.WideShapes Go.ChangeAt Go.RowKit
attribute [local irreducible] RunU WpA Step CallG CallNG Done DoneN
theorem sees_FnGraphs (xs : List Arg) (has : Sees Tryz.prog Tryz.f3.params.toList xs) : CallA Tryz.prog 3 xs [.one (.lit (.bool true))] [] := by
  rw [Tryz.params3] at has
  obtain ⟨l, xs, rfl, hb, h⟩ := sees_by Tryz.underlying22 Tryz.underlying5 (by kernel_rfl) has
  obtain rfl := sees_nil h
  exact law_FnGraphs_c l hb
set_option maxRecDepth 100000 in
theorem lifted_FnGraphs (os : Os) (started : os.Started) (H : Type) (enc : TypeId × Value → H) :
    ReturnsInHanded {} Tryz.checked os 3 .any (Rows.fnGraphsSpec.pre6 enc Tryz.prog Tryz.f3 Rows.fnGraphsRow.domain false) (Rows.fnGraphsSpec.post enc Tryz.prog Tryz.f3 false true false false) := by
  refine returnsInHanded_of_change (C := Tryz.checked) own started (by kernel_rfl) Tryz.func3
    (ChangeSpec.witness6 (enc := enc) (C := Tryz.checked) false ⟨#[], #[.slice none 0 0], []⟩ 8 (by kernel_rfl) (by kernel_rfl) (by kernel_rfl) (by kernel_rfl)) ?_
  intro W base args ds gs before hval hW _ _
  refine law_contract (P := Tryz.prog) laidOut (by kernel_rfl) rfl (by kernel_rfl) Tryz.underlying4 (fun ds h => ?_) sees_FnGraphs W base args ds gs before hval hW
  rw [Tryz.params3] at h
  match ds, h with
  | [_], _ => exact ⟨rfl, rfl, rfl⟩
theorem said_FnGraphs : Rows.FnGraphsSaid :=
  OpenClaim.holds_of_wide 3 Tryz.f3 rfl rfl rfl rfl rfl rfl rfl ⟨rfl, rfl, rfl, rfl, rfl⟩ rfl rfl rfl rfl rfl (by kernel_rfl) Tryz.func3 joined_FnGraphs
    (of_decide_eq_true (by kernel_rfl)) (by unfold Func.isWrapper; first | (rw [if_pos (by decide +kernel)]; kernel_rfl) | (rw [if_neg (by decide +kernel)]; exact ⟨rfl, rfl⟩))
    (fun os started H enc _ => lifted_FnGraphs os started H enc)
end Go.Proofs.YtneomlnhlpkbjaaGreat
