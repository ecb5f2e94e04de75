/- FnExactCountCurves: the program's number of curves with a Milnor number is the reference's. No condition. -/
import Derived.Test.YtinenidbgmddhaaGreatVCwL
import Derived.Test.YtinenidbgmddhaaGreatRows
set_option linter.unusedVariables false
set_option linter.unusedSimpArgs false
namespace Go.Proofs.YtinenidbgmddhaaGreat
set_option maxHeartbeats 20000000
open Go.Pv
open Go.ChangeShapes Go.WideShapes Go.ChangeAt Go.RowKit
attribute [local irreducible] RunU WpA Step CallG CallNG Done DoneN
theorem own : ownKnob Tryz.prog.godebug = none := by kernel_rfl
theorem laidOut : laidOutB Tryz.prog = true := by kernel_rfl
instance fnOk3 : FnOk Tryz.prog 3 := ⟨_, Tryz.func3, rfl, by decide⟩
theorem lawCC_c (m : Int) : CallA Tryz.prog 3 [aI m] [rB true] [] := by
  have h1 := specCntC_c m
  have h2 := implCntC_c m
  generalize curN m = c at *
  generalize curE m = d at *
  refine callA_of _ Tryz.func3 rfl Tryz.ntmps3 solid_any ?_
  repeat' (first | refine Two.mk (fun _ => ?_) (fun _ => ?_) | (guard_target =~ CallN_; first | refine RunU.cons (step_call (h1) (.sh .nil) (.sh shows_any .nil) rfl) ?_ | refine RunU.cons (step_call (h2) (.sh .nil) (.sh shows_any .nil) rfl) ?_) | refine goA ?_ | (guard_target =~ IsG; first | refine psA ?_ | (guard_target =~ CallS_; first | refine RunU.doit rfl rfl (step_call (h1) (.sh .nil) (.sh shows_any .nil) rfl) ?_ | refine RunU.doit rfl rfl (step_call (h2) (.sh .nil) (.sh shows_any .nil) rfl) ?_) | refine gdA ?_) | (refine neA ?_; first | refine nxA ?_ | refine Done.ret (.one res_any .nil) (.sh .nil) ?_ rfl) | fail)
  all_goals first | rfl | exact absurd rfl ‹_› | omega
theorem sees_FnExactCountCurves (xs : List Arg) (has : Sees Tryz.prog Tryz.f3.params.toList xs) : CallA Tryz.prog 3 xs [.one (.lit (.bool true))] [] := by
  rw [Tryz.params3] at has
  obtain ⟨m, xs, rfl, _, h⟩ := sees_int Tryz.underlying2 has
  obtain rfl := sees_nil h
  exact lawCC_c m
set_option maxRecDepth 100000 in
theorem lifted_FnExactCountCurves (os : Os) (started : os.Started) (H : Type) (enc : TypeId × Value → H) :
    ReturnsInHanded {} Tryz.checked os 3 .any (Rows.fnExactCountCurvesSpec.pre6 enc Tryz.prog Tryz.f3 Rows.fnExactCountCurvesRow.domain false) (Rows.fnExactCountCurvesSpec.post enc Tryz.prog Tryz.f3 false true false false) := by
  refine returnsInHanded_of_change (C := Tryz.checked) own started (by kernel_rfl) Tryz.func3
    (ChangeSpec.witness6 (enc := enc) (C := Tryz.checked) false ⟨#[], #[.int .i64 0], []⟩ 8 (by kernel_rfl) (by kernel_rfl) (by kernel_rfl) (by kernel_rfl)) ?_
  intro W base args ds gs before hval hW _ _
  refine law_contract (P := Tryz.prog) laidOut (by kernel_rfl) rfl (by kernel_rfl) Tryz.underlying4 (fun ds h => ?_) sees_FnExactCountCurves W base args ds gs before hval hW
  rw [Tryz.params3] at h
  match ds, h with
  | [_], _ => exact ⟨rfl, rfl, rfl⟩
theorem said_FnExactCountCurves : Rows.FnExactCountCurvesSaid :=
  OpenClaim.holds_of_wide 3 Tryz.f3 rfl rfl rfl rfl rfl rfl rfl ⟨rfl, rfl, rfl, rfl, rfl⟩ rfl rfl rfl rfl rfl (by kernel_rfl) Tryz.func3 (by kernel_rfl)
    (of_decide_eq_true (by kernel_rfl)) (by unfold Func.isWrapper; first | (rw [if_pos (by decide +kernel)]; kernel_rfl) | (rw [if_neg (by decide +kernel)]; exact ⟨rfl, rfl⟩))
    (fun os started H enc _ => lifted_FnExactCountCurves os started H enc)
end Go.Proofs.YtinenidbgmddhaaGreat
