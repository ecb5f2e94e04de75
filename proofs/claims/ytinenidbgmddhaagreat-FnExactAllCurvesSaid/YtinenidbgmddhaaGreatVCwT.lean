/- FnExactAllCurves: the program's list of curves with a Milnor number is the reference's, in memory of its own. No condition. -/
import Derived.Test.YtinenidbgmddhaaGreatVCwS
import Derived.Test.YtinenidbgmddhaaGreatRows
set_option linter.unusedVariables false
set_option linter.unusedSimpArgs false
namespace Go.Proofs.YtinenidbgmddhaaGreat
set_option maxHeartbeats 20000000
open Go.Pv
open Go.ChangeShapes Go.WideShapes Go.ChangeAt Go.RowKit
attribute [local irreducible] RunU WpA Step CallG CallNG Done DoneN
instance fnOk4 : FnOk Tryz.prog 4 := ⟨_, Tryz.func4, rfl, by decide⟩
theorem own : ownKnob Tryz.prog.godebug = none := by kernel_rfl
theorem laidOut : laidOutB Tryz.prog = true := by kernel_rfl
set_option maxRecDepth 100000 in
theorem lawAC_c (m : Int) : CallA Tryz.prog 4 [aI m] [rB true] [] := by
  have h1 := specAllC_c m
  have h2 := implAllC_c m
  obtain ⟨hok, hlen⟩ := curR_ok m
  have hok := fun c hc => (hok c hc).b
  generalize curR m = R at *
  generalize curE m = d at *
  have hE := eqCurveS_c R hlen hok
  have hM := markCurveS_c R 1 hlen hok (by omega)
  have hH := heldCurveS_c R 1 hlen hok (by omega)
  have htt := totC_le hok R.length
  clear hok
  generalize totC R R.length = T at *
  generalize mkL 1 R R.length = M at *
  refine callA_of _ Tryz.func4 rfl Tryz.ntmps4 solid_any ?_
  repeat' (first | refine Two.mk (fun _ => ?_) (fun _ => ?_) | (guard_target =~ CallN_; first | refine RunU.consX (step_callF (h1) (.sh .nil) (.sh (by first | exact .lit rfl rfl | exact .c rfl) .nil) rfl rfl) ?_ | refine RunU.cons (step_call (h2) (.sh .nil) (.sh shows_any .nil) rfl) ?_ | refine RunU.cons (step_call_io1 (hM) io_any (.sh .nil) (.sh shows_any .nil) (by exact rfl) (by exact rfl) rfl) ?_) | (guard_target =~ IsN; first | refine RunU.cons (step_call hE (.sh (.sh .nil)) (.sh (.view (.als rfl rfl rfl) (erases_O R)) (.sh (.c rfl) .nil)) rfl) ?_ | refine RunU.cons (step_call hH (.sh (.sh .nil)) (.sh (.view (.als rfl rfl rfl) (erases_O M)) (.sh (.c rfl) .nil)) rfl) ?_) | refine goA ?_ | (guard_target =~ IsG; first | refine psA ?_ | (guard_target =~ CallS_; first | refine RunU.doit rfl rfl (step_callF (h1) (.sh .nil) (.sh (by first | exact .lit rfl rfl | exact .c rfl) .nil) rfl rfl) ?_ | refine RunU.doit rfl rfl (step_call (h2) (.sh .nil) (.sh shows_any .nil) rfl) ?_ | refine RunU.doit rfl rfl (step_call_io1 (hM) io_any (.sh .nil) (.sh shows_any .nil) (by exact rfl) (by exact rfl) rfl) ?_) | refine RunU.doit rfl rfl (step_call hE (.sh (.sh .nil)) (.sh (.view (.als rfl rfl rfl) (erases_O R)) (.sh (.c rfl) .nil)) rfl) ?_ | refine RunU.doit rfl rfl (step_call hH (.sh (.sh .nil)) (.sh (.view (.als rfl rfl rfl) (erases_O M)) (.sh (.c rfl) .nil)) rfl) ?_ | refine gdA ?_) | (refine neA ?_; first | refine nxA ?_ | refine Done.ret (.one res_any .nil) (.sh .nil) ?_ rfl) | fail)
  all_goals first | rfl | exact absurd rfl ‹_› | omega | (simp_all; done)
theorem sees_FnExactAllCurves (xs : List Arg) (has : Sees Tryz.prog Tryz.f4.params.toList xs) : CallA Tryz.prog 4 xs [.one (.lit (.bool true))] [] := by
  rw [Tryz.params4] at has
  obtain ⟨m, xs, rfl, _, h⟩ := sees_int Tryz.underlying2 has
  obtain rfl := sees_nil h
  exact lawAC_c m
set_option maxRecDepth 100000 in
theorem lifted_FnExactAllCurves (os : Os) (started : os.Started) (H : Type) (enc : TypeId × Value → H) :
    ReturnsInHanded {} Tryz.checked os 4 .any (Rows.fnExactAllCurvesSpec.pre6 enc Tryz.prog Tryz.f4 Rows.fnExactAllCurvesRow.domain false) (Rows.fnExactAllCurvesSpec.post enc Tryz.prog Tryz.f4 false true false false) := by
  refine returnsInHanded_of_change (C := Tryz.checked) own started (by kernel_rfl) Tryz.func4
    (ChangeSpec.witness6 (enc := enc) (C := Tryz.checked) false ⟨#[], #[.int .i64 0], []⟩ 8 (by kernel_rfl) (by kernel_rfl) (by kernel_rfl) (by kernel_rfl)) ?_
  intro W base args ds gs before hval hW _ _
  refine law_contract (P := Tryz.prog) laidOut (by kernel_rfl) rfl (by kernel_rfl) Tryz.underlying4 (fun ds h => ?_) sees_FnExactAllCurves W base args ds gs before hval hW
  rw [Tryz.params4] at h
  match ds, h with
  | [_], _ => exact ⟨rfl, rfl, rfl⟩
theorem said_FnExactAllCurves : Rows.FnExactAllCurvesSaid :=
  OpenClaim.holds_of_wide 4 Tryz.f4 rfl rfl rfl rfl rfl rfl rfl ⟨rfl, rfl, rfl, rfl, rfl⟩ rfl rfl rfl rfl rfl (by kernel_rfl) Tryz.func4 (by kernel_rfl)
    (of_decide_eq_true (by kernel_rfl)) (by unfold Func.isWrapper; first | (rw [if_pos (by decide +kernel)]; kernel_rfl) | (rw [if_neg (by decide +kernel)]; exact ⟨rfl, rfl⟩))
    (fun os started H enc _ => lifted_FnExactAllCurves os started H enc)
end Go.Proofs.YtinenidbgmddhaaGreat
