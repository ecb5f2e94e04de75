/- The law on symmetric spectra: the program answers as its reference does, for every input. No condition. -/
import Derived.Test.YtnkdoilpofboeaaSpS
import Derived.Test.YtnkdoilpofboeaaRows
namespace Go.Proofs.Ytnkdoilpofboeaa
open Go.Pv
open Go.ChangeShapes Go.WideShapes Go.ChangeAt Go.RowKit
attribute [local irreducible] RunU WpA Step CallG Done
instance : Mixed Try.prog := ⟨by kernel_rfl⟩
theorem own : ownKnob Try.prog.godebug = none := by kernel_rfl
theorem laidOut : laidOutB Try.prog = true := by kernel_rfl
instance : FnOk Try.prog 7 := ⟨_, Try.func7, rfl, by decide⟩
theorem lawIsSymmetricSpectrum_c (b : Int) (l : List Int) (hl : l.length ≤ 9223372036854775807) : CallA Try.prog 7 [aSp b l] [rB true] [] := by
  refine callA_of _ Try.func7 rfl Try.ntmps7 (by first | exact ⟨rfl, rfl⟩ | simp [V.solid, D.solid, D.solids, solids_lits, solids_ints, solids_LL]) ?_
  repeat' (first
      | (guard_target =~ WpA _ _ _ _ _ _; first
        | refine WpA.seq ?_
        | refine WpA.drawU ?_
        | refine WpA.regionU ?_
        | refine WpA.block ?_
        | refine WpA.ret ?_
        | refine WpA.skip ?_
        | refine WpA.exit ?_
        | refine WpA.cond_true rfl ?_
        | refine WpA.cond_false rfl ?_
        | refine WpA.cond_ntrue rfl ?_
        | refine WpA.cond_dec rfl (fun _ => ?_) (fun _ => ?_)
        | refine WpA.cond_not rfl (fun _ => ?_) (fun _ => ?_)
        | refine WpA.cond rfl (fun _ => ?_) (fun _ => ?_)
        )
      | (guard_target =~ RunU _ _ _ _ [] _ _ _ _; first
        | refine RunU.nilL ?_
        | refine RunU.nilD (by kernel_rfl) ?_
        )
      | (guard_target =~ RunU _ _ _ _ (Oper.mk _ _ _ _ _ none :: _) _ _ _ _; first
        | refine RunU.cons (step_call (szSpectrum_c b l 1048576 (by omega) hl) (.sh (.sh .nil)) (.shAgg rfl aggs_any (.sh shows_any .nil)) rfl) ?_
        | refine RunU.cons step_any ?_
        )
      | (guard_target =~ RunU _ _ _ _ (Oper.mk _ _ _ _ _ (some _) :: _) _ _ _ _; first
        | refine RunU.pass rfl rfl rfl rfl ?_
        | refine RunU.pass_undef rfl rfl rfl ?_
        | refine RunU.doit rfl rfl (step_call (szSpectrum_c b l 1048576 (by omega) hl) (.sh (.sh .nil)) (.shAgg rfl aggs_any (.sh shows_any .nil)) rfl) ?_
        | refine RunU.doit rfl rfl step_any ?_
        | refine RunU.guard_dec rfl rfl (fun _ => ?_) (fun _ => ?_)
        | refine RunU.guard_not rfl rfl (fun _ => ?_) (fun _ => ?_)
        | refine RunU.guard rfl rfl (fun _ => ?_) (fun _ => ?_)
        )
      | refine Then.next ?_
      | refine InBlock.next ?_
      | refine Done.ret (.one (by first | exact .c rfl | exact .own rfl | exact .als rfl rfl | exact .ptr rfl rfl | exact .part rfl rfl rfl) .nil) (.sh .nil) ?_ rfl
      | refine Done.normal (.one (by first | exact .c rfl | exact .own rfl | exact .als rfl rfl | exact .ptr rfl rfl | exact .part rfl rfl rfl) .nil) (.sh .nil) ?_ rfl)
  case refine_1 h => rfl
  case refine_2 h =>
    have hl2 : l.length ≤ 1048576 := by
      split at h <;> omega
    repeat' (first
        | (guard_target =~ WpA _ _ _ _ _ _; first
          | refine WpA.seq ?_
          | refine WpA.drawU ?_
          | refine WpA.regionU ?_
          | refine WpA.block ?_
          | refine WpA.ret ?_
          | refine WpA.skip ?_
          | refine WpA.exit ?_
          | refine WpA.cond_true rfl ?_
          | refine WpA.cond_false rfl ?_
          | refine WpA.cond_ntrue rfl ?_
          | refine WpA.cond_dec rfl (fun _ => ?_) (fun _ => ?_)
          | refine WpA.cond_not rfl (fun _ => ?_) (fun _ => ?_)
          | refine WpA.cond rfl (fun _ => ?_) (fun _ => ?_)
          )
        | (guard_target =~ RunU _ _ _ _ [] _ _ _ _; first
          | refine RunU.nilL ?_
          | refine RunU.nilD (by kernel_rfl) ?_
          )
        | (guard_target =~ RunU _ _ _ _ (Oper.mk _ _ _ _ _ none :: _) _ _ _ _; first
          | refine RunU.cons (step_call (toSpectrum_c b l hl2) (.sh .nil) (.shAgg rfl aggs_any .nil) rfl) ?_
          | refine RunU.cons (step_call (specSym_c b l hl) (.sh .nil) (.shAgg rfl aggs_any .nil) rfl) ?_
          | refine RunU.cons (step_call (implSym_c b l hl) (.sh .nil) (.shAgg rfl aggs_any .nil) rfl) ?_
          | refine RunU.cons (step_call (eqSpectrum_c b b l l hl hl) (.sh (.sh .nil)) (.shAgg rfl aggs_any (.shAgg rfl aggs_any .nil)) rfl) ?_
          | refine RunU.cons step_any ?_
          )
        | (guard_target =~ RunU _ _ _ _ (Oper.mk _ _ _ _ _ (some _) :: _) _ _ _ _; first
          | refine RunU.pass rfl rfl rfl rfl ?_
          | refine RunU.pass_undef rfl rfl rfl ?_
          | refine RunU.doit rfl rfl (step_call (toSpectrum_c b l hl2) (.sh .nil) (.shAgg rfl aggs_any .nil) rfl) ?_
          | refine RunU.doit rfl rfl (step_call (specSym_c b l hl) (.sh .nil) (.shAgg rfl aggs_any .nil) rfl) ?_
          | refine RunU.doit rfl rfl (step_call (implSym_c b l hl) (.sh .nil) (.shAgg rfl aggs_any .nil) rfl) ?_
          | refine RunU.doit rfl rfl (step_call (eqSpectrum_c b b l l hl hl) (.sh (.sh .nil)) (.shAgg rfl aggs_any (.shAgg rfl aggs_any .nil)) rfl) ?_
          | refine RunU.doit rfl rfl step_any ?_
          | refine RunU.guard_dec rfl rfl (fun _ => ?_) (fun _ => ?_)
          | refine RunU.guard_not rfl rfl (fun _ => ?_) (fun _ => ?_)
          | refine RunU.guard rfl rfl (fun _ => ?_) (fun _ => ?_)
          )
        | refine Then.next ?_
        | refine InBlock.next ?_
        | refine Done.ret (.one (by first | exact .c rfl | exact .own rfl | exact .als rfl rfl | exact .ptr rfl rfl | exact .part rfl rfl rfl) .nil) (.sh .nil) ?_ rfl
        | refine Done.normal (.one (by first | exact .c rfl | exact .own rfl | exact .als rfl rfl | exact .ptr rfl rfl | exact .part rfl rfl rfl) .nil) (.sh .nil) ?_ rfl)
    all_goals first | rfl | exact absurd rfl ‹_› | simp_all
theorem sees_FnExactIsSymmetricSpectrum (xs : List Arg) (has : Sees Try.prog Try.f7.params.toList xs) : CallA Try.prog 7 xs [.one (.lit (.bool true))] [] := by
  rw [Try.params7] at has
  obtain ⟨b, l, xs, rfl, _, hl, h⟩ := sees_sp Try.underlying27 rfl Try.underlying2 Try.underlying25 Try.underlying2 (by kernel_rfl) has
  have hl : l.length ≤ 9223372036854775807 := hl
  obtain rfl := sees_nil h
  exact lawIsSymmetricSpectrum_c b l hl
set_option maxRecDepth 100000 in
theorem lifted_FnExactIsSymmetricSpectrum (os : Os) (started : os.Started) (H : Type) (enc : TypeId × Value → H) :
    ReturnsInHanded {} Try.checked os 7 .any (Rows.fnExactIsSymmetricSpectrumSpec.pre6 enc Try.prog Try.f7 Rows.fnExactIsSymmetricSpectrumRow.domain false) (Rows.fnExactIsSymmetricSpectrumSpec.post enc Try.prog Try.f7 false true false false) := by
  refine returnsInHanded_of_change (C := Try.checked) own started (by kernel_rfl) Try.func7
    (ChangeSpec.witness6 (enc := enc) (C := Try.checked) false ⟨#[], #[.agg #[.int .i64 0, .slice none 0 0]], []⟩ 8 (by kernel_rfl) (by kernel_rfl) (by kernel_rfl) (by kernel_rfl)) ?_
  intro W base args ds gs before hval hW _ _
  refine law_contract (P := Try.prog) laidOut (by kernel_rfl) rfl (by kernel_rfl) Try.underlying4 (fun ds h => ?_) sees_FnExactIsSymmetricSpectrum W base args ds gs before hval hW
  rw [Try.params7] at h
  match ds, h with
  | [_], _ => exact ⟨rfl, rfl, rfl⟩
/-- The law holds for every input. -/
theorem said_FnExactIsSymmetricSpectrum : Rows.FnExactIsSymmetricSpectrumSaid :=
  OpenClaim.holds_of_wide 7 Try.f7 rfl rfl rfl rfl rfl rfl rfl ⟨rfl, rfl, rfl, rfl, rfl⟩ rfl rfl rfl rfl rfl (by kernel_rfl) Try.func7 (by kernel_rfl)
    (of_decide_eq_true (by kernel_rfl)) (by unfold Func.isWrapper; first | (rw [if_pos (by decide +kernel)]; kernel_rfl) | (rw [if_neg (by decide +kernel)]; exact ⟨rfl, rfl⟩))
    (fun os started H enc _ => lifted_FnExactIsSymmetricSpectrum os started H enc)
end Go.Proofs.Ytnkdoilpofboeaa
