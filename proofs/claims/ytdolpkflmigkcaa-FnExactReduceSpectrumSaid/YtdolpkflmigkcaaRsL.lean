/- The laws on reduced spectra, fractional parts and merged spectra: the program answers as its reference does, for every input. No condition. -/
import Derived.Test.YtdolpkflmigkcaaRsC
import Derived.Test.YtdolpkflmigkcaaSqA
import Derived.Test.YtdolpkflmigkcaaRows
namespace Go.Proofs.Ytdolpkflmigkcaa
set_option maxHeartbeats 2000000
set_option linter.unusedVariables false
set_option linter.unusedSimpArgs false
open Go.Pv
open Go.ChangeShapes Go.WideShapes Go.ChangeAt Go.RowKit
attribute [local irreducible] RunU WpA Step CallG Done
theorem own : ownKnob Try.prog.godebug = none := by kernel_rfl
theorem laidOut : laidOutB Try.prog = true := by kernel_rfl
theorem mkS_len' (b : Int) (l : List Int) : (mkS b l).length ≤ 400 := by
  unfold mkS
  split
  · simp
  · rw [insTo_len]; omega
theorem rsS_len (b : Int) (l : List Int) : (rsS b l).length ≤ 400 := by
  unfold rsS
  split
  · exact mkS_len' _ _
  · simp
theorem fpS_len (b : Int) (l : List Int) : (fpS b l).length ≤ 400 := by
  unfold fpS
  split
  · exact mkS_len' _ _
  · simp
theorem mgS_len (b1 : Int) (l1 : List Int) (b2 : Int) (l2 : List Int) : (mgS b1 l1 b2 l2).length ≤ 400 := by
  unfold mgS
  split
  · exact mkS_len' _ _
  · simp
instance fnOk3 : FnOk Try.prog 3 := ⟨_, Try.func3, rfl, by decide⟩
theorem law_FnExactReduceSpectrum_c (b : Int) (l : List Int) (hl : l.length ≤ 9223372036854775807) : CallA Try.prog 3 [aSp b l] [rB true] [] := by
  refine callA_of _ Try.func3 rfl Try.ntmps3 (by first | exact ⟨rfl, rfl⟩ | (simp only [List.all_cons, List.all_nil, V.solid, D.solid, D.solids, solids_ints, solids_LL, Bool.and_self, Bool.and_true, and_self]; done) | simp [V.solid, D.solid, D.solids, solids_lits, solids_ints, solids_LL]) ?_
  repeat' (first
      | (guard_target =~ WpA _ _ _ _ _ _; first
        | refine WpA.seq ?_
        | refine WpA.drawU ?_
        | refine WpA.regionU ?_
        | refine WpA.block ?_
        | refine WpA.ret ?_
        | refine WpA.skip ?_
        | refine WpA.exit ?_
        | refine WpA.cond_true rfl ?_
        | refine WpA.cond_false rfl ?_
        | refine WpA.cond_ntrue rfl ?_
        | refine WpA.cond_dec rfl (fun _ => ?_) (fun _ => ?_)
        | refine WpA.cond_not rfl (fun _ => ?_) (fun _ => ?_)
        | refine WpA.cond rfl (fun _ => ?_) (fun _ => ?_)
        )
      | (guard_target =~ RunU _ _ _ _ [] _ _ _ _; first
        | refine RunU.nilL ?_
        | refine RunU.nilD (by kernel_rfl) ?_
        )
      | (guard_target =~ RunU _ _ _ _ (Oper.mk _ _ _ _ _ none :: _) _ _ _ _; first
        | refine RunU.cons (step_call (szSpectrum_c b l 1048576 (by omega) hl) (.sh (.sh .nil)) (.shAgg rfl aggs_any (.sh shows_any .nil)) rfl) ?_
        | refine RunU.cons step_any ?_
        )
      | (guard_target =~ RunU _ _ _ _ (Oper.mk _ _ _ _ _ (some _) :: _) _ _ _ _; first
        | refine RunU.pass rfl rfl rfl rfl ?_
        | refine RunU.pass_undef rfl rfl rfl ?_
        | refine RunU.doit rfl rfl (step_call (szSpectrum_c b l 1048576 (by omega) hl) (.sh (.sh .nil)) (.shAgg rfl aggs_any (.sh shows_any .nil)) rfl) ?_
        | refine RunU.doit rfl rfl step_any ?_
        | refine RunU.guard_dec rfl rfl (fun _ => ?_) (fun _ => ?_)
        | refine RunU.guard_not rfl rfl (fun _ => ?_) (fun _ => ?_)
        | refine RunU.guard rfl rfl (fun _ => ?_) (fun _ => ?_)
        )
      | refine Then.next ?_
      | refine InBlock.next ?_
      | refine Done.ret (.one (by first | exact .c rfl | exact .own rfl | exact .als rfl rfl | exact .ptr rfl rfl | exact .part rfl rfl rfl) .nil) (.sh .nil) ?_ rfl
      | refine Done.normal (.one (by first | exact .c rfl | exact .own rfl | exact .als rfl rfl | exact .ptr rfl rfl | exact .part rfl rfl rfl) .nil) (.sh .nil) ?_ rfl)
  case refine_1 h => rfl
  case refine_2 h =>
    have hl2 : l.length ≤ 1048576 := by
      split at h <;> omega
    have hsl := rsS_len b l
    have hml := marks_len 1 (rsS b l).length
    have hh := heldSpectrum_c (rsB b l) (marks 1 (rsS b l).length) 1 (by rw [hml]) (by omega) (by omega)
    rw [hml] at hh
    have hsp := specReduce_c b l hl2
    have him := implReduce_c b l hl2
    generalize rsC b l = cc at *
    generalize rsS b l = ss at *
    generalize rsB b l = bb at *
    repeat' (first
        | (guard_target =~ WpA _ _ _ _ _ _; first
          | refine WpA.seq ?_
          | refine WpA.drawU ?_
          | refine WpA.regionU ?_
          | refine WpA.block ?_
          | refine WpA.ret ?_
          | refine WpA.skip ?_
          | refine WpA.exit ?_
          | refine WpA.cond_true rfl ?_
          | refine WpA.cond_false rfl ?_
          | refine WpA.cond_ntrue rfl ?_
          | refine WpA.cond_dec rfl (fun _ => ?_) (fun _ => ?_)
          | refine WpA.cond_not rfl (fun _ => ?_) (fun _ => ?_)
          | refine WpA.cond rfl (fun _ => ?_) (fun _ => ?_)
          )
        | (guard_target =~ RunU _ _ _ _ [] _ _ _ _; first
          | refine RunU.nilL ?_
          | refine RunU.nilD (by kernel_rfl) ?_
          )
        | (guard_target =~ RunU _ _ _ _ (Oper.mk _ _ _ _ _ none :: _) _ _ _ _; first
          | refine RunU.cons (step_call (toSpectrum_c b l hl2) (.sh .nil) (.shAgg rfl aggs_any .nil) rfl) ?_
          | refine RunU.cons (step_call (hsp) (.sh .nil) (.shAgg rfl aggs_any .nil) rfl) ?_
          | refine RunU.cons (step_call (him) (.sh .nil) (.shAgg rfl aggs_any .nil) rfl) ?_
          | refine RunU.cons (step_call (eqSpectrum_c bb bb ss ss (by omega) (by omega)) (.sh (.sh .nil)) (.shAgg rfl aggs_any (.shAgg rfl aggs_any .nil)) rfl) ?_
          | refine RunU.cons (step_call (eqSpectrum_c b b l l hl hl) (.sh (.sh .nil)) (.shAgg rfl aggs_any (.shAgg rfl aggs_any .nil)) rfl) ?_
          | refine RunU.cons (step_call_ia (markSpectrum_ia b l 1 (by omega) (by omega)) (by exact rfl) (by exact rfl) (by exact rfl) (by first | exact .nil | exact .cons rfl .nil) (by exact rfl) rfl) ?_
          | refine RunU.cons (step_call_ia (markSpectrum_ia bb ss 1 (by omega) (by omega)) (by exact rfl) (by exact rfl) (by exact rfl) (by first | exact .nil | exact .cons rfl .nil) (by exact rfl) rfl) ?_
          | refine RunU.cons (step_call (hh) (.sh (.sh .nil)) (.shAgg rfl aggs_any (.sh shows_any .nil)) rfl) ?_
          | refine RunU.cons step_any ?_
          )
        | (guard_target =~ RunU _ _ _ _ (Oper.mk _ _ _ _ _ (some _) :: _) _ _ _ _; first
          | refine RunU.pass rfl rfl rfl rfl ?_
          | refine RunU.pass_undef rfl rfl rfl ?_
          | refine RunU.doit rfl rfl (step_call (toSpectrum_c b l hl2) (.sh .nil) (.shAgg rfl aggs_any .nil) rfl) ?_
          | refine RunU.doit rfl rfl (step_call (hsp) (.sh .nil) (.shAgg rfl aggs_any .nil) rfl) ?_
          | refine RunU.doit rfl rfl (step_call (him) (.sh .nil) (.shAgg rfl aggs_any .nil) rfl) ?_
          | refine RunU.doit rfl rfl (step_call (eqSpectrum_c bb bb ss ss (by omega) (by omega)) (.sh (.sh .nil)) (.shAgg rfl aggs_any (.shAgg rfl aggs_any .nil)) rfl) ?_
          | refine RunU.doit rfl rfl (step_call (eqSpectrum_c b b l l hl hl) (.sh (.sh .nil)) (.shAgg rfl aggs_any (.shAgg rfl aggs_any .nil)) rfl) ?_
          | refine RunU.doit rfl rfl (step_call_ia (markSpectrum_ia b l 1 (by omega) (by omega)) (by exact rfl) (by exact rfl) (by exact rfl) (by first | exact .nil | exact .cons rfl .nil) (by exact rfl) rfl) ?_
          | refine RunU.doit rfl rfl (step_call_ia (markSpectrum_ia bb ss 1 (by omega) (by omega)) (by exact rfl) (by exact rfl) (by exact rfl) (by first | exact .nil | exact .cons rfl .nil) (by exact rfl) rfl) ?_
          | refine RunU.doit rfl rfl (step_call (hh) (.sh (.sh .nil)) (.shAgg rfl aggs_any (.sh shows_any .nil)) rfl) ?_
          | refine RunU.doit rfl rfl step_any ?_
          | refine RunU.guard_dec rfl rfl (fun _ => ?_) (fun _ => ?_)
          | refine RunU.guard_not rfl rfl (fun _ => ?_) (fun _ => ?_)
          | refine RunU.guard rfl rfl (fun _ => ?_) (fun _ => ?_)
          )
        | refine Then.next ?_
        | refine InBlock.next ?_
        | refine Done.ret (.one (by first | exact .c rfl | exact .own rfl | exact .als rfl rfl | exact .ptr rfl rfl | exact .part rfl rfl rfl) .nil) (.sh .nil) ?_ rfl
        | refine Done.normal (.one (by first | exact .c rfl | exact .own rfl | exact .als rfl rfl | exact .ptr rfl rfl | exact .part rfl rfl rfl) .nil) (.sh .nil) ?_ rfl)
    all_goals first | rfl | exact absurd rfl ‹_› | omega | (simp_all; done)
theorem sees_FnExactReduceSpectrum (xs : List Arg) (has : Sees Try.prog Try.f3.params.toList xs) : CallA Try.prog 3 xs [.one (.lit (.bool true))] [] := by
  rw [Try.params3] at has
  obtain ⟨b, l, xs, rfl, _, hl, h⟩ := sees_sp Try.underlying24 rfl Try.underlying2 Try.underlying22 Try.underlying2 (by kernel_rfl) has
  have hl : l.length ≤ 9223372036854775807 := hl
  obtain rfl := sees_nil h
  exact law_FnExactReduceSpectrum_c b l hl
set_option maxRecDepth 100000 in
theorem lifted_FnExactReduceSpectrum (os : Os) (started : os.Started) (H : Type) (enc : TypeId × Value → H) :
    ReturnsInHanded {} Try.checked os 3 .any (Rows.fnExactReduceSpectrumSpec.pre6 enc Try.prog Try.f3 Rows.fnExactReduceSpectrumRow.domain false) (Rows.fnExactReduceSpectrumSpec.post enc Try.prog Try.f3 false true false false) := by
  refine returnsInHanded_of_change (C := Try.checked) own started (by kernel_rfl) Try.func3
    (ChangeSpec.witness6 (enc := enc) (C := Try.checked) false ⟨#[], #[.agg #[.int .i64 0, .slice none 0 0]], []⟩ 8 (by kernel_rfl) (by kernel_rfl) (by kernel_rfl) (by kernel_rfl)) ?_
  intro W base args ds gs before hval hW _ _
  refine law_contract (P := Try.prog) laidOut (by kernel_rfl) rfl (by kernel_rfl) Try.underlying4 (fun ds h => ?_) sees_FnExactReduceSpectrum W base args ds gs before hval hW
  rw [Try.params3] at h
  match ds, h with
  | [_], _ => exact ⟨rfl, rfl, rfl⟩
/-- The law holds for every input. -/
theorem said_FnExactReduceSpectrum : Rows.FnExactReduceSpectrumSaid :=
  OpenClaim.holds_of_wide 3 Try.f3 rfl rfl rfl rfl rfl rfl rfl ⟨rfl, rfl, rfl, rfl, rfl⟩ rfl rfl rfl rfl rfl (by kernel_rfl) Try.func3 (by kernel_rfl)
    (of_decide_eq_true (by kernel_rfl)) (by unfold Func.isWrapper; first | (rw [if_pos (by decide +kernel)]; kernel_rfl) | (rw [if_neg (by decide +kernel)]; exact ⟨rfl, rfl⟩))
    (fun os started H enc _ => lifted_FnExactReduceSpectrum os started H enc)
instance fnOk4 : FnOk Try.prog 4 := ⟨_, Try.func4, rfl, by decide⟩
theorem law_FnExactFractionalParts_c (b : Int) (l : List Int) (hl : l.length ≤ 9223372036854775807) : CallA Try.prog 4 [aSp b l] [rB true] [] := by
  refine callA_of _ Try.func4 rfl Try.ntmps4 (by first | exact ⟨rfl, rfl⟩ | (simp only [List.all_cons, List.all_nil, V.solid, D.solid, D.solids, solids_ints, solids_LL, Bool.and_self, Bool.and_true, and_self]; done) | simp [V.solid, D.solid, D.solids, solids_lits, solids_ints, solids_LL]) ?_
  repeat' (first
      | (guard_target =~ WpA _ _ _ _ _ _; first
        | refine WpA.seq ?_
        | refine WpA.drawU ?_
        | refine WpA.regionU ?_
        | refine WpA.block ?_
        | refine WpA.ret ?_
        | refine WpA.skip ?_
        | refine WpA.exit ?_
        | refine WpA.cond_true rfl ?_
        | refine WpA.cond_false rfl ?_
        | refine WpA.cond_ntrue rfl ?_
        | refine WpA.cond_dec rfl (fun _ => ?_) (fun _ => ?_)
        | refine WpA.cond_not rfl (fun _ => ?_) (fun _ => ?_)
        | refine WpA.cond rfl (fun _ => ?_) (fun _ => ?_)
        )
      | (guard_target =~ RunU _ _ _ _ [] _ _ _ _; first
        | refine RunU.nilL ?_
        | refine RunU.nilD (by kernel_rfl) ?_
        )
      | (guard_target =~ RunU _ _ _ _ (Oper.mk _ _ _ _ _ none :: _) _ _ _ _; first
        | refine RunU.cons (step_call (szSpectrum_c b l 1048576 (by omega) hl) (.sh (.sh .nil)) (.shAgg rfl aggs_any (.sh shows_any .nil)) rfl) ?_
        | refine RunU.cons step_any ?_
        )
      | (guard_target =~ RunU _ _ _ _ (Oper.mk _ _ _ _ _ (some _) :: _) _ _ _ _; first
        | refine RunU.pass rfl rfl rfl rfl ?_
        | refine RunU.pass_undef rfl rfl rfl ?_
        | refine RunU.doit rfl rfl (step_call (szSpectrum_c b l 1048576 (by omega) hl) (.sh (.sh .nil)) (.shAgg rfl aggs_any (.sh shows_any .nil)) rfl) ?_
        | refine RunU.doit rfl rfl step_any ?_
        | refine RunU.guard_dec rfl rfl (fun _ => ?_) (fun _ => ?_)
        | refine RunU.guard_not rfl rfl (fun _ => ?_) (fun _ => ?_)
        | refine RunU.guard rfl rfl (fun _ => ?_) (fun _ => ?_)
        )
      | refine Then.next ?_
      | refine InBlock.next ?_
      | refine Done.ret (.one (by first | exact .c rfl | exact .own rfl | exact .als rfl rfl | exact .ptr rfl rfl | exact .part rfl rfl rfl) .nil) (.sh .nil) ?_ rfl
      | refine Done.normal (.one (by first | exact .c rfl | exact .own rfl | exact .als rfl rfl | exact .ptr rfl rfl | exact .part rfl rfl rfl) .nil) (.sh .nil) ?_ rfl)
  case refine_1 h => rfl
  case refine_2 h =>
    have hl2 : l.length ≤ 1048576 := by
      split at h <;> omega
    have hsl := fpS_len b l
    have hml := marks_len 1 (fpS b l).length
    have hh := heldSpectrum_c (fpB b l) (marks 1 (fpS b l).length) 1 (by rw [hml]) (by omega) (by omega)
    rw [hml] at hh
    have hsp := specFp_c b l hl2
    have him := implFp_c b l hl2
    generalize fpC b l = cc at *
    generalize fpS b l = ss at *
    generalize fpB b l = bb at *
    repeat' (first
        | (guard_target =~ WpA _ _ _ _ _ _; first
          | refine WpA.seq ?_
          | refine WpA.drawU ?_
          | refine WpA.regionU ?_
          | refine WpA.block ?_
          | refine WpA.ret ?_
          | refine WpA.skip ?_
          | refine WpA.exit ?_
          | refine WpA.cond_true rfl ?_
          | refine WpA.cond_false rfl ?_
          | refine WpA.cond_ntrue rfl ?_
          | refine WpA.cond_dec rfl (fun _ => ?_) (fun _ => ?_)
          | refine WpA.cond_not rfl (fun _ => ?_) (fun _ => ?_)
          | refine WpA.cond rfl (fun _ => ?_) (fun _ => ?_)
          )
        | (guard_target =~ RunU _ _ _ _ [] _ _ _ _; first
          | refine RunU.nilL ?_
          | refine RunU.nilD (by kernel_rfl) ?_
          )
        | (guard_target =~ RunU _ _ _ _ (Oper.mk _ _ _ _ _ none :: _) _ _ _ _; first
          | refine RunU.cons (step_call (toSpectrum_c b l hl2) (.sh .nil) (.shAgg rfl aggs_any .nil) rfl) ?_
          | refine RunU.cons (step_call (hsp) (.sh .nil) (.shAgg rfl aggs_any .nil) rfl) ?_
          | refine RunU.cons (step_call (him) (.sh .nil) (.shAgg rfl aggs_any .nil) rfl) ?_
          | refine RunU.cons (step_call (eqSpectrum_c bb bb ss ss (by omega) (by omega)) (.sh (.sh .nil)) (.shAgg rfl aggs_any (.shAgg rfl aggs_any .nil)) rfl) ?_
          | refine RunU.cons (step_call (eqSpectrum_c b b l l hl hl) (.sh (.sh .nil)) (.shAgg rfl aggs_any (.shAgg rfl aggs_any .nil)) rfl) ?_
          | refine RunU.cons (step_call_ia (markSpectrum_ia b l 1 (by omega) (by omega)) (by exact rfl) (by exact rfl) (by exact rfl) (by first | exact .nil | exact .cons rfl .nil) (by exact rfl) rfl) ?_
          | refine RunU.cons (step_call_ia (markSpectrum_ia bb ss 1 (by omega) (by omega)) (by exact rfl) (by exact rfl) (by exact rfl) (by first | exact .nil | exact .cons rfl .nil) (by exact rfl) rfl) ?_
          | refine RunU.cons (step_call (hh) (.sh (.sh .nil)) (.shAgg rfl aggs_any (.sh shows_any .nil)) rfl) ?_
          | refine RunU.cons step_any ?_
          )
        | (guard_target =~ RunU _ _ _ _ (Oper.mk _ _ _ _ _ (some _) :: _) _ _ _ _; first
          | refine RunU.pass rfl rfl rfl rfl ?_
          | refine RunU.pass_undef rfl rfl rfl ?_
          | refine RunU.doit rfl rfl (step_call (toSpectrum_c b l hl2) (.sh .nil) (.shAgg rfl aggs_any .nil) rfl) ?_
          | refine RunU.doit rfl rfl (step_call (hsp) (.sh .nil) (.shAgg rfl aggs_any .nil) rfl) ?_
          | refine RunU.doit rfl rfl (step_call (him) (.sh .nil) (.shAgg rfl aggs_any .nil) rfl) ?_
          | refine RunU.doit rfl rfl (step_call (eqSpectrum_c bb bb ss ss (by omega) (by omega)) (.sh (.sh .nil)) (.shAgg rfl aggs_any (.shAgg rfl aggs_any .nil)) rfl) ?_
          | refine RunU.doit rfl rfl (step_call (eqSpectrum_c b b l l hl hl) (.sh (.sh .nil)) (.shAgg rfl aggs_any (.shAgg rfl aggs_any .nil)) rfl) ?_
          | refine RunU.doit rfl rfl (step_call_ia (markSpectrum_ia b l 1 (by omega) (by omega)) (by exact rfl) (by exact rfl) (by exact rfl) (by first | exact .nil | exact .cons rfl .nil) (by exact rfl) rfl) ?_
          | refine RunU.doit rfl rfl (step_call_ia (markSpectrum_ia bb ss 1 (by omega) (by omega)) (by exact rfl) (by exact rfl) (by exact rfl) (by first | exact .nil | exact .cons rfl .nil) (by exact rfl) rfl) ?_
          | refine RunU.doit rfl rfl (step_call (hh) (.sh (.sh .nil)) (.shAgg rfl aggs_any (.sh shows_any .nil)) rfl) ?_
          | refine RunU.doit rfl rfl step_any ?_
          | refine RunU.guard_dec rfl rfl (fun _ => ?_) (fun _ => ?_)
          | refine RunU.guard_not rfl rfl (fun _ => ?_) (fun _ => ?_)
          | refine RunU.guard rfl rfl (fun _ => ?_) (fun _ => ?_)
          )
        | refine Then.next ?_
        | refine InBlock.next ?_
        | refine Done.ret (.one (by first | exact .c rfl | exact .own rfl | exact .als rfl rfl | exact .ptr rfl rfl | exact .part rfl rfl rfl) .nil) (.sh .nil) ?_ rfl
        | refine Done.normal (.one (by first | exact .c rfl | exact .own rfl | exact .als rfl rfl | exact .ptr rfl rfl | exact .part rfl rfl rfl) .nil) (.sh .nil) ?_ rfl)
    all_goals first | rfl | exact absurd rfl ‹_› | omega | (simp_all; done)
theorem sees_FnExactFractionalParts (xs : List Arg) (has : Sees Try.prog Try.f4.params.toList xs) : CallA Try.prog 4 xs [.one (.lit (.bool true))] [] := by
  rw [Try.params4] at has
  obtain ⟨b, l, xs, rfl, _, hl, h⟩ := sees_sp Try.underlying24 rfl Try.underlying2 Try.underlying22 Try.underlying2 (by kernel_rfl) has
  have hl : l.length ≤ 9223372036854775807 := hl
  obtain rfl := sees_nil h
  exact law_FnExactFractionalParts_c b l hl
set_option maxRecDepth 100000 in
theorem lifted_FnExactFractionalParts (os : Os) (started : os.Started) (H : Type) (enc : TypeId × Value → H) :
    ReturnsInHanded {} Try.checked os 4 .any (Rows.fnExactFractionalPartsSpec.pre6 enc Try.prog Try.f4 Rows.fnExactFractionalPartsRow.domain false) (Rows.fnExactFractionalPartsSpec.post enc Try.prog Try.f4 false true false false) := by
  refine returnsInHanded_of_change (C := Try.checked) own started (by kernel_rfl) Try.func4
    (ChangeSpec.witness6 (enc := enc) (C := Try.checked) false ⟨#[], #[.agg #[.int .i64 0, .slice none 0 0]], []⟩ 8 (by kernel_rfl) (by kernel_rfl) (by kernel_rfl) (by kernel_rfl)) ?_
  intro W base args ds gs before hval hW _ _
  refine law_contract (P := Try.prog) laidOut (by kernel_rfl) rfl (by kernel_rfl) Try.underlying4 (fun ds h => ?_) sees_FnExactFractionalParts W base args ds gs before hval hW
  rw [Try.params4] at h
  match ds, h with
  | [_], _ => exact ⟨rfl, rfl, rfl⟩
/-- The law holds for every input. -/
theorem said_FnExactFractionalParts : Rows.FnExactFractionalPartsSaid :=
  OpenClaim.holds_of_wide 4 Try.f4 rfl rfl rfl rfl rfl rfl rfl ⟨rfl, rfl, rfl, rfl, rfl⟩ rfl rfl rfl rfl rfl (by kernel_rfl) Try.func4 (by kernel_rfl)
    (of_decide_eq_true (by kernel_rfl)) (by unfold Func.isWrapper; first | (rw [if_pos (by decide +kernel)]; kernel_rfl) | (rw [if_neg (by decide +kernel)]; exact ⟨rfl, rfl⟩))
    (fun os started H enc _ => lifted_FnExactFractionalParts os started H enc)
end Go.Proofs.Ytdolpkflmigkcaa
