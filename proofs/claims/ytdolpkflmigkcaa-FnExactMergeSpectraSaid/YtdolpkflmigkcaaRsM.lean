/- The law on merged spectra: the program answers as its reference does, for every input. No condition. -/
import Derived.Test.YtdolpkflmigkcaaRsC
import Derived.Test.YtdolpkflmigkcaaSqA
import Derived.Test.YtdolpkflmigkcaaRows
namespace Go.Proofs.Ytdolpkflmigkcaa
set_option maxHeartbeats 2000000
set_option linter.unusedVariables false
set_option linter.unusedSimpArgs false
open Go.Pv
open Go.ChangeShapes Go.WideShapes Go.ChangeAt Go.RowKit
attribute [local irreducible] RunU WpA Step CallG Done
theorem own : ownKnob Try.prog.godebug = none := by kernel_rfl
theorem laidOut : laidOutB Try.prog = true := by kernel_rfl
theorem mkS_len' (b : Int) (l : List Int) : (mkS b l).length ≤ 400 := by
  unfold mkS
  split
  · simp
  · rw [insTo_len]; omega
theorem rsS_len (b : Int) (l : List Int) : (rsS b l).length ≤ 400 := by
  unfold rsS
  split
  · exact mkS_len' _ _
  · simp
theorem fpS_len (b : Int) (l : List Int) : (fpS b l).length ≤ 400 := by
  unfold fpS
  split
  · exact mkS_len' _ _
  · simp
theorem mgS_len (b1 : Int) (l1 : List Int) (b2 : Int) (l2 : List Int) : (mgS b1 l1 b2 l2).length ≤ 400 := by
  unfold mgS
  split
  · exact mkS_len' _ _
  · simp
instance fnOk5 : FnOk Try.prog 5 := ⟨_, Try.func5, rfl, by decide⟩
set_option maxRecDepth 100000 in
theorem law_FnExactMergeSpectra_c (b : Int) (l : List Int) (b2 : Int) (l2 : List Int) (hl : l.length ≤ 9223372036854775807) (hl2 : l2.length ≤ 9223372036854775807) : CallA Try.prog 5 [aSp b l, aSp b2 l2] [rB true] [] := by
  refine callA_of _ Try.func5 rfl Try.ntmps5 (by first | exact ⟨rfl, rfl⟩ | (simp only [List.all_cons, List.all_nil, V.solid, D.solid, D.solids, solids_ints, solids_LL, Bool.and_self, Bool.and_true, and_self]; done) | simp [V.solid, D.solid, D.solids, solids_lits, solids_ints, solids_LL]) ?_
  repeat' (first
      | (guard_target =~ WpA _ _ _ _ _ _; first
        | refine WpA.seq ?_
        | refine WpA.drawU ?_
        | refine WpA.regionU ?_
        | refine WpA.block ?_
        | refine WpA.ret ?_
        | refine WpA.skip ?_
        | refine WpA.exit ?_
        | refine WpA.cond_true rfl ?_
        | refine WpA.cond_false rfl ?_
        | refine WpA.cond_ntrue rfl ?_
        | refine WpA.cond_dec rfl (fun _ => ?_) (fun _ => ?_)
        | refine WpA.cond_not rfl (fun _ => ?_) (fun _ => ?_)
        | refine WpA.cond rfl (fun _ => ?_) (fun _ => ?_)
        )
      | (guard_target =~ RunU _ _ _ _ [] _ _ _ _; first
        | refine RunU.nilL ?_
        | refine RunU.nilD (by kernel_rfl) ?_
        )
      | (guard_target =~ RunU _ _ _ _ (Oper.mk _ (Op.call ⟨Callee.value _, _, _⟩) _ _ _ none :: _) _ _ _ _; first
        | refine RunU.cons (step_call (szSpectrum_c b l 1048576 (by omega) hl) (.sh (.sh .nil)) (.shAgg rfl aggs_any (.sh shows_any .nil)) rfl) ?_
        )
      | (guard_target =~ RunU _ _ _ _ (Oper.mk _ _ _ _ _ none :: _) _ _ _ _; refine RunU.cons step_any ?_)
      | (guard_target =~ RunU _ _ _ _ (Oper.mk _ _ _ _ _ (some _) :: _) _ _ _ _; first
        | refine RunU.pass rfl rfl rfl rfl ?_
        | refine RunU.pass_undef rfl rfl rfl ?_
        | (guard_target =~ RunU _ _ _ _ (Oper.mk _ (Op.call ⟨Callee.value _, _, _⟩) _ _ _ _ :: _) _ _ _ _; first
          | refine RunU.doit rfl rfl (step_call (szSpectrum_c b l 1048576 (by omega) hl) (.sh (.sh .nil)) (.shAgg rfl aggs_any (.sh shows_any .nil)) rfl) ?_
          )
        | refine RunU.doit rfl rfl step_any ?_
        | refine RunU.guard_dec rfl rfl (fun _ => ?_) (fun _ => ?_)
        | refine RunU.guard_not rfl rfl (fun _ => ?_) (fun _ => ?_)
        | refine RunU.guard rfl rfl (fun _ => ?_) (fun _ => ?_)
        )
      | refine Then.next ?_
      | refine InBlock.next ?_
      | refine Done.ret (.one (by first | exact .c rfl | exact .own rfl | exact .als rfl rfl | exact .ptr rfl rfl | exact .part rfl rfl rfl) .nil) (.sh (.sh .nil)) ?_ rfl
      | refine Done.normal (.one (by first | exact .c rfl | exact .own rfl | exact .als rfl rfl | exact .ptr rfl rfl | exact .part rfl rfl rfl) .nil) (.sh (.sh .nil)) ?_ rfl)
  case refine_1 h => rfl
  case refine_2 h =>
    have hs1 : l.length ≤ 1048576 ∧ (if (1048576 : Int) - l.length < 0 then -1 else (1048576 : Int) - l.length) = 1048576 - (l.length : Int) := by
      split at h
      · omega
      · rename_i h'
        exact ⟨by omega, by rw [if_neg h']⟩
    have hsz := szSpectrum_c b2 l2 (1048576 - (l.length : Int)) (by omega) hl2
    rw [hs1.2] at h ⊢
    repeat' (first
        | (guard_target =~ WpA _ _ _ _ _ _; first
          | refine WpA.seq ?_
          | refine WpA.drawU ?_
          | refine WpA.regionU ?_
          | refine WpA.block ?_
          | refine WpA.ret ?_
          | refine WpA.skip ?_
          | refine WpA.exit ?_
          | refine WpA.cond_true rfl ?_
          | refine WpA.cond_false rfl ?_
          | refine WpA.cond_ntrue rfl ?_
          | refine WpA.cond_dec rfl (fun _ => ?_) (fun _ => ?_)
          | refine WpA.cond_not rfl (fun _ => ?_) (fun _ => ?_)
          | refine WpA.cond rfl (fun _ => ?_) (fun _ => ?_)
          )
        | (guard_target =~ RunU _ _ _ _ [] _ _ _ _; first
          | refine RunU.nilL ?_
          | refine RunU.nilD (by kernel_rfl) ?_
          )
        | (guard_target =~ RunU _ _ _ _ (Oper.mk _ (Op.call ⟨Callee.value _, _, _⟩) _ _ _ none :: _) _ _ _ _; first
          | refine RunU.cons (step_call (hsz) (.sh (.sh .nil)) (.shAgg rfl aggs_any (.sh shows_any .nil)) rfl) ?_
          )
        | (guard_target =~ RunU _ _ _ _ (Oper.mk _ _ _ _ _ none :: _) _ _ _ _; refine RunU.cons step_any ?_)
        | (guard_target =~ RunU _ _ _ _ (Oper.mk _ _ _ _ _ (some _) :: _) _ _ _ _; first
          | refine RunU.pass rfl rfl rfl rfl ?_
          | refine RunU.pass_undef rfl rfl rfl ?_
          | (guard_target =~ RunU _ _ _ _ (Oper.mk _ (Op.call ⟨Callee.value _, _, _⟩) _ _ _ _ :: _) _ _ _ _; first
            | refine RunU.doit rfl rfl (step_call (hsz) (.sh (.sh .nil)) (.shAgg rfl aggs_any (.sh shows_any .nil)) rfl) ?_
            )
          | refine RunU.doit rfl rfl step_any ?_
          | refine RunU.guard_dec rfl rfl (fun _ => ?_) (fun _ => ?_)
          | refine RunU.guard_not rfl rfl (fun _ => ?_) (fun _ => ?_)
          | refine RunU.guard rfl rfl (fun _ => ?_) (fun _ => ?_)
          )
        | refine Then.next ?_
        | refine InBlock.next ?_
        | refine Done.ret (.one (by first | exact .c rfl | exact .own rfl | exact .als rfl rfl | exact .ptr rfl rfl | exact .part rfl rfl rfl) .nil) (.sh (.sh .nil)) ?_ rfl
        | refine Done.normal (.one (by first | exact .c rfl | exact .own rfl | exact .als rfl rfl | exact .ptr rfl rfl | exact .part rfl rfl rfl) .nil) (.sh (.sh .nil)) ?_ rfl)
    case refine_1 h' => rfl
    case refine_2 h' =>
      have hs2 : l2.length ≤ 1048576 := by
        split at h' <;> omega
      have hs1' := hs1.1
      have hsl := mgS_len b l b2 l2
      have hml := marks_len 1 (mgS b l b2 l2).length
      have hh := heldSpectrum_c (mgB b l b2 l2) (marks 1 (mgS b l b2 l2).length) 1 (by rw [hml]) (by omega) (by omega)
      rw [hml] at hh
      have hsp := specMerge_c b l b2 l2 hs1' hs2
      have him := implMerge_c b l b2 l2 hs1' hs2
      generalize mgC b l b2 l2 = cc at *
      generalize mgS b l b2 l2 = ss at *
      generalize mgB b l b2 l2 = bb at *
      repeat' (first
          | (guard_target =~ WpA _ _ _ _ _ _; first
            | refine WpA.seq ?_
            | refine WpA.drawU ?_
            | refine WpA.regionU ?_
            | refine WpA.block ?_
            | refine WpA.ret ?_
            | refine WpA.skip ?_
            | refine WpA.exit ?_
            | refine WpA.cond_true rfl ?_
            | refine WpA.cond_false rfl ?_
            | refine WpA.cond_ntrue rfl ?_
            | refine WpA.cond_dec rfl (fun _ => ?_) (fun _ => ?_)
            | refine WpA.cond_not rfl (fun _ => ?_) (fun _ => ?_)
            | refine WpA.cond rfl (fun _ => ?_) (fun _ => ?_)
            )
          | (guard_target =~ RunU _ _ _ _ [] _ _ _ _; first
            | refine RunU.nilL ?_
            | refine RunU.nilD (by kernel_rfl) ?_
            )
          | (guard_target =~ RunU _ _ _ _ (Oper.mk _ (Op.call ⟨Callee.value _, _, _⟩) _ _ _ none :: _) _ _ _ _; first
            | refine RunU.cons (step_call (toSpectrum_c b l hs1') (.sh .nil) (.shAgg rfl aggs_any .nil) rfl) ?_
            | refine RunU.cons (step_call (toSpectrum_c b2 l2 hs2) (.sh .nil) (.shAgg rfl aggs_any .nil) rfl) ?_
            | refine RunU.cons (step_call (hsp) (.sh (.sh .nil)) (.shAgg rfl aggs_any (.shAgg rfl aggs_any .nil)) rfl) ?_
            | refine RunU.cons (step_call (him) (.sh (.sh .nil)) (.shAgg rfl aggs_any (.shAgg rfl aggs_any .nil)) rfl) ?_
            | refine RunU.cons (step_call (eqSpectrum_c bb bb ss ss (by omega) (by omega)) (.sh (.sh .nil)) (.shAgg rfl aggs_any (.shAgg rfl aggs_any .nil)) rfl) ?_
            | refine RunU.cons (step_call (eqSpectrum_c b b l l hl hl) (.sh (.sh .nil)) (.shAgg rfl aggs_any (.shAgg rfl aggs_any .nil)) rfl) ?_
            | refine RunU.cons (step_call (eqSpectrum_c b2 b2 l2 l2 hl2 hl2) (.sh (.sh .nil)) (.shAgg rfl aggs_any (.shAgg rfl aggs_any .nil)) rfl) ?_
            | refine RunU.cons (step_call_ia (markSpectrum_ia b l 1 (by omega) (by omega)) (by exact rfl) (by exact rfl) (by exact rfl) (by first | exact .nil | exact .cons rfl .nil) (by exact rfl) rfl) ?_
            | refine RunU.cons (step_call_ia (markSpectrum_ia b2 l2 (1 + l.length) (by omega) (by omega)) (by exact rfl) (by exact rfl) (by exact rfl) (by first | exact .nil | exact .cons rfl .nil) (by exact rfl) rfl) ?_
            | refine RunU.cons (step_call_ia (markSpectrum_ia bb ss 1 (by omega) (by omega)) (by exact rfl) (by exact rfl) (by exact rfl) (by first | exact .nil | exact .cons rfl .nil) (by exact rfl) rfl) ?_
            | refine RunU.cons (step_call (hh) (.sh (.sh .nil)) (.shAgg rfl aggs_any (.sh shows_any .nil)) rfl) ?_
            )
          | (guard_target =~ RunU _ _ _ _ (Oper.mk _ _ _ _ _ none :: _) _ _ _ _; refine RunU.cons step_any ?_)
          | (guard_target =~ RunU _ _ _ _ (Oper.mk _ _ _ _ _ (some _) :: _) _ _ _ _; first
            | refine RunU.pass rfl rfl rfl rfl ?_
            | refine RunU.pass_undef rfl rfl rfl ?_
            | (guard_target =~ RunU _ _ _ _ (Oper.mk _ (Op.call ⟨Callee.value _, _, _⟩) _ _ _ _ :: _) _ _ _ _; first
              | refine RunU.doit rfl rfl (step_call (toSpectrum_c b l hs1') (.sh .nil) (.shAgg rfl aggs_any .nil) rfl) ?_
              | refine RunU.doit rfl rfl (step_call (toSpectrum_c b2 l2 hs2) (.sh .nil) (.shAgg rfl aggs_any .nil) rfl) ?_
              | refine RunU.doit rfl rfl (step_call (hsp) (.sh (.sh .nil)) (.shAgg rfl aggs_any (.shAgg rfl aggs_any .nil)) rfl) ?_
              | refine RunU.doit rfl rfl (step_call (him) (.sh (.sh .nil)) (.shAgg rfl aggs_any (.shAgg rfl aggs_any .nil)) rfl) ?_
              | refine RunU.doit rfl rfl (step_call (eqSpectrum_c bb bb ss ss (by omega) (by omega)) (.sh (.sh .nil)) (.shAgg rfl aggs_any (.shAgg rfl aggs_any .nil)) rfl) ?_
              | refine RunU.doit rfl rfl (step_call (eqSpectrum_c b b l l hl hl) (.sh (.sh .nil)) (.shAgg rfl aggs_any (.shAgg rfl aggs_any .nil)) rfl) ?_
              | refine RunU.doit rfl rfl (step_call (eqSpectrum_c b2 b2 l2 l2 hl2 hl2) (.sh (.sh .nil)) (.shAgg rfl aggs_any (.shAgg rfl aggs_any .nil)) rfl) ?_
              | refine RunU.doit rfl rfl (step_call_ia (markSpectrum_ia b l 1 (by omega) (by omega)) (by exact rfl) (by exact rfl) (by exact rfl) (by first | exact .nil | exact .cons rfl .nil) (by exact rfl) rfl) ?_
              | refine RunU.doit rfl rfl (step_call_ia (markSpectrum_ia b2 l2 (1 + l.length) (by omega) (by omega)) (by exact rfl) (by exact rfl) (by exact rfl) (by first | exact .nil | exact .cons rfl .nil) (by exact rfl) rfl) ?_
              | refine RunU.doit rfl rfl (step_call_ia (markSpectrum_ia bb ss 1 (by omega) (by omega)) (by exact rfl) (by exact rfl) (by exact rfl) (by first | exact .nil | exact .cons rfl .nil) (by exact rfl) rfl) ?_
              | refine RunU.doit rfl rfl (step_call (hh) (.sh (.sh .nil)) (.shAgg rfl aggs_any (.sh shows_any .nil)) rfl) ?_
              )
            | refine RunU.doit rfl rfl step_any ?_
            | refine RunU.guard_dec rfl rfl (fun _ => ?_) (fun _ => ?_)
            | refine RunU.guard_not rfl rfl (fun _ => ?_) (fun _ => ?_)
            | refine RunU.guard rfl rfl (fun _ => ?_) (fun _ => ?_)
            )
          | refine Then.next ?_
          | refine InBlock.next ?_
          | refine Done.ret (.one (by first | exact .c rfl | exact .own rfl | exact .als rfl rfl | exact .ptr rfl rfl | exact .part rfl rfl rfl) .nil) (.sh (.sh .nil)) ?_ rfl
          | refine Done.normal (.one (by first | exact .c rfl | exact .own rfl | exact .als rfl rfl | exact .ptr rfl rfl | exact .part rfl rfl rfl) .nil) (.sh (.sh .nil)) ?_ rfl)
      all_goals first | rfl | exact absurd rfl ‹_› | omega | (simp_all; done)
theorem sees_FnExactMergeSpectra (xs : List Arg) (has : Sees Try.prog Try.f5.params.toList xs) : CallA Try.prog 5 xs [.one (.lit (.bool true))] [] := by
  rw [Try.params5] at has
  obtain ⟨b, l, xs, rfl, _, hl, h⟩ := sees_sp Try.underlying24 rfl Try.underlying2 Try.underlying22 Try.underlying2 (by kernel_rfl) has
  have hl : l.length ≤ 9223372036854775807 := hl
  obtain ⟨b2, l2, xs, rfl, _, hl2, h⟩ := sees_sp Try.underlying24 rfl Try.underlying2 Try.underlying22 Try.underlying2 (by kernel_rfl) h
  have hl2 : l2.length ≤ 9223372036854775807 := hl2
  obtain rfl := sees_nil h
  exact law_FnExactMergeSpectra_c b l b2 l2 hl hl2
set_option maxRecDepth 100000 in
theorem lifted_FnExactMergeSpectra (os : Os) (started : os.Started) (H : Type) (enc : TypeId × Value → H) :
    ReturnsInHanded {} Try.checked os 5 .any (Rows.fnExactMergeSpectraSpec.pre6 enc Try.prog Try.f5 Rows.fnExactMergeSpectraRow.domain false) (Rows.fnExactMergeSpectraSpec.post enc Try.prog Try.f5 false true false false) := by
  refine returnsInHanded_of_change (C := Try.checked) own started (by kernel_rfl) Try.func5
    (ChangeSpec.witness6 (enc := enc) (C := Try.checked) false ⟨#[], #[.agg #[.int .i64 0, .slice none 0 0], .agg #[.int .i64 0, .slice none 0 0]], []⟩ 8 (by kernel_rfl) (by kernel_rfl) (by kernel_rfl) (by kernel_rfl)) ?_
  intro W base args ds gs before hval hW _ _
  refine law_contract (P := Try.prog) laidOut (by kernel_rfl) rfl (by kernel_rfl) Try.underlying4 (fun ds h => ?_) sees_FnExactMergeSpectra W base args ds gs before hval hW
  rw [Try.params5] at h
  match ds, h with
  | [_, _], _ => exact ⟨rfl, rfl, rfl⟩
/-- The law holds for every input. -/
theorem said_FnExactMergeSpectra : Rows.FnExactMergeSpectraSaid :=
  OpenClaim.holds_of_wide 5 Try.f5 rfl rfl rfl rfl rfl rfl rfl ⟨rfl, rfl, rfl, rfl, rfl⟩ rfl rfl rfl rfl rfl (by kernel_rfl) Try.func5 (by kernel_rfl)
    (of_decide_eq_true (by kernel_rfl)) (by unfold Func.isWrapper; first | (rw [if_pos (by decide +kernel)]; kernel_rfl) | (rw [if_neg (by decide +kernel)]; exact ⟨rfl, rfl⟩))
    (fun os started H enc _ => lifted_FnExactMergeSpectra os started H enc)
end Go.Proofs.Ytdolpkflmigkcaa
