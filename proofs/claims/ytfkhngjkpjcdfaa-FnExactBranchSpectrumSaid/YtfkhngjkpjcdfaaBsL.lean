/- The law on the spectrum of a branch: the program answers as its reference does, for every input. No condition. -/
import Derived.Test.YtfkhngjkpjcdfaaBsG
import Derived.Test.YtfkhngjkpjcdfaaBsH
import Derived.Test.YtfkhngjkpjcdfaaBrA
import Derived.Test.YtfkhngjkpjcdfaaSqA
import Derived.Test.YtfkhngjkpjcdfaaBsJ
namespace Go.Proofs.Ytfkhngjkpjcdfaa
set_option maxHeartbeats 2000000
set_option linter.unusedVariables false
set_option linter.unusedSimpArgs false
open Go.Pv
open Go.ChangeShapes Go.WideShapes Go.ChangeAt Go.RowKit
attribute [local irreducible] RunU WpA Step CallG Done
theorem own : ownKnob Try.prog.godebug = none := by kernel_rfl
theorem laidOut : laidOutB Try.prog = true := by kernel_rfl
instance fnOk22 : FnOk Try.prog 22 := ⟨_, Try.func22, rfl, by decide⟩
instance fnOk24 : FnOk Try.prog 24 := ⟨_, Try.func24, rfl, by decide⟩
instance fnOk28 : FnOk Try.prog 28 := ⟨_, Try.func28, rfl, by decide⟩
theorem szBranch_c (l : List Int) (k : Int) (h : 0 ≤ k ∧ k ≤ 1048576) (hl : l.length ≤ 9223372036854775807) : CallA Try.prog 22 [aBr l, aI k] [rI (if k - l.length < 0 then -1 else k - l.length)] [] := by
  refine callA_of _ Try.func22 rfl Try.ntmps22 (by first | exact ⟨rfl, rfl⟩ | (simp only [List.all_cons, List.all_nil, V.solid, D.solid, D.solids, solids_ints, solids_LL, Bool.and_self, Bool.and_true, and_self]; done) | simp [V.solid, D.solid, D.solids, solids_lits, solids_ints, solids_LL]) ?_
  repeat' (first
      | (guard_target =~ WpA _ _ _ _ _ _; first
        | refine WpA.seq ?_
        | refine WpA.drawU ?_
        | refine WpA.regionU ?_
        | refine WpA.block ?_
        | refine WpA.ret ?_
        | refine WpA.skip ?_
        | refine WpA.exit ?_
        | refine WpA.cond_true rfl ?_
        | refine WpA.cond_false rfl ?_
        | refine WpA.cond_ntrue rfl ?_
        | refine WpA.cond_dec rfl (fun _ => ?_) (fun _ => ?_)
        | refine WpA.cond_not rfl (fun _ => ?_) (fun _ => ?_)
        | refine WpA.cond rfl (fun _ => ?_) (fun _ => ?_)
        )
      | (guard_target =~ RunU _ _ _ _ [] _ _ _ _; first
        | refine RunU.nilL ?_
        | refine RunU.nilD (by kernel_rfl) ?_
        )
      | (guard_target =~ RunU _ _ _ _ (Oper.mk _ (Op.call ⟨Callee.value _, _, _⟩) _ _ _ none :: _) _ _ _ _; first
        | refine RunU.cons (step_call (szInt64S_c _ _ (by omega) (by omega)) (.sh (.sh .nil)) (.sh shows_any (.sh shows_any .nil)) rfl) ?_
        )
      | (guard_target =~ RunU _ _ _ _ (Oper.mk _ _ _ _ _ none :: _) _ _ _ _; refine RunU.cons step_any ?_)
      | (guard_target =~ RunU _ _ _ _ (Oper.mk _ _ _ _ _ (some _) :: _) _ _ _ _; first
        | refine RunU.pass rfl rfl rfl rfl ?_
        | refine RunU.pass_undef rfl rfl rfl ?_
        | (guard_target =~ RunU _ _ _ _ (Oper.mk _ (Op.call ⟨Callee.value _, _, _⟩) _ _ _ _ :: _) _ _ _ _; first
          | refine RunU.doit rfl rfl (step_call (szInt64S_c _ _ (by omega) (by omega)) (.sh (.sh .nil)) (.sh shows_any (.sh shows_any .nil)) rfl) ?_
          )
        | refine RunU.doit rfl rfl step_any ?_
        | ((fail_if_success (refine RunU.doit (rd := []) (up := []) rfl rfl ?_ ?_)); first
          | refine RunU.guard_dec rfl rfl (fun _ => ?_) (fun _ => ?_)
          | refine RunU.guard_not rfl rfl (fun _ => ?_) (fun _ => ?_)
          | refine RunU.guard rfl rfl (fun _ => ?_) (fun _ => ?_))
        )
      | refine Then.next ?_
      | refine InBlock.next ?_
      | refine Done.ret (.one (by first | exact .c rfl | exact .own rfl | exact .als rfl rfl | exact .ptr rfl rfl | exact .part rfl rfl rfl) .nil) (.sh (.sh .nil)) ?_ rfl
      | refine Done.normal (.one (by first | exact .c rfl | exact .own rfl | exact .als rfl rfl | exact .ptr rfl rfl | exact .part rfl rfl rfl) .nil) (.sh (.sh .nil)) ?_ rfl)
  all_goals first | rfl | (simp; split at * <;> omega)
theorem toBranch_c (l : List Int) (h : l.length ≤ 1048576) : CallA Try.prog 24 [aBr l] [.agg [.sl true 1 (ints l)]] [] := by
  refine callA_of _ Try.func24 rfl Try.ntmps24 (by first | exact ⟨rfl, rfl⟩ | (simp only [List.all_cons, List.all_nil, V.solid, D.solid, D.solids, solids_ints, solids_LL, Bool.and_self, Bool.and_true, and_self]; done) | simp [V.solid, D.solid, D.solids, solids_lits, solids_ints, solids_LL]) ?_
  repeat' (first
      | (guard_target =~ WpA _ _ _ _ _ _; first
        | refine WpA.seq ?_
        | refine WpA.drawU ?_
        | refine WpA.regionU ?_
        | refine WpA.block ?_
        | refine WpA.ret ?_
        | refine WpA.skip ?_
        | refine WpA.exit ?_
        | refine WpA.cond_true rfl ?_
        | refine WpA.cond_false rfl ?_
        | refine WpA.cond_ntrue rfl ?_
        | refine WpA.cond_dec rfl (fun _ => ?_) (fun _ => ?_)
        | refine WpA.cond_not rfl (fun _ => ?_) (fun _ => ?_)
        | refine WpA.cond rfl (fun _ => ?_) (fun _ => ?_)
        )
      | (guard_target =~ RunU _ _ _ _ [] _ _ _ _; first
        | refine RunU.nilL ?_
        | refine RunU.nilD (by kernel_rfl) ?_
        )
      | (guard_target =~ RunU _ _ _ _ (Oper.mk _ (Op.call ⟨Callee.value _, _, _⟩) _ _ _ none :: _) _ _ _ _; first
        | refine RunU.cons (step_call (toInt64S_c _ (by omega)) (.sh .nil) (.sh shows_any .nil) rfl) ?_
        )
      | (guard_target =~ RunU _ _ _ _ (Oper.mk _ _ _ _ _ none :: _) _ _ _ _; refine RunU.cons step_any ?_)
      | (guard_target =~ RunU _ _ _ _ (Oper.mk _ _ _ _ _ (some _) :: _) _ _ _ _; first
        | refine RunU.pass rfl rfl rfl rfl ?_
        | refine RunU.pass_undef rfl rfl rfl ?_
        | (guard_target =~ RunU _ _ _ _ (Oper.mk _ (Op.call ⟨Callee.value _, _, _⟩) _ _ _ _ :: _) _ _ _ _; first
          | refine RunU.doit rfl rfl (step_call (toInt64S_c _ (by omega)) (.sh .nil) (.sh shows_any .nil) rfl) ?_
          )
        | refine RunU.doit rfl rfl step_any ?_
        | ((fail_if_success (refine RunU.doit (rd := []) (up := []) rfl rfl ?_ ?_)); first
          | refine RunU.guard_dec rfl rfl (fun _ => ?_) (fun _ => ?_)
          | refine RunU.guard_not rfl rfl (fun _ => ?_) (fun _ => ?_)
          | refine RunU.guard rfl rfl (fun _ => ?_) (fun _ => ?_))
        )
      | refine Then.next ?_
      | refine InBlock.next ?_
      | refine Done.ret (.cell inferInstance rfl rfl .nil) (.sh .nil) ?_ rfl
      | refine Done.normal (.cell inferInstance rfl rfl .nil) (.sh .nil) ?_ rfl)
  rfl
theorem one_cell {F : Nat → Prop} {w : World} {d1 : D} {r : Rho} {us : List Value} {M : List Nat} (h : RDs F w [d1] 0 r us M) : ∃ u1, us = [u1] := by
  have := h.length
  match us, this with
  | [u1], _ => exact ⟨u1, rfl⟩
theorem markBranch_ia (l : List Int) (k : Int) (hl : l.length ≤ 1048576) (hk : 0 ≤ k ∧ k ≤ 1099511627776) :
    CallIA Try.prog 28 [.sl true 1 (ints l)] [.int .i64 k] [.int .i64 (k + l.length)] [.sl true 1 (ints (marks k l.length))] := by
  intro w us M F r hF h hnd hM
  obtain ⟨u1, rfl⟩ := one_cell h
  obtain ⟨h1, hF1, hM1⟩ := rds_alloc (.cells #[u1] 38) hF h hM
  obtain ⟨u, hu, hcall⟩ := io_at (P := Try.prog) (mark_c l k hl hk) (j := 0) rfl rfl hF1 h1 hnd hM1
  obtain rfl : u1 = u := by simpa using hu
  go_enter Try.func28, Try.ntmps28
  go_wp2_with (go_at_call 40; refine hcall.mono ?_; rintro e w' ⟨r', Lo, rfl, hone, hk, hr, hn, hL⟩)
  go_ret
  exact ⟨r', Lo, rfl, one_res hone, keep_alloc hk, hr, hn, fresh_alloc hL⟩
theorem bsS_len (l : List Int) : (bsS l).length ≤ 400 := by
  unfold bsS
  split
  · split
    · simp
    · unfold mkS
      split
      · simp
      · rw [insTo_len]; omega
  · simp
instance fnOk5 : FnOk Try.prog 5 := ⟨_, Try.func5, rfl, by decide⟩
theorem law_c (l : List Int) (hl : l.length ≤ 9223372036854775807) : CallA Try.prog 5 [aBr l] [rB true] [] := by
  refine callA_of _ Try.func5 rfl Try.ntmps5 (by first | exact ⟨rfl, rfl⟩ | (simp only [List.all_cons, List.all_nil, V.solid, D.solid, D.solids, solids_ints, solids_LL, Bool.and_self, Bool.and_true, and_self]; done) | simp [V.solid, D.solid, D.solids, solids_lits, solids_ints, solids_LL]) ?_
  repeat' (first
      | (guard_target =~ WpA _ _ _ _ _ _; first
        | refine WpA.seq ?_
        | refine WpA.drawU ?_
        | refine WpA.regionU ?_
        | refine WpA.block ?_
        | refine WpA.ret ?_
        | refine WpA.skip ?_
        | refine WpA.exit ?_
        | refine WpA.cond_true rfl ?_
        | refine WpA.cond_false rfl ?_
        | refine WpA.cond_ntrue rfl ?_
        | refine WpA.cond_dec rfl (fun _ => ?_) (fun _ => ?_)
        | refine WpA.cond_not rfl (fun _ => ?_) (fun _ => ?_)
        | refine WpA.cond rfl (fun _ => ?_) (fun _ => ?_)
        )
      | (guard_target =~ RunU _ _ _ _ [] _ _ _ _; first
        | refine RunU.nilL ?_
        | refine RunU.nilD (by kernel_rfl) ?_
        )
      | (guard_target =~ RunU _ _ _ _ (Oper.mk _ (Op.call ⟨Callee.value _, _, _⟩) _ _ _ none :: _) _ _ _ _; first
        | refine RunU.cons (step_call (szBranch_c l 1048576 (by omega) hl) (.sh (.sh .nil)) (.shAgg rfl aggs_any (.sh shows_any .nil)) rfl) ?_
        )
      | (guard_target =~ RunU _ _ _ _ (Oper.mk _ _ _ _ _ none :: _) _ _ _ _; refine RunU.cons step_any ?_)
      | (guard_target =~ RunU _ _ _ _ (Oper.mk _ _ _ _ _ (some _) :: _) _ _ _ _; first
        | refine RunU.pass rfl rfl rfl rfl ?_
        | refine RunU.pass_undef rfl rfl rfl ?_
        | (guard_target =~ RunU _ _ _ _ (Oper.mk _ (Op.call ⟨Callee.value _, _, _⟩) _ _ _ _ :: _) _ _ _ _; first
          | refine RunU.doit rfl rfl (step_call (szBranch_c l 1048576 (by omega) hl) (.sh (.sh .nil)) (.shAgg rfl aggs_any (.sh shows_any .nil)) rfl) ?_
          )
        | refine RunU.doit rfl rfl step_any ?_
        | ((fail_if_success (refine RunU.doit (rd := []) (up := []) rfl rfl ?_ ?_)); first
          | refine RunU.guard_dec rfl rfl (fun _ => ?_) (fun _ => ?_)
          | refine RunU.guard_not rfl rfl (fun _ => ?_) (fun _ => ?_)
          | refine RunU.guard rfl rfl (fun _ => ?_) (fun _ => ?_))
        )
      | refine Then.next ?_
      | refine InBlock.next ?_
      | refine Done.ret (.one (by first | exact .c rfl | exact .own rfl | exact .als rfl rfl | exact .ptr rfl rfl | exact .part rfl rfl rfl) .nil) (.sh .nil) ?_ rfl
      | refine Done.normal (.one (by first | exact .c rfl | exact .own rfl | exact .als rfl rfl | exact .ptr rfl rfl | exact .part rfl rfl rfl) .nil) (.sh .nil) ?_ rfl)
  case refine_1 h => rfl
  case refine_2 h =>
    have hl2 : l.length ≤ 1048576 := by
      split at h <;> omega
    have hsl := bsS_len l
    have hml := marks_len 1 (bsS l).length
    have hh := heldSpectrum_c (bsB l) (marks 1 (bsS l).length) 1 (by rw [hml]) (by omega) (by omega)
    rw [hml] at hh
    have hsp := specBranchSpectrum_c l (by omega)
    have him := implBranchSpectrum_c l (by omega)
    generalize bsC l = cc at *
    generalize bsS l = ss at *
    generalize bsB l = bb at *
    repeat' (first
        | (guard_target =~ WpA _ _ _ _ _ _; first
          | refine WpA.seq ?_
          | refine WpA.drawU ?_
          | refine WpA.regionU ?_
          | refine WpA.block ?_
          | refine WpA.ret ?_
          | refine WpA.skip ?_
          | refine WpA.exit ?_
          | refine WpA.cond_true rfl ?_
          | refine WpA.cond_false rfl ?_
          | refine WpA.cond_ntrue rfl ?_
          | refine WpA.cond_dec rfl (fun _ => ?_) (fun _ => ?_)
          | refine WpA.cond_not rfl (fun _ => ?_) (fun _ => ?_)
          | refine WpA.cond rfl (fun _ => ?_) (fun _ => ?_)
          )
        | (guard_target =~ RunU _ _ _ _ [] _ _ _ _; first
          | refine RunU.nilL ?_
          | refine RunU.nilD (by kernel_rfl) ?_
          )
        | (guard_target =~ RunU _ _ _ _ (Oper.mk _ (Op.call ⟨Callee.value _, _, _⟩) _ _ _ none :: _) _ _ _ _; first
          | refine RunU.cons (step_call (toBranch_c l hl2) (.sh .nil) (.shAgg rfl aggs_any .nil) rfl) ?_
          | refine RunU.cons (step_call (hsp) (.sh .nil) (.shAgg rfl aggs_any .nil) rfl) ?_
          | refine RunU.cons (step_call (him) (.sh .nil) (.shAgg rfl aggs_any .nil) rfl) ?_
          | refine RunU.cons (step_call (eqSpectrum_c bb bb ss ss (by omega) (by omega)) (.sh (.sh .nil)) (.shAgg rfl aggs_any (.shAgg rfl aggs_any .nil)) rfl) ?_
          | refine RunU.cons (step_call (eqBranch_c l l hl hl) (.sh (.sh .nil)) (.shAgg rfl aggs_any (.shAgg rfl aggs_any .nil)) rfl) ?_
          | refine RunU.cons (step_call_ia (markBranch_ia l 1 (by omega) (by omega)) (by exact rfl) (by exact rfl) (by exact rfl) (by first | exact .nil | exact .cons rfl .nil) (by exact rfl) rfl) ?_
          | refine RunU.cons (step_call_ia (markSpectrum_ia bb ss 1 (by omega) (by omega)) (by exact rfl) (by exact rfl) (by exact rfl) (by first | exact .nil | exact .cons rfl .nil) (by exact rfl) rfl) ?_
          | refine RunU.cons (step_call (hh) (.sh (.sh .nil)) (.shAgg rfl aggs_any (.sh shows_any .nil)) rfl) ?_
          )
        | (guard_target =~ RunU _ _ _ _ (Oper.mk _ _ _ _ _ none :: _) _ _ _ _; refine RunU.cons step_any ?_)
        | (guard_target =~ RunU _ _ _ _ (Oper.mk _ _ _ _ _ (some _) :: _) _ _ _ _; first
          | refine RunU.pass rfl rfl rfl rfl ?_
          | refine RunU.pass_undef rfl rfl rfl ?_
          | (guard_target =~ RunU _ _ _ _ (Oper.mk _ (Op.call ⟨Callee.value _, _, _⟩) _ _ _ _ :: _) _ _ _ _; first
            | refine RunU.doit rfl rfl (step_call (toBranch_c l hl2) (.sh .nil) (.shAgg rfl aggs_any .nil) rfl) ?_
            | refine RunU.doit rfl rfl (step_call (hsp) (.sh .nil) (.shAgg rfl aggs_any .nil) rfl) ?_
            | refine RunU.doit rfl rfl (step_call (him) (.sh .nil) (.shAgg rfl aggs_any .nil) rfl) ?_
            | refine RunU.doit rfl rfl (step_call (eqSpectrum_c bb bb ss ss (by omega) (by omega)) (.sh (.sh .nil)) (.shAgg rfl aggs_any (.shAgg rfl aggs_any .nil)) rfl) ?_
            | refine RunU.doit rfl rfl (step_call (eqBranch_c l l hl hl) (.sh (.sh .nil)) (.shAgg rfl aggs_any (.shAgg rfl aggs_any .nil)) rfl) ?_
            | refine RunU.doit rfl rfl (step_call_ia (markBranch_ia l 1 (by omega) (by omega)) (by exact rfl) (by exact rfl) (by exact rfl) (by first | exact .nil | exact .cons rfl .nil) (by exact rfl) rfl) ?_
            | refine RunU.doit rfl rfl (step_call_ia (markSpectrum_ia bb ss 1 (by omega) (by omega)) (by exact rfl) (by exact rfl) (by exact rfl) (by first | exact .nil | exact .cons rfl .nil) (by exact rfl) rfl) ?_
            | refine RunU.doit rfl rfl (step_call (hh) (.sh (.sh .nil)) (.shAgg rfl aggs_any (.sh shows_any .nil)) rfl) ?_
            )
          | refine RunU.doit rfl rfl step_any ?_
          | ((fail_if_success (refine RunU.doit (rd := []) (up := []) rfl rfl ?_ ?_)); first
            | refine RunU.guard_dec rfl rfl (fun _ => ?_) (fun _ => ?_)
            | refine RunU.guard_not rfl rfl (fun _ => ?_) (fun _ => ?_)
            | refine RunU.guard rfl rfl (fun _ => ?_) (fun _ => ?_))
          )
        | refine Then.next ?_
        | refine InBlock.next ?_
        | refine Done.ret (.one (by first | exact .c rfl | exact .own rfl | exact .als rfl rfl | exact .ptr rfl rfl | exact .part rfl rfl rfl) .nil) (.sh .nil) ?_ rfl
        | refine Done.normal (.one (by first | exact .c rfl | exact .own rfl | exact .als rfl rfl | exact .ptr rfl rfl | exact .part rfl rfl rfl) .nil) (.sh .nil) ?_ rfl)
    all_goals first | rfl | exact absurd rfl ‹_› | omega | (simp_all; done)
theorem sees_br {t tl e fs ts xs} (hu : Try.prog.underlying t = some (.struct fs)) (hf : fs.toList.map (·.type) = [tl]) (hl : Try.prog.underlying tl = some (.slice e)) (he : Try.prog.underlying e = some (.int .i64)) (hc : Try.prog.cellsOf e = 1) (h : Sees Try.prog (t :: ts) xs) :
    ∃ (l : List Int) (xs' : List Arg), xs = aBr l :: xs' ∧ l.length ≤ maxLen ∧ Sees Try.prog ts xs' := by
  obtain ⟨ds, xs', rfl, h1, h2⟩ := sees_agg hu h
  rw [hf] at h1
  obtain ⟨d2, r2, rfl, k3, k4⟩ := tyF_cons h1
  obtain rfl := tyF_nil k4
  obtain ⟨l, rfl, hlen, _⟩ := ty_ints hl he hc k3
  exact ⟨l, xs', rfl, hlen, h2⟩
theorem sees_FnExactBranchSpectrum (xs : List Arg) (has : Sees Try.prog Try.f5.params.toList xs) : CallA Try.prog 5 xs [.one (.lit (.bool true))] [] := by
  rw [Try.params5] at has
  obtain ⟨l, xs, rfl, hl, h⟩ := sees_br Try.underlying32 rfl Try.underlying30 Try.underlying2 (by kernel_rfl) has
  have hl : l.length ≤ 9223372036854775807 := hl
  obtain rfl := sees_nil h
  exact law_c l hl
set_option maxRecDepth 100000 in
theorem lifted_FnExactBranchSpectrum (os : Os) (started : os.Started) (H : Type) (enc : TypeId × Value → H) :
    ReturnsInHanded {} Try.checked os 5 .any (Rows.fnExactBranchSpectrumSpec.pre6 enc Try.prog Try.f5 Rows.fnExactBranchSpectrumRow.domain false) (Rows.fnExactBranchSpectrumSpec.post enc Try.prog Try.f5 false true false false) := by
  refine returnsInHanded_of_change (C := Try.checked) own started (by kernel_rfl) Try.func5
    (ChangeSpec.witness6 (enc := enc) (C := Try.checked) false ⟨#[], #[.agg #[.slice none 0 0]], []⟩ 8 (by kernel_rfl) (by kernel_rfl) (by kernel_rfl) (by kernel_rfl)) ?_
  intro W base args ds gs before hval hW _ _
  refine law_contract (P := Try.prog) laidOut (by kernel_rfl) rfl (by kernel_rfl) Try.underlying4 (fun ds h => ?_) sees_FnExactBranchSpectrum W base args ds gs before hval hW
  rw [Try.params5] at h
  match ds, h with
  | [_], _ => exact ⟨rfl, rfl, rfl⟩
/-- The law holds for every input. -/
theorem said_FnExactBranchSpectrum : Rows.FnExactBranchSpectrumSaid :=
  OpenClaim.holds_of_wide 5 Try.f5 rfl rfl rfl rfl rfl rfl rfl ⟨rfl, rfl, rfl, rfl, rfl⟩ rfl rfl rfl rfl rfl (by kernel_rfl) Try.func5 joined_FnExactBranchSpectrum
    (of_decide_eq_true (by kernel_rfl)) (by unfold Func.isWrapper; first | (rw [if_pos (by decide +kernel)]; kernel_rfl) | (rw [if_neg (by decide +kernel)]; exact ⟨rfl, rfl⟩))
    (fun os started H enc _ => lifted_FnExactBranchSpectrum os started H enc)
end Go.Proofs.Ytfkhngjkpjcdfaa
