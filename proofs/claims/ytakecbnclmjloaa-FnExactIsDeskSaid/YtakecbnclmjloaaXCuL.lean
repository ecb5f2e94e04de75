/- FnExactIsDesk: the program takes for a desk what the reference takes for one, and leaves its argument as it was. No condition. -/
import Derived.Test.YtakecbnclmjloaaXCuK
import Derived.Test.YtakecbnclmjloaaRows
namespace Go.Proofs.Ytakecbnclmjloaa
set_option maxHeartbeats 20000000
set_option linter.unusedVariables false
set_option linter.unusedSimpArgs false
open Go.Pv
open Go.ChangeShapes Go.WideShapes Go.ChangeAt Go.RowKit
attribute [local irreducible] RunU WpA Step CallG CallNG Done DoneN
theorem own : ownKnob Try.prog.godebug = none := by kernel_rfl
theorem laidOut : laidOutB Try.prog = true := by kernel_rfl
instance fnOk3 : FnOk Try.prog 3 := ⟨_, Try.func3, rfl, by decide⟩
theorem lawDesk_c (B C : List (List Int)) (P S W : List Int) (L : List (List Int)) (hB : B.length ≤ 9223372036854775807) (hC : C.length ≤ 9223372036854775807) (hb : ∀ i, (B.getD i []).length ≤ 9223372036854775807) (hc : ∀ i, (C.getD i []).length ≤ 9223372036854775807)
    (hP : P.length ≤ 9223372036854775807) (hS : S.length ≤ 9223372036854775807) (hW : W.length ≤ 9223372036854775807) (hL : L.length ≤ 9223372036854775807) (hl : ∀ i, (L.getD i []).length ≤ 9223372036854775807) : CallA Try.prog 3 [aDe B C P S W L] [rB true] [] := by
  have hZ := szDesk_c B C P S W L 1048576 (by omega) hB hC hb hc hP hS hW hL hl
  by_cases hz : szDe B C P S W L 1048576 < 0
  · generalize szDe B C P S W L 1048576 = z at *
    refine callA_of _ Try.func3 rfl Try.ntmps3 (by first | exact ⟨rfl, rfl⟩ | (simp only [List.all_cons, List.all_nil, V.solid, D.solid, D.solids, solids_ints, solids_bools, solids_LL, Bool.and_self, Bool.and_true, and_self]; done) | simp [V.solid, D.solid, D.solids, solids_lits, solids_ints, solids_bools, solids_LL]) ?_
    repeat' (first | (guard_target =~ WpA _ _ _ _ _ _; first | refine WpA.seq ?_ | refine WpA.drawU ?_ | refine WpA.regionU ?_ | refine WpA.block ?_ | refine WpA.ret ?_ | refine WpA.skip ?_ | refine WpA.exit ?_ | refine WpA.cond_true rfl ?_ | refine WpA.cond_false rfl ?_ | refine WpA.cond_ntrue rfl ?_ | refine WpA.cond_dec rfl (fun _ => ?_) (fun _ => ?_) | refine WpA.cond_not rfl (fun _ => ?_) (fun _ => ?_) | refine WpA.cond rfl (fun _ => ?_) (fun _ => ?_)) | (guard_target =~ RunU _ _ _ _ [] _ _ _ _; first | refine RunU.nilL ?_ | refine RunU.nilD (by kernel_rfl) ?_) | (guard_target =~ RunU _ _ _ _ (Oper.mk _ (Op.call ⟨Callee.value _, _, _⟩) _ _ _ none :: _) _ _ _ _; first | refine RunU.cons (step_call (hZ) (.sh (.sh .nil)) (.shAgg rfl aggs_any (.sh shows_any .nil)) rfl) ?_) | (guard_target =~ RunU _ _ _ _ (Oper.mk _ _ _ _ _ none :: _) _ _ _ _; refine RunU.cons step_any ?_) | ((fail_if_success (guard_target =~ @Eq _ _ _)); (fail_if_success (guard_target =~ @Exists _ _)); first | refine Then.next ?_ | refine InBlock.next ?_ | refine Done.ret (.one (by first | exact .c rfl | exact .own rfl | exact .als rfl rfl | exact .ptr rfl rfl | exact .part rfl rfl rfl) .nil) (.sh .nil) ?_ rfl))
    all_goals first | rfl | (exfalso; omega)
  · obtain ⟨⟨q1, q2⟩, q3, q4⟩ := szDe_small (show 0 ≤ szDe B C P S W L 1048576 by omega)
    generalize szDe B C P S W L 1048576 = z at *
    have hT := toDesk_c B C P S W L q1 q2 q3 q4
    have hE := eqDesk_c B C P S W L q1 q2 q3 q4
    have hI := implDesk_c B C P S W L q1 q2 q3 q4
    have hR := specDesk_c B C P S W L q1 q2 q3 q4
    clear hb hc hl q1 q2 q3 q4
    generalize (decide (IsCu B C) && decide (IsCl P S W) && decide (IsPol L)) = x at *
    refine callA_of _ Try.func3 rfl Try.ntmps3 (by first | exact ⟨rfl, rfl⟩ | (simp only [List.all_cons, List.all_nil, V.solid, D.solid, D.solids, solids_ints, solids_bools, solids_LL, Bool.and_self, Bool.and_true, and_self]; done) | simp [V.solid, D.solid, D.solids, solids_lits, solids_ints, solids_bools, solids_LL]) ?_
    repeat' (first | (guard_target =~ WpA _ _ _ _ _ _; first | refine WpA.seq ?_ | refine WpA.drawU ?_ | refine WpA.regionU ?_ | refine WpA.block ?_ | refine WpA.ret ?_ | refine WpA.skip ?_ | refine WpA.exit ?_ | refine WpA.cond_true rfl ?_ | refine WpA.cond_false rfl ?_ | refine WpA.cond_ntrue rfl ?_ | refine WpA.cond_dec rfl (fun _ => ?_) (fun _ => ?_) | refine WpA.cond_not rfl (fun _ => ?_) (fun _ => ?_) | refine WpA.cond rfl (fun _ => ?_) (fun _ => ?_)) | (guard_target =~ RunU _ _ _ _ [] _ _ _ _; first | refine RunU.nilL ?_ | refine RunU.nilD (by kernel_rfl) ?_) | (guard_target =~ RunU _ _ _ _ (Oper.mk _ (Op.call ⟨Callee.value _, _, _⟩) _ _ _ none :: _) _ _ _ _; first | refine RunU.cons (step_call (hZ) (.sh (.sh .nil)) (.shAgg rfl aggs_any (.sh shows_any .nil)) rfl) ?_ | refine RunU.cons (step_call (hT) (.sh .nil) (.shAgg rfl aggs_any .nil) rfl) ?_ | refine RunU.cons (step_call (hR) (.sh .nil) (.shAgg rfl aggs_any .nil) rfl) ?_ | refine RunU.cons (step_call (hI) (.sh .nil) (.shAgg rfl aggs_any .nil) rfl) ?_ | refine RunU.cons (step_call (hE) (.sh (.sh .nil)) (.shAgg rfl aggs_any (.shAgg rfl aggs_any .nil)) rfl) ?_) | (guard_target =~ RunU _ _ _ _ (Oper.mk _ _ _ _ _ none :: _) _ _ _ _; refine RunU.cons step_any ?_) | ((fail_if_success (guard_target =~ @Eq _ _ _)); (fail_if_success (guard_target =~ @Exists _ _)); first | refine Then.next ?_ | refine InBlock.next ?_ | refine Done.ret (.one (by first | exact .c rfl | exact .own rfl | exact .als rfl rfl | exact .ptr rfl rfl | exact .part rfl rfl rfl) .nil) (.sh .nil) ?_ rfl))
    all_goals first | rfl | exact absurd rfl ‹_› | omega | (simp_all; done)
theorem sees_FnExactIsDesk (xs : List Arg) (has : Sees Try.prog Try.f3.params.toList xs) : CallA Try.prog 3 xs [.one (.lit (.bool true))] [] := by
  rw [Try.params3] at has
  obtain ⟨ds, xs', rfl, k1, k2⟩ := sees_agg Try.underlying32 has
  obtain rfl := sees_nil k2
  have k1 : TyF Try.prog [25, 28, 30] ds := k1
  obtain ⟨d1, r1, rfl, j1, j2⟩ := tyF_cons k1
  obtain ⟨d2, r2, rfl, j3, j4⟩ := tyF_cons j2
  obtain ⟨d3, r3, rfl, j5, j6⟩ := tyF_cons j4
  obtain rfl := tyF_nil j6
  obtain ⟨B, C, rfl, ⟨hB, hb⟩, hC, hc⟩ := ty_cu Try.underlying25 rfl Try.underlying22 Try.underlying102 rfl Try.underlying23 Try.underlying26 Try.underlying2 (by kernel_rfl) (by kernel_rfl) (by kernel_rfl) j1
  have j3 : TyF Try.prog [26, 26, 26] d2 := ty_struct Try.underlying28 j3
  obtain ⟨e1, s1, rfl, i1, i2⟩ := tyF_cons j3
  obtain ⟨e2, s2, rfl, i3, i4⟩ := tyF_cons i2
  obtain ⟨e3, s3, rfl, i5, i6⟩ := tyF_cons i4
  obtain rfl := tyF_nil i6
  obtain ⟨P, rfl, hP, _⟩ := ty_ints Try.underlying26 Try.underlying2 (by kernel_rfl) i1
  obtain ⟨S, rfl, hS, _⟩ := ty_ints Try.underlying26 Try.underlying2 (by kernel_rfl) i3
  obtain ⟨W, rfl, hW, _⟩ := ty_ints Try.underlying26 Try.underlying2 (by kernel_rfl) i5
  have j5 : TyF Try.prog [23] d3 := ty_struct Try.underlying30 j5
  obtain ⟨e4, s4, rfl, i7, i8⟩ := tyF_cons j5
  obtain rfl := tyF_nil i8
  obtain ⟨L, rfl, hL, hl⟩ := ty_LLs Try.underlying23 Try.underlying26 Try.underlying2 (by kernel_rfl) (by kernel_rfl) i7
  exact lawDesk_c B C P S W L hB hC hb hc hP hS hW hL hl
set_option maxRecDepth 100000 in
theorem lifted_FnExactIsDesk (os : Os) (started : os.Started) (H : Type) (enc : TypeId × Value → H) :
    ReturnsInHanded {} Try.checked os 3 .any (Rows.fnExactIsDeskSpec.pre6 enc Try.prog Try.f3 Rows.fnExactIsDeskRow.domain false) (Rows.fnExactIsDeskSpec.post enc Try.prog Try.f3 false true false false) := by
  refine returnsInHanded_of_change (C := Try.checked) own started (by kernel_rfl) Try.func3
    (ChangeSpec.witness6 (enc := enc) (C := Try.checked) false ⟨#[], #[.agg #[.slice none 0 0, .slice none 0 0, .slice none 0 0, .slice none 0 0, .slice none 0 0, .slice none 0 0]], []⟩ 8 (by kernel_rfl) (by kernel_rfl) (by kernel_rfl) (by kernel_rfl)) ?_
  intro W base args ds gs before hval hW _ _
  refine law_contract (P := Try.prog) laidOut (by kernel_rfl) rfl (by kernel_rfl) Try.underlying4 (fun ds h => ?_) sees_FnExactIsDesk W base args ds gs before hval hW
  rw [Try.params3] at h
  match ds, h with
  | [_], _ => exact ⟨rfl, rfl, rfl⟩
theorem said_FnExactIsDesk : Rows.FnExactIsDeskSaid :=
  OpenClaim.holds_of_wide 3 Try.f3 rfl rfl rfl rfl rfl rfl rfl ⟨rfl, rfl, rfl, rfl, rfl⟩ rfl rfl rfl rfl rfl (by kernel_rfl) Try.func3 (by kernel_rfl)
    (of_decide_eq_true (by kernel_rfl)) (by unfold Func.isWrapper; first | (rw [if_pos (by decide +kernel)]; kernel_rfl) | (rw [if_neg (by decide +kernel)]; exact ⟨rfl, rfl⟩))
    (fun os started H enc _ => lifted_FnExactIsDesk os started H enc)
end Go.Proofs.Ytakecbnclmjloaa
