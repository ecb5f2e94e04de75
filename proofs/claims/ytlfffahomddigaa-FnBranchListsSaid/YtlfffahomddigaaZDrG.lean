/- Drawn branches, spoiled; the draws of the lists of branches. No condition. -/
import Derived.Test.YtlfffahomddigaaZDrD
import Derived.Test.YtlfffahomddigaaZDgE
import Derived.Test.YtlfffahomddigaaZPwQ
import Derived.Test.YtlfffahomddigaaZPwN
namespace Go.Proofs.Ytlfffahomddigaa
set_option maxHeartbeats 20000000
set_option linter.unusedVariables false
set_option linter.unusedSimpArgs false
open Go.Pv
open Go.ChangeShapes Go.WideShapes Go.ChangeAt Go.RowKit
attribute [local irreducible] RunU WpA Step CallG CallNG Done DoneN
instance fnOk52 : FnOk Try.prog 52 := ⟨_, Try.func52, rfl, by decide⟩
attribute [local irreducible] decStrict decFalls decIsBr decWithin Strict Falls IsBr Within
theorem fromB_ex {l : List Int} (hb : By l) : ∃ s : St, OkS l s ∧ CallS Try.prog 46 [aBy l] [.one (dSs l s)] [] := by
  obtain ⟨h, _, hF⟩ := from_c' l hb.len
  exact ⟨(0, h), ⟨by simp, by simp⟩, hF⟩
theorem countS_ex {l : List Int} (hb : By l) {s : St} (hs : OkS l s) (most : Int) (hm : 0 ≤ most ∧ most ≤ 1000000) : ∃ x s', (-4611686018427387904 ≤ x ∧ x ≤ 1099511627776) ∧ OkS l s' ∧ CallNS Try.prog 48 (dSs l s) [aI most] [rI x] (dSs l s') := by
  obtain ⟨x, a, h, h1, h2, h3⟩ := count_c' l hb.len hb.b s.1 s.2 most hm hs
  exact ⟨x, (a, h), h1, h2, h3⟩
set_option maxRecDepth 100000 in
theorem spoil_ex {l : List Int} (hb : By l) {s : St} (hs : OkS l s) : ∃ (T : List Int) (s' : St), T.length ≤ 101 ∧ OkS l s' ∧
    CallNS Try.prog 52 (dSs l s) [] [brT T] (dSs l s') := by
  obtain ⟨T, s1, hT, hs1, hD⟩ := draw_ex hb hs
  have hTl : 1 ≤ T.length ∧ T.length ≤ 100 := (tms_br hT).len
  obtain ⟨k, s2, d2⟩ := dr1_ex hb hs1 30
  have hN := d2.2.2
  by_cases h0 : k = 0
  · obtain ⟨q, s3, d3⟩ := drP_ex hb d2.2.1 [0, -1, 65, 2] (by simp)
    have hP := d3.2.2
    refine ⟨T.set (0 * 1) q, s3, by rw [List.length_set]; omega, d3.2.1, ?_⟩
    subst h0
    clear d2 d3 hb hT
    refine callNS_of _ Try.func52 rfl Try.ntmps52 ?_
    repeat' (first | (guard_target =~ WpA _ _ _ _ _ _; first | refine WpA.seq ?_ | refine WpA.drawU ?_ | refine WpA.regionU ?_ | refine WpA.block ?_ | refine WpA.ret ?_ | refine WpA.skip ?_ | refine WpA.exit ?_ | refine WpA.cond_true rfl ?_ | refine WpA.cond_false rfl ?_ | refine WpA.cond_ntrue rfl ?_ | refine WpA.cond_dec rfl (fun _ => ?_) (fun _ => ?_) | refine WpA.cond_not rfl (fun _ => ?_) (fun _ => ?_) | refine WpA.cond rfl (fun _ => ?_) (fun _ => ?_)) | (guard_target =~ RunU _ _ _ _ [] _ _ _ _; first | refine RunU.nilL ?_ | refine RunU.nilD (by kernel_rfl) ?_) | (guard_target =~ RunU _ _ _ _ (Oper.mk _ (Op.call ⟨Callee.value _, _, _⟩) _ _ _ none :: _) _ _ _ _; first | refine RunU.cons (step_call_ioSV (hD) io_any .nil .nil (by exact rfl) (by exact rfl) rfl) ?_ | refine RunU.cons (step_call_ioS1 (hN) io_any (.sh .nil) (.sh (by first | exact .lit rfl rfl | exact .c rfl) .nil) (by exact rfl) (by exact rfl) rfl) ?_ | refine RunU.cons (step_call_ioS1 (hP) io_any (.mv give_any .nil) (.mv .nil) (by exact rfl) (by exact rfl) rfl) ?_) | (guard_target =~ RunU _ _ _ _ (Oper.mk _ _ _ _ _ none :: _) _ _ _ _; refine RunU.cons step_any ?_) | ((fail_if_success (guard_target =~ @Eq _ _ _)); (fail_if_success (guard_target =~ @Exists _ _)); first | refine Then.next ?_ | refine InBlock.next ?_ | refine DoneN.ret (.cell inferInstance rfl rfl .nil) rfl rfl rfl | refine DoneN.ret (.cell inferInstance rfl rfl .nil) rfl ?_ rfl | refine DoneN.ret (.cell inferInstance rfl rfl .nil) rfl rfl ?_ | refine DoneN.ret (.cell inferInstance rfl rfl .nil) rfl ?_ ?_ | refine DoneN.normal (.cell inferInstance rfl rfl .nil) rfl rfl rfl | refine DoneN.normal (.cell inferInstance rfl rfl .nil) rfl ?_ rfl | refine DoneN.normal (.cell inferInstance rfl rfl .nil) rfl rfl ?_ | refine DoneN.normal (.cell inferInstance rfl rfl .nil) rfl ?_ ?_))
    all_goals first | rfl | (exfalso; omega)
  · by_cases h1 : k = 1
    · obtain ⟨q, s3, d3⟩ := drP_ex hb d2.2.1 [2001, 1999, 5, 1099511627776] (by simp)
      have hP := d3.2.2
      refine ⟨T ++ [q], s3, by simp; omega, d3.2.1, ?_⟩
      subst h1
      clear d2 d3 hb hT
      refine callNS_of _ Try.func52 rfl Try.ntmps52 ?_
      repeat' (first | (guard_target =~ WpA _ _ _ _ _ _; first | refine WpA.seq ?_ | refine WpA.drawU ?_ | refine WpA.regionU ?_ | refine WpA.block ?_ | refine WpA.ret ?_ | refine WpA.skip ?_ | refine WpA.exit ?_ | refine WpA.cond_true rfl ?_ | refine WpA.cond_false rfl ?_ | refine WpA.cond_ntrue rfl ?_ | refine WpA.cond_dec rfl (fun _ => ?_) (fun _ => ?_) | refine WpA.cond_not rfl (fun _ => ?_) (fun _ => ?_) | refine WpA.cond rfl (fun _ => ?_) (fun _ => ?_)) | (guard_target =~ RunU _ _ _ _ [] _ _ _ _; first | refine RunU.nilL ?_ | refine RunU.nilD (by kernel_rfl) ?_) | (guard_target =~ RunU _ _ _ _ (Oper.mk _ (Op.call ⟨Callee.value _, _, _⟩) _ _ _ none :: _) _ _ _ _; first | refine RunU.cons (step_call_ioSV (hD) io_any .nil .nil (by exact rfl) (by exact rfl) rfl) ?_ | refine RunU.cons (step_call_ioS1 (hN) io_any (.sh .nil) (.sh (by first | exact .lit rfl rfl | exact .c rfl) .nil) (by exact rfl) (by exact rfl) rfl) ?_ | refine RunU.cons (step_call_ioS1 (hP) io_any (.mv give_any .nil) (.mv .nil) (by exact rfl) (by exact rfl) rfl) ?_) | (guard_target =~ RunU _ _ _ _ (Oper.mk _ _ _ _ _ none :: _) _ _ _ _; refine RunU.cons step_any ?_) | ((fail_if_success (guard_target =~ @Eq _ _ _)); (fail_if_success (guard_target =~ @Exists _ _)); first | refine Then.next ?_ | refine InBlock.next ?_ | refine DoneN.ret (.cell inferInstance rfl rfl .nil) rfl rfl rfl | refine DoneN.ret (.cell inferInstance rfl rfl .nil) rfl ?_ rfl | refine DoneN.ret (.cell inferInstance rfl rfl .nil) rfl rfl ?_ | refine DoneN.ret (.cell inferInstance rfl rfl .nil) rfl ?_ ?_ | refine DoneN.normal (.cell inferInstance rfl rfl .nil) rfl rfl rfl | refine DoneN.normal (.cell inferInstance rfl rfl .nil) rfl ?_ rfl | refine DoneN.normal (.cell inferInstance rfl rfl .nil) rfl rfl ?_ | refine DoneN.normal (.cell inferInstance rfl rfl .nil) rfl ?_ ?_))
      all_goals first | rfl | (exfalso; omega)
    · by_cases h2 : k = 2
      · refine ⟨T.drop 1, s2, by rw [List.length_drop]; omega, d2.2.1, ?_⟩
        subst h2
        clear d2 hb hT
        refine callNS_of _ Try.func52 rfl Try.ntmps52 ?_
        repeat' (first | (guard_target =~ WpA _ _ _ _ _ _; first | refine WpA.seq ?_ | refine WpA.drawU ?_ | refine WpA.regionU ?_ | refine WpA.block ?_ | refine WpA.ret ?_ | refine WpA.skip ?_ | refine WpA.exit ?_ | refine WpA.cond_true rfl ?_ | refine WpA.cond_false rfl ?_ | refine WpA.cond_ntrue rfl ?_ | refine WpA.cond_dec rfl (fun _ => ?_) (fun _ => ?_) | refine WpA.cond_not rfl (fun _ => ?_) (fun _ => ?_) | refine WpA.cond rfl (fun _ => ?_) (fun _ => ?_)) | (guard_target =~ RunU _ _ _ _ [] _ _ _ _; first | refine RunU.nilL ?_ | refine RunU.nilD (by kernel_rfl) ?_) | (guard_target =~ RunU _ _ _ _ (Oper.mk _ (Op.call ⟨Callee.value _, _, _⟩) _ _ _ none :: _) _ _ _ _; first | refine RunU.cons (step_call_ioSV (hD) io_any .nil .nil (by exact rfl) (by exact rfl) rfl) ?_ | refine RunU.cons (step_call_ioS1 (hN) io_any (.sh .nil) (.sh (by first | exact .lit rfl rfl | exact .c rfl) .nil) (by exact rfl) (by exact rfl) rfl) ?_) | (guard_target =~ RunU _ _ _ _ (Oper.mk _ _ _ _ _ none :: _) _ _ _ _; first | refine RunU.cons (step_tail (l := 1) (by exact .part rfl rfl rfl) rfl rfl (by omega) rfl) ?_) | (guard_target =~ RunU _ _ _ _ (Oper.mk _ _ _ _ _ none :: _) _ _ _ _; refine RunU.cons step_any ?_) | ((fail_if_success (guard_target =~ @Eq _ _ _)); (fail_if_success (guard_target =~ @Exists _ _)); first | refine Then.next ?_ | refine InBlock.next ?_ | refine DoneN.ret (.cell inferInstance rfl rfl .nil) rfl rfl rfl | refine DoneN.ret (.cell inferInstance rfl rfl .nil) rfl ?_ rfl | refine DoneN.ret (.cell inferInstance rfl rfl .nil) rfl rfl ?_ | refine DoneN.ret (.cell inferInstance rfl rfl .nil) rfl ?_ ?_ | refine DoneN.normal (.cell inferInstance rfl rfl .nil) rfl rfl rfl | refine DoneN.normal (.cell inferInstance rfl rfl .nil) rfl ?_ rfl | refine DoneN.normal (.cell inferInstance rfl rfl .nil) rfl rfl ?_ | refine DoneN.normal (.cell inferInstance rfl rfl .nil) rfl ?_ ?_))
        all_goals first | rfl | (exfalso; omega)
      · refine ⟨T, s2, by omega, d2.2.1, ?_⟩
        clear d2 hb hT
        refine callNS_of _ Try.func52 rfl Try.ntmps52 ?_
        repeat' (first | (guard_target =~ WpA _ _ _ _ _ _; first | refine WpA.seq ?_ | refine WpA.drawU ?_ | refine WpA.regionU ?_ | refine WpA.block ?_ | refine WpA.ret ?_ | refine WpA.skip ?_ | refine WpA.exit ?_ | refine WpA.cond_true rfl ?_ | refine WpA.cond_false rfl ?_ | refine WpA.cond_ntrue rfl ?_ | refine WpA.cond_dec rfl (fun _ => ?_) (fun _ => ?_) | refine WpA.cond_not rfl (fun _ => ?_) (fun _ => ?_) | refine WpA.cond rfl (fun _ => ?_) (fun _ => ?_)) | (guard_target =~ RunU _ _ _ _ [] _ _ _ _; first | refine RunU.nilL ?_ | refine RunU.nilD (by kernel_rfl) ?_) | (guard_target =~ RunU _ _ _ _ (Oper.mk _ (Op.call ⟨Callee.value _, _, _⟩) _ _ _ none :: _) _ _ _ _; first | refine RunU.cons (step_call_ioSV (hD) io_any .nil .nil (by exact rfl) (by exact rfl) rfl) ?_ | refine RunU.cons (step_call_ioS1 (hN) io_any (.sh .nil) (.sh (by first | exact .lit rfl rfl | exact .c rfl) .nil) (by exact rfl) (by exact rfl) rfl) ?_) | (guard_target =~ RunU _ _ _ _ (Oper.mk _ _ _ _ _ none :: _) _ _ _ _; refine RunU.cons step_any ?_) | ((fail_if_success (guard_target =~ @Eq _ _ _)); (fail_if_success (guard_target =~ @Exists _ _)); first | refine Then.next ?_ | refine InBlock.next ?_ | refine DoneN.ret (.cell inferInstance rfl rfl .nil) rfl rfl rfl | refine DoneN.ret (.cell inferInstance rfl rfl .nil) rfl ?_ rfl | refine DoneN.ret (.cell inferInstance rfl rfl .nil) rfl rfl ?_ | refine DoneN.ret (.cell inferInstance rfl rfl .nil) rfl ?_ ?_ | refine DoneN.normal (.cell inferInstance rfl rfl .nil) rfl rfl rfl | refine DoneN.normal (.cell inferInstance rfl rfl .nil) rfl ?_ rfl | refine DoneN.normal (.cell inferInstance rfl rfl .nil) rfl rfl ?_ | refine DoneN.normal (.cell inferInstance rfl rfl .nil) rfl ?_ ?_))
        all_goals first | rfl | (exfalso; omega)
end Go.Proofs.Ytlfffahomddigaa
