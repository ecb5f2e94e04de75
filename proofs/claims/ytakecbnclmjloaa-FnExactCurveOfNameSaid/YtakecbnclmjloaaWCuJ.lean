/- The laws' functions on branches, curves and polynomials that came in. No condition. -/
import Derived.Test.YtakecbnclmjloaaWCvL
import Derived.Test.YtakecbnclmjloaaWPwS
import Derived.Test.YtakecbnclmjloaaWBrA
import Derived.Test.YtakecbnclmjloaaWGrA
namespace Go.Proofs.Ytakecbnclmjloaa
set_option maxHeartbeats 20000000
set_option linter.unusedVariables false
set_option linter.unusedSimpArgs false
open Go.Pv
open Go.ChangeShapes Go.WideShapes Go.ChangeAt Go.RowKit
attribute [local irreducible] RunU WpA Step CallG CallNG Done DoneN
instance fnOk79 : FnOk Try.prog 79 := ⟨_, Try.func79, rfl, by decide⟩
instance fnOk83 : FnOk Try.prog 83 := ⟨_, Try.func83, rfl, by decide⟩
instance fnOk44 : FnOk Try.prog 44 := ⟨_, Try.func44, rfl, by decide⟩
instance fnOk51 : FnOk Try.prog 51 := ⟨_, Try.func51, rfl, by decide⟩
instance fnOk15 : FnOk Try.prog 15 := ⟨_, Try.func15, rfl, by decide⟩
instance fnOk21 : FnOk Try.prog 21 := ⟨_, Try.func21, rfl, by decide⟩
instance fnOk12 : FnOk Try.prog 12 := ⟨_, Try.func12, rfl, by decide⟩
instance fnOk17 : FnOk Try.prog 17 := ⟨_, Try.func17, rfl, by decide⟩
instance fnOk23 : FnOk Try.prog 23 := ⟨_, Try.func23, rfl, by decide⟩
instance fnOk28 : FnOk Try.prog 28 := ⟨_, Try.func28, rfl, by decide⟩
instance : MakeTyS Try.prog 35 (.sl true 1 []) := .of (z := .agg #[.slice none 0 0]) (bytes := 24) Try.underlying35 (by kernel_rfl) (by decide) rfl zero_nil
theorem eqBrS2_c (A : List (List Int)) (hA : A.length ≤ 2147483648) (ha : ∀ i, (A.getD i []).length ≤ 2147483648) : CallA Try.prog 38 [aLL A, aLL A] [rB true] [] := by
  refine callA_of _ Try.func38 rfl Try.ntmps38 (by first | exact ⟨rfl, rfl⟩ | (simp only [List.all_cons, List.all_nil, V.solid, D.solid, D.solids, solids_ints, solids_bools, solids_LL, Bool.and_self, Bool.and_true, and_self]; done) | simp [V.solid, D.solid, D.solids, solids_lits, solids_ints, solids_bools, solids_LL]) ?_
  repeat' (first | (guard_target =~ WpA _ _ _ _ _ _; first | refine WpA.seq ?_ | refine WpA.drawU ?_ | refine WpA.regionU ?_ | refine WpA.block ?_ | refine WpA.ret ?_ | refine WpA.skip ?_ | refine WpA.exit ?_ | refine WpA.cond_true rfl ?_ | refine WpA.cond_false rfl ?_ | refine WpA.cond_ntrue rfl ?_ | refine WpA.cond_dec rfl (fun _ => ?_) (fun _ => ?_) | refine WpA.cond_not rfl (fun _ => ?_) (fun _ => ?_) | refine WpA.cond rfl (fun _ => ?_) (fun _ => ?_)) | (guard_target =~ RunU _ _ _ _ [] _ _ _ _; first | refine RunU.nilL ?_ | refine RunU.nilD (by kernel_rfl) ?_) | (guard_target =~ RunU _ _ _ _ (Oper.mk _ _ _ _ _ none :: _) _ _ _ _; refine RunU.cons step_any ?_) | ((fail_if_success (guard_target =~ @Eq _ _ _)); (fail_if_success (guard_target =~ @Exists _ _)); first | refine Then.next ?_ | refine InBlock.next ?_ | refine Done.ret (.one (by first | exact .c rfl | exact .own rfl | exact .als rfl rfl | exact .ptr rfl rfl | exact .part rfl rfl rfl) .nil) (.sh (.sh .nil)) ?_ rfl))
  all_goals try (exfalso; omega)
  refine WpA.loop_slots (ι := Nat) (fun j => [(0, .c (.sl false 1 (LLs A))), (1, .c (.sl false 1 (LLs A))), (5, .c (.lit (.int .i64 (j : Int))))]) (fun j => j ≤ A.length) (fun j => A.length - j) 0 (by omega) ⟨rfl, rfl, rfl, trivial⟩ ?_
  intro j s nx hj
  have hE := eqBranch_c (A.getD (j * 1) []) (A.getD (j * 1) []) (by have := ha (j * 1); omega) (by have := ha (j * 1); omega)
  rw [decide_eq_true rfl] at hE
  clear ha
  repeat' (first | (guard_target =~ WpA _ _ _ _ _ _; first | refine WpA.seq ?_ | refine WpA.drawU ?_ | refine WpA.regionU ?_ | refine WpA.block ?_ | refine WpA.ret ?_ | refine WpA.skip ?_ | refine WpA.exit ?_ | refine WpA.cond_true rfl ?_ | refine WpA.cond_false rfl ?_ | refine WpA.cond_ntrue rfl ?_ | refine WpA.cond_dec rfl (fun _ => ?_) (fun _ => ?_) | refine WpA.cond_not rfl (fun _ => ?_) (fun _ => ?_) | refine WpA.cond rfl (fun _ => ?_) (fun _ => ?_)) | (guard_target =~ RunU _ _ _ _ [] _ _ _ _; first | refine RunU.nilL ?_ | refine RunU.nilD (by kernel_rfl) ?_) | (guard_target =~ RunU _ _ _ _ (Oper.mk _ (Op.call ⟨Callee.value _, _, _⟩) _ _ _ none :: _) _ _ _ _; first | refine RunU.cons (step_call (hE) (.sh (.sh .nil)) (.shAgg rfl aggs_any (.shAgg rfl aggs_any .nil)) rfl) ?_) | (guard_target =~ RunU _ _ _ _ (Oper.mk _ _ _ _ _ none :: _) _ _ _ _; refine RunU.cons step_any ?_) | ((fail_if_success (guard_target =~ @Eq _ _ _)); (fail_if_success (guard_target =~ @Exists _ _)); first | refine Then.next ?_ | refine InBlock.next ?_ | refine Done.ret (.one (by first | exact .c rfl | exact .own rfl | exact .als rfl rfl | exact .ptr rfl rfl | exact .part rfl rfl rfl) .nil) (.sh (.sh .nil)) ?_ rfl))
  all_goals first | rfl | (exfalso; simp_all; done) | (exfalso; omega) | exact ⟨j + 1, by omega, ⟨rfl, rfl, int_eq (by omega), trivial⟩, by omega⟩
theorem eqSSJ_c (A : List (List Int)) (hA : A.length ≤ 2147483648) (ha : ∀ i, (A.getD i []).length ≤ 2147483648) : CallA Try.prog 39 [aLL A, aLL A] [rB true] [] := by
  have := eqSS2_c A A hA hA ha ha
  rwa [decide_eq_true rfl] at this
theorem eqCurveJ_c (B C : List (List Int)) (hB : B.length ≤ 1048576 ∧ ∀ i, (B.getD i []).length ≤ 1048576) (hC : C.length ≤ 1048576 ∧ ∀ i, (C.getD i []).length ≤ 1048576) : CallA Try.prog 12 [aCu B C, aCu B C] [rB true] [] := by
  have h1 := eqBrS2_c B (by omega) (fun i => by have := hB.2 i; omega)
  have h2 := eqSSJ_c C (by omega) (fun i => by have := hC.2 i; omega)
  clear hB hC
  refine callA_of _ Try.func12 rfl Try.ntmps12 (by first | exact ⟨rfl, rfl⟩ | (simp only [List.all_cons, List.all_nil, V.solid, D.solid, D.solids, solids_ints, solids_bools, solids_LL, Bool.and_self, Bool.and_true, and_self]; done) | simp [V.solid, D.solid, D.solids, solids_lits, solids_ints, solids_bools, solids_LL]) ?_
  repeat' (first | (guard_target =~ WpA _ _ _ _ _ _; first | refine WpA.seq ?_ | refine WpA.drawU ?_ | refine WpA.regionU ?_ | refine WpA.block ?_ | refine WpA.ret ?_ | refine WpA.skip ?_ | refine WpA.exit ?_ | refine WpA.cond_true rfl ?_ | refine WpA.cond_false rfl ?_ | refine WpA.cond_ntrue rfl ?_ | refine WpA.cond_dec rfl (fun _ => ?_) (fun _ => ?_) | refine WpA.cond_not rfl (fun _ => ?_) (fun _ => ?_) | refine WpA.cond rfl (fun _ => ?_) (fun _ => ?_)) | (guard_target =~ RunU _ _ _ _ [] _ _ _ _; first | refine RunU.nilL ?_ | refine RunU.nilD (by kernel_rfl) ?_) | (guard_target =~ RunU _ _ _ _ (Oper.mk (some 9) (Op.call ⟨Callee.value _, _, _⟩) _ _ _ none :: _) _ _ _ _; first | refine RunU.cons (step_call (h1) (.sh (.sh .nil)) (.sh shows_any (.sh shows_any .nil)) rfl) ?_) | (guard_target =~ RunU _ _ _ _ (Oper.mk (some 15) (Op.call ⟨Callee.value _, _, _⟩) _ _ _ none :: _) _ _ _ _; first | refine RunU.cons (step_call (h2) (.sh (.sh .nil)) (.sh shows_any (.sh shows_any .nil)) rfl) ?_) | (guard_target =~ RunU _ _ _ _ (Oper.mk _ _ _ _ _ none :: _) _ _ _ _; refine RunU.cons step_any ?_) | ((fail_if_success (guard_target =~ @Eq _ _ _)); (fail_if_success (guard_target =~ @Exists _ _)); first | refine Then.next ?_ | refine InBlock.next ?_ | refine Done.ret (.one (by first | exact .c rfl | exact .own rfl | exact .als rfl rfl | exact .ptr rfl rfl | exact .part rfl rfl rfl) .nil) (.sh (.sh .nil)) ?_ rfl))
  all_goals first | rfl | (exfalso; simp_all; done)
end Go.Proofs.Ytakecbnclmjloaa
