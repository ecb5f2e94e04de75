/- The laws' functions on branches, curves and polynomials that came in. No condition. -/
import Derived.Test.YtinenidbgmddhaaGreatVHbA
import Derived.Test.YtinenidbgmddhaaGreatVPwS
import Derived.Test.YtinenidbgmddhaaGreatVBrA
import Derived.Test.YtinenidbgmddhaaGreatVCuG
set_option linter.unusedVariables false
set_option linter.unusedSimpArgs false
namespace Go.Proofs.YtinenidbgmddhaaGreat
set_option maxHeartbeats 20000000
open Go.Pv
open Go.ChangeShapes Go.WideShapes Go.ChangeAt Go.RowKit
attribute [local irreducible] RunU WpA Step CallG CallNG Done DoneN
instance fnOk77 : FnOk Tryz.prog 77 := ⟨_, Tryz.func77, rfl, by decide⟩
instance fnOk85 : FnOk Tryz.prog 85 := ⟨_, Tryz.func85, rfl, by decide⟩
instance fnOk34 : FnOk Tryz.prog 34 := ⟨_, Tryz.func34, rfl, by decide⟩
instance fnOk41 : FnOk Tryz.prog 41 := ⟨_, Tryz.func41, rfl, by decide⟩
instance fnOk14 : FnOk Tryz.prog 14 := ⟨_, Tryz.func14, rfl, by decide⟩
instance fnOk16 : FnOk Tryz.prog 16 := ⟨_, Tryz.func16, rfl, by decide⟩
instance fnOk18 : FnOk Tryz.prog 18 := ⟨_, Tryz.func18, rfl, by decide⟩
instance : MakeTyS Tryz.prog 36 (.sl true 1 []) := .of (z := .agg #[.slice none 0 0]) (bytes := 24) Tryz.underlying36 (by kernel_rfl) (by decide) rfl zero_nil
theorem eqBrS2_c (A : List (List Int)) (hA : A.length ≤ 2147483648) (ha : ∀ i, (A.getD i []).length ≤ 2147483648) : CallA Tryz.prog 50 [aLL A, aLL A] [rB true] [] := by
  refine callA_of _ Tryz.func50 rfl Tryz.ntmps50 solid_any ?_
  repeat' (first | refine Two.mk (fun _ => ?_) (fun _ => ?_) | refine goA ?_ | (refine neA ?_; first | refine nxA ?_ | refine Done.ret (.one res_any .nil) (.sh (.sh .nil)) ?_ rfl) | fail)
  all_goals try (exfalso; omega)
  refine WpA.loop_slots (ι := Nat) (fun j => [(0, .c (.sl false 1 (LLs A))), (1, .c (.sl false 1 (LLs A))), (5, .c (.lit (.int .i64 (j : Int))))]) (fun j => j ≤ A.length) (fun j => A.length - j) 0 (by omega) ⟨rfl, rfl, rfl, trivial⟩ ?_
  intro j s nx hj
  have hE := eqBranch_c (A.getD (j * 1) []) (A.getD (j * 1) []) (by have := ha (j * 1); omega) (by have := ha (j * 1); omega)
  rw [decide_eq_true rfl] at hE
  clear ha
  repeat' (first | refine Two.mk (fun _ => ?_) (fun _ => ?_) | (guard_target =~ CallN_; first | refine RunU.cons (step_call (hE) (.sh (.sh .nil)) (.shAgg rfl aggs_any (.shAgg rfl aggs_any .nil)) rfl) ?_) | refine goA ?_ | (refine neA ?_; first | refine nxA ?_ | refine Done.ret (.one res_any .nil) (.sh (.sh .nil)) ?_ rfl) | fail)
  all_goals first | rfl | (exfalso; simp_all; done) | (exfalso; omega) | exact ⟨j + 1, by omega, ⟨rfl, rfl, int_eq (by omega), trivial⟩, by omega⟩
theorem eqSSJ_c (A : List (List Int)) (hA : A.length ≤ 2147483648) (ha : ∀ i, (A.getD i []).length ≤ 2147483648) : CallA Tryz.prog 51 [aLL A, aLL A] [rB true] [] := by
  have := eqSS2_c A A hA hA ha ha
  rwa [decide_eq_true rfl] at this
theorem eqCurveJ_c (B C : List (List Int)) (hB : B.length ≤ 1048576 ∧ ∀ i, (B.getD i []).length ≤ 1048576) (hC : C.length ≤ 1048576 ∧ ∀ i, (C.getD i []).length ≤ 1048576) : CallA Tryz.prog 18 [aCu B C, aCu B C] [rB true] [] := by
  have h1 := eqBrS2_c B (by omega) (fun i => by have := hB.2 i; omega)
  have h2 := eqSSJ_c C (by omega) (fun i => by have := hC.2 i; omega)
  clear hB hC
  refine callA_of _ Tryz.func18 rfl Tryz.ntmps18 solid_any ?_
  repeat' (first | refine Two.mk (fun _ => ?_) (fun _ => ?_) | (guard_target =~ AtN 9; first | refine RunU.cons (step_call (h1) (.sh (.sh .nil)) (.sh shows_any (.sh shows_any .nil)) rfl) ?_) | (guard_target =~ AtN 15; first | refine RunU.cons (step_call (h2) (.sh (.sh .nil)) (.sh shows_any (.sh shows_any .nil)) rfl) ?_) | refine goA ?_ | (refine neA ?_; first | refine nxA ?_ | refine Done.ret (.one res_any .nil) (.sh (.sh .nil)) ?_ rfl) | fail)
  all_goals first | rfl | (exfalso; simp_all; done)
end Go.Proofs.YtinenidbgmddhaaGreat
