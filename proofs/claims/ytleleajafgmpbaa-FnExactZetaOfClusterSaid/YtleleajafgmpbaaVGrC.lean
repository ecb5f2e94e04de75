/- What a graph is: the program's test. No condition. -/
import Derived.Test.YtleleajafgmpbaaVZcA
namespace Go.Proofs.Ytleleajafgmpbaa
set_option maxHeartbeats 20000000
set_option linter.unusedVariables false
set_option linter.unusedSimpArgs false
open Go.Pv
open Go.ChangeShapes Go.WideShapes Go.ChangeAt Go.RowKit
attribute [local irreducible] RunU WpA Step CallG CallNG Done DoneN
instance fnOk107 : FnOk Try.prog 107 := ⟨_, Try.func107, rfl, by decide⟩
instance fnOk88 : FnOk Try.prog 88 := ⟨_, Try.func88, rfl, by decide⟩
instance fnOk35 : FnOk Try.prog 35 := ⟨_, Try.func35, rfl, by decide⟩
instance fnOk89 : FnOk Try.prog 89 := ⟨_, Try.func89, rfl, by decide⟩
instance fnOk57 : FnOk Try.prog 57 := ⟨_, Try.func57, rfl, by decide⟩
def maxTo (l : List Int) : Nat → Int
  | 0 => l.getD 0 0
  | j + 1 => max (maxTo l j) (l.getD (j + 1) 0)
theorem max_c (l : List Int) (hl : l.length ≤ 1000000000) (h0 : 0 < l.length) : CallA Try.prog 35 [aL l] [rI (maxTo l (l.length - 1))] [] := by
  refine callA_of _ Try.func35 rfl Try.ntmps35 (by first | exact ⟨rfl, rfl⟩ | (simp only [List.all_cons, List.all_nil, V.solid, D.solid, D.solids, solids_ints, solids_bools, solids_LL, Bool.and_self, Bool.and_true, and_self]; done) | simp [V.solid, D.solid, D.solids, solids_lits, solids_ints, solids_bools, solids_LL]) ?_
  repeat' (first | (guard_target =~ WpA _ _ _ _ _ _; first | refine WpA.seq ?_ | refine WpA.drawU ?_ | refine WpA.regionU ?_ | refine WpA.block ?_ | refine WpA.ret ?_ | refine WpA.skip ?_ | refine WpA.exit ?_ | refine WpA.cond_true rfl ?_ | refine WpA.cond_false rfl ?_ | refine WpA.cond_ntrue rfl ?_ | refine WpA.cond_dec rfl (fun _ => ?_) (fun _ => ?_) | refine WpA.cond_not rfl (fun _ => ?_) (fun _ => ?_) | refine WpA.cond rfl (fun _ => ?_) (fun _ => ?_)) | (guard_target =~ RunU _ _ _ _ [] _ _ _ _; first | refine RunU.nilL ?_ | refine RunU.nilD (by kernel_rfl) ?_) | (guard_target =~ RunU _ _ _ _ (Oper.mk _ _ _ _ _ none :: _) _ _ _ _; refine RunU.cons step_any ?_) | refine Then.next ?_ | refine InBlock.next ?_ | refine Done.ret (.one (by first | exact .c rfl | exact .own rfl | exact .als rfl rfl | exact .ptr rfl rfl | exact .part rfl rfl rfl) .nil) (.sh .nil) ?_ rfl)
  all_goals try (exfalso; omega)
  refine WpA.loop_slots (ι := Nat) (fun j => [(0, .c (.sl false 1 (ints l))), (3, .c (.lit (.int .i64 (maxTo l j)))), (4, .c (.lit (.int .i64 ((j : Int) + 1))))]) (fun j => j + 1 ≤ l.length) (fun j => l.length - j) 0 (by omega) ⟨rfl, rfl, rfl, trivial⟩ ?_
  intro j s nx hj
  by_cases h1 : j + 1 < l.length
  · repeat' (first | (guard_target =~ WpA _ _ _ _ _ _; first | refine WpA.seq ?_ | refine WpA.drawU ?_ | refine WpA.regionU ?_ | refine WpA.block ?_ | refine WpA.ret ?_ | refine WpA.skip ?_ | refine WpA.exit ?_ | refine WpA.cond_true rfl ?_ | refine WpA.cond_false rfl ?_ | refine WpA.cond_ntrue rfl ?_ | refine WpA.cond_dec rfl (fun _ => ?_) (fun _ => ?_) | refine WpA.cond_not rfl (fun _ => ?_) (fun _ => ?_) | refine WpA.cond rfl (fun _ => ?_) (fun _ => ?_)) | (guard_target =~ RunU _ _ _ _ [] _ _ _ _; first | refine RunU.nilL ?_ | refine RunU.nilD (by kernel_rfl) ?_) | (guard_target =~ RunU _ _ _ _ (Oper.mk _ _ _ _ _ none :: _) _ _ _ _; refine RunU.cons step_any ?_) | refine Then.next ?_ | refine InBlock.next ?_ | refine Done.ret (.one (by first | exact .c rfl | exact .own rfl | exact .als rfl rfl | exact .ptr rfl rfl | exact .part rfl rfl rfl) .nil) (.sh .nil) ?_ rfl)
    all_goals try (exfalso; omega)
    exact ⟨j + 1, by omega, ⟨rfl, int_eq (by rw [Nat.mul_one]; rfl), int_eq (by omega), trivial⟩, by omega⟩
  · have e : l.length - 1 = j := by omega
    repeat' (first | (guard_target =~ WpA _ _ _ _ _ _; first | refine WpA.seq ?_ | refine WpA.drawU ?_ | refine WpA.regionU ?_ | refine WpA.block ?_ | refine WpA.ret ?_ | refine WpA.skip ?_ | refine WpA.exit ?_ | refine WpA.cond_true rfl ?_ | refine WpA.cond_false rfl ?_ | refine WpA.cond_ntrue rfl ?_ | refine WpA.cond_dec rfl (fun _ => ?_) (fun _ => ?_) | refine WpA.cond_not rfl (fun _ => ?_) (fun _ => ?_) | refine WpA.cond rfl (fun _ => ?_) (fun _ => ?_)) | (guard_target =~ RunU _ _ _ _ [] _ _ _ _; first | refine RunU.nilL ?_ | refine RunU.nilD (by kernel_rfl) ?_) | (guard_target =~ RunU _ _ _ _ (Oper.mk _ _ _ _ _ none :: _) _ _ _ _; refine RunU.cons step_any ?_) | refine Then.next ?_ | refine InBlock.next ?_ | refine Done.ret (.one (by first | exact .c rfl | exact .own rfl | exact .als rfl rfl | exact .ptr rfl rfl | exact .part rfl rfl rfl) .nil) (.sh .nil) ?_ rfl)
    all_goals try (exfalso; omega)
    rw [e]
end Go.Proofs.Ytleleajafgmpbaa
namespace Go.Proofs.Ytleleajafgmpbaa
set_option maxHeartbeats 20000000
set_option linter.unusedVariables false
set_option linter.unusedSimpArgs false
open Go.Pv
open Go.ChangeShapes Go.WideShapes Go.ChangeAt Go.RowKit
attribute [local irreducible] RunU WpA Step CallG CallNG Done DoneN
abbrev vGI (x : Int) : AV := .c (.lit (.int .i64 x))
end Go.Proofs.Ytleleajafgmpbaa
namespace Go.Proofs.Ytleleajafgmpbaa
set_option maxHeartbeats 20000000
set_option linter.unusedVariables false
set_option linter.unusedSimpArgs false
open Go.Pv
open Go.ChangeShapes Go.WideShapes Go.ChangeAt Go.RowKit
attribute [local irreducible] RunU WpA Step CallG CallNG Done DoneN
attribute [local irreducible] IsGr decIsGr GoodE GoodAt Acy Joins
abbrev aGr (w : List Int) (E : List (List Int)) : Arg := .sh (.agg [.sl false 1 (ints w), .sl false 1 (LLs E)])
end Go.Proofs.Ytleleajafgmpbaa
