/- Contracts of the functions on lists of lists of numbers: copying, comparing, marking, and the lists of codes. No condition. -/
import Derived.Test.YtpeioofkihpldaaDoorNPvW
import Derived.Test.YtpeioofkihpldaaDoorNPwX
set_option linter.unusedVariables false
set_option linter.unusedSimpArgs false
namespace Go.Proofs.YtpeioofkihpldaaDoor
set_option maxHeartbeats 20000000
open Go.Pv
open Go.ChangeShapes Go.WideShapes Go.ChangeAt Go.RowKit
attribute [local irreducible] RunU WpA Step CallG CallNG Done DoneN
instance fnOk36 : FnOk Tryd.prog 36 := ⟨_, Tryd.func36, rfl, by decide⟩
instance fnOk56 : FnOk Tryd.prog 56 := ⟨_, Tryd.func56, rfl, by decide⟩
instance fnOk52 : FnOk Tryd.prog 52 := ⟨_, Tryd.func52, rfl, by decide⟩
abbrev aI (x : Int) : Arg := .sh (.one (.lit (.int .i64 x)))
abbrev rI (x : Int) : V := .one (.lit (.int .i64 x))
abbrev rB (x : Bool) : V := .one (.lit (.bool x))
abbrev aL (l : List Int) : Arg := .sh (.one (.sl false 1 (ints l)))
abbrev rL (l : List Int) : V := .one (.sl true 1 (ints l))
theorem inRange_c (x lo hi : Int) : CallA Tryd.prog 56 [aI x, aI lo, aI hi] [rB (decide (lo ≤ x ∧ x ≤ hi))] [] := by
 refine cA_ _ Tryd.func56 rfl Tryd.ntmps56 (by first | exact ⟨rfl, rfl⟩ | (simp only [List.all_cons, List.all_nil, V.solid, D.solid, D.solids, solids_ints, solids_bools, solids_LL, Bool.and_self, Bool.and_true, and_self]; done) | simp [V.solid, D.solid, D.solids, solids_lits, solids_ints, solids_bools, solids_LL]) ?_
 repeat' (first | (guard_target =~ WpA _ _ _ _ _ _; first | refine WpA.seq ?_ | refine WpA.drawU ?_ | refine WpA.regionU ?_ | refine WpA.block ?_ | refine WpA.ret ?_ | refine WpA.skip ?_ | refine WpA.exit ?_ | refine WpA.cond_true rfl ?_ | refine WpA.cond_false rfl ?_ | refine WpA.cond_ntrue rfl ?_ | refine WpA.cond_dec rfl (fun _ => ?_) (fun _ => ?_) | refine WpA.cond_not rfl (fun _ => ?_) (fun _ => ?_) | refine WpA.cond rfl (fun _ => ?_) (fun _ => ?_)) | (guard_target =~ RunU _ _ _ _ [] _ _ _ _; first | refine RunU.nilL ?_ | refine RunU.nilD (by kernel_rfl) ?_) | (guard_target =~ RunU _ _ _ _ (Oper.mk _ _ _ _ _ none :: _) _ _ _ _; refine RunU.cons step_any ?_) | (guard_target =~ RunU _ _ _ _ (Oper.mk _ _ _ _ _ (some _) :: _) _ _ _ _; first | refine RunU.pass rfl rfl rfl rfl ?_ | refine RunU.pass_undef rfl rfl rfl ?_ | refine RunU.doit rfl rfl step_any ?_ | ((fail_if_success (refine RunU.doit (rd := []) (up := []) rfl rfl ?_ ?_)); first | refine RunU.guard_dec rfl rfl (fun _ => ?_) (fun _ => ?_) | refine RunU.guard_not rfl rfl (fun _ => ?_) (fun _ => ?_) | refine RunU.guard rfl rfl (fun _ => ?_) (fun _ => ?_))) | refine Then.next ?_ | refine InBlock.next ?_ | refine Done.ret (.one (by first | exact .c rfl | exact .own rfl | exact .als rfl rfl | exact .ptr rfl rfl | exact .part rfl rfl rfl) .nil) (.sh (.sh (.sh .nil))) ?_ rfl)
 all_goals simp [*]
theorem eqInt64S_c (a b : List Int) (ha : a.length ≤ 9223372036854775807) (hb : b.length ≤ 9223372036854775807) : CallA Tryd.prog 36 [aL a, aL b] [rB (decide (a = b))] [] := by
 refine cA_ _ Tryd.func36 rfl Tryd.ntmps36 (by first | exact ⟨rfl, rfl⟩ | (simp only [List.all_cons, List.all_nil, V.solid, D.solid, D.solids, solids_ints, solids_bools, solids_LL, Bool.and_self, Bool.and_true, and_self]; done) | simp [V.solid, D.solid, D.solids, solids_lits, solids_ints, solids_bools, solids_LL]) ?_
 repeat' (first | (guard_target =~ WpA _ _ _ _ _ _; first | refine WpA.seq ?_ | refine WpA.drawU ?_ | refine WpA.regionU ?_ | refine WpA.block ?_ | refine WpA.ret ?_ | refine WpA.skip ?_ | refine WpA.exit ?_ | refine WpA.cond_true rfl ?_ | refine WpA.cond_false rfl ?_ | refine WpA.cond_ntrue rfl ?_ | refine WpA.cond_dec rfl (fun _ => ?_) (fun _ => ?_) | refine WpA.cond_not rfl (fun _ => ?_) (fun _ => ?_) | refine WpA.cond rfl (fun _ => ?_) (fun _ => ?_)) | (guard_target =~ RunU _ _ _ _ [] _ _ _ _; first | refine RunU.nilL ?_ | refine RunU.nilD (by kernel_rfl) ?_) | (guard_target =~ RunU _ _ _ _ (Oper.mk _ _ _ _ _ none :: _) _ _ _ _; refine RunU.cons step_any ?_) | (guard_target =~ RunU _ _ _ _ (Oper.mk _ _ _ _ _ (some _) :: _) _ _ _ _; first | refine RunU.pass rfl rfl rfl rfl ?_ | refine RunU.pass_undef rfl rfl rfl ?_ | refine RunU.doit rfl rfl step_any ?_ | ((fail_if_success (refine RunU.doit (rd := []) (up := []) rfl rfl ?_ ?_)); first | refine RunU.guard_dec rfl rfl (fun _ => ?_) (fun _ => ?_) | refine RunU.guard_not rfl rfl (fun _ => ?_) (fun _ => ?_) | refine RunU.guard rfl rfl (fun _ => ?_) (fun _ => ?_))) | refine Then.next ?_ | refine InBlock.next ?_ | refine Done.ret (.one (by first | exact .c rfl | exact .own rfl | exact .als rfl rfl | exact .ptr rfl rfl | exact .part rfl rfl rfl) .nil) (.sh (.sh .nil)) ?_ rfl)
 case refine_1 h => simp; intro e; subst e; exact h rfl
 case refine_2 h =>
  have hab : a.length = b.length := by omega
  refine WpA.loop_slots (ι := Nat) (fun j => [(0, .c (.sl false 1 (ints a))), (1, .c (.sl false 1 (ints b))), (5, .c (.lit (.int .i64 (j : Int))))]) (fun j => j ≤ a.length ∧ ∀ i, i < j → a.getD i 0 = b.getD i 0) (fun j => a.length - j) 0 (by simp) ⟨(by first | exact rfl | exact int_eq (by first | omega | assumption) | exact bool_eq (by simp [*]) | exact own_ints (by first | assumption | (simp [*]; done)) | exact own_LL (by first | assumption | (simp [*]; done)) | exact c_ints (by simp [*])), (by first | exact rfl | exact int_eq (by first | omega | assumption) | exact bool_eq (by simp [*]) | exact own_ints (by first | assumption | (simp [*]; done)) | exact own_LL (by first | assumption | (simp [*]; done)) | exact c_ints (by simp [*])), (by first | exact rfl | exact int_eq (by first | omega | assumption) | exact bool_eq (by simp [*]) | exact own_ints (by first | assumption | (simp [*]; done)) | exact own_LL (by first | assumption | (simp [*]; done)) | exact c_ints (by simp [*])), trivial⟩ ?_
  intro j s nx hj
  repeat' (first | (guard_target =~ WpA _ _ _ _ _ _; first | refine WpA.seq ?_ | refine WpA.drawU ?_ | refine WpA.regionU ?_ | refine WpA.block ?_ | refine WpA.ret ?_ | refine WpA.skip ?_ | refine WpA.exit ?_ | refine WpA.cond_true rfl ?_ | refine WpA.cond_false rfl ?_ | refine WpA.cond_ntrue rfl ?_ | refine WpA.cond_dec rfl (fun _ => ?_) (fun _ => ?_) | refine WpA.cond_not rfl (fun _ => ?_) (fun _ => ?_) | refine WpA.cond rfl (fun _ => ?_) (fun _ => ?_)) | (guard_target =~ RunU _ _ _ _ [] _ _ _ _; first | refine RunU.nilL ?_ | refine RunU.nilD (by kernel_rfl) ?_) | (guard_target =~ RunU _ _ _ _ (Oper.mk _ _ _ _ _ none :: _) _ _ _ _; refine RunU.cons step_any ?_) | (guard_target =~ RunU _ _ _ _ (Oper.mk _ _ _ _ _ (some _) :: _) _ _ _ _; first | refine RunU.pass rfl rfl rfl rfl ?_ | refine RunU.pass_undef rfl rfl rfl ?_ | refine RunU.doit rfl rfl step_any ?_ | ((fail_if_success (refine RunU.doit (rd := []) (up := []) rfl rfl ?_ ?_)); first | refine RunU.guard_dec rfl rfl (fun _ => ?_) (fun _ => ?_) | refine RunU.guard_not rfl rfl (fun _ => ?_) (fun _ => ?_) | refine RunU.guard rfl rfl (fun _ => ?_) (fun _ => ?_))) | refine Then.next ?_ | refine InBlock.next ?_ | refine Done.ret (.one (by first | exact .c rfl | exact .own rfl | exact .als rfl rfl | exact .ptr rfl rfl | exact .part rfl rfl rfl) .nil) (.sh (.sh .nil)) ?_ rfl)
  case refine_1.refine_1 h3 h4 =>
   simp
   intro e; subst e; exact h4 rfl
  case refine_1.refine_2 h3 h4 =>
   refine ⟨j + 1, ⟨by omega, fun i hi => ?_⟩, ⟨rfl, rfl, int_eq (by omega), trivial⟩, by omega⟩
   by_cases e : i = j
   ·subst e; simpa using h4
   ·exact hj.2 i (by omega)
  case refine_2 h3 =>
   have : a = b := list_ext hab fun i hi => hj.2 i (by omega)
   simp [this]
def Within (l : List Int) (lo hi : Int) : Prop := ∀ i, i < l.length → lo ≤ l.getD i 0 ∧ l.getD i 0 ≤ hi
instance decWithin (l : List Int) (lo hi : Int) : Decidable (Within l lo hi) := by unfold Within; infer_instance
theorem within_c (l : List Int) (lo hi : Int) (hl : l.length ≤ 9223372036854775807) : CallA Tryd.prog 52 [aL l, aI lo, aI hi] [rB (decide (Within l lo hi))] [] := by
 refine cA_ _ Tryd.func52 rfl Tryd.ntmps52 (by first | exact ⟨rfl, rfl⟩ | (simp only [List.all_cons, List.all_nil, V.solid, D.solid, D.solids, solids_ints, solids_bools, solids_LL, Bool.and_self, Bool.and_true, and_self]; done) | simp [V.solid, D.solid, D.solids, solids_lits, solids_ints, solids_bools, solids_LL]) ?_
 repeat' (first | (guard_target =~ WpA _ _ _ _ _ _; first | refine WpA.seq ?_ | refine WpA.drawU ?_ | refine WpA.regionU ?_ | refine WpA.block ?_ | refine WpA.ret ?_ | refine WpA.skip ?_ | refine WpA.exit ?_ | refine WpA.cond_true rfl ?_ | refine WpA.cond_false rfl ?_ | refine WpA.cond_ntrue rfl ?_ | refine WpA.cond_dec rfl (fun _ => ?_) (fun _ => ?_) | refine WpA.cond_not rfl (fun _ => ?_) (fun _ => ?_) | refine WpA.cond rfl (fun _ => ?_) (fun _ => ?_)) | (guard_target =~ RunU _ _ _ _ [] _ _ _ _; first | refine RunU.nilL ?_ | refine RunU.nilD (by kernel_rfl) ?_) | (guard_target =~ RunU _ _ _ _ (Oper.mk _ _ _ _ _ none :: _) _ _ _ _; refine RunU.cons step_any ?_) | (guard_target =~ RunU _ _ _ _ (Oper.mk _ _ _ _ _ (some _) :: _) _ _ _ _; first | refine RunU.pass rfl rfl rfl rfl ?_ | refine RunU.pass_undef rfl rfl rfl ?_ | refine RunU.doit rfl rfl step_any ?_ | ((fail_if_success (refine RunU.doit (rd := []) (up := []) rfl rfl ?_ ?_)); first | refine RunU.guard_dec rfl rfl (fun _ => ?_) (fun _ => ?_) | refine RunU.guard_not rfl rfl (fun _ => ?_) (fun _ => ?_) | refine RunU.guard rfl rfl (fun _ => ?_) (fun _ => ?_))) | refine Then.next ?_ | refine InBlock.next ?_ | refine Done.ret (.one (by first | exact .c rfl | exact .own rfl | exact .als rfl rfl | exact .ptr rfl rfl | exact .part rfl rfl rfl) .nil) (.sh (.sh (.sh .nil))) ?_ rfl)
 refine WpA.loop_slots (ι := Nat) (fun j => [(9, .c (.sl false 1 (ints l))), (10, .c (.lit (.int .i64 l.length))), (1, .c (.lit (.int .i64 lo))), (2, .c (.lit (.int .i64 hi))), (11, .c (.lit (.int .i64 (j : Int))))]) (fun j => j ≤ l.length ∧ ∀ i, i < j → lo ≤ l.getD i 0 ∧ l.getD i 0 ≤ hi) (fun j => l.length - j) 0 (by simp) ⟨(by first | exact rfl | exact int_eq (by first | omega | assumption) | exact bool_eq (by simp [*]) | exact own_ints (by first | assumption | (simp [*]; done)) | exact own_LL (by first | assumption | (simp [*]; done)) | exact c_ints (by simp [*])), (by first | exact rfl | exact int_eq (by first | omega | assumption) | exact bool_eq (by simp [*]) | exact own_ints (by first | assumption | (simp [*]; done)) | exact own_LL (by first | assumption | (simp [*]; done)) | exact c_ints (by simp [*])), (by first | exact rfl | exact int_eq (by first | omega | assumption) | exact bool_eq (by simp [*]) | exact own_ints (by first | assumption | (simp [*]; done)) | exact own_LL (by first | assumption | (simp [*]; done)) | exact c_ints (by simp [*])), (by first | exact rfl | exact int_eq (by first | omega | assumption) | exact bool_eq (by simp [*]) | exact own_ints (by first | assumption | (simp [*]; done)) | exact own_LL (by first | assumption | (simp [*]; done)) | exact c_ints (by simp [*])), (by first | exact rfl | exact int_eq (by first | omega | assumption) | exact bool_eq (by simp [*]) | exact own_ints (by first | assumption | (simp [*]; done)) | exact own_LL (by first | assumption | (simp [*]; done)) | exact c_ints (by simp [*])), trivial⟩ ?_
 intro j s nx hj
 repeat' (first | (guard_target =~ WpA _ _ _ _ _ _; first | refine WpA.seq ?_ | refine WpA.drawU ?_ | refine WpA.regionU ?_ | refine WpA.block ?_ | refine WpA.ret ?_ | refine WpA.skip ?_ | refine WpA.exit ?_ | refine WpA.cond_true rfl ?_ | refine WpA.cond_false rfl ?_ | refine WpA.cond_ntrue rfl ?_ | refine WpA.cond_dec rfl (fun _ => ?_) (fun _ => ?_) | refine WpA.cond_not rfl (fun _ => ?_) (fun _ => ?_) | refine WpA.cond rfl (fun _ => ?_) (fun _ => ?_)) | (guard_target =~ RunU _ _ _ _ [] _ _ _ _; first | refine RunU.nilL ?_ | refine RunU.nilD (by kernel_rfl) ?_) | (guard_target =~ RunU _ _ _ _ (Oper.mk _ (Op.call ⟨Callee.value _, _, _⟩) _ _ _ none :: _) _ _ _ _; first | refine RunU.cons (sC_ (inRange_c _ _ _) (.sh (.sh (.sh .nil))) (.sh wS_ (.sh wS_ (.sh wS_ .nil))) rfl) ?_) | (guard_target =~ RunU _ _ _ _ (Oper.mk _ _ _ _ _ none :: _) _ _ _ _; refine RunU.cons step_any ?_) | (guard_target =~ RunU _ _ _ _ (Oper.mk _ _ _ _ _ (some _) :: _) _ _ _ _; first | refine RunU.pass rfl rfl rfl rfl ?_ | refine RunU.pass_undef rfl rfl rfl ?_ | (guard_target =~ RunU _ _ _ _ (Oper.mk _ (Op.call ⟨Callee.value _, _, _⟩) _ _ _ _ :: _) _ _ _ _; first | refine RunU.doit rfl rfl (sC_ (inRange_c _ _ _) (.sh (.sh (.sh .nil))) (.sh wS_ (.sh wS_ (.sh wS_ .nil))) rfl) ?_) | refine RunU.doit rfl rfl step_any ?_ | ((fail_if_success (refine RunU.doit (rd := []) (up := []) rfl rfl ?_ ?_)); first | refine RunU.guard_dec rfl rfl (fun _ => ?_) (fun _ => ?_) | refine RunU.guard_not rfl rfl (fun _ => ?_) (fun _ => ?_) | refine RunU.guard rfl rfl (fun _ => ?_) (fun _ => ?_))) | refine Then.next ?_ | refine InBlock.next ?_ | refine Done.ret (.one (by first | exact .c rfl | exact .own rfl | exact .als rfl rfl | exact .ptr rfl rfl | exact .part rfl rfl rfl) .nil) (.sh (.sh (.sh .nil))) ?_ rfl)
 case refine_1.refine_1 h3 h4 =>
  have : ¬ Within l lo hi := fun hw => h4 (by simpa using hw j (by omega))
  simp [this]
 case refine_1.refine_2 h3 h4 =>
  refine ⟨j + 1, ⟨by omega, fun i hi => ?_⟩, ⟨rfl, rfl, rfl, rfl, int_eq (by omega), trivial⟩, by omega⟩
  by_cases e : i = j
  ·subst e; simpa using h4
  ·exact hj.2 i (by omega)
 case refine_2 h3 =>
  have : Within l lo hi := fun i hi => hj.2 i (by omega)
  simp [this]
instance fnOk35 : FnOk Tryd.prog 35 := ⟨_, Tryd.func35, rfl, by decide⟩
instance fnOk39 : FnOk Tryd.prog 39 := ⟨_, Tryd.func39, rfl, by decide⟩
instance fnOk38 : FnOk Tryd.prog 38 := ⟨_, Tryd.func38, rfl, by decide⟩
instance fnOk42 : FnOk Tryd.prog 42 := ⟨_, Tryd.func42, rfl, by decide⟩
instance fnOk41 : FnOk Tryd.prog 41 := ⟨_, Tryd.func41, rfl, by decide⟩
abbrev aLL (L : List (List Int)) : Arg := .sh (.one (.sl false 1 (LLs L)))
abbrev rLL (L : List (List Int)) : V := .one (.sl true 1 (LL L))
def marks (k : Int) : Nat → List Int
 | 0 => []
 | n + 1 => marks k n ++ [k + n]
theorem marks_len (k : Int) : ∀ n, (marks k n).length = n
 | 0 => rfl
 | n + 1 => by simp [marks, marks_len k n]
theorem marks_at (k : Int) : ∀ n i, i < n → (marks k n).getD i 0 = k + i
 | n + 1, i, h => by
  have hl := marks_len k n
  simp only [marks, List.getD_eq_getElem?_getD]
  by_cases hi : i < n
  ·rw [List.getElem?_append_left (by omega), ← List.getD_eq_getElem?_getD, marks_at k n i hi]
  ·have : i = n := by omega
   subst this
   rw [List.getElem?_append_right (by omega), hl]
   simp
def marked (k : Int) (l : List Int) (j : Nat) : List Int := marks k j ++ l.drop j
theorem marked_len (k : Int) (l : List Int) (j : Nat) (h : j ≤ l.length) : (marked k l j).length = l.length := by simp [marked, marks_len]; omega
theorem marked_step (k : Int) (l : List Int) (j : Nat) (h : j < l.length) : (marked k l j).set j (k + j) = marked k l (j + 1) := by
 have hl := marks_len k j
 unfold marked
 rw [List.set_append_right _ _ (by omega), hl, Nat.sub_self, List.drop_eq_getElem_cons h, List.set_cons_zero]
 simp [marks]
theorem mark_c (l : List Int) (k : Int) (hl : l.length ≤ 1048576) (hk : 0 ≤ k ∧ k ≤ 1099511627776) : CallA Tryd.prog 39 [.io (.sl true 1 (ints l)), aI k] [rI (k + l.length)] [.sl true 1 (ints (marks k l.length))] := by
 refine cA_ _ Tryd.func39 rfl Tryd.ntmps39 (by first | exact ⟨rfl, rfl⟩ | (simp only [List.all_cons, List.all_nil, V.solid, D.solid, D.solids, solids_ints, solids_bools, solids_LL, Bool.and_self, Bool.and_true, and_self]; done) | simp [V.solid, D.solid, D.solids, solids_lits, solids_ints, solids_bools, solids_LL]) ?_
 repeat' (first | (guard_target =~ WpA _ _ _ _ _ _; first | refine WpA.seq ?_ | refine WpA.drawU ?_ | refine WpA.regionU ?_ | refine WpA.block ?_ | refine WpA.ret ?_ | refine WpA.skip ?_ | refine WpA.exit ?_ | refine WpA.cond_true rfl ?_ | refine WpA.cond_false rfl ?_ | refine WpA.cond_ntrue rfl ?_ | refine WpA.cond_dec rfl (fun _ => ?_) (fun _ => ?_) | refine WpA.cond_not rfl (fun _ => ?_) (fun _ => ?_) | refine WpA.cond rfl (fun _ => ?_) (fun _ => ?_)) | (guard_target =~ RunU _ _ _ _ [] _ _ _ _; first | refine RunU.nilL ?_ | refine RunU.nilD (by kernel_rfl) ?_) | (guard_target =~ RunU _ _ _ _ (Oper.mk _ _ _ _ _ none :: _) _ _ _ _; refine RunU.cons step_any ?_) | (guard_target =~ RunU _ _ _ _ (Oper.mk _ _ _ _ _ (some _) :: _) _ _ _ _; first | refine RunU.pass rfl rfl rfl rfl ?_ | refine RunU.pass_undef rfl rfl rfl ?_ | refine RunU.doit rfl rfl step_any ?_ | ((fail_if_success (refine RunU.doit (rd := []) (up := []) rfl rfl ?_ ?_)); first | refine RunU.guard_dec rfl rfl (fun _ => ?_) (fun _ => ?_) | refine RunU.guard_not rfl rfl (fun _ => ?_) (fun _ => ?_) | refine RunU.guard rfl rfl (fun _ => ?_) (fun _ => ?_))) | refine Then.next ?_ | refine InBlock.next ?_ | refine Done.ret (.one (by first | exact .c rfl | exact .own rfl | exact .als rfl rfl | exact .ptr rfl rfl | exact .part rfl rfl rfl) .nil) (.io rfl (.sh .nil)) ?_ rfl | refine Done.ret (.one (by first | exact .c rfl | exact .own rfl | exact .als rfl rfl | exact .ptr rfl rfl | exact .part rfl rfl rfl) .nil) (.io rfl (.sh .nil)) ?_ ?_)
 refine WpA.loop_slots (ι := Nat) (fun j => [(0, .own 0 (.sl true 1 (ints (marked k l j)))), (1, .c (.lit (.int .i64 (k + j)))), (5, .c (.lit (.int .i64 (j : Int))))]) (fun j => j ≤ l.length) (fun j => l.length - j) 0 (by simp) ⟨by exact own_ints (by simp [marked, marks]), int_eq (by simp), rfl, trivial⟩ ?_
 intro j s nx hj
 have hml := marked_len k l j hj
 repeat' (first | (guard_target =~ WpA _ _ _ _ _ _; first | refine WpA.seq ?_ | refine WpA.drawU ?_ | refine WpA.regionU ?_ | refine WpA.block ?_ | refine WpA.ret ?_ | refine WpA.skip ?_ | refine WpA.exit ?_ | refine WpA.cond_true rfl ?_ | refine WpA.cond_false rfl ?_ | refine WpA.cond_ntrue rfl ?_ | refine WpA.cond_dec rfl (fun _ => ?_) (fun _ => ?_) | refine WpA.cond_not rfl (fun _ => ?_) (fun _ => ?_) | refine WpA.cond rfl (fun _ => ?_) (fun _ => ?_)) | (guard_target =~ RunU _ _ _ _ [] _ _ _ _; first | refine RunU.nilL ?_ | refine RunU.nilD (by kernel_rfl) ?_) | (guard_target =~ RunU _ _ _ _ (Oper.mk _ _ _ _ _ none :: _) _ _ _ _; refine RunU.cons step_any ?_) | (guard_target =~ RunU _ _ _ _ (Oper.mk _ _ _ _ _ (some _) :: _) _ _ _ _; first | refine RunU.pass rfl rfl rfl rfl ?_ | refine RunU.pass_undef rfl rfl rfl ?_ | refine RunU.doit rfl rfl step_any ?_ | ((fail_if_success (refine RunU.doit (rd := []) (up := []) rfl rfl ?_ ?_)); first | refine RunU.guard_dec rfl rfl (fun _ => ?_) (fun _ => ?_) | refine RunU.guard_not rfl rfl (fun _ => ?_) (fun _ => ?_) | refine RunU.guard rfl rfl (fun _ => ?_) (fun _ => ?_))) | refine Then.next ?_ | refine InBlock.next ?_ | refine Done.ret (.one (by first | exact .c rfl | exact .own rfl | exact .als rfl rfl | exact .ptr rfl rfl | exact .part rfl rfl rfl) .nil) (.io rfl (.sh .nil)) ?_ rfl | refine Done.ret (.one (by first | exact .c rfl | exact .own rfl | exact .als rfl rfl | exact .ptr rfl rfl | exact .part rfl rfl rfl) .nil) (.io rfl (.sh .nil)) ?_ ?_)
 case refine_1 h3 => exact ⟨j + 1, by omega, ⟨own_ints (by rw [Nat.mul_one]; exact marked_step k l j (by omega)), int_eq (by omega), int_eq (by omega), trivial⟩, by omega⟩
 case refine_2.refine_1 h3 =>
  have e : j = l.length := by omega
  subst e
  rfl
 case refine_2.refine_2 h3 =>
  have e : j = l.length := by omega
  subst e
  simp [marked]
theorem held_c (l : List Int) (k : Int) (hm : l = marks k l.length) (hl : l.length ≤ 1048576) (hk : 0 ≤ k ∧ k ≤ 1099511627776) : CallA Tryd.prog 42 [aL l, aI k] [rI (k + l.length)] [] := by
 refine cA_ _ Tryd.func42 rfl Tryd.ntmps42 (by first | exact ⟨rfl, rfl⟩ | (simp only [List.all_cons, List.all_nil, V.solid, D.solid, D.solids, solids_ints, solids_bools, solids_LL, Bool.and_self, Bool.and_true, and_self]; done) | simp [V.solid, D.solid, D.solids, solids_lits, solids_ints, solids_bools, solids_LL]) ?_
 repeat' (first | (guard_target =~ WpA _ _ _ _ _ _; first | refine WpA.seq ?_ | refine WpA.drawU ?_ | refine WpA.regionU ?_ | refine WpA.block ?_ | refine WpA.ret ?_ | refine WpA.skip ?_ | refine WpA.exit ?_ | refine WpA.cond_true rfl ?_ | refine WpA.cond_false rfl ?_ | refine WpA.cond_ntrue rfl ?_ | refine WpA.cond_dec rfl (fun _ => ?_) (fun _ => ?_) | refine WpA.cond_not rfl (fun _ => ?_) (fun _ => ?_) | refine WpA.cond rfl (fun _ => ?_) (fun _ => ?_)) | (guard_target =~ RunU _ _ _ _ [] _ _ _ _; first | refine RunU.nilL ?_ | refine RunU.nilD (by kernel_rfl) ?_) | (guard_target =~ RunU _ _ _ _ (Oper.mk _ _ _ _ _ none :: _) _ _ _ _; refine RunU.cons step_any ?_) | (guard_target =~ RunU _ _ _ _ (Oper.mk _ _ _ _ _ (some _) :: _) _ _ _ _; first | refine RunU.pass rfl rfl rfl rfl ?_ | refine RunU.pass_undef rfl rfl rfl ?_ | refine RunU.doit rfl rfl step_any ?_ | ((fail_if_success (refine RunU.doit (rd := []) (up := []) rfl rfl ?_ ?_)); first | refine RunU.guard_dec rfl rfl (fun _ => ?_) (fun _ => ?_) | refine RunU.guard_not rfl rfl (fun _ => ?_) (fun _ => ?_) | refine RunU.guard rfl rfl (fun _ => ?_) (fun _ => ?_))) | refine Then.next ?_ | refine InBlock.next ?_ | refine Done.ret (.one (by first | exact .c rfl | exact .own rfl | exact .als rfl rfl | exact .ptr rfl rfl | exact .part rfl rfl rfl) .nil) (.sh (.sh .nil)) ?_ rfl)
 refine WpA.loop_slots (ι := Nat) (fun j => [(0, .c (.sl false 1 (ints l))), (1, .c (.lit (.int .i64 (k + j)))), (5, .c (.lit (.int .i64 (j : Int))))]) (fun j => j ≤ l.length) (fun j => l.length - j) 0 (by simp) ⟨rfl, int_eq (by simp), rfl, trivial⟩ ?_
 intro j s nx hj
 have hat : j < l.length → l.getD (j * 1) 0 = k + j := fun h => by
  rw [Nat.mul_one, hm]; exact marks_at k _ j h
 repeat' (first | (guard_target =~ WpA _ _ _ _ _ _; first | refine WpA.seq ?_ | refine WpA.drawU ?_ | refine WpA.regionU ?_ | refine WpA.block ?_ | refine WpA.ret ?_ | refine WpA.skip ?_ | refine WpA.exit ?_ | refine WpA.cond_true rfl ?_ | refine WpA.cond_false rfl ?_ | refine WpA.cond_ntrue rfl ?_ | refine WpA.cond_dec rfl (fun _ => ?_) (fun _ => ?_) | refine WpA.cond_not rfl (fun _ => ?_) (fun _ => ?_) | refine WpA.cond rfl (fun _ => ?_) (fun _ => ?_)) | (guard_target =~ RunU _ _ _ _ [] _ _ _ _; first | refine RunU.nilL ?_ | refine RunU.nilD (by kernel_rfl) ?_) | (guard_target =~ RunU _ _ _ _ (Oper.mk _ _ _ _ _ none :: _) _ _ _ _; refine RunU.cons step_any ?_) | (guard_target =~ RunU _ _ _ _ (Oper.mk _ _ _ _ _ (some _) :: _) _ _ _ _; first | refine RunU.pass rfl rfl rfl rfl ?_ | refine RunU.pass_undef rfl rfl rfl ?_ | refine RunU.doit rfl rfl step_any ?_ | ((fail_if_success (refine RunU.doit (rd := []) (up := []) rfl rfl ?_ ?_)); first | refine RunU.guard_dec rfl rfl (fun _ => ?_) (fun _ => ?_) | refine RunU.guard_not rfl rfl (fun _ => ?_) (fun _ => ?_) | refine RunU.guard rfl rfl (fun _ => ?_) (fun _ => ?_))) | refine Then.next ?_ | refine InBlock.next ?_ | refine Done.ret (.one (by first | exact .c rfl | exact .own rfl | exact .als rfl rfl | exact .ptr rfl rfl | exact .part rfl rfl rfl) .nil) (.sh (.sh .nil)) ?_ rfl)
 case refine_1.refine_1 h3 h4 => exact absurd (hat (by omega)) h4
 case refine_1.refine_2 h3 h4 => exact ⟨j + 1, by omega, ⟨rfl, int_eq (by omega), int_eq (by omega), trivial⟩, by omega⟩
 case refine_2 h3 =>
  have e : j = l.length := by omega
  subst e
  rfl
def tot (L : List (List Int)) : Nat → Nat
 | 0 => 0
 | j + 1 => tot L j + (L.getD j []).length
theorem tot_le {L : List (List Int)} {b : Nat} (h : ∀ i, (L.getD i []).length ≤ b) : ∀ j, tot L j ≤ b * j
 | 0 => by simp [tot]
 | j + 1 => by
  have h1 := tot_le h j
  have h2 := h j
  simp only [tot, Nat.mul_succ]
  omega
def marksTo (k : Int) (L : List (List Int)) : Nat → List (List Int)
 | 0 => []
 | j + 1 => marksTo k L j ++ [marks (k + tot L j) (L.getD j []).length]
theorem marksTo_len (k : Int) (L : List (List Int)) : ∀ j, (marksTo k L j).length = j
 | 0 => rfl
 | j + 1 => by simp [marksTo, marksTo_len k L j]
theorem marksTo_at (k : Int) (L : List (List Int)) : ∀ n i, i < n → (marksTo k L n).getD i [] = marks (k + tot L i) (L.getD i []).length
 | n + 1, i, h => by
  have hl := marksTo_len k L n
  simp only [marksTo, List.getD_eq_getElem?_getD]
  by_cases hi : i < n
  ·rw [List.getElem?_append_left (by omega), ← List.getD_eq_getElem?_getD, marksTo_at k L n i hi]
   simp only [List.getD_eq_getElem?_getD]
  ·have : i = n := by omega
   subst this
   rw [List.getElem?_append_right (by omega), hl]
   simp
theorem marksTo_tot (k : Int) (L : List (List Int)) (n : Nat) : ∀ j, j ≤ n → tot (marksTo k L n) j = tot L j
 | 0, _ => rfl
 | j + 1, h => by rw [tot, tot, marksTo_tot k L n j (by omega), marksTo_at k L n j (by omega), marks_len]
def markedL (k : Int) (L : List (List Int)) (j : Nat) : List (List Int) := marksTo k L j ++ L.drop j
theorem markedL_len (k : Int) (L : List (List Int)) (j : Nat) (h : j ≤ L.length) : (markedL k L j).length = L.length := by simp [markedL, marksTo_len]; omega
theorem markedL_at (k : Int) (L : List (List Int)) (j : Nat) : (markedL k L j).getD j [] = L.getD j [] := by
 simp only [markedL, List.getD_eq_getElem?_getD]
 rw [List.getElem?_append_right (by rw [marksTo_len]; omega), marksTo_len, List.getElem?_drop]
 simp
theorem markedL_step (k : Int) (L : List (List Int)) (j : Nat) (h : j < L.length) : (markedL k L j).set j (marks (k + tot L j) (L.getD j []).length) = markedL k L (j + 1) := by
 have hl := marksTo_len k L j
 unfold markedL
 rw [List.set_append_right _ _ (by omega), hl, Nat.sub_self, List.drop_eq_getElem_cons h, List.set_cons_zero]
 simp [marksTo]
def Held (k : Int) (M : List (List Int)) : Prop := ∀ j, j < M.length → M.getD j [] = marks (k + tot M j) (M.getD j []).length
theorem held_marks (k : Int) (L : List (List Int)) (n : Nat) : Held k (marksTo k L n) := by
 intro j hj
 rw [marksTo_len] at hj
 rw [marksTo_tot k L n j (by omega), marksTo_at k L n j hj, marks_len]
theorem markSS_c (L : List (List Int)) (k : Int) (hL : L.length ≤ 100000) (hl : ∀ i, (L.getD i []).length ≤ 1000) (hk : 0 ≤ k ∧ k ≤ 1000000) : CallA Tryd.prog 38 [.io (.sl true 1 (LL L)), aI k] [rI (k + tot L L.length)] [.sl true 1 (LL (marksTo k L L.length))] := by
 refine cA_ _ Tryd.func38 rfl Tryd.ntmps38 (by first | exact ⟨rfl, rfl⟩ | (simp only [List.all_cons, List.all_nil, V.solid, D.solid, D.solids, solids_ints, solids_bools, solids_LL, Bool.and_self, Bool.and_true, and_self]; done) | simp [V.solid, D.solid, D.solids, solids_lits, solids_ints, solids_bools, solids_LL]) ?_
 repeat' (first | (guard_target =~ WpA _ _ _ _ _ _; first | refine WpA.seq ?_ | refine WpA.drawU ?_ | refine WpA.regionU ?_ | refine WpA.block ?_ | refine WpA.ret ?_ | refine WpA.skip ?_ | refine WpA.exit ?_ | refine WpA.cond_true rfl ?_ | refine WpA.cond_false rfl ?_ | refine WpA.cond_ntrue rfl ?_ | refine WpA.cond_dec rfl (fun _ => ?_) (fun _ => ?_) | refine WpA.cond_not rfl (fun _ => ?_) (fun _ => ?_) | refine WpA.cond rfl (fun _ => ?_) (fun _ => ?_)) | (guard_target =~ RunU _ _ _ _ [] _ _ _ _; first | refine RunU.nilL ?_ | refine RunU.nilD (by kernel_rfl) ?_) | (guard_target =~ RunU _ _ _ _ (Oper.mk _ _ _ _ _ none :: _) _ _ _ _; refine RunU.cons step_any ?_) | (guard_target =~ RunU _ _ _ _ (Oper.mk _ _ _ _ _ (some _) :: _) _ _ _ _; first | refine RunU.pass rfl rfl rfl rfl ?_ | refine RunU.pass_undef rfl rfl rfl ?_ | refine RunU.doit rfl rfl step_any ?_ | ((fail_if_success (refine RunU.doit (rd := []) (up := []) rfl rfl ?_ ?_)); first | refine RunU.guard_dec rfl rfl (fun _ => ?_) (fun _ => ?_) | refine RunU.guard_not rfl rfl (fun _ => ?_) (fun _ => ?_) | refine RunU.guard rfl rfl (fun _ => ?_) (fun _ => ?_))) | refine Then.next ?_ | refine InBlock.next ?_ | refine Done.ret (.one (by first | exact .c rfl | exact .own rfl | exact .als rfl rfl | exact .ptr rfl rfl | exact .part rfl rfl rfl) .nil) (.io rfl (.sh .nil)) ?_ rfl | refine Done.ret (.one (by first | exact .c rfl | exact .own rfl | exact .als rfl rfl | exact .ptr rfl rfl | exact .part rfl rfl rfl) .nil) (.io rfl (.sh .nil)) ?_ ?_)
 refine WpA.loop_slots2 (fun j id => [(0, .own id (.sl true 1 (LL (markedL k L j)))), (1, .c (.lit (.int .i64 (k + tot L j)))), (5, .c (.lit (.int .i64 (j : Int))))]) (fun j => j ≤ L.length) (fun j => L.length - j) 0 0 (by simp) ⟨by exact own_LL (by simp [markedL, marksTo]), int_eq (by simp [tot]), rfl, trivial⟩ ?_
 intro j id s nx hj
 have hml := markedL_len k L j hj
 have hmj := markedL_at k L j
 have ht := tot_le hl j
 have hlj := hl j
 repeat' (first | (guard_target =~ WpA _ _ _ _ _ _; first | refine WpA.seq ?_ | refine WpA.drawU ?_ | refine WpA.regionU ?_ | refine WpA.block ?_ | refine WpA.ret ?_ | refine WpA.skip ?_ | refine WpA.exit ?_ | refine WpA.cond_true rfl ?_ | refine WpA.cond_false rfl ?_ | refine WpA.cond_ntrue rfl ?_ | refine WpA.cond_dec rfl (fun _ => ?_) (fun _ => ?_) | refine WpA.cond_not rfl (fun _ => ?_) (fun _ => ?_) | refine WpA.cond rfl (fun _ => ?_) (fun _ => ?_)) | (guard_target =~ RunU _ _ _ _ [] _ _ _ _; first | refine RunU.nilL ?_ | refine RunU.nilD (by kernel_rfl) ?_) | (guard_target =~ RunU _ _ _ _ (Oper.mk _ (Op.call ⟨Callee.value _, _, _⟩) _ _ _ none :: _) _ _ _ _; first | refine RunU.cons (step_call_io1 (mark_c ((markedL k L j).getD (j * 1) []) (k + tot L j) (by rw [Nat.mul_one, hmj]; omega) (by omega)) iA (.sh .nil) (.sh wS_ .nil) xR_ xR_ rfl) ?_) | (guard_target =~ RunU _ _ _ _ (Oper.mk _ _ _ _ _ none :: _) _ _ _ _; refine RunU.cons step_any ?_) | (guard_target =~ RunU _ _ _ _ (Oper.mk _ _ _ _ _ (some _) :: _) _ _ _ _; first | refine RunU.pass rfl rfl rfl rfl ?_ | refine RunU.pass_undef rfl rfl rfl ?_ | (guard_target =~ RunU _ _ _ _ (Oper.mk _ (Op.call ⟨Callee.value _, _, _⟩) _ _ _ _ :: _) _ _ _ _; first | refine RunU.doit rfl rfl (step_call_io1 (mark_c ((markedL k L j).getD (j * 1) []) (k + tot L j) (by rw [Nat.mul_one, hmj]; omega) (by omega)) iA (.sh .nil) (.sh wS_ .nil) xR_ xR_ rfl) ?_) | refine RunU.doit rfl rfl step_any ?_ | ((fail_if_success (refine RunU.doit (rd := []) (up := []) rfl rfl ?_ ?_)); first | refine RunU.guard_dec rfl rfl (fun _ => ?_) (fun _ => ?_) | refine RunU.guard_not rfl rfl (fun _ => ?_) (fun _ => ?_) | refine RunU.guard rfl rfl (fun _ => ?_) (fun _ => ?_))) | refine Then.next ?_ | refine InBlock.next ?_ | refine Done.ret (.one (by first | exact .c rfl | exact .own rfl | exact .als rfl rfl | exact .ptr rfl rfl | exact .part rfl rfl rfl) .nil) (.io rfl (.sh .nil)) ?_ rfl | refine Done.ret (.one (by first | exact .c rfl | exact .own rfl | exact .als rfl rfl | exact .ptr rfl rfl | exact .part rfl rfl rfl) .nil) (.io rfl (.sh .nil)) ?_ ?_)
 case refine_1 h3 =>
  have hlt : j < L.length := by omega
  have e1 : (markedL k L j).set (j * 1) (marks (k + tot L j) ((markedL k L j).getD (j * 1) []).length) = markedL k L (j + 1) := by
   rw [Nat.mul_one, hmj]; exact markedL_step k L j hlt
  have e2 : k + tot L j + ((markedL k L j).getD (j * 1) []).length = k + (tot L (j + 1) : Nat) := by
   rw [Nat.mul_one, hmj, tot]; omega
  exact ⟨j + 1, by omega, ⟨_, by exact own_put_LL (by omega) e1, int_eq e2, int_eq (by omega), trivial⟩, by omega⟩
 case refine_2.refine_1 h3 =>
  have e : j = L.length := by omega
  subst e
  rfl
 case refine_2.refine_2 h3 =>
  have e : j = L.length := by omega
  subst e
  simp [markedL]
theorem heldSS_c (M : List (List Int)) (k : Int) (hm : Held k M) (hL : M.length ≤ 100000) (hl : ∀ i, (M.getD i []).length ≤ 1000) (hk : 0 ≤ k ∧ k ≤ 1000000) : CallA Tryd.prog 41 [aLL M, aI k] [rI (k + tot M M.length)] [] := by
 refine cA_ _ Tryd.func41 rfl Tryd.ntmps41 (by first | exact ⟨rfl, rfl⟩ | (simp only [List.all_cons, List.all_nil, V.solid, D.solid, D.solids, solids_ints, solids_bools, solids_LL, Bool.and_self, Bool.and_true, and_self]; done) | simp [V.solid, D.solid, D.solids, solids_lits, solids_ints, solids_bools, solids_LL]) ?_
 repeat' (first | (guard_target =~ WpA _ _ _ _ _ _; first | refine WpA.seq ?_ | refine WpA.drawU ?_ | refine WpA.regionU ?_ | refine WpA.block ?_ | refine WpA.ret ?_ | refine WpA.skip ?_ | refine WpA.exit ?_ | refine WpA.cond_true rfl ?_ | refine WpA.cond_false rfl ?_ | refine WpA.cond_ntrue rfl ?_ | refine WpA.cond_dec rfl (fun _ => ?_) (fun _ => ?_) | refine WpA.cond_not rfl (fun _ => ?_) (fun _ => ?_) | refine WpA.cond rfl (fun _ => ?_) (fun _ => ?_)) | (guard_target =~ RunU _ _ _ _ [] _ _ _ _; first | refine RunU.nilL ?_ | refine RunU.nilD (by kernel_rfl) ?_) | (guard_target =~ RunU _ _ _ _ (Oper.mk _ _ _ _ _ none :: _) _ _ _ _; refine RunU.cons step_any ?_) | (guard_target =~ RunU _ _ _ _ (Oper.mk _ _ _ _ _ (some _) :: _) _ _ _ _; first | refine RunU.pass rfl rfl rfl rfl ?_ | refine RunU.pass_undef rfl rfl rfl ?_ | refine RunU.doit rfl rfl step_any ?_ | ((fail_if_success (refine RunU.doit (rd := []) (up := []) rfl rfl ?_ ?_)); first | refine RunU.guard_dec rfl rfl (fun _ => ?_) (fun _ => ?_) | refine RunU.guard_not rfl rfl (fun _ => ?_) (fun _ => ?_) | refine RunU.guard rfl rfl (fun _ => ?_) (fun _ => ?_))) | refine Then.next ?_ | refine InBlock.next ?_ | refine Done.ret (.one (by first | exact .c rfl | exact .own rfl | exact .als rfl rfl | exact .ptr rfl rfl | exact .part rfl rfl rfl) .nil) (.sh (.sh .nil)) ?_ rfl)
 refine WpA.loop_slots (ι := Nat) (fun j => [(0, .c (.sl false 1 (LLs M))), (1, .c (.lit (.int .i64 (k + tot M j)))), (5, .c (.lit (.int .i64 (j : Int))))]) (fun j => j ≤ M.length) (fun j => M.length - j) 0 (by simp) ⟨rfl, int_eq (by simp [tot]), rfl, trivial⟩ ?_
 intro j s nx hj
 have ht := tot_le hl j
 have hlj := hl j
 by_cases hlt : j < M.length
 ·have hmj := hm j hlt
  repeat' (first | (guard_target =~ WpA _ _ _ _ _ _; first | refine WpA.seq ?_ | refine WpA.drawU ?_ | refine WpA.regionU ?_ | refine WpA.block ?_ | refine WpA.ret ?_ | refine WpA.skip ?_ | refine WpA.exit ?_ | refine WpA.cond_true rfl ?_ | refine WpA.cond_false rfl ?_ | refine WpA.cond_ntrue rfl ?_ | refine WpA.cond_dec rfl (fun _ => ?_) (fun _ => ?_) | refine WpA.cond_not rfl (fun _ => ?_) (fun _ => ?_) | refine WpA.cond rfl (fun _ => ?_) (fun _ => ?_)) | (guard_target =~ RunU _ _ _ _ [] _ _ _ _; first | refine RunU.nilL ?_ | refine RunU.nilD (by kernel_rfl) ?_) | (guard_target =~ RunU _ _ _ _ (Oper.mk _ (Op.call ⟨Callee.value _, _, _⟩) _ _ _ none :: _) _ _ _ _; first | refine RunU.cons (sC_ (held_c (M.getD (j * 1) []) (k + tot M j) (by rw [Nat.mul_one]; exact hmj) (by rw [Nat.mul_one]; omega) (by omega)) (.sh (.sh .nil)) (.sh wS_ (.sh wS_ .nil)) rfl) ?_) | (guard_target =~ RunU _ _ _ _ (Oper.mk _ _ _ _ _ none :: _) _ _ _ _; refine RunU.cons step_any ?_) | (guard_target =~ RunU _ _ _ _ (Oper.mk _ _ _ _ _ (some _) :: _) _ _ _ _; first | refine RunU.pass rfl rfl rfl rfl ?_ | refine RunU.pass_undef rfl rfl rfl ?_ | (guard_target =~ RunU _ _ _ _ (Oper.mk _ (Op.call ⟨Callee.value _, _, _⟩) _ _ _ _ :: _) _ _ _ _; first | refine RunU.doit rfl rfl (sC_ (held_c (M.getD (j * 1) []) (k + tot M j) (by rw [Nat.mul_one]; exact hmj) (by rw [Nat.mul_one]; omega) (by omega)) (.sh (.sh .nil)) (.sh wS_ (.sh wS_ .nil)) rfl) ?_) | refine RunU.doit rfl rfl step_any ?_ | ((fail_if_success (refine RunU.doit (rd := []) (up := []) rfl rfl ?_ ?_)); first | refine RunU.guard_dec rfl rfl (fun _ => ?_) (fun _ => ?_) | refine RunU.guard_not rfl rfl (fun _ => ?_) (fun _ => ?_) | refine RunU.guard rfl rfl (fun _ => ?_) (fun _ => ?_))) | refine Then.next ?_ | refine InBlock.next ?_ | refine Done.ret (.one (by first | exact .c rfl | exact .own rfl | exact .als rfl rfl | exact .ptr rfl rfl | exact .part rfl rfl rfl) .nil) (.sh (.sh .nil)) ?_ rfl)
  case refine_1.refine_1 h3 h4 => exact absurd h4 (by omega)
  case refine_1.refine_2 h3 h4 => exact ⟨j + 1, by omega, ⟨rfl, int_eq (by rw [Nat.mul_one, tot]; omega), int_eq (by omega), trivial⟩, by omega⟩
  case refine_2 h3 => exact absurd hlt (by omega)
 ·have e : j = M.length := by omega
  subst e
  repeat' (first | (guard_target =~ WpA _ _ _ _ _ _; first | refine WpA.seq ?_ | refine WpA.drawU ?_ | refine WpA.regionU ?_ | refine WpA.block ?_ | refine WpA.ret ?_ | refine WpA.skip ?_ | refine WpA.exit ?_ | refine WpA.cond_true rfl ?_ | refine WpA.cond_false rfl ?_ | refine WpA.cond_ntrue rfl ?_ | refine WpA.cond_dec rfl (fun _ => ?_) (fun _ => ?_) | refine WpA.cond_not rfl (fun _ => ?_) (fun _ => ?_) | refine WpA.cond rfl (fun _ => ?_) (fun _ => ?_)) | (guard_target =~ RunU _ _ _ _ [] _ _ _ _; first | refine RunU.nilL ?_ | refine RunU.nilD (by kernel_rfl) ?_) | (guard_target =~ RunU _ _ _ _ (Oper.mk _ _ _ _ _ none :: _) _ _ _ _; refine RunU.cons step_any ?_) | (guard_target =~ RunU _ _ _ _ (Oper.mk _ _ _ _ _ (some _) :: _) _ _ _ _; first | refine RunU.pass rfl rfl rfl rfl ?_ | refine RunU.pass_undef rfl rfl rfl ?_ | refine RunU.doit rfl rfl step_any ?_ | ((fail_if_success (refine RunU.doit (rd := []) (up := []) rfl rfl ?_ ?_)); first | refine RunU.guard_dec rfl rfl (fun _ => ?_) (fun _ => ?_) | refine RunU.guard_not rfl rfl (fun _ => ?_) (fun _ => ?_) | refine RunU.guard rfl rfl (fun _ => ?_) (fun _ => ?_))) | refine Then.next ?_ | refine InBlock.next ?_ | refine Done.ret (.one (by first | exact .c rfl | exact .own rfl | exact .als rfl rfl | exact .ptr rfl rfl | exact .part rfl rfl rfl) .nil) (.sh (.sh .nil)) ?_ rfl)
  case refine_1 h3 => exact absurd h3 (by omega)
  case refine_2 h3 => rfl
end Go.Proofs.YtpeioofkihpldaaDoor
