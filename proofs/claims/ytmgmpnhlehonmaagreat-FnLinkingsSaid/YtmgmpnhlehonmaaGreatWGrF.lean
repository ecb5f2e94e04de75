/- What a graph is: the reference's test. No condition. -/
import Derived.Test.YtmgmpnhlehonmaaGreatWGrD
set_option linter.unusedVariables false
set_option linter.unusedSimpArgs false
namespace Go.Proofs.YtmgmpnhlehonmaaGreat
set_option maxHeartbeats 20000000
open Go.Pv
open Go.ChangeShapes Go.WideShapes Go.ChangeAt Go.RowKit
attribute [local irreducible] Za WpA Zg Xf Zz Z6 Zd
instance fnOk145 : Zs Tryz.prog 145 := ⟨_, Tryz.func145, rfl, by decide⟩
instance fnOk91 : Zs Tryz.prog 91 := ⟨_, Tryz.func91, rfl, by decide⟩
theorem Zcf (a b : List Int) (ha : a.length <= 1000000000) (hb : b.length <= 1000000000) : Zj Tryz.prog 145 [aL a, aL b] [rB (decide (Vs a b < 0))] [] := by
 refine cA_ _ Tryz.func145 rfl Tryz.ntmps145 j6 ?_
 repeat' (first | (guard_target =~ WpA _ _ _ _ _ _; first | refine WpA.seq ?_ | refine WpA.drawU ?_ | refine WpA.regionU ?_ | refine WpA.block ?_ | refine WpA.ret ?_ | refine WpA.skip ?_ | refine WpA.exit ?_ | refine WpA.cond_true rfl ?_ | refine WpA.cond_false rfl ?_ | refine WpA.cond_ntrue rfl ?_ | refine WpA.cond_dec rfl (fun _ => ?_) (fun _ => ?_) | refine WpA.cond_not rfl (fun _ => ?_) (fun _ => ?_) | refine WpA.cond rfl (fun _ => ?_) (fun _ => ?_)) | (guard_target =~ Za _ _ _ _ [] _ _ _ _; first | refine Za.nilL ?_ | refine Za.nilD (by kernel_rfl) ?_) | (guard_target =~ Za _ _ _ _ (Oper.mk _ _ _ _ _ none :: _) _ _ _ _; refine Za.cons Zc ?_) | (guard_target =~ Za _ _ _ _ (Oper.mk _ _ _ _ _ (some _) :: _) _ _ _ _; first | refine Za.pass rfl rfl rfl rfl ?_ | refine Za.pass_undef rfl rfl rfl ?_ | refine Za.doit rfl rfl Zc ?_ | ((fail_if_success (refine Za.doit (rd := []) (up := []) rfl rfl ?_ ?_)); first | refine Za.guard_dec rfl rfl (fun _ => ?_) (fun _ => ?_) | refine Za.guard_not rfl rfl (fun _ => ?_) (fun _ => ?_) | refine Za.guard rfl rfl (fun _ => ?_) (fun _ => ?_))) | refine Z8.next ?_ | refine Zk.next ?_ | refine d1_ ?_|fail)
 refine WpA.loop_slots (ι := Nat) (fun j => [(0, .c (.sl false 1 (Ze a))), (1, .c (.sl false 1 (Ze b))), (5, .c (.lit (.int .i64 (j : Int))))]) (fun j => j <= a.length /\ j <= b.length /\ Vs a b = Vs (a.drop j) (b.drop j)) (fun j => a.length - j) 0 ⟨by omega, by omega, rfl⟩ ⟨rfl, rfl, rfl, trivial⟩ ?_
 intro j s nx hj
 have hj2 := hj.2.2
 by_cases h1 : j < a.length
 ·by_cases h2 : j < b.length
  ·have e1 := Zdl h1 h2
   rw [<- hj2] at e1
   have e0 : a.getD (j * 1) 0 = a.getD j 0 := by rw [Nat.mul_one]
   have e2 : b.getD (j * 1) 0 = b.getD j 0 := by rw [Nat.mul_one]
   by_cases hne : a.getD j 0 = b.getD j 0
   ·rw [if_neg j2, if_neg j2] at e1
    repeat' (first | (guard_target =~ WpA _ _ _ _ _ _; first | refine WpA.seq ?_ | refine WpA.drawU ?_ | refine WpA.regionU ?_ | refine WpA.block ?_ | refine WpA.ret ?_ | refine WpA.skip ?_ | refine WpA.exit ?_ | refine WpA.cond_true rfl ?_ | refine WpA.cond_false rfl ?_ | refine WpA.cond_ntrue rfl ?_ | refine WpA.cond_dec rfl (fun _ => ?_) (fun _ => ?_) | refine WpA.cond_not rfl (fun _ => ?_) (fun _ => ?_) | refine WpA.cond rfl (fun _ => ?_) (fun _ => ?_)) | (guard_target =~ Za _ _ _ _ [] _ _ _ _; first | refine Za.nilL ?_ | refine Za.nilD (by kernel_rfl) ?_) | (guard_target =~ Za _ _ _ _ (Oper.mk _ _ _ _ _ none :: _) _ _ _ _; refine Za.cons Zc ?_) | (guard_target =~ Za _ _ _ _ (Oper.mk _ _ _ _ _ (some _) :: _) _ _ _ _; first | refine Za.pass rfl rfl rfl rfl ?_ | refine Za.pass_undef rfl rfl rfl ?_ | refine Za.doit rfl rfl Zc ?_ | ((fail_if_success (refine Za.doit (rd := []) (up := []) rfl rfl ?_ ?_)); first | refine Za.guard_dec rfl rfl (fun _ => ?_) (fun _ => ?_) | refine Za.guard_not rfl rfl (fun _ => ?_) (fun _ => ?_) | refine Za.guard rfl rfl (fun _ => ?_) (fun _ => ?_))) | refine Z8.next ?_ | refine Zk.next ?_ | refine d1_ ?_|fail)
    all_goals try (exfalso; omega)
    exact ⟨j + 1, ⟨by omega, by omega, e1⟩, ⟨rfl, rfl, Zb j2, trivial⟩, by omega⟩
   ·have e3 : Vs a b < 0 ↔ a.getD (j * 1) 0 < b.getD (j * 1) 0 := by
     rw [e1, e0, e2]
     split
     ·omega
     ·split <;> omega
    clear e1
    have fin : [rB (decide (a.getD (j * 1) 0 < b.getD (j * 1) 0))] = [rB (decide (Vs a b < 0))] := congrArg (fun b => [rB b]) (decide_eq_decide.2 e3.symm)
    clear e3
    repeat' (first | (guard_target =~ WpA _ _ _ _ _ _; first | refine WpA.seq ?_ | refine WpA.drawU ?_ | refine WpA.regionU ?_ | refine WpA.block ?_ | refine WpA.ret ?_ | refine WpA.skip ?_ | refine WpA.exit ?_ | refine WpA.cond_true rfl ?_ | refine WpA.cond_false rfl ?_ | refine WpA.cond_ntrue rfl ?_ | refine WpA.cond_dec rfl (fun _ => ?_) (fun _ => ?_) | refine WpA.cond_not rfl (fun _ => ?_) (fun _ => ?_) | refine WpA.cond rfl (fun _ => ?_) (fun _ => ?_)) | (guard_target =~ Za _ _ _ _ [] _ _ _ _; first | refine Za.nilL ?_ | refine Za.nilD (by kernel_rfl) ?_) | (guard_target =~ Za _ _ _ _ (Oper.mk _ _ _ _ _ none :: _) _ _ _ _; refine Za.cons Zc ?_) | (guard_target =~ Za _ _ _ _ (Oper.mk _ _ _ _ _ (some _) :: _) _ _ _ _; first | refine Za.pass rfl rfl rfl rfl ?_ | refine Za.pass_undef rfl rfl rfl ?_ | refine Za.doit rfl rfl Zc ?_ | ((fail_if_success (refine Za.doit (rd := []) (up := []) rfl rfl ?_ ?_)); first | refine Za.guard_dec rfl rfl (fun _ => ?_) (fun _ => ?_) | refine Za.guard_not rfl rfl (fun _ => ?_) (fun _ => ?_) | refine Za.guard rfl rfl (fun _ => ?_) (fun _ => ?_))) | refine Z8.next ?_ | refine Zk.next ?_ | refine d1_ ?_|fail)
    all_goals try (exfalso; omega)
    all_goals exact fin
  ·have hb' : b.drop j = [] := List.drop_eq_nil_of_le j2
   have e1 : Vs a b = 1 := by
    rw [hj2, List.drop_eq_getElem_cons h1, hb']; rfl
   repeat' (first | (guard_target =~ WpA _ _ _ _ _ _; first | refine WpA.seq ?_ | refine WpA.drawU ?_ | refine WpA.regionU ?_ | refine WpA.block ?_ | refine WpA.ret ?_ | refine WpA.skip ?_ | refine WpA.exit ?_ | refine WpA.cond_true rfl ?_ | refine WpA.cond_false rfl ?_ | refine WpA.cond_ntrue rfl ?_ | refine WpA.cond_dec rfl (fun _ => ?_) (fun _ => ?_) | refine WpA.cond_not rfl (fun _ => ?_) (fun _ => ?_) | refine WpA.cond rfl (fun _ => ?_) (fun _ => ?_)) | (guard_target =~ Za _ _ _ _ [] _ _ _ _; first | refine Za.nilL ?_ | refine Za.nilD (by kernel_rfl) ?_) | (guard_target =~ Za _ _ _ _ (Oper.mk _ _ _ _ _ none :: _) _ _ _ _; refine Za.cons Zc ?_) | (guard_target =~ Za _ _ _ _ (Oper.mk _ _ _ _ _ (some _) :: _) _ _ _ _; first | refine Za.pass rfl rfl rfl rfl ?_ | refine Za.pass_undef rfl rfl rfl ?_ | refine Za.doit rfl rfl Zc ?_ | ((fail_if_success (refine Za.doit (rd := []) (up := []) rfl rfl ?_ ?_)); first | refine Za.guard_dec rfl rfl (fun _ => ?_) (fun _ => ?_) | refine Za.guard_not rfl rfl (fun _ => ?_) (fun _ => ?_) | refine Za.guard rfl rfl (fun _ => ?_) (fun _ => ?_))) | refine Z8.next ?_ | refine Zk.next ?_ | refine d1_ ?_|fail)
   all_goals try (exfalso; omega)
   refine congrArg (fun b => [rB b]) (decide_eq_decide.2 ?_)
   omega
 ·have ha' : a.drop j = [] := List.drop_eq_nil_of_le j2
  have e1 : Vs a b < 0 ↔ a.length < b.length := by
   rw [hj2, ha']
   by_cases h2 : j < b.length
   ·rw [List.drop_eq_getElem_cons h2]
    simp only [Vs]
    omega
   ·rw [show b.drop j = [] from List.drop_eq_nil_of_le j2]
    simp only [Vs]
    omega
  have fin : [rB (decide ((a.length : Int) < b.length))] = [rB (decide (Vs a b < 0))] := congrArg (fun b => [rB b]) (decide_eq_decide.2 (by rw [e1]; omega))
  clear e1
  repeat' (first | (guard_target =~ WpA _ _ _ _ _ _; first | refine WpA.seq ?_ | refine WpA.drawU ?_ | refine WpA.regionU ?_ | refine WpA.block ?_ | refine WpA.ret ?_ | refine WpA.skip ?_ | refine WpA.exit ?_ | refine WpA.cond_true rfl ?_ | refine WpA.cond_false rfl ?_ | refine WpA.cond_ntrue rfl ?_ | refine WpA.cond_dec rfl (fun _ => ?_) (fun _ => ?_) | refine WpA.cond_not rfl (fun _ => ?_) (fun _ => ?_) | refine WpA.cond rfl (fun _ => ?_) (fun _ => ?_)) | (guard_target =~ Za _ _ _ _ [] _ _ _ _; first | refine Za.nilL ?_ | refine Za.nilD (by kernel_rfl) ?_) | (guard_target =~ Za _ _ _ _ (Oper.mk _ _ _ _ _ none :: _) _ _ _ _; refine Za.cons Zc ?_) | (guard_target =~ Za _ _ _ _ (Oper.mk _ _ _ _ _ (some _) :: _) _ _ _ _; first | refine Za.pass rfl rfl rfl rfl ?_ | refine Za.pass_undef rfl rfl rfl ?_ | refine Za.doit rfl rfl Zc ?_ | ((fail_if_success (refine Za.doit (rd := []) (up := []) rfl rfl ?_ ?_)); first | refine Za.guard_dec rfl rfl (fun _ => ?_) (fun _ => ?_) | refine Za.guard_not rfl rfl (fun _ => ?_) (fun _ => ?_) | refine Za.guard rfl rfl (fun _ => ?_) (fun _ => ?_))) | refine Z8.next ?_ | refine Zk.next ?_ | refine d1_ ?_|fail)
  all_goals try (exfalso; omega)
  all_goals exact fin
attribute [local irreducible] Zp decIsGr Z0 Vt Acy Jj
theorem Y4 (w : List Int) (E : List (List Int)) (hw : w.length <= 2000000) (hE : E.length <= 2000000) : Zj Tryz.prog 91 [aGr w E] [rB (decide (Zp w E))] [] := by
 refine cA_ _ Tryz.func91 rfl Tryz.ntmps91 j6 ?_
 have hdef := Zm2 w E
 by_cases hn : 1 <= w.length /\ w.length <= 40
 ·repeat' (first | (guard_target =~ WpA _ _ _ _ _ _; first | refine WpA.seq ?_ | refine WpA.drawU ?_ | refine WpA.regionU ?_ | refine WpA.block ?_ | refine WpA.ret ?_ | refine WpA.skip ?_ | refine WpA.exit ?_ | refine WpA.cond_true rfl ?_ | refine WpA.cond_false rfl ?_ | refine WpA.cond_ntrue rfl ?_ | refine WpA.cond_dec rfl (fun _ => ?_) (fun _ => ?_) | refine WpA.cond_not rfl (fun _ => ?_) (fun _ => ?_) | refine WpA.cond rfl (fun _ => ?_) (fun _ => ?_)) | (guard_target =~ Za _ _ _ _ [] _ _ _ _; first | refine Za.nilL ?_ | refine Za.nilD (by kernel_rfl) ?_) | (guard_target =~ Za _ _ _ _ (Oper.mk _ _ _ _ _ none :: _) _ _ _ _; refine Za.cons Zc ?_) | (guard_target =~ Za _ _ _ _ (Oper.mk _ _ _ _ _ (some _) :: _) _ _ _ _; first | refine Za.pass rfl rfl rfl rfl ?_ | refine Za.pass_undef rfl rfl rfl ?_ | refine Za.doit rfl rfl Zc ?_ | ((fail_if_success (refine Za.doit (rd := []) (up := []) rfl rfl ?_ ?_)); first | refine Za.guard_dec rfl rfl (fun _ => ?_) (fun _ => ?_) | refine Za.guard_not rfl rfl (fun _ => ?_) (fun _ => ?_) | refine Za.guard rfl rfl (fun _ => ?_) (fun _ => ?_))) | refine Z8.next ?_ | refine Zk.next ?_ | refine d1_ ?_|fail)
  all_goals try (exfalso; omega)
  refine WpA.loop_slots (ι := Nat) (fun j => [(1, .own 1 (.pt true [.sl false 1 (Ze w), .sl false 1 (LLs E)])), (3, vGI w.length), (4, vGI j)]) (fun j => j <= w.length /\ ∀ i, i < j -> -1000 <= w.getD i 0 /\ w.getD i 0 <= 1000) (fun j => w.length - j) 0 ⟨by omega, fun i hi => absurd hi j2⟩ ⟨rfl, rfl, rfl, trivial⟩ ?_
  intro j s nx hj
  by_cases hjw : j < w.length
  ·have e0 : w.getD (j * 1) 0 = w.getD j 0 := by rw [Nat.mul_one]
   repeat' (first | (guard_target =~ WpA _ _ _ _ _ _; first | refine WpA.seq ?_ | refine WpA.drawU ?_ | refine WpA.regionU ?_ | refine WpA.block ?_ | refine WpA.ret ?_ | refine WpA.skip ?_ | refine WpA.exit ?_ | refine WpA.cond_true rfl ?_ | refine WpA.cond_false rfl ?_ | refine WpA.cond_ntrue rfl ?_ | refine WpA.cond_dec rfl (fun _ => ?_) (fun _ => ?_) | refine WpA.cond_not rfl (fun _ => ?_) (fun _ => ?_) | refine WpA.cond rfl (fun _ => ?_) (fun _ => ?_)) | (guard_target =~ Za _ _ _ _ [] _ _ _ _; first | refine Za.nilL ?_ | refine Za.nilD (by kernel_rfl) ?_) | (guard_target =~ Za _ _ _ _ (Oper.mk _ (Op.call ⟨Callee.value _, _, _⟩) _ _ _ none :: _) _ _ _ _; first | refine Za.cons (sC_ (Z7 _ _ _) (.sh (.sh (.sh .nil))) (.sh wS_ (.sh wS_ (.sh wS_ .nil))) rfl) ?_) | (guard_target =~ Za _ _ _ _ (Oper.mk _ _ _ _ _ none :: _) _ _ _ _; refine Za.cons Zc ?_) | (guard_target =~ Za _ _ _ _ (Oper.mk _ _ _ _ _ (some _) :: _) _ _ _ _; first | refine Za.pass rfl rfl rfl rfl ?_ | refine Za.pass_undef rfl rfl rfl ?_ | (guard_target =~ Za _ _ _ _ (Oper.mk _ (Op.call ⟨Callee.value _, _, _⟩) _ _ _ _ :: _) _ _ _ _; first | refine Za.doit rfl rfl (sC_ (Z7 _ _ _) (.sh (.sh (.sh .nil))) (.sh wS_ (.sh wS_ (.sh wS_ .nil))) rfl) ?_) | refine Za.doit rfl rfl Zc ?_ | ((fail_if_success (refine Za.doit (rd := []) (up := []) rfl rfl ?_ ?_)); first | refine Za.guard_dec rfl rfl (fun _ => ?_) (fun _ => ?_) | refine Za.guard_not rfl rfl (fun _ => ?_) (fun _ => ?_) | refine Za.guard rfl rfl (fun _ => ?_) (fun _ => ?_))) | refine Z8.next ?_ | refine Zk.next ?_ | refine d1_ ?_|fail)
   all_goals try (exfalso; omega)
   case refine_1.refine_1 h1 h2 =>
    have hno : ¬ Zp w E := fun h => h2 (by rw [e0]; exact (hdef.1 h).2.1 j hjw)
    rw [decide_eq_false hno]
   case refine_1.refine_2 h1 h2 =>
    rw [e0] at h2
    refine ⟨j + 1, ⟨by omega, fun i hi => ?_⟩, ⟨rfl, rfl, Zb j2, trivial⟩, by omega⟩
    rcases Nat.lt_or_ge i j with k | k
    ·exact hj.2 i k
    ·rw [Nat.le_antisymm (Nat.le_of_lt_succ hi) k]; exact h2
  ·have hwt : ∀ i, i < w.length -> -1000 <= w.getD i 0 /\ w.getD i 0 <= 1000 := fun i hi => hj.2 i j2
   repeat' (first | (guard_target =~ WpA _ _ _ _ _ _; first | refine WpA.seq ?_ | refine WpA.drawU ?_ | refine WpA.regionU ?_ | refine WpA.block ?_ | refine WpA.ret ?_ | refine WpA.skip ?_ | refine WpA.exit ?_ | refine WpA.cond_true rfl ?_ | refine WpA.cond_false rfl ?_ | refine WpA.cond_ntrue rfl ?_ | refine WpA.cond_dec rfl (fun _ => ?_) (fun _ => ?_) | refine WpA.cond_not rfl (fun _ => ?_) (fun _ => ?_) | refine WpA.cond rfl (fun _ => ?_) (fun _ => ?_)) | (guard_target =~ Za _ _ _ _ [] _ _ _ _; first | refine Za.nilL ?_ | refine Za.nilD (by kernel_rfl) ?_) | (guard_target =~ Za _ _ _ _ (Oper.mk _ _ _ _ _ none :: _) _ _ _ _; refine Za.cons Zc ?_) | (guard_target =~ Za _ _ _ _ (Oper.mk _ _ _ _ _ (some _) :: _) _ _ _ _; first | refine Za.pass rfl rfl rfl rfl ?_ | refine Za.pass_undef rfl rfl rfl ?_ | refine Za.doit rfl rfl Zc ?_ | ((fail_if_success (refine Za.doit (rd := []) (up := []) rfl rfl ?_ ?_)); first | refine Za.guard_dec rfl rfl (fun _ => ?_) (fun _ => ?_) | refine Za.guard_not rfl rfl (fun _ => ?_) (fun _ => ?_) | refine Za.guard rfl rfl (fun _ => ?_) (fun _ => ?_))) | refine Z8.next ?_ | refine Zk.next ?_ | refine d1_ ?_|fail)
   all_goals try (exfalso; omega)
   refine WpA.loop_slots2 (fun j id => [(1, .own 1 (.pt true [.sl false 1 (Ze w), .sl false 1 (LLs E)])), (3, vGI w.length), (5, .own id (.sl true 1 (Ze (X5 j)))), (6, vGI j)]) (fun j => j <= w.length) (fun j => w.length - j) 0 _ j2 ⟨rfl, rfl, by exact Zq (l := []) rfl, rfl, trivial⟩ ?_
   intro j id s nx hj
   have hil := K8 j
   by_cases hjw : j < w.length
   ·have e3 : X5 j ++ [(j : Int)] = X5 (j + 1) := by simp [X5, List.range_succ]
    repeat' (first | (guard_target =~ WpA _ _ _ _ _ _; first | refine WpA.seq ?_ | refine WpA.drawU ?_ | refine WpA.regionU ?_ | refine WpA.block ?_ | refine WpA.ret ?_ | refine WpA.skip ?_ | refine WpA.exit ?_ | refine WpA.cond_true rfl ?_ | refine WpA.cond_false rfl ?_ | refine WpA.cond_ntrue rfl ?_ | refine WpA.cond_dec rfl (fun _ => ?_) (fun _ => ?_) | refine WpA.cond_not rfl (fun _ => ?_) (fun _ => ?_) | refine WpA.cond rfl (fun _ => ?_) (fun _ => ?_)) | (guard_target =~ Za _ _ _ _ [] _ _ _ _; first | refine Za.nilL ?_ | refine Za.nilD (by kernel_rfl) ?_) | (guard_target =~ Za _ _ _ _ (Oper.mk _ _ _ _ _ none :: _) _ _ _ _; refine Za.cons Zc ?_) | (guard_target =~ Za _ _ _ _ (Oper.mk _ _ _ _ _ (some _) :: _) _ _ _ _; first | refine Za.pass rfl rfl rfl rfl ?_ | refine Za.pass_undef rfl rfl rfl ?_ | refine Za.doit rfl rfl Zc ?_ | ((fail_if_success (refine Za.doit (rd := []) (up := []) rfl rfl ?_ ?_)); first | refine Za.guard_dec rfl rfl (fun _ => ?_) (fun _ => ?_) | refine Za.guard_not rfl rfl (fun _ => ?_) (fun _ => ?_) | refine Za.guard rfl rfl (fun _ => ?_) (fun _ => ?_))) | refine Z8.next ?_ | refine Zk.next ?_ | refine d1_ ?_|fail)
    all_goals try (exfalso; omega)
    exact ⟨j + 1, by omega, ⟨_, rfl, rfl, by exact Zq e3, Zb j2, trivial⟩, by omega⟩
   ·have ej : j = w.length := by omega
    have e4 : X5 j = Qp w.length E 0 := by rw [ej]; rfl
    rw [e4]
    repeat' (first | (guard_target =~ WpA _ _ _ _ _ _; first | refine WpA.seq ?_ | refine WpA.drawU ?_ | refine WpA.regionU ?_ | refine WpA.block ?_ | refine WpA.ret ?_ | refine WpA.skip ?_ | refine WpA.exit ?_ | refine WpA.cond_true rfl ?_ | refine WpA.cond_false rfl ?_ | refine WpA.cond_ntrue rfl ?_ | refine WpA.cond_dec rfl (fun _ => ?_) (fun _ => ?_) | refine WpA.cond_not rfl (fun _ => ?_) (fun _ => ?_) | refine WpA.cond rfl (fun _ => ?_) (fun _ => ?_)) | (guard_target =~ Za _ _ _ _ [] _ _ _ _; first | refine Za.nilL ?_ | refine Za.nilD (by kernel_rfl) ?_) | (guard_target =~ Za _ _ _ _ (Oper.mk _ _ _ _ _ none :: _) _ _ _ _; refine Za.cons Zc ?_) | (guard_target =~ Za _ _ _ _ (Oper.mk _ _ _ _ _ (some _) :: _) _ _ _ _; first | refine Za.pass rfl rfl rfl rfl ?_ | refine Za.pass_undef rfl rfl rfl ?_ | refine Za.doit rfl rfl Zc ?_ | ((fail_if_success (refine Za.doit (rd := []) (up := []) rfl rfl ?_ ?_)); first | refine Za.guard_dec rfl rfl (fun _ => ?_) (fun _ => ?_) | refine Za.guard_not rfl rfl (fun _ => ?_) (fun _ => ?_) | refine Za.guard rfl rfl (fun _ => ?_) (fun _ => ?_))) | refine Z8.next ?_ | refine Zk.next ?_ | refine d1_ ?_|fail)
    all_goals try (exfalso; omega)
    refine WpA.loop_slots2 (fun j id => [(1, .own 1 (.pt true [.sl false 1 (Ze w), .sl false 1 (LLs E)])), (3, vGI w.length), (5, .own id (.sl true 1 (Ze (Qp w.length E j)))), (7, vGI j)]) (fun j => j <= E.length /\ ∀ i, i < j -> Vt w.length E i /\ Jj w.length E i) (fun j => E.length - j) 0 _ ⟨by omega, fun i hi => absurd hi j2⟩ ⟨rfl, rfl, xR_, rfl, trivial⟩ ?_
    intro j id s nx hj
    have hl := Zbw w.length E j
    by_cases hje : j < E.length
    ·have r0 : (E.getD (j * 1) []).getD (0 * 1) 0 = ea E j := by rw [Nat.mul_one]; rfl
     have r1 : (E.getD (j * 1) []).getD (1 * 1) 0 = eb E j := by rw [Nat.mul_one]; rfl
     have r2 : (E.getD (j * 1) []).length = (E.getD j []).length := by rw [Nat.mul_one]
     have hbad : ¬ (Vt w.length E j /\ Jj w.length E j) -> ¬ Zp w E := fun h1 h2 => h1 ⟨Zbx.1 (hdef.1 h2).2.2.1 j hje, Zqo.1 (hdef.1 h2).2.2.2 j hje⟩
     have hgd := Wv (n := w.length) (E := E) (j := j)
     rw [<- r0, <- r1] at hgd
     have fin : ¬ (Vt w.length E j /\ Jj w.length E j) -> [rB false] = [rB (decide (Zp w E))] := fun h => by rw [decide_eq_false (hbad h)]
     have l1 : 0 < j -> (E.getD (((j : Int) - 1).toNat * 1) []).length = 2 := fun q => by
      have := (Wv.1 (hj.2 (j - 1) j2).1).1
      rw [show ((j : Int) - 1).toNat * 1 = j - 1 by omega]; exact this
     have l4 : Vs (E.getD (((j : Int) - 1).toNat * 1) []) (E.getD (j * 1) []) = Vs (E.getD (j - 1) []) (E.getD j []) := by rw [show ((j : Int) - 1).toNat * 1 = j - 1 by omega, Nat.mul_one]
     by_cases hgj : Vt w.length E j
     ·have hj3 : ∀ i, i < j + 1 -> Vt w.length E i := fun i hi => by
       rcases Nat.lt_or_ge i j with k | k
       ·exact (hj.2 i k).1
       ·rw [Nat.le_antisymm (Nat.le_of_lt_succ hi) k]; exact hgj
      have hjo := Zxn hj3
      have hnext : Qp w.length E (j + 1) = mrg ((Qp w.length E j).getD (ea E j).toNat 0) ((Qp w.length E j).getD (eb E j).toNat 0) (Qp w.length E j) := rfl
      have q0 : (Qp w.length E j).getD (((E.getD (j * 1) []).getD (0 * 1) 0).toNat * 1) 0 = (Qp w.length E j).getD (ea E j).toNat 0 := by rw [r0, Nat.mul_one]
      have q1 : (Qp w.length E j).getD (((E.getD (j * 1) []).getD (1 * 1) 0).toNat * 1) 0 = (Qp w.length E j).getD (eb E j).toNat 0 := by rw [r1, Nat.mul_one]
      rw [<- q0, <- q1] at hnext hjo
      have hl2 := Zbw w.length E (j + 1)
      have g1 := hgd.1 hgj
      have g2 := g1.2.1
      have g3 := g1.1
      have g4 : 0 < j -> Vs (E.getD (((j : Int) - 1).toNat * 1) []) (E.getD (j * 1) []) < 0 := fun q => by rw [l4]; exact g1.2.2 q
      clear hgd g1 hbad
      generalize hL : Qp w.length E j = L at *
      have l1 : (E.getD (((j : Int) - 1).toNat * 1) []).length = 2 := by
       rcases Nat.eq_zero_or_pos j with e | e
       ·rw [show ((j : Int) - 1).toNat * 1 = j by omega]; exact g3
       ·exact l1 e
      have fin2 : L.getD (((E.getD (j * 1) []).getD (0 * 1) 0).toNat * 1) 0 = L.getD (((E.getD (j * 1) []).getD (1 * 1) 0).toNat * 1) 0 -> [rB false] = [rB (decide (Zp w E))] := fun q => fin fun r => hjo.1 r.2 q
      have hjo2 : L.getD (((E.getD (j * 1) []).getD (0 * 1) 0).toNat * 1) 0 ≠ L.getD (((E.getD (j * 1) []).getD (1 * 1) 0).toNat * 1) 0 -> Jj w.length E j := hjo.2
      clear hjo fin hj3 r0 r1 l4 q0 q1 hwt hdef
      repeat' (first | (guard_target =~ WpA _ _ _ _ _ _; first | refine WpA.seq ?_ | refine WpA.drawU ?_ | refine WpA.regionU ?_ | refine WpA.block ?_ | refine WpA.ret ?_ | refine WpA.skip ?_ | refine WpA.exit ?_ | refine WpA.cond_true rfl ?_ | refine WpA.cond_false rfl ?_ | refine WpA.cond_ntrue rfl ?_ | refine WpA.cond_dec rfl (fun _ => ?_) (fun _ => ?_) | refine WpA.cond_not rfl (fun _ => ?_) (fun _ => ?_) | refine WpA.cond rfl (fun _ => ?_) (fun _ => ?_)) | (guard_target =~ Za _ _ _ _ [] _ _ _ _; first | refine Za.nilL ?_ | refine Za.nilD (by kernel_rfl) ?_) | (guard_target =~ Za _ _ _ _ (Oper.mk _ (Op.call ⟨Callee.value _, _, _⟩) _ _ _ none :: _) _ _ _ _; first | refine Za.cons (sC_ (Z7 _ _ _) (.sh (.sh (.sh .nil))) (.sh wS_ (.sh wS_ (.sh wS_ .nil))) rfl) ?_ | refine Za.cons (sC_ (Zcf (E.getD (((j : Int) - 1).toNat * 1) []) (E.getD (j * 1) []) j2 j2) (.sh (.sh .nil)) (.sh wS_ (.sh wS_ .nil)) rfl) ?_) | (guard_target =~ Za _ _ _ _ (Oper.mk _ _ _ _ _ none :: _) _ _ _ _; refine Za.cons Zc ?_) | (guard_target =~ Za _ _ _ _ (Oper.mk _ _ _ _ _ (some _) :: _) _ _ _ _; first | refine Za.pass rfl rfl rfl rfl ?_ | refine Za.pass_undef rfl rfl rfl ?_ | (guard_target =~ Za _ _ _ _ (Oper.mk _ (Op.call ⟨Callee.value _, _, _⟩) _ _ _ _ :: _) _ _ _ _; first | refine Za.doit rfl rfl (sC_ (Z7 _ _ _) (.sh (.sh (.sh .nil))) (.sh wS_ (.sh wS_ (.sh wS_ .nil))) rfl) ?_ | refine Za.doit rfl rfl (sC_ (Zcf (E.getD (((j : Int) - 1).toNat * 1) []) (E.getD (j * 1) []) j2 j2) (.sh (.sh .nil)) (.sh wS_ (.sh wS_ .nil)) rfl) ?_) | refine Za.doit rfl rfl Zc ?_ | ((fail_if_success (refine Za.doit (rd := []) (up := []) rfl rfl ?_ ?_)); first | refine Za.guard_dec rfl rfl (fun _ => ?_) (fun _ => ?_) | refine Za.guard_not rfl rfl (fun _ => ?_) (fun _ => ?_) | refine Za.guard rfl rfl (fun _ => ?_) (fun _ => ?_))) | refine Z8.next ?_ | refine Zk.next ?_ | refine d1_ ?_|fail)
      all_goals try (exfalso; omega)
      all_goals try (exact absurd (g4 j2) ‹_›)
      all_goals try (exact fin2 ‹_›)
      all_goals (
       have hjj := hjo2 ‹_›
       clear fin2 hjo2 g4
       generalize hp : L.getD (((E.getD (j * 1) []).getD (0 * 1) 0).toNat * 1) 0 = p at *
       generalize hq : L.getD (((E.getD (j * 1) []).getD (1 * 1) 0).toNat * 1) 0 = q at *
       generalize hM : Qp w.length E (j + 1) = M at *
       refine WpA.loop_slots2 (fun i id => [(1, .own 1 (.pt true [.sl false 1 (Ze w), .sl false 1 (LLs E)])), (3, vGI w.length), (5, .own id (.sl true 1 (Ze (M.take i ++ L.drop i)))), (7, vGI j), (9, vGI p), (10, vGI q), (11, vGI i)]) (fun i => i <= w.length) (fun i => w.length - i) 0 _ j2 ⟨rfl, rfl, by exact Zq (by simp), rfl, rfl, rfl, rfl, trivial⟩ ?_
       intro i id s nx hi
       have c1 := W0 (A := M) (L := L) (i := i) j2 j2
       by_cases hlti : i < w.length
       ·have c2 : (M.take i ++ L.drop i).getD (i * 1) 0 = L.getD i 0 := by rw [Nat.mul_one, Hg j2 j2, if_neg j2]
        have m1 : M.getD i 0 = if L.getD i 0 = q then p else L.getD i 0 := by rw [hnext]; exact Zgu j2
        by_cases hiq : L.getD i 0 = q
        ·rw [if_pos hiq] at m1
         have c3 : (M.take i ++ L.drop i).set (i * 1) p = M.take (i + 1) ++ L.drop (i + 1) := by rw [Nat.mul_one]; exact Zfu j2 j2 m1.symm
         generalize M.take i ++ L.drop i = B at *
         clear hnext
         repeat' (first | (guard_target =~ WpA _ _ _ _ _ _; first | refine WpA.seq ?_ | refine WpA.drawU ?_ | refine WpA.regionU ?_ | refine WpA.block ?_ | refine WpA.ret ?_ | refine WpA.skip ?_ | refine WpA.exit ?_ | refine WpA.cond_true rfl ?_ | refine WpA.cond_false rfl ?_ | refine WpA.cond_ntrue rfl ?_ | refine WpA.cond_dec rfl (fun _ => ?_) (fun _ => ?_) | refine WpA.cond_not rfl (fun _ => ?_) (fun _ => ?_) | refine WpA.cond rfl (fun _ => ?_) (fun _ => ?_)) | (guard_target =~ Za _ _ _ _ [] _ _ _ _; first | refine Za.nilL ?_ | refine Za.nilD (by kernel_rfl) ?_) | (guard_target =~ Za _ _ _ _ (Oper.mk _ _ _ _ _ none :: _) _ _ _ _; refine Za.cons Zc ?_) | (guard_target =~ Za _ _ _ _ (Oper.mk _ _ _ _ _ (some _) :: _) _ _ _ _; first | refine Za.pass rfl rfl rfl rfl ?_ | refine Za.pass_undef rfl rfl rfl ?_ | refine Za.doit rfl rfl Zc ?_ | ((fail_if_success (refine Za.doit (rd := []) (up := []) rfl rfl ?_ ?_)); first | refine Za.guard_dec rfl rfl (fun _ => ?_) (fun _ => ?_) | refine Za.guard_not rfl rfl (fun _ => ?_) (fun _ => ?_) | refine Za.guard rfl rfl (fun _ => ?_) (fun _ => ?_))) | refine Z8.next ?_ | refine Zk.next ?_ | refine d1_ ?_|fail)
         all_goals try (exfalso; omega)
         exact ⟨i + 1, by omega, ⟨_, rfl, rfl, by exact Zq c3, rfl, rfl, rfl, Zb j2, trivial⟩, by omega⟩
        ·rw [if_neg hiq] at m1
         have c3 : M.take i ++ L.drop i = M.take (i + 1) ++ L.drop (i + 1) := Znc j2 j2 m1
         generalize M.take i ++ L.drop i = B at *
         clear hnext
         repeat' (first | (guard_target =~ WpA _ _ _ _ _ _; first | refine WpA.seq ?_ | refine WpA.drawU ?_ | refine WpA.regionU ?_ | refine WpA.block ?_ | refine WpA.ret ?_ | refine WpA.skip ?_ | refine WpA.exit ?_ | refine WpA.cond_true rfl ?_ | refine WpA.cond_false rfl ?_ | refine WpA.cond_ntrue rfl ?_ | refine WpA.cond_dec rfl (fun _ => ?_) (fun _ => ?_) | refine WpA.cond_not rfl (fun _ => ?_) (fun _ => ?_) | refine WpA.cond rfl (fun _ => ?_) (fun _ => ?_)) | (guard_target =~ Za _ _ _ _ [] _ _ _ _; first | refine Za.nilL ?_ | refine Za.nilD (by kernel_rfl) ?_) | (guard_target =~ Za _ _ _ _ (Oper.mk _ _ _ _ _ none :: _) _ _ _ _; refine Za.cons Zc ?_) | (guard_target =~ Za _ _ _ _ (Oper.mk _ _ _ _ _ (some _) :: _) _ _ _ _; first | refine Za.pass rfl rfl rfl rfl ?_ | refine Za.pass_undef rfl rfl rfl ?_ | refine Za.doit rfl rfl Zc ?_ | ((fail_if_success (refine Za.doit (rd := []) (up := []) rfl rfl ?_ ?_)); first | refine Za.guard_dec rfl rfl (fun _ => ?_) (fun _ => ?_) | refine Za.guard_not rfl rfl (fun _ => ?_) (fun _ => ?_) | refine Za.guard rfl rfl (fun _ => ?_) (fun _ => ?_))) | refine Z8.next ?_ | refine Zk.next ?_ | refine d1_ ?_|fail)
         all_goals try (exfalso; omega)
         exact ⟨i + 1, by omega, ⟨_, rfl, rfl, by exact Zq c3, rfl, rfl, rfl, Zb j2, trivial⟩, by omega⟩
       ·have ei : i = L.length := by omega
        have c3 : M.take i ++ L.drop i = M := by rw [ei]; exact Zk5 j2
        rw [c3]
        clear hnext
        repeat' (first | (guard_target =~ WpA _ _ _ _ _ _; first | refine WpA.seq ?_ | refine WpA.drawU ?_ | refine WpA.regionU ?_ | refine WpA.block ?_ | refine WpA.ret ?_ | refine WpA.skip ?_ | refine WpA.exit ?_ | refine WpA.cond_true rfl ?_ | refine WpA.cond_false rfl ?_ | refine WpA.cond_ntrue rfl ?_ | refine WpA.cond_dec rfl (fun _ => ?_) (fun _ => ?_) | refine WpA.cond_not rfl (fun _ => ?_) (fun _ => ?_) | refine WpA.cond rfl (fun _ => ?_) (fun _ => ?_)) | (guard_target =~ Za _ _ _ _ [] _ _ _ _; first | refine Za.nilL ?_ | refine Za.nilD (by kernel_rfl) ?_) | (guard_target =~ Za _ _ _ _ (Oper.mk _ _ _ _ _ none :: _) _ _ _ _; refine Za.cons Zc ?_) | (guard_target =~ Za _ _ _ _ (Oper.mk _ _ _ _ _ (some _) :: _) _ _ _ _; first | refine Za.pass rfl rfl rfl rfl ?_ | refine Za.pass_undef rfl rfl rfl ?_ | refine Za.doit rfl rfl Zc ?_ | ((fail_if_success (refine Za.doit (rd := []) (up := []) rfl rfl ?_ ?_)); first | refine Za.guard_dec rfl rfl (fun _ => ?_) (fun _ => ?_) | refine Za.guard_not rfl rfl (fun _ => ?_) (fun _ => ?_) | refine Za.guard rfl rfl (fun _ => ?_) (fun _ => ?_))) | refine Z8.next ?_ | refine Zk.next ?_ | refine d1_ ?_|fail)
        all_goals try (exfalso; omega)
        refine ⟨j + 1, ⟨by omega, fun x hx => ?_⟩, ⟨_, rfl, rfl, by exact Zq hM.symm, Zb j2, trivial⟩, by omega⟩
        rcases Nat.lt_or_ge x j with k | k
        ·exact hj.2 x k
        ·rw [Nat.le_antisymm (Nat.le_of_lt_succ hx) k]; exact ⟨hgj, hjj⟩)
     ·have hnc : [rB false] = [rB (decide (Zp w E))] := fin fun q => hgj q.1
      by_cases hj0 : 0 < j
      ·have l1 := l1 hj0
       repeat' (first | (guard_target =~ WpA _ _ _ _ _ _; first | refine WpA.seq ?_ | refine WpA.drawU ?_ | refine WpA.regionU ?_ | refine WpA.block ?_ | refine WpA.ret ?_ | refine WpA.skip ?_ | refine WpA.exit ?_ | refine WpA.cond_true rfl ?_ | refine WpA.cond_false rfl ?_ | refine WpA.cond_ntrue rfl ?_ | refine WpA.cond_dec rfl (fun _ => ?_) (fun _ => ?_) | refine WpA.cond_not rfl (fun _ => ?_) (fun _ => ?_) | refine WpA.cond rfl (fun _ => ?_) (fun _ => ?_)) | (guard_target =~ Za _ _ _ _ [] _ _ _ _; first | refine Za.nilL ?_ | refine Za.nilD (by kernel_rfl) ?_) | (guard_target =~ Za _ _ _ _ (Oper.mk _ (Op.call ⟨Callee.value _, _, _⟩) _ _ _ none :: _) _ _ _ _; first | refine Za.cons (sC_ (Z7 _ _ _) (.sh (.sh (.sh .nil))) (.sh wS_ (.sh wS_ (.sh wS_ .nil))) rfl) ?_ | refine Za.cons (sC_ (Zcf (E.getD (((j : Int) - 1).toNat * 1) []) (E.getD (j * 1) []) j2 j2) (.sh (.sh .nil)) (.sh wS_ (.sh wS_ .nil)) rfl) ?_) | (guard_target =~ Za _ _ _ _ (Oper.mk _ _ _ _ _ none :: _) _ _ _ _; refine Za.cons Zc ?_) | (guard_target =~ Za _ _ _ _ (Oper.mk _ _ _ _ _ (some _) :: _) _ _ _ _; first | refine Za.pass rfl rfl rfl rfl ?_ | refine Za.pass_undef rfl rfl rfl ?_ | (guard_target =~ Za _ _ _ _ (Oper.mk _ (Op.call ⟨Callee.value _, _, _⟩) _ _ _ _ :: _) _ _ _ _; first | refine Za.doit rfl rfl (sC_ (Z7 _ _ _) (.sh (.sh (.sh .nil))) (.sh wS_ (.sh wS_ (.sh wS_ .nil))) rfl) ?_ | refine Za.doit rfl rfl (sC_ (Zcf (E.getD (((j : Int) - 1).toNat * 1) []) (E.getD (j * 1) []) j2 j2) (.sh (.sh .nil)) (.sh wS_ (.sh wS_ .nil)) rfl) ?_) | refine Za.doit rfl rfl Zc ?_ | ((fail_if_success (refine Za.doit (rd := []) (up := []) rfl rfl ?_ ?_)); first | refine Za.guard_dec rfl rfl (fun _ => ?_) (fun _ => ?_) | refine Za.guard_not rfl rfl (fun _ => ?_) (fun _ => ?_) | refine Za.guard rfl rfl (fun _ => ?_) (fun _ => ?_))) | refine Z8.next ?_ | refine Zk.next ?_ | refine d1_ ?_|fail)
       all_goals try (exfalso; omega)
       all_goals first | exact hnc | exact absurd (hgd.2 ⟨by omega, by omega, fun _ => by omega⟩) hgj
      ·obtain rfl : j = 0 := by omega
       repeat' (first | (guard_target =~ WpA _ _ _ _ _ _; first | refine WpA.seq ?_ | refine WpA.drawU ?_ | refine WpA.regionU ?_ | refine WpA.block ?_ | refine WpA.ret ?_ | refine WpA.skip ?_ | refine WpA.exit ?_ | refine WpA.cond_true rfl ?_ | refine WpA.cond_false rfl ?_ | refine WpA.cond_ntrue rfl ?_ | refine WpA.cond_dec rfl (fun _ => ?_) (fun _ => ?_) | refine WpA.cond_not rfl (fun _ => ?_) (fun _ => ?_) | refine WpA.cond rfl (fun _ => ?_) (fun _ => ?_)) | (guard_target =~ Za _ _ _ _ [] _ _ _ _; first | refine Za.nilL ?_ | refine Za.nilD (by kernel_rfl) ?_) | (guard_target =~ Za _ _ _ _ (Oper.mk _ (Op.call ⟨Callee.value _, _, _⟩) _ _ _ none :: _) _ _ _ _; first | refine Za.cons (sC_ (Z7 _ _ _) (.sh (.sh (.sh .nil))) (.sh wS_ (.sh wS_ (.sh wS_ .nil))) rfl) ?_) | (guard_target =~ Za _ _ _ _ (Oper.mk _ _ _ _ _ none :: _) _ _ _ _; refine Za.cons Zc ?_) | (guard_target =~ Za _ _ _ _ (Oper.mk _ _ _ _ _ (some _) :: _) _ _ _ _; first | refine Za.pass rfl rfl rfl rfl ?_ | refine Za.pass_undef rfl rfl rfl ?_ | (guard_target =~ Za _ _ _ _ (Oper.mk _ (Op.call ⟨Callee.value _, _, _⟩) _ _ _ _ :: _) _ _ _ _; first | refine Za.doit rfl rfl (sC_ (Z7 _ _ _) (.sh (.sh (.sh .nil))) (.sh wS_ (.sh wS_ (.sh wS_ .nil))) rfl) ?_) | refine Za.doit rfl rfl Zc ?_ | ((fail_if_success (refine Za.doit (rd := []) (up := []) rfl rfl ?_ ?_)); first | refine Za.guard_dec rfl rfl (fun _ => ?_) (fun _ => ?_) | refine Za.guard_not rfl rfl (fun _ => ?_) (fun _ => ?_) | refine Za.guard rfl rfl (fun _ => ?_) (fun _ => ?_))) | refine Z8.next ?_ | refine Zk.next ?_ | refine d1_ ?_|fail)
       all_goals try (exfalso; omega)
       all_goals first | exact hnc | exact absurd (hgd.2 ⟨by omega, by omega, fun _ => by omega⟩) hgj
    ·have hyes : Zp w E := hdef.2 ⟨hn, hwt, Zbx.2 fun i hi => (hj.2 i j2).1, Zqo.2 fun i hi => (hj.2 i j2).2⟩
     repeat' (first | (guard_target =~ WpA _ _ _ _ _ _; first | refine WpA.seq ?_ | refine WpA.drawU ?_ | refine WpA.regionU ?_ | refine WpA.block ?_ | refine WpA.ret ?_ | refine WpA.skip ?_ | refine WpA.exit ?_ | refine WpA.cond_true rfl ?_ | refine WpA.cond_false rfl ?_ | refine WpA.cond_ntrue rfl ?_ | refine WpA.cond_dec rfl (fun _ => ?_) (fun _ => ?_) | refine WpA.cond_not rfl (fun _ => ?_) (fun _ => ?_) | refine WpA.cond rfl (fun _ => ?_) (fun _ => ?_)) | (guard_target =~ Za _ _ _ _ [] _ _ _ _; first | refine Za.nilL ?_ | refine Za.nilD (by kernel_rfl) ?_) | (guard_target =~ Za _ _ _ _ (Oper.mk _ _ _ _ _ none :: _) _ _ _ _; refine Za.cons Zc ?_) | (guard_target =~ Za _ _ _ _ (Oper.mk _ _ _ _ _ (some _) :: _) _ _ _ _; first | refine Za.pass rfl rfl rfl rfl ?_ | refine Za.pass_undef rfl rfl rfl ?_ | refine Za.doit rfl rfl Zc ?_ | ((fail_if_success (refine Za.doit (rd := []) (up := []) rfl rfl ?_ ?_)); first | refine Za.guard_dec rfl rfl (fun _ => ?_) (fun _ => ?_) | refine Za.guard_not rfl rfl (fun _ => ?_) (fun _ => ?_) | refine Za.guard rfl rfl (fun _ => ?_) (fun _ => ?_))) | refine Z8.next ?_ | refine Zk.next ?_ | refine d1_ ?_|fail)
     all_goals try (exfalso; omega)
     rw [decide_eq_true hyes]
 ·have hno : ¬ Zp w E := fun h => hn (hdef.1 h).1
  repeat' (first | (guard_target =~ WpA _ _ _ _ _ _; first | refine WpA.seq ?_ | refine WpA.drawU ?_ | refine WpA.regionU ?_ | refine WpA.block ?_ | refine WpA.ret ?_ | refine WpA.skip ?_ | refine WpA.exit ?_ | refine WpA.cond_true rfl ?_ | refine WpA.cond_false rfl ?_ | refine WpA.cond_ntrue rfl ?_ | refine WpA.cond_dec rfl (fun _ => ?_) (fun _ => ?_) | refine WpA.cond_not rfl (fun _ => ?_) (fun _ => ?_) | refine WpA.cond rfl (fun _ => ?_) (fun _ => ?_)) | (guard_target =~ Za _ _ _ _ [] _ _ _ _; first | refine Za.nilL ?_ | refine Za.nilD (by kernel_rfl) ?_) | (guard_target =~ Za _ _ _ _ (Oper.mk _ _ _ _ _ none :: _) _ _ _ _; refine Za.cons Zc ?_) | (guard_target =~ Za _ _ _ _ (Oper.mk _ _ _ _ _ (some _) :: _) _ _ _ _; first | refine Za.pass rfl rfl rfl rfl ?_ | refine Za.pass_undef rfl rfl rfl ?_ | refine Za.doit rfl rfl Zc ?_ | ((fail_if_success (refine Za.doit (rd := []) (up := []) rfl rfl ?_ ?_)); first | refine Za.guard_dec rfl rfl (fun _ => ?_) (fun _ => ?_) | refine Za.guard_not rfl rfl (fun _ => ?_) (fun _ => ?_) | refine Za.guard rfl rfl (fun _ => ?_) (fun _ => ?_))) | refine Z8.next ?_ | refine Zk.next ?_ | refine d1_ ?_|fail)
  all_goals try (exfalso; omega)
  all_goals rw [decide_eq_false hno]
end Go.Proofs.YtmgmpnhlehonmaaGreat
