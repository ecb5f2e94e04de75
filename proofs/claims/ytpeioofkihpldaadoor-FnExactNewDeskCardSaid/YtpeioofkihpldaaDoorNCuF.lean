/- Contracts of the laws' functions on graphs. No condition. -/
import Derived.Test.YtpeioofkihpldaaDoorNCuD
import Derived.Test.YtpeioofkihpldaaDoorNSpA
set_option linter.unusedVariables false
set_option linter.unusedSimpArgs false
namespace Go.Proofs.YtpeioofkihpldaaDoor
set_option maxRecDepth 100000
set_option maxHeartbeats 20000000
open Go.Pv
open Go.ChangeShapes Go.WideShapes Go.ChangeAt Go.RowKit
attribute [local irreducible] RunU WpA Step CallG CallNG Done DoneN
instance fnOk44 : FnOk Tryd.prog 44 := ⟨_, Tryd.func44, rfl, by decide⟩
instance fnOk43 : FnOk Tryd.prog 43 := ⟨_, Tryd.func43, rfl, by decide⟩
attribute [local irreducible] decStrict decFalls decIsBr decWithin Strict Falls IsBr Within
theorem tk_app (A : List Int) (x : Int) {k : Nat} (h : (A.take k).length < k) : A.take k ++ [x] = (A ++ [x]).take k := by
 rw [List.length_take] at h
 rw [List.take_of_length_le (by omega), List.take_of_length_le (by rw [List.length_append, List.length_singleton]; omega)]
theorem tk_full (A B : List Int) {k : Nat} (h : k ≤ (A.take k).length) : (A ++ B).take k = A.take k := by
 rw [List.length_take] at h
 rw [List.take_append_of_le_length (by omega)]
theorem mulK_runs (l : List Int) (k : Nat) : mulK l k = (runL (runsL l (l.length - 1)) ++ List.replicate k 1).take k := by
 unfold mulK seqI
 split
 ·rename_i h
  rw [h, show runL (runsL l (1 - 1)) = [] from rfl, List.nil_append]
  rw [show ([1] : List Int) ++ List.replicate k 1 = List.replicate (k + 1) 1 from rfl, List.take_replicate, List.take_replicate]
  congr 1
  omega
 ·rw [seqL_runs]
theorem tk_ones (A : List Int) {k t : Nat} (h : (A.take k ++ List.replicate t (1 : Int)).length = k) : A.take k ++ List.replicate t 1 = (A ++ List.replicate k 1).take k := by
 rw [List.length_append, List.length_take, List.length_replicate] at h
 rw [List.take_append, List.take_replicate]
 congr 2
 omega
theorem rep_snocA (A : List Int) (x : Int) (t : Nat) : A ++ List.replicate t x ++ [x] = A ++ List.replicate (t + 1) x := by
 rw [List.append_assoc, List.replicate_succ']
theorem own_nilI {id : Nat} {l : List Int} (h : l = []) : AV.own id (.sl true 1 []) = AV.own id (.sl true 1 (ints l)) := by rw [h]; rfl
theorem l06Sequence_c (l : List Int) (h : IsBr l) (k : Nat) (hk : k ≤ 1000) : CallA Tryd.prog 44 [aBr1 l, aI k] [rL (mulK l k)] [] := by
 have ht := tmsQ_br h
 have hR := l04Runs_c l ht
 have hl1 := ht.len
 have hmem := runsL_mem ht (l.length - 1) (by omega)
 have hlen := runsL_len ht (l.length - 1)
 have hfin := mulK_runs l k
 clear h ht
 generalize runsL l (l.length - 1) = R at *
 generalize mulK l k = M at *
 refine cA_ _ Tryd.func44 rfl Tryd.ntmps44 (by first | exact ⟨rfl, rfl⟩ | (simp only [List.all_cons, List.all_nil, V.solid, D.solid, D.solids, solids_ints, solids_bools, solids_LL, Bool.and_self, Bool.and_true, and_self]; done) | simp [V.solid, D.solid, D.solids, solids_lits, solids_ints, solids_bools, solids_LL]) ?_
 repeat' (first | (guard_target =~ WpA _ _ _ _ _ _; first | refine WpA.seq ?_ | refine WpA.drawU ?_ | refine WpA.regionU ?_ | refine WpA.block ?_ | refine WpA.ret ?_ | refine WpA.skip ?_ | refine WpA.exit ?_ | refine WpA.cond_true rfl ?_ | refine WpA.cond_false rfl ?_ | refine WpA.cond_ntrue rfl ?_ | refine WpA.cond_dec rfl (fun _ => ?_) (fun _ => ?_) | refine WpA.cond_not rfl (fun _ => ?_) (fun _ => ?_) | refine WpA.cond rfl (fun _ => ?_) (fun _ => ?_)) | (guard_target =~ RunU _ _ _ _ [] _ _ _ _; first | refine RunU.nilL ?_ | refine RunU.nilD (by kernel_rfl) ?_) | (guard_target =~ RunU _ _ _ _ (Oper.mk _ (Op.call ⟨Callee.value _, _, _⟩) _ _ _ none :: _) _ _ _ _; first | refine RunU.cons (sC_ (hR) (.sh .nil) (.shAgg rfl gA_ .nil) rfl) ?_) | (guard_target =~ RunU _ _ _ _ (Oper.mk _ _ _ _ _ none :: _) _ _ _ _; refine RunU.cons step_any ?_) | (guard_target =~ RunU _ _ _ _ (Oper.mk _ _ _ _ _ (some _) :: _) _ _ _ _; first | refine RunU.pass rfl rfl rfl rfl ?_ | refine RunU.pass_undef rfl rfl rfl ?_ | (guard_target =~ RunU _ _ _ _ (Oper.mk _ (Op.call ⟨Callee.value _, _, _⟩) _ _ _ _ :: _) _ _ _ _; first | refine RunU.doit rfl rfl (sC_ (hR) (.sh .nil) (.shAgg rfl gA_ .nil) rfl) ?_) | refine RunU.doit rfl rfl step_any ?_ | ((fail_if_success (refine RunU.doit (rd := []) (up := []) rfl rfl ?_ ?_)); first | refine RunU.guard_dec rfl rfl (fun _ => ?_) (fun _ => ?_) | refine RunU.guard_not rfl rfl (fun _ => ?_) (fun _ => ?_) | refine RunU.guard rfl rfl (fun _ => ?_) (fun _ => ?_))) | ((fail_if_success (guard_target =~ @Eq _ _ _)); (fail_if_success (guard_target =~ @Exists _ _)); first | refine Then.next ?_ | refine InBlock.next ?_ | refine Done.ret (.one (by first | exact .c rfl | exact .own rfl | exact .als rfl rfl | exact .ptr rfl rfl | exact .part rfl rfl rfl) .nil) (.sh (.sh .nil)) ?_ rfl))
 refine WpA.loop_ids2 (fun j i5 i6 => [(1, vQJ k), (5, .own i5 (.sl true 1 (ints ((runL (R.take j)).take k)))), (6, .own i6 (.sl true 1 (LL R))), (7, vQJ j)]) (fun j => j ≤ R.length) (fun j => R.length - j) 0 _ _ (by omega) ⟨rfl, by exact own_nilI (by simp [runL]), xR_, rfl, trivial⟩ ?_
 intro j i5 i6 s nx hj
 by_cases hlt : j < R.length
 ·have e1 := runL_take hlt
  have hrow := hmem (R.getD j []) (by
   have e : R.getD j [] = R[j] := by simp [List.getD, hlt]
   rw [e]; exact List.getElem_mem hlt)
  rw [← Nat.mul_one j] at hrow
  clear hmem hfin hR
  have hq0 : (R.getD j []).getD 0 0 = (R.getD (j * 1) []).getD (0 * 1) 0 := by rw [Nat.mul_one]
  have hq1 : (R.getD j []).getD 1 0 = (R.getD (j * 1) []).getD (1 * 1) 0 := by rw [Nat.mul_one]
  rw [hq0, hq1] at e1
  have hb : 0 ≤ (R.getD (j * 1) []).getD (0 * 1) 0 ∧ (R.getD (j * 1) []).getD (0 * 1) 0 ≤ 4000 := hrow.2.1
  have hr2 : (R.getD (j * 1) []).length = 2 := hrow.1
  clear hq0 hq1 hrow
  generalize hA2 : runL (R.take (j + 1)) = A2 at *
  generalize runL (R.take j) = A at *
  repeat' (first | (guard_target =~ WpA _ _ _ _ _ _; first | refine WpA.seq ?_ | refine WpA.drawU ?_ | refine WpA.regionU ?_ | refine WpA.block ?_ | refine WpA.ret ?_ | refine WpA.skip ?_ | refine WpA.exit ?_ | refine WpA.cond_true rfl ?_ | refine WpA.cond_false rfl ?_ | refine WpA.cond_ntrue rfl ?_ | refine WpA.cond_dec rfl (fun _ => ?_) (fun _ => ?_) | refine WpA.cond_not rfl (fun _ => ?_) (fun _ => ?_) | refine WpA.cond rfl (fun _ => ?_) (fun _ => ?_)) | (guard_target =~ RunU _ _ _ _ [] _ _ _ _; first | refine RunU.nilL ?_ | refine RunU.nilD (by kernel_rfl) ?_) | (guard_target =~ RunU _ _ _ _ (Oper.mk _ _ _ _ _ none :: _) _ _ _ _; refine RunU.cons step_any ?_) | (guard_target =~ RunU _ _ _ _ (Oper.mk _ _ _ _ _ (some _) :: _) _ _ _ _; first | refine RunU.pass rfl rfl rfl rfl ?_ | refine RunU.pass_undef rfl rfl rfl ?_ | refine RunU.doit rfl rfl step_any ?_ | ((fail_if_success (refine RunU.doit (rd := []) (up := []) rfl rfl ?_ ?_)); first | refine RunU.guard_dec rfl rfl (fun _ => ?_) (fun _ => ?_) | refine RunU.guard_not rfl rfl (fun _ => ?_) (fun _ => ?_) | refine RunU.guard rfl rfl (fun _ => ?_) (fun _ => ?_))) | ((fail_if_success (guard_target =~ @Eq _ _ _)); (fail_if_success (guard_target =~ @Exists _ _)); first | refine Then.next ?_ | refine InBlock.next ?_ | refine Done.ret (.one (by first | exact .c rfl | exact .own rfl | exact .als rfl rfl | exact .ptr rfl rfl | exact .part rfl rfl rfl) .nil) (.sh (.sh .nil)) ?_ rfl))
  all_goals try (exfalso; omega)
  refine WpA.loop_ids2 (fun t i5 i6 => [(1, vQJ k), (5, .own i5 (.sl true 1 (ints ((A ++ List.replicate t ((R.getD (j * 1) []).getD (1 * 1) 0)).take k)))), (6, .own i6 (.sl true 1 (LL R))), (7, vQJ j), (8, vQJ ((R.getD (j * 1) []).getD (0 * 1) 0 - (t : Nat)))]) (fun t => (t : Int) ≤ (R.getD (j * 1) []).getD (0 * 1) 0) (fun t => ((R.getD (j * 1) []).getD (0 * 1) 0).toNat - t) 0 _ _ (by omega) ⟨rfl, by exact own_ints (by simp), xR_, rfl, int_eq (by omega), trivial⟩ ?_
  intro t i5 i6 s nx htl
  by_cases hq : (t : Int) < (R.getD (j * 1) []).getD (0 * 1) 0
  ·by_cases hf : ((A ++ List.replicate t ((R.getD (j * 1) []).getD (1 * 1) 0)).take k).length < k
   ·have e3 := tk_app _ ((R.getD (j * 1) []).getD (1 * 1) 0) hf
    rw [rep_snocA] at e3
    clear e1
    generalize (A ++ List.replicate t ((R.getD (j * 1) []).getD (1 * 1) 0)).take k = B at *
    repeat' (first | (guard_target =~ WpA _ _ _ _ _ _; first | refine WpA.seq ?_ | refine WpA.drawU ?_ | refine WpA.regionU ?_ | refine WpA.block ?_ | refine WpA.ret ?_ | refine WpA.skip ?_ | refine WpA.exit ?_ | refine WpA.cond_true rfl ?_ | refine WpA.cond_false rfl ?_ | refine WpA.cond_ntrue rfl ?_ | refine WpA.cond_dec rfl (fun _ => ?_) (fun _ => ?_) | refine WpA.cond_not rfl (fun _ => ?_) (fun _ => ?_) | refine WpA.cond rfl (fun _ => ?_) (fun _ => ?_)) | (guard_target =~ RunU _ _ _ _ [] _ _ _ _; first | refine RunU.nilL ?_ | refine RunU.nilD (by kernel_rfl) ?_) | (guard_target =~ RunU _ _ _ _ (Oper.mk _ _ _ _ _ none :: _) _ _ _ _; refine RunU.cons step_any ?_) | (guard_target =~ RunU _ _ _ _ (Oper.mk _ _ _ _ _ (some _) :: _) _ _ _ _; first | refine RunU.pass rfl rfl rfl rfl ?_ | refine RunU.pass_undef rfl rfl rfl ?_ | refine RunU.doit rfl rfl step_any ?_ | ((fail_if_success (refine RunU.doit (rd := []) (up := []) rfl rfl ?_ ?_)); first | refine RunU.guard_dec rfl rfl (fun _ => ?_) (fun _ => ?_) | refine RunU.guard_not rfl rfl (fun _ => ?_) (fun _ => ?_) | refine RunU.guard rfl rfl (fun _ => ?_) (fun _ => ?_))) | ((fail_if_success (guard_target =~ @Eq _ _ _)); (fail_if_success (guard_target =~ @Exists _ _)); first | refine Then.next ?_ | refine InBlock.next ?_ | refine Done.ret (.one (by first | exact .c rfl | exact .own rfl | exact .als rfl rfl | exact .ptr rfl rfl | exact .part rfl rfl rfl) .nil) (.sh (.sh .nil)) ?_ rfl))
    all_goals try (exfalso; omega)
    all_goals exact ⟨t + 1, by omega, ⟨_, _, rfl, by exact own_ints e3, rfl, rfl, int_eq (by omega), trivial⟩, by omega⟩
   ·have e3 := tk_full (k := k) (A ++ List.replicate t ((R.getD (j * 1) []).getD (1 * 1) 0)) (List.replicate (((R.getD (j * 1) []).getD (0 * 1) 0).toNat - t) ((R.getD (j * 1) []).getD (1 * 1) 0)) (by omega)
    rw [List.append_assoc, List.replicate_append_replicate, show t + (((R.getD (j * 1) []).getD (0 * 1) 0).toNat - t) = ((R.getD (j * 1) []).getD (0 * 1) 0).toNat by omega, ← e1] at e3
    have hf2 : ¬ (A2.take k).length < k := by rw [e3]; exact hf
    rw [← e3]
    clear e1 e3 hf
    repeat' (first | (guard_target =~ WpA _ _ _ _ _ _; first | refine WpA.seq ?_ | refine WpA.drawU ?_ | refine WpA.regionU ?_ | refine WpA.block ?_ | refine WpA.ret ?_ | refine WpA.skip ?_ | refine WpA.exit ?_ | refine WpA.cond_true rfl ?_ | refine WpA.cond_false rfl ?_ | refine WpA.cond_ntrue rfl ?_ | refine WpA.cond_dec rfl (fun _ => ?_) (fun _ => ?_) | refine WpA.cond_not rfl (fun _ => ?_) (fun _ => ?_) | refine WpA.cond rfl (fun _ => ?_) (fun _ => ?_)) | (guard_target =~ RunU _ _ _ _ [] _ _ _ _; first | refine RunU.nilL ?_ | refine RunU.nilD (by kernel_rfl) ?_) | (guard_target =~ RunU _ _ _ _ (Oper.mk _ _ _ _ _ none :: _) _ _ _ _; refine RunU.cons step_any ?_) | (guard_target =~ RunU _ _ _ _ (Oper.mk _ _ _ _ _ (some _) :: _) _ _ _ _; first | refine RunU.pass rfl rfl rfl rfl ?_ | refine RunU.pass_undef rfl rfl rfl ?_ | refine RunU.doit rfl rfl step_any ?_ | ((fail_if_success (refine RunU.doit (rd := []) (up := []) rfl rfl ?_ ?_)); first | refine RunU.guard_dec rfl rfl (fun _ => ?_) (fun _ => ?_) | refine RunU.guard_not rfl rfl (fun _ => ?_) (fun _ => ?_) | refine RunU.guard rfl rfl (fun _ => ?_) (fun _ => ?_))) | ((fail_if_success (guard_target =~ @Eq _ _ _)); (fail_if_success (guard_target =~ @Exists _ _)); first | refine Then.next ?_ | refine InBlock.next ?_ | refine Done.ret (.one (by first | exact .c rfl | exact .own rfl | exact .als rfl rfl | exact .ptr rfl rfl | exact .part rfl rfl rfl) .nil) (.sh (.sh .nil)) ?_ rfl))
    all_goals try (exfalso; omega)
    all_goals exact ⟨j + 1, by omega, ⟨_, _, rfl, by exact own_ints (by rw [hA2]), xR_, int_eq (by omega), trivial⟩, by omega⟩
  ·have e3 : t = ((R.getD (j * 1) []).getD (0 * 1) 0).toNat := by omega
   rw [e3, ← e1] at *
   clear e1 e3
   have hz : (R.getD (j * 1) []).getD (0 * 1) 0 - ((((R.getD (j * 1) []).getD (0 * 1) 0).toNat : Nat) : Int) = 0 := by omega
   rw [hz]
   repeat' (first | (guard_target =~ WpA _ _ _ _ _ _; first | refine WpA.seq ?_ | refine WpA.drawU ?_ | refine WpA.regionU ?_ | refine WpA.block ?_ | refine WpA.ret ?_ | refine WpA.skip ?_ | refine WpA.exit ?_ | refine WpA.cond_true rfl ?_ | refine WpA.cond_false rfl ?_ | refine WpA.cond_ntrue rfl ?_ | refine WpA.cond_dec rfl (fun _ => ?_) (fun _ => ?_) | refine WpA.cond_not rfl (fun _ => ?_) (fun _ => ?_) | refine WpA.cond rfl (fun _ => ?_) (fun _ => ?_)) | (guard_target =~ RunU _ _ _ _ [] _ _ _ _; first | refine RunU.nilL ?_ | refine RunU.nilD (by kernel_rfl) ?_) | (guard_target =~ RunU _ _ _ _ (Oper.mk _ _ _ _ _ none :: _) _ _ _ _; refine RunU.cons step_any ?_) | (guard_target =~ RunU _ _ _ _ (Oper.mk _ _ _ _ _ (some _) :: _) _ _ _ _; first | refine RunU.pass rfl rfl rfl rfl ?_ | refine RunU.pass_undef rfl rfl rfl ?_ | refine RunU.doit rfl rfl step_any ?_ | ((fail_if_success (refine RunU.doit (rd := []) (up := []) rfl rfl ?_ ?_)); first | refine RunU.guard_dec rfl rfl (fun _ => ?_) (fun _ => ?_) | refine RunU.guard_not rfl rfl (fun _ => ?_) (fun _ => ?_) | refine RunU.guard rfl rfl (fun _ => ?_) (fun _ => ?_))) | ((fail_if_success (guard_target =~ @Eq _ _ _)); (fail_if_success (guard_target =~ @Exists _ _)); first | refine Then.next ?_ | refine InBlock.next ?_ | refine Done.ret (.one (by first | exact .c rfl | exact .own rfl | exact .als rfl rfl | exact .ptr rfl rfl | exact .part rfl rfl rfl) .nil) (.sh (.sh .nil)) ?_ rfl))
   all_goals try (exfalso; omega)
   all_goals exact ⟨j + 1, by omega, ⟨_, _, rfl, by exact own_ints (by rw [hA2]), xR_, int_eq (by omega), trivial⟩, by omega⟩
 ·obtain rfl : j = R.length := by omega
  rw [List.take_length]
  clear hmem hR
  have hAl : ((runL R).take k).length ≤ k := by rw [List.length_take]; omega
  have hon := fun t => tk_ones (runL R) (k := k) (t := t)
  rw [← hfin] at hon
  have hsn := fun t => rep_snocA ((runL R).take k) 1 t
  clear hfin
  generalize (runL R).take k = A at *
  repeat' (first | (guard_target =~ WpA _ _ _ _ _ _; first | refine WpA.seq ?_ | refine WpA.drawU ?_ | refine WpA.regionU ?_ | refine WpA.block ?_ | refine WpA.ret ?_ | refine WpA.skip ?_ | refine WpA.exit ?_ | refine WpA.cond_true rfl ?_ | refine WpA.cond_false rfl ?_ | refine WpA.cond_ntrue rfl ?_ | refine WpA.cond_dec rfl (fun _ => ?_) (fun _ => ?_) | refine WpA.cond_not rfl (fun _ => ?_) (fun _ => ?_) | refine WpA.cond rfl (fun _ => ?_) (fun _ => ?_)) | (guard_target =~ RunU _ _ _ _ [] _ _ _ _; first | refine RunU.nilL ?_ | refine RunU.nilD (by kernel_rfl) ?_) | (guard_target =~ RunU _ _ _ _ (Oper.mk _ _ _ _ _ none :: _) _ _ _ _; refine RunU.cons step_any ?_) | (guard_target =~ RunU _ _ _ _ (Oper.mk _ _ _ _ _ (some _) :: _) _ _ _ _; first | refine RunU.pass rfl rfl rfl rfl ?_ | refine RunU.pass_undef rfl rfl rfl ?_ | refine RunU.doit rfl rfl step_any ?_ | ((fail_if_success (refine RunU.doit (rd := []) (up := []) rfl rfl ?_ ?_)); first | refine RunU.guard_dec rfl rfl (fun _ => ?_) (fun _ => ?_) | refine RunU.guard_not rfl rfl (fun _ => ?_) (fun _ => ?_) | refine RunU.guard rfl rfl (fun _ => ?_) (fun _ => ?_))) | ((fail_if_success (guard_target =~ @Eq _ _ _)); (fail_if_success (guard_target =~ @Exists _ _)); first | refine Then.next ?_ | refine InBlock.next ?_ | refine Done.ret (.one (by first | exact .c rfl | exact .own rfl | exact .als rfl rfl | exact .ptr rfl rfl | exact .part rfl rfl rfl) .nil) (.sh (.sh .nil)) ?_ rfl))
  all_goals try (exfalso; omega)
  refine WpA.loop_slots2 (fun t i5 => [(1, vQJ k), (5, .own i5 (.sl true 1 (ints (A ++ List.replicate t 1))))]) (fun t => A.length + t ≤ k) (fun t => k - t) 0 _ (by omega) ⟨rfl, by exact own_ints (by simp), trivial⟩ ?_
  intro t i5 s nx htl
  have hl : (A ++ List.replicate t (1 : Int)).length = A.length + t := by simp
  have e1 := hsn t
  have e2 := hon t
  clear hsn hon
  generalize A ++ List.replicate t (1 : Int) = B at *
  by_cases hlt2 : B.length < k
  ·clear e2
   repeat' (first | (guard_target =~ WpA _ _ _ _ _ _; first | refine WpA.seq ?_ | refine WpA.drawU ?_ | refine WpA.regionU ?_ | refine WpA.block ?_ | refine WpA.ret ?_ | refine WpA.skip ?_ | refine WpA.exit ?_ | refine WpA.cond_true rfl ?_ | refine WpA.cond_false rfl ?_ | refine WpA.cond_ntrue rfl ?_ | refine WpA.cond_dec rfl (fun _ => ?_) (fun _ => ?_) | refine WpA.cond_not rfl (fun _ => ?_) (fun _ => ?_) | refine WpA.cond rfl (fun _ => ?_) (fun _ => ?_)) | (guard_target =~ RunU _ _ _ _ [] _ _ _ _; first | refine RunU.nilL ?_ | refine RunU.nilD (by kernel_rfl) ?_) | (guard_target =~ RunU _ _ _ _ (Oper.mk _ _ _ _ _ none :: _) _ _ _ _; refine RunU.cons step_any ?_) | (guard_target =~ RunU _ _ _ _ (Oper.mk _ _ _ _ _ (some _) :: _) _ _ _ _; first | refine RunU.pass rfl rfl rfl rfl ?_ | refine RunU.pass_undef rfl rfl rfl ?_ | refine RunU.doit rfl rfl step_any ?_ | ((fail_if_success (refine RunU.doit (rd := []) (up := []) rfl rfl ?_ ?_)); first | refine RunU.guard_dec rfl rfl (fun _ => ?_) (fun _ => ?_) | refine RunU.guard_not rfl rfl (fun _ => ?_) (fun _ => ?_) | refine RunU.guard rfl rfl (fun _ => ?_) (fun _ => ?_))) | ((fail_if_success (guard_target =~ @Eq _ _ _)); (fail_if_success (guard_target =~ @Exists _ _)); first | refine Then.next ?_ | refine InBlock.next ?_ | refine Done.ret (.one (by first | exact .c rfl | exact .own rfl | exact .als rfl rfl | exact .ptr rfl rfl | exact .part rfl rfl rfl) .nil) (.sh (.sh .nil)) ?_ rfl))
   all_goals try (exfalso; omega)
   all_goals exact ⟨t + 1, by omega, ⟨_, rfl, by exact own_ints e1, trivial⟩, by omega⟩
  ·have e3 := e2 (by omega)
   rw [e3]
   rw [e3] at hlt2 hl
   clear e1 e2 e3
   repeat' (first | (guard_target =~ WpA _ _ _ _ _ _; first | refine WpA.seq ?_ | refine WpA.drawU ?_ | refine WpA.regionU ?_ | refine WpA.block ?_ | refine WpA.ret ?_ | refine WpA.skip ?_ | refine WpA.exit ?_ | refine WpA.cond_true rfl ?_ | refine WpA.cond_false rfl ?_ | refine WpA.cond_ntrue rfl ?_ | refine WpA.cond_dec rfl (fun _ => ?_) (fun _ => ?_) | refine WpA.cond_not rfl (fun _ => ?_) (fun _ => ?_) | refine WpA.cond rfl (fun _ => ?_) (fun _ => ?_)) | (guard_target =~ RunU _ _ _ _ [] _ _ _ _; first | refine RunU.nilL ?_ | refine RunU.nilD (by kernel_rfl) ?_) | (guard_target =~ RunU _ _ _ _ (Oper.mk _ _ _ _ _ none :: _) _ _ _ _; refine RunU.cons step_any ?_) | (guard_target =~ RunU _ _ _ _ (Oper.mk _ _ _ _ _ (some _) :: _) _ _ _ _; first | refine RunU.pass rfl rfl rfl rfl ?_ | refine RunU.pass_undef rfl rfl rfl ?_ | refine RunU.doit rfl rfl step_any ?_ | ((fail_if_success (refine RunU.doit (rd := []) (up := []) rfl rfl ?_ ?_)); first | refine RunU.guard_dec rfl rfl (fun _ => ?_) (fun _ => ?_) | refine RunU.guard_not rfl rfl (fun _ => ?_) (fun _ => ?_) | refine RunU.guard rfl rfl (fun _ => ?_) (fun _ => ?_))) | ((fail_if_success (guard_target =~ @Eq _ _ _)); (fail_if_success (guard_target =~ @Exists _ _)); first | refine Then.next ?_ | refine InBlock.next ?_ | refine Done.ret (.one (by first | exact .c rfl | exact .own rfl | exact .als rfl rfl | exact .ptr rfl rfl | exact .part rfl rfl rfl) .nil) (.sh (.sh .nil)) ?_ rfl))
   all_goals first | rfl | (exfalso; omega)
theorem cdM_zeroD {id : Nat} (m : List Int) {n : Nat} (h : n = m.length - 1) : AV.own id (.sl true 1 (ints (List.replicate n 0))) = AV.own id (.sl true 1 (ints (cdM m 0))) := by
 rw [cdM_zero, h]
theorem l06Code_c (l : List Int) (h : IsBr l) (k : Nat) (hk : 1 ≤ k ∧ k ≤ 1000) : CallA Tryd.prog 43 [aBr1 l, aI k] [rL (cdL (mulK l k))] [] := by
 have hS := l06Sequence_c l h k hk.2
 have hp := (mulK_un h k).2
 have hb := mulK_le h k
 have hm := mulK_len l k
 clear h
 generalize mulK l k = m at *
 have hsb := sumB_in hp hb (by omega)
 have hmb : ∀ i, -4000 ≤ m.getD i 0 ∧ m.getD i 0 ≤ 4000 := fun i => by
  by_cases hi : i < m.length
  ·have e : m.getD i 0 = m[i] := by simp [List.getD, hi]
   rw [e]
   have h1 := hp _ (List.getElem_mem hi)
   have h2 := hb _ (List.getElem_mem hi)
   omega
  ·rw [List.getD_eq_getElem?_getD, List.getElem?_eq_none (by omega)]; simp
 clear hb
 subst hm
 refine cA_ _ Tryd.func43 rfl Tryd.ntmps43 (by first | exact ⟨rfl, rfl⟩ | (simp only [List.all_cons, List.all_nil, V.solid, D.solid, D.solids, solids_ints, solids_bools, solids_LL, Bool.and_self, Bool.and_true, and_self]; done) | simp [V.solid, D.solid, D.solids, solids_lits, solids_ints, solids_bools, solids_LL]) ?_
 repeat' (first | (guard_target =~ WpA _ _ _ _ _ _; first | refine WpA.seq ?_ | refine WpA.drawU ?_ | refine WpA.regionU ?_ | refine WpA.block ?_ | refine WpA.ret ?_ | refine WpA.skip ?_ | refine WpA.exit ?_ | refine WpA.cond_true rfl ?_ | refine WpA.cond_false rfl ?_ | refine WpA.cond_ntrue rfl ?_ | refine WpA.cond_dec rfl (fun _ => ?_) (fun _ => ?_) | refine WpA.cond_not rfl (fun _ => ?_) (fun _ => ?_) | refine WpA.cond rfl (fun _ => ?_) (fun _ => ?_)) | (guard_target =~ RunU _ _ _ _ [] _ _ _ _; first | refine RunU.nilL ?_ | refine RunU.nilD (by kernel_rfl) ?_) | (guard_target =~ RunU _ _ _ _ (Oper.mk _ (Op.call ⟨Callee.value _, _, _⟩) _ _ _ none :: _) _ _ _ _; first | refine RunU.cons (sC_ (hS) (.sh (.sh .nil)) (.shAgg rfl gA_ (.sh wS_ .nil)) rfl) ?_) | (guard_target =~ RunU _ _ _ _ (Oper.mk _ _ _ _ _ none :: _) _ _ _ _; refine RunU.cons step_any ?_) | (guard_target =~ RunU _ _ _ _ (Oper.mk _ _ _ _ _ (some _) :: _) _ _ _ _; first | refine RunU.pass rfl rfl rfl rfl ?_ | refine RunU.pass_undef rfl rfl rfl ?_ | (guard_target =~ RunU _ _ _ _ (Oper.mk _ (Op.call ⟨Callee.value _, _, _⟩) _ _ _ _ :: _) _ _ _ _; first | refine RunU.doit rfl rfl (sC_ (hS) (.sh (.sh .nil)) (.shAgg rfl gA_ (.sh wS_ .nil)) rfl) ?_) | refine RunU.doit rfl rfl step_any ?_ | ((fail_if_success (refine RunU.doit (rd := []) (up := []) rfl rfl ?_ ?_)); first | refine RunU.guard_dec rfl rfl (fun _ => ?_) (fun _ => ?_) | refine RunU.guard_not rfl rfl (fun _ => ?_) (fun _ => ?_) | refine RunU.guard rfl rfl (fun _ => ?_) (fun _ => ?_))) | ((fail_if_success (guard_target =~ @Eq _ _ _)); (fail_if_success (guard_target =~ @Exists _ _)); first | refine Then.next ?_ | refine InBlock.next ?_ | refine Done.ret (.one (by first | exact .c rfl | exact .own rfl | exact .als rfl rfl | exact .ptr rfl rfl | exact .part rfl rfl rfl) .nil) (.sh (.sh .nil)) ?_ rfl))
 clear hS
 refine WpA.loop_ids2 (fun i i5 i6 => [(1, vQJ m.length), (5, .own i5 (.sl true 1 (ints (cdM m i)))), (6, .own i6 (.sl true 1 (ints m))), (7, vQJ i)]) (fun i => i ≤ m.length) (fun i => m.length - i) 0 _ _ (by omega) ⟨rfl, by exact cdM_zeroD m (by omega), xR_, rfl, trivial⟩ ?_
 intro i i5 i6 s nx hi
 by_cases hlt : i < m.length
 ·have hml := cdM_len m i
  have hst := cdN_start1 m i
  generalize cdM m i = A at *
  repeat' (first | (guard_target =~ WpA _ _ _ _ _ _; first | refine WpA.seq ?_ | refine WpA.drawU ?_ | refine WpA.regionU ?_ | refine WpA.block ?_ | refine WpA.ret ?_ | refine WpA.skip ?_ | refine WpA.exit ?_ | refine WpA.cond_true rfl ?_ | refine WpA.cond_false rfl ?_ | refine WpA.cond_ntrue rfl ?_ | refine WpA.cond_dec rfl (fun _ => ?_) (fun _ => ?_) | refine WpA.cond_not rfl (fun _ => ?_) (fun _ => ?_) | refine WpA.cond rfl (fun _ => ?_) (fun _ => ?_)) | (guard_target =~ RunU _ _ _ _ [] _ _ _ _; first | refine RunU.nilL ?_ | refine RunU.nilD (by kernel_rfl) ?_) | (guard_target =~ RunU _ _ _ _ (Oper.mk _ _ _ _ _ none :: _) _ _ _ _; refine RunU.cons step_any ?_) | (guard_target =~ RunU _ _ _ _ (Oper.mk _ _ _ _ _ (some _) :: _) _ _ _ _; first | refine RunU.pass rfl rfl rfl rfl ?_ | refine RunU.pass_undef rfl rfl rfl ?_ | refine RunU.doit rfl rfl step_any ?_ | ((fail_if_success (refine RunU.doit (rd := []) (up := []) rfl rfl ?_ ?_)); first | refine RunU.guard_dec rfl rfl (fun _ => ?_) (fun _ => ?_) | refine RunU.guard_not rfl rfl (fun _ => ?_) (fun _ => ?_) | refine RunU.guard rfl rfl (fun _ => ?_) (fun _ => ?_))) | ((fail_if_success (guard_target =~ @Eq _ _ _)); (fail_if_success (guard_target =~ @Exists _ _)); first | refine Then.next ?_ | refine InBlock.next ?_ | refine Done.ret (.one (by first | exact .c rfl | exact .own rfl | exact .als rfl rfl | exact .ptr rfl rfl | exact .part rfl rfl rfl) .nil) (.sh (.sh .nil)) ?_ rfl))
  all_goals try (exfalso; omega)
  subst hst
  clear hml
  refine WpA.loop_ids2 (fun t i5 i6 => [(1, vQJ m.length), (5, .own i5 (.sl true 1 (ints (cdN m i (i + 1 + t))))), (6, .own i6 (.sl true 1 (ints m))), (7, vQJ i), (8, vQJ (sumB m i (i + t))), (9, vQJ (i + 1 + t : Nat))]) (fun t => i + 1 + t ≤ m.length) (fun t => m.length - t) 0 _ _ (by omega) ⟨rfl, xR_, xR_, rfl, int_eq (by rw [Nat.add_zero, sumB_self]), int_eq (by omega), trivial⟩ ?_
  intro t i5 i6 s nx ht
  have hnl := cdN_len m i (i + 1 + t)
  by_cases hlt2 : i + 1 + t < m.length
  ·have e1 := sumB_step m (i := i) (j := i + t) (by omega) (by omega)
   rw [show i + t + 1 = i + 1 + t by omega] at e1
   have b1 := hsb i (i + t)
   have b2 := hsb i (i + 1 + t)
   have b3 := hmb ((i + 1 + t) * 1)
   have b4 := hmb (i * 1)
   have e1' : sumB m i (i + t) + m.getD ((i + 1 + t) * 1) 0 = sumB m i (i + 1 + t) := by rw [Nat.mul_one]; omega
   by_cases hov : m.getD i 0 < sumB m i (i + 1 + t)
   ·have hend := cdN_end m i (j := i + 1 + t) (prx_over hp hov)
    rw [hend]
    rw [← Nat.mul_one i] at hov
    rw [show (i * 1) + 1 + t = i + 1 + t by omega, show sumB m (i * 1) = sumB m i by rw [Nat.mul_one]] at hov
    clear hsb hmb hend hnl e1
    generalize sumB m i (i + t) = u at *
    generalize sumB m i (i + 1 + t) = v at *
    repeat' (first | (guard_target =~ WpA _ _ _ _ _ _; first | refine WpA.seq ?_ | refine WpA.drawU ?_ | refine WpA.regionU ?_ | refine WpA.block ?_ | refine WpA.ret ?_ | refine WpA.skip ?_ | refine WpA.exit ?_ | refine WpA.cond_true rfl ?_ | refine WpA.cond_false rfl ?_ | refine WpA.cond_ntrue rfl ?_ | refine WpA.cond_dec rfl (fun _ => ?_) (fun _ => ?_) | refine WpA.cond_not rfl (fun _ => ?_) (fun _ => ?_) | refine WpA.cond rfl (fun _ => ?_) (fun _ => ?_)) | (guard_target =~ RunU _ _ _ _ [] _ _ _ _; first | refine RunU.nilL ?_ | refine RunU.nilD (by kernel_rfl) ?_) | (guard_target =~ RunU _ _ _ _ (Oper.mk _ _ _ _ _ none :: _) _ _ _ _; refine RunU.cons step_any ?_) | (guard_target =~ RunU _ _ _ _ (Oper.mk _ _ _ _ _ (some _) :: _) _ _ _ _; first | refine RunU.pass rfl rfl rfl rfl ?_ | refine RunU.pass_undef rfl rfl rfl ?_ | refine RunU.doit rfl rfl step_any ?_ | ((fail_if_success (refine RunU.doit (rd := []) (up := []) rfl rfl ?_ ?_)); first | refine RunU.guard_dec rfl rfl (fun _ => ?_) (fun _ => ?_) | refine RunU.guard_not rfl rfl (fun _ => ?_) (fun _ => ?_) | refine RunU.guard rfl rfl (fun _ => ?_) (fun _ => ?_))) | ((fail_if_success (guard_target =~ @Eq _ _ _)); (fail_if_success (guard_target =~ @Exists _ _)); first | refine Then.next ?_ | refine InBlock.next ?_ | refine Done.ret (.one (by first | exact .c rfl | exact .own rfl | exact .als rfl rfl | exact .ptr rfl rfl | exact .part rfl rfl rfl) .nil) (.sh (.sh .nil)) ?_ rfl))
    all_goals try (exfalso; omega)
    all_goals exact ⟨i + 1, by omega, ⟨_, _, rfl, xR_, xR_, int_eq (by omega), trivial⟩, by omega⟩
   ·have hpx : prxB m i (i + 1 + t) = true := decide_eq_true ⟨by omega, by omega⟩
    rw [← Nat.mul_one i] at hov
    rw [show (i * 1) + 1 + t = i + 1 + t by omega, show sumB m (i * 1) = sumB m i by rw [Nat.mul_one]] at hov
    by_cases ht0 : t = 0
    ·have e2 : cdN m i (i + 1 + t) = cdN m i (i + 1 + (t + 1)) := by
      rw [ht0]; exact (cdN_near m i).symm
     clear hsb hmb hpx e1
     generalize cdN m i (i + 1 + t) = A at *
     generalize q3 : cdN m i (i + 1 + (t + 1)) = A2 at *
     generalize q1 : sumB m i (i + t) = u at *
     generalize q2 : sumB m i (i + 1 + t) = v at *
     repeat' (first | (guard_target =~ WpA _ _ _ _ _ _; first | refine WpA.seq ?_ | refine WpA.drawU ?_ | refine WpA.regionU ?_ | refine WpA.block ?_ | refine WpA.ret ?_ | refine WpA.skip ?_ | refine WpA.exit ?_ | refine WpA.cond_true rfl ?_ | refine WpA.cond_false rfl ?_ | refine WpA.cond_ntrue rfl ?_ | refine WpA.cond_dec rfl (fun _ => ?_) (fun _ => ?_) | refine WpA.cond_not rfl (fun _ => ?_) (fun _ => ?_) | refine WpA.cond rfl (fun _ => ?_) (fun _ => ?_)) | (guard_target =~ RunU _ _ _ _ [] _ _ _ _; first | refine RunU.nilL ?_ | refine RunU.nilD (by kernel_rfl) ?_) | (guard_target =~ RunU _ _ _ _ (Oper.mk _ _ _ _ _ none :: _) _ _ _ _; refine RunU.cons step_any ?_) | (guard_target =~ RunU _ _ _ _ (Oper.mk _ _ _ _ _ (some _) :: _) _ _ _ _; first | refine RunU.pass rfl rfl rfl rfl ?_ | refine RunU.pass_undef rfl rfl rfl ?_ | refine RunU.doit rfl rfl step_any ?_ | ((fail_if_success (refine RunU.doit (rd := []) (up := []) rfl rfl ?_ ?_)); first | refine RunU.guard_dec rfl rfl (fun _ => ?_) (fun _ => ?_) | refine RunU.guard_not rfl rfl (fun _ => ?_) (fun _ => ?_) | refine RunU.guard rfl rfl (fun _ => ?_) (fun _ => ?_))) | ((fail_if_success (guard_target =~ @Eq _ _ _)); (fail_if_success (guard_target =~ @Exists _ _)); first | refine Then.next ?_ | refine InBlock.next ?_ | refine Done.ret (.one (by first | exact .c rfl | exact .own rfl | exact .als rfl rfl | exact .ptr rfl rfl | exact .part rfl rfl rfl) .nil) (.sh (.sh .nil)) ?_ rfl))
     all_goals try (exfalso; omega)
     all_goals exact ⟨t + 1, by omega, ⟨_, _, rfl, by exact own_ints (e2.trans q3.symm), xR_, rfl, int_eq (by rw [e1', ← q2, show i + (t + 1) = i + 1 + t by omega]), int_eq (by omega), trivial⟩, by omega⟩
    ·have e2 := cdN_step (m := m) (i := i) (j := i + 1 + t) (by omega) hlt2 hpx
     rw [show ∀ A : List Int, A.set (i + 1 + t - 1) (((i + 1 + t : Nat) : Int) - (i : Int)) = A.set ((((i + 1 + t : Nat) : Int) - 1).toNat * 1) (((i + 1 + t : Nat) : Int) - (i : Int)) from fun A => by congr 1; omega] at e2
     rw [show i + 1 + t + 1 = i + 1 + (t + 1) by omega] at e2
     clear hsb hmb hpx e1
     generalize cdN m i (i + 1 + t) = A at *
     generalize q3 : cdN m i (i + 1 + (t + 1)) = A2 at *
     generalize q1 : sumB m i (i + t) = u at *
     generalize q2 : sumB m i (i + 1 + t) = v at *
     repeat' (first | (guard_target =~ WpA _ _ _ _ _ _; first | refine WpA.seq ?_ | refine WpA.drawU ?_ | refine WpA.regionU ?_ | refine WpA.block ?_ | refine WpA.ret ?_ | refine WpA.skip ?_ | refine WpA.exit ?_ | refine WpA.cond_true rfl ?_ | refine WpA.cond_false rfl ?_ | refine WpA.cond_ntrue rfl ?_ | refine WpA.cond_dec rfl (fun _ => ?_) (fun _ => ?_) | refine WpA.cond_not rfl (fun _ => ?_) (fun _ => ?_) | refine WpA.cond rfl (fun _ => ?_) (fun _ => ?_)) | (guard_target =~ RunU _ _ _ _ [] _ _ _ _; first | refine RunU.nilL ?_ | refine RunU.nilD (by kernel_rfl) ?_) | (guard_target =~ RunU _ _ _ _ (Oper.mk _ _ _ _ _ none :: _) _ _ _ _; refine RunU.cons step_any ?_) | (guard_target =~ RunU _ _ _ _ (Oper.mk _ _ _ _ _ (some _) :: _) _ _ _ _; first | refine RunU.pass rfl rfl rfl rfl ?_ | refine RunU.pass_undef rfl rfl rfl ?_ | refine RunU.doit rfl rfl step_any ?_ | ((fail_if_success (refine RunU.doit (rd := []) (up := []) rfl rfl ?_ ?_)); first | refine RunU.guard_dec rfl rfl (fun _ => ?_) (fun _ => ?_) | refine RunU.guard_not rfl rfl (fun _ => ?_) (fun _ => ?_) | refine RunU.guard rfl rfl (fun _ => ?_) (fun _ => ?_))) | ((fail_if_success (guard_target =~ @Eq _ _ _)); (fail_if_success (guard_target =~ @Exists _ _)); first | refine Then.next ?_ | refine InBlock.next ?_ | refine Done.ret (.one (by first | exact .c rfl | exact .own rfl | exact .als rfl rfl | exact .ptr rfl rfl | exact .part rfl rfl rfl) .nil) (.sh (.sh .nil)) ?_ rfl))
     all_goals try (exfalso; omega)
     all_goals exact ⟨t + 1, by omega, ⟨_, _, rfl, by exact own_ints (e2.trans q3.symm), xR_, rfl, int_eq (by rw [e1', ← q2, show i + (t + 1) = i + 1 + t by omega]), int_eq (by omega), trivial⟩, by omega⟩
  ·have hend := cdN_end m i (j := i + 1 + t) (fun x h1 h2 => by omega)
   rw [hend]
   clear hsb hmb hend hnl
   repeat' (first | (guard_target =~ WpA _ _ _ _ _ _; first | refine WpA.seq ?_ | refine WpA.drawU ?_ | refine WpA.regionU ?_ | refine WpA.block ?_ | refine WpA.ret ?_ | refine WpA.skip ?_ | refine WpA.exit ?_ | refine WpA.cond_true rfl ?_ | refine WpA.cond_false rfl ?_ | refine WpA.cond_ntrue rfl ?_ | refine WpA.cond_dec rfl (fun _ => ?_) (fun _ => ?_) | refine WpA.cond_not rfl (fun _ => ?_) (fun _ => ?_) | refine WpA.cond rfl (fun _ => ?_) (fun _ => ?_)) | (guard_target =~ RunU _ _ _ _ [] _ _ _ _; first | refine RunU.nilL ?_ | refine RunU.nilD (by kernel_rfl) ?_) | (guard_target =~ RunU _ _ _ _ (Oper.mk _ _ _ _ _ none :: _) _ _ _ _; refine RunU.cons step_any ?_) | (guard_target =~ RunU _ _ _ _ (Oper.mk _ _ _ _ _ (some _) :: _) _ _ _ _; first | refine RunU.pass rfl rfl rfl rfl ?_ | refine RunU.pass_undef rfl rfl rfl ?_ | refine RunU.doit rfl rfl step_any ?_ | ((fail_if_success (refine RunU.doit (rd := []) (up := []) rfl rfl ?_ ?_)); first | refine RunU.guard_dec rfl rfl (fun _ => ?_) (fun _ => ?_) | refine RunU.guard_not rfl rfl (fun _ => ?_) (fun _ => ?_) | refine RunU.guard rfl rfl (fun _ => ?_) (fun _ => ?_))) | ((fail_if_success (guard_target =~ @Eq _ _ _)); (fail_if_success (guard_target =~ @Exists _ _)); first | refine Then.next ?_ | refine InBlock.next ?_ | refine Done.ret (.one (by first | exact .c rfl | exact .own rfl | exact .als rfl rfl | exact .ptr rfl rfl | exact .part rfl rfl rfl) .nil) (.sh (.sh .nil)) ?_ rfl))
   all_goals try (exfalso; omega)
   all_goals exact ⟨i + 1, by omega, ⟨_, _, rfl, xR_, xR_, int_eq (by omega), trivial⟩, by omega⟩
 ·obtain rfl : i = m.length := by omega
  rw [cdM_last]
  clear hsb hmb hp
  repeat' (first | (guard_target =~ WpA _ _ _ _ _ _; first | refine WpA.seq ?_ | refine WpA.drawU ?_ | refine WpA.regionU ?_ | refine WpA.block ?_ | refine WpA.ret ?_ | refine WpA.skip ?_ | refine WpA.exit ?_ | refine WpA.cond_true rfl ?_ | refine WpA.cond_false rfl ?_ | refine WpA.cond_ntrue rfl ?_ | refine WpA.cond_dec rfl (fun _ => ?_) (fun _ => ?_) | refine WpA.cond_not rfl (fun _ => ?_) (fun _ => ?_) | refine WpA.cond rfl (fun _ => ?_) (fun _ => ?_)) | (guard_target =~ RunU _ _ _ _ [] _ _ _ _; first | refine RunU.nilL ?_ | refine RunU.nilD (by kernel_rfl) ?_) | (guard_target =~ RunU _ _ _ _ (Oper.mk _ _ _ _ _ none :: _) _ _ _ _; refine RunU.cons step_any ?_) | (guard_target =~ RunU _ _ _ _ (Oper.mk _ _ _ _ _ (some _) :: _) _ _ _ _; first | refine RunU.pass rfl rfl rfl rfl ?_ | refine RunU.pass_undef rfl rfl rfl ?_ | refine RunU.doit rfl rfl step_any ?_ | ((fail_if_success (refine RunU.doit (rd := []) (up := []) rfl rfl ?_ ?_)); first | refine RunU.guard_dec rfl rfl (fun _ => ?_) (fun _ => ?_) | refine RunU.guard_not rfl rfl (fun _ => ?_) (fun _ => ?_) | refine RunU.guard rfl rfl (fun _ => ?_) (fun _ => ?_))) | ((fail_if_success (guard_target =~ @Eq _ _ _)); (fail_if_success (guard_target =~ @Exists _ _)); first | refine Then.next ?_ | refine InBlock.next ?_ | refine Done.ret (.one (by first | exact .c rfl | exact .own rfl | exact .als rfl rfl | exact .ptr rfl rfl | exact .part rfl rfl rfl) .nil) (.sh (.sh .nil)) ?_ rfl))
  all_goals first | rfl | (exfalso; omega)
end Go.Proofs.YtpeioofkihpldaaDoor
namespace Go.Proofs.YtpeioofkihpldaaDoor
set_option maxHeartbeats 20000000
open Go.Pv
open Go.ChangeShapes Go.WideShapes Go.ChangeAt Go.RowKit
attribute [local irreducible] RunU WpA Step CallG CallNG Done DoneN
theorem ext_L {A B : List (List Int)} (h : A.length = B.length) (hk : ∀ k, k < A.length → A.getD k [] = B.getD k []) : A = B := by
 refine List.ext_getElem h fun k h1 h2 => ?_
 have := hk k h1
 simpa [List.getD, h1, h2] using this
theorem eqSS2_c (A B : List (List Int)) (hA : A.length ≤ 2147483648) (hB : B.length ≤ 2147483648) (ha : ∀ i, (A.getD i []).length ≤ 2147483648) (hb : ∀ i, (B.getD i []).length ≤ 2147483648) : CallA Tryd.prog 35 [aLL A, aLL B] [rB (decide (A = B))] [] := by
 refine cA_ _ Tryd.func35 rfl Tryd.ntmps35 (by first | exact ⟨rfl, rfl⟩ | (simp only [List.all_cons, List.all_nil, V.solid, D.solid, D.solids, solids_ints, solids_bools, solids_LL, Bool.and_self, Bool.and_true, and_self]; done) | simp [V.solid, D.solid, D.solids, solids_lits, solids_ints, solids_bools, solids_LL]) ?_
 repeat' (first | (guard_target =~ WpA _ _ _ _ _ _; first | refine WpA.seq ?_ | refine WpA.drawU ?_ | refine WpA.regionU ?_ | refine WpA.block ?_ | refine WpA.ret ?_ | refine WpA.skip ?_ | refine WpA.exit ?_ | refine WpA.cond_true rfl ?_ | refine WpA.cond_false rfl ?_ | refine WpA.cond_ntrue rfl ?_ | refine WpA.cond_dec rfl (fun _ => ?_) (fun _ => ?_) | refine WpA.cond_not rfl (fun _ => ?_) (fun _ => ?_) | refine WpA.cond rfl (fun _ => ?_) (fun _ => ?_)) | (guard_target =~ RunU _ _ _ _ [] _ _ _ _; first | refine RunU.nilL ?_ | refine RunU.nilD (by kernel_rfl) ?_) | (guard_target =~ RunU _ _ _ _ (Oper.mk _ _ _ _ _ none :: _) _ _ _ _; refine RunU.cons step_any ?_) | (guard_target =~ RunU _ _ _ _ (Oper.mk _ _ _ _ _ (some _) :: _) _ _ _ _; first | refine RunU.pass rfl rfl rfl rfl ?_ | refine RunU.pass_undef rfl rfl rfl ?_ | refine RunU.doit rfl rfl step_any ?_ | ((fail_if_success (refine RunU.doit (rd := []) (up := []) rfl rfl ?_ ?_)); first | refine RunU.guard_dec rfl rfl (fun _ => ?_) (fun _ => ?_) | refine RunU.guard_not rfl rfl (fun _ => ?_) (fun _ => ?_) | refine RunU.guard rfl rfl (fun _ => ?_) (fun _ => ?_))) | refine Then.next ?_ | refine InBlock.next ?_ | refine Done.ret (.one (by first | exact .c rfl | exact .own rfl | exact .als rfl rfl | exact .ptr rfl rfl | exact .part rfl rfl rfl) .nil) (.sh (.sh .nil)) ?_ rfl)
 case refine_1 h => simp; intro e; subst e; exact h rfl
 case refine_2 h =>
  have hab : A.length = B.length := by omega
  refine WpA.loop_slots (ι := Nat) (fun j => [(0, .c (.sl false 1 (LLs A))), (1, .c (.sl false 1 (LLs B))), (5, .c (.lit (.int .i64 (j : Int))))]) (fun j => j ≤ A.length ∧ ∀ i, i < j → A.getD i [] = B.getD i []) (fun j => A.length - j) 0 (by simp) ⟨rfl, rfl, rfl, trivial⟩ ?_
  intro j s nx hj
  have h1 := ha (j * 1)
  have h2 := hb (j * 1)
  repeat' (first | (guard_target =~ WpA _ _ _ _ _ _; first | refine WpA.seq ?_ | refine WpA.drawU ?_ | refine WpA.regionU ?_ | refine WpA.block ?_ | refine WpA.ret ?_ | refine WpA.skip ?_ | refine WpA.exit ?_ | refine WpA.cond_true rfl ?_ | refine WpA.cond_false rfl ?_ | refine WpA.cond_ntrue rfl ?_ | refine WpA.cond_dec rfl (fun _ => ?_) (fun _ => ?_) | refine WpA.cond_not rfl (fun _ => ?_) (fun _ => ?_) | refine WpA.cond rfl (fun _ => ?_) (fun _ => ?_)) | (guard_target =~ RunU _ _ _ _ [] _ _ _ _; first | refine RunU.nilL ?_ | refine RunU.nilD (by kernel_rfl) ?_) | (guard_target =~ RunU _ _ _ _ (Oper.mk _ (Op.call ⟨Callee.value _, _, _⟩) _ _ _ none :: _) _ _ _ _; first | refine RunU.cons (sC_ (eqInt64S_c (A.getD (j * 1) []) (B.getD (j * 1) []) (by omega) (by omega)) (.sh (.sh .nil)) (.sh wS_ (.sh wS_ .nil)) rfl) ?_) | (guard_target =~ RunU _ _ _ _ (Oper.mk _ _ _ _ _ none :: _) _ _ _ _; refine RunU.cons step_any ?_) | (guard_target =~ RunU _ _ _ _ (Oper.mk _ _ _ _ _ (some _) :: _) _ _ _ _; first | refine RunU.pass rfl rfl rfl rfl ?_ | refine RunU.pass_undef rfl rfl rfl ?_ | (guard_target =~ RunU _ _ _ _ (Oper.mk _ (Op.call ⟨Callee.value _, _, _⟩) _ _ _ _ :: _) _ _ _ _; first | refine RunU.doit rfl rfl (sC_ (eqInt64S_c (A.getD (j * 1) []) (B.getD (j * 1) []) (by omega) (by omega)) (.sh (.sh .nil)) (.sh wS_ (.sh wS_ .nil)) rfl) ?_) | refine RunU.doit rfl rfl step_any ?_ | ((fail_if_success (refine RunU.doit (rd := []) (up := []) rfl rfl ?_ ?_)); first | refine RunU.guard_dec rfl rfl (fun _ => ?_) (fun _ => ?_) | refine RunU.guard_not rfl rfl (fun _ => ?_) (fun _ => ?_) | refine RunU.guard rfl rfl (fun _ => ?_) (fun _ => ?_))) | refine Then.next ?_ | refine InBlock.next ?_ | refine Done.ret (.one (by first | exact .c rfl | exact .own rfl | exact .als rfl rfl | exact .ptr rfl rfl | exact .part rfl rfl rfl) .nil) (.sh (.sh .nil)) ?_ rfl)
  case refine_1.refine_1 h3 h4 =>
   simp
   intro e; subst e; exact h4 rfl
  case refine_1.refine_2 h3 h4 =>
   refine ⟨j + 1, ⟨by omega, fun i hi => ?_⟩, ⟨rfl, rfl, int_eq (by omega), trivial⟩, by omega⟩
   by_cases e : i = j
   ·subst e; simpa using h4
   ·exact hj.2 i (by omega)
  case refine_2 h3 =>
   have : A = B := ext_L hab fun i hi => hj.2 i (by omega)
   simp [this]
end Go.Proofs.YtpeioofkihpldaaDoor
