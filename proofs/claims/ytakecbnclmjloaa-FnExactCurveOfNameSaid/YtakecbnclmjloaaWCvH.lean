/- Curves with one more line. No condition. -/
import Derived.Test.YtakecbnclmjloaaWCvC
import Derived.Test.YtakecbnclmjloaaWPwR
namespace Go.Proofs.Ytakecbnclmjloaa
set_option maxHeartbeats 20000000
set_option linter.unusedVariables false
set_option linter.unusedSimpArgs false
open Go.Pv
open Go.ChangeShapes Go.WideShapes Go.ChangeAt Go.RowKit
attribute [local irreducible] RunU WpA Step CallG CallNG Done DoneN
attribute [local irreducible] StepW
instance fnOk36 : FnOk Try.prog 36 := ⟨_, Try.func36, rfl, by decide⟩
def wlB (B : List (List Int)) : List (List Int) := B ++ [[1]]
def wlC (C : List (List Int)) (x : Int) : List (List Int) := C.map (· ++ [x]) ++ [List.replicate C.length x ++ [0]]
def wlJ (C : List (List Int)) (x : Int) (j : Nat) : List (List Int) := (C.take j).map (· ++ [x]) ++ C.drop j
theorem wlJ_len (C : List (List Int)) (x : Int) {j : Nat} (h : j ≤ C.length) : (wlJ C x j).length = C.length := by simp [wlJ]; omega
theorem wlJ_end (C : List (List Int)) (x : Int) : wlJ C x C.length = C.map (· ++ [x]) := by simp [wlJ]
theorem wlJ_succ (C : List (List Int)) (x : Int) {j : Nat} (h : j < C.length) : wlJ C x (j + 1) = (wlJ C x j).set (j * 1) ((wlJ C x j).getD (j * 1) [] ++ [x]) := by
  have e1 : (wlJ C x j).getD (j * 1) [] = C[j] := by
    rw [Nat.mul_one, wlJ, List.getD_eq_getElem?_getD, List.getElem?_append_right (by simp; omega)]
    simp [h, show min j C.length = j by omega]
  rw [e1, wlJ, wlJ, Nat.mul_one, List.set_append_right _ _ (by simp; omega)]
  simp only [List.length_map, List.length_take, show min j C.length = j by omega, Nat.sub_self]
  rw [List.drop_eq_getElem_cons h, List.set_cons_zero, List.take_add_one, List.getElem?_eq_getElem h]
  simp only [Option.toList_some, List.map_append, List.map_cons, List.map_nil, List.append_assoc, List.cons_append, List.nil_append]
theorem wlJ_row (C : List (List Int)) (x : Int) {m : Nat} (h : ∀ i, (C.getD i []).length ≤ m) (j i : Nat) : ((wlJ C x j).getD i []).length ≤ m + 1 := by
  unfold wlJ
  by_cases hi : i < (C.take j).length
  · rw [List.getD_eq_getElem?_getD, List.getElem?_append_left (by simpa using hi)]
    have := h i
    rw [List.length_take] at hi
    rw [List.getD_eq_getElem?_getD, List.getElem?_eq_getElem (by omega)] at this
    simp [List.getElem?_take, show i < j by omega, List.getElem?_eq_getElem (show i < C.length by omega)] at this ⊢
    omega
  · rw [List.getD_eq_getElem?_getD, List.getElem?_append_right (by simpa using hi)]
    have := h (j + (i - ((C.take j).map (· ++ [x])).length))
    simp [List.getElem?_drop, List.getD_eq_getElem?_getD] at this ⊢
    omega
theorem withLine_c (B C : List (List Int)) (x : Int) (n : Nat) (hn : n ≤ 100) (hB : B.length = n) (hC : C.length = n) (hc : ∀ i, (C.getD i []).length ≤ 100) : CallA Try.prog 36 [.mv (.agg [.sl true 1 (LL B), .sl true 1 (LL C)]), aI x] [rCuv (wlB B) (wlC C x)] [] := by
  have sJ := fun j (h : j < C.length) => wlJ_succ C x h
  have lJ := fun j (h : j ≤ C.length) => wlJ_len C x h
  have rJ := wlJ_row C x hc
  have eJ := wlJ_end C x
  refine callA_of _ Try.func36 rfl Try.ntmps36 (by first | exact ⟨rfl, rfl⟩ | (simp only [List.all_cons, List.all_nil, V.solid, D.solid, D.solids, solids_ints, solids_bools, solids_LL, Bool.and_self, Bool.and_true, and_self]; done) | simp [V.solid, D.solid, D.solids, solids_lits, solids_ints, solids_bools, solids_LL]) ?_
  repeat' (first | (guard_target =~ WpA _ _ _ _ _ _; first | refine WpA.seq ?_ | refine WpA.drawU ?_ | refine WpA.regionU ?_ | refine WpA.block ?_ | refine WpA.ret ?_ | refine WpA.skip ?_ | refine WpA.exit ?_ | refine WpA.cond_true rfl ?_ | refine WpA.cond_false rfl ?_ | refine WpA.cond_ntrue rfl ?_ | refine WpA.cond_dec rfl (fun _ => ?_) (fun _ => ?_) | refine WpA.cond_not rfl (fun _ => ?_) (fun _ => ?_) | refine WpA.cond rfl (fun _ => ?_) (fun _ => ?_)) | (guard_target =~ RunU _ _ _ _ [] _ _ _ _; first | refine RunU.nilL ?_ | refine RunU.nilD (by simp only [List.reverse_cons, List.reverse_nil, List.nil_append, List.cons_append, List.map_cons, List.map_nil, List.append_nil, fpE, rdE, wkE, rdOf, List.append_eq, List.singleton_append]; decide) ?_) | (guard_target =~ RunU _ _ _ _ (Oper.mk _ _ _ _ _ none :: _) _ _ _ _; refine RunU.cons step_any ?_) | ((fail_if_success (guard_target =~ @Eq _ _ _)); (fail_if_success (guard_target =~ @Exists _ _)); first | refine Then.next ?_ | refine InBlock.next ?_ | refine Done.ret (.cell inferInstance rfl rfl .nil) (.mv (.sh .nil)) ?_ rfl))
  refine WpA.loop_ids2 (fun j i2 i5 => [(1, .c (.lit (.int .i64 x))), (2, .own i2 (dCu B (wlJ C x j))), (4, .own 3 (.pt true [.sl true 1 [], .sl true 1 []])), (5, .own i5 (.sl true 1 (ints (List.replicate j x)))), (10, vQJ n), (11, vQJ j)]) (fun j => j ≤ n) (fun j => n - j) 0 _ _ (by omega) ⟨rfl, by exact rfl, rfl, by exact rfl, int_eq (by omega), rfl, trivial⟩ ?_
  intro j i2 i5 s nx hj
  have lJj := lJ j (by omega)
  have rJj := rJ j (j * 1)
  have lR : (List.replicate j x).length = j := List.length_replicate
  by_cases hlt : j < n
  · have sJj := sJ j (by omega)
    have eR : List.replicate j x ++ [x] = List.replicate (j + 1) x := List.replicate_succ'.symm
    clear sJ lJ rJ eJ hc
    generalize hA2 : wlJ C x (j + 1) = A2 at *
    generalize wlJ C x j = A at *
    generalize hR2 : List.replicate (j + 1) x = R2 at *
    generalize List.replicate j x = R at *
    repeat' (first | (guard_target =~ WpA _ _ _ _ _ _; first | refine WpA.seq ?_ | refine WpA.drawU ?_ | refine WpA.regionU ?_ | refine WpA.block ?_ | refine WpA.ret ?_ | refine WpA.skip ?_ | refine WpA.exit ?_ | refine WpA.cond_true rfl ?_ | refine WpA.cond_false rfl ?_ | refine WpA.cond_ntrue rfl ?_ | refine WpA.cond_dec rfl (fun _ => ?_) (fun _ => ?_) | refine WpA.cond_not rfl (fun _ => ?_) (fun _ => ?_) | refine WpA.cond rfl (fun _ => ?_) (fun _ => ?_)) | (guard_target =~ RunU _ _ _ _ [] _ _ _ _; first | refine RunU.nilL ?_ | refine RunU.nilD (by simp only [List.reverse_cons, List.reverse_nil, List.nil_append, List.cons_append, List.map_cons, List.map_nil, List.append_nil, fpE, rdE, wkE, rdOf, List.append_eq, List.singleton_append]; decide) ?_) | (guard_target =~ RunU _ _ _ _ (Oper.mk (some 14) _ _ _ _ _ :: _) _ _ _ _; refine RunU.consW (by exact stepW_field_root rfl rfl) ?_) | (guard_target =~ RunU _ _ _ _ (Oper.mk (some 15) _ _ _ _ _ :: _) _ _ _ _; refine RunU.consW (by exact stepW_load_als rfl rfl rfl rfl) ?_) | (guard_target =~ RunU _ _ _ _ (Oper.mk (some 24) _ _ _ _ _ :: _) _ _ _ _; refine RunU.consK (step_append_int1 (give_row1 (by exact rfl) (by exact rfl) (by omega)) (by exact .root rfl) (by omega) rfl) (by exact rfl) (by exact rfl) (by exact hdr_set2 rfl) ?_) | (guard_target =~ RunU _ _ _ _ (Oper.mk (some 14) (Op.move _) _ _ _ none :: _) _ _ _ _; first | refine RunU.consW (stepW_move_headL rfl rfl) ?_ | refine RunU.consW (stepW_move_header rfl rfl) ?_) | (guard_target =~ RunU _ _ _ _ (Oper.mk (some 15) (Op.move _) _ _ _ none :: _) _ _ _ _; first | refine RunU.consW (stepW_move_headL rfl rfl) ?_ | refine RunU.consW (stepW_move_header rfl rfl) ?_) | (guard_target =~ RunU _ _ _ _ (Oper.mk _ (Op.call ⟨Callee.builtin Builtin.append, _, _⟩) _ _ _ none :: _) _ _ _ _; refine RunU.consK step_any (by exact rfl) (by exact rfl) (by exact hdr_set rfl) ?_) | (guard_target =~ RunU _ _ _ _ (Oper.mk _ _ _ _ _ none :: _) _ _ _ _; refine RunU.cons step_any ?_) | ((fail_if_success (guard_target =~ @Eq _ _ _)); (fail_if_success (guard_target =~ @Exists _ _)); first | refine Then.next ?_ | refine InBlock.next ?_ | refine Done.ret (.cell inferInstance rfl rfl .nil) (.mv (.sh .nil)) ?_ rfl))
    all_goals try (exfalso; omega)
    all_goals exact ⟨j + 1, by omega, ⟨_, _, rfl, by exact own_over2 (sJj.symm.trans hA2.symm), rfl, by exact own_ints (eR.trans hR2.symm), rfl, int_eq (by omega), trivial⟩, by omega⟩
  · obtain rfl : j = n := by omega
    rw [hC] at eJ
    rw [eJ]
    have e1 : wlC C x = C.map (· ++ [x]) ++ [List.replicate j x ++ [0]] := by rw [wlC, hC]
    have e2 : wlB B = B ++ [[1]] := rfl
    rw [e1, e2] at *
    have lm : (C.map (· ++ [x])).length = j := by rw [List.length_map, hC]
    clear sJ lJ rJ eJ hc e1 e2 lJj rJj
    generalize C.map (· ++ [x]) = A at *
    generalize List.replicate j x = R at *
    repeat' (first | (guard_target =~ WpA _ _ _ _ _ _; first | refine WpA.seq ?_ | refine WpA.drawU ?_ | refine WpA.regionU ?_ | refine WpA.block ?_ | refine WpA.ret ?_ | refine WpA.skip ?_ | refine WpA.exit ?_ | refine WpA.cond_true rfl ?_ | refine WpA.cond_false rfl ?_ | refine WpA.cond_ntrue rfl ?_ | refine WpA.cond_dec rfl (fun _ => ?_) (fun _ => ?_) | refine WpA.cond_not rfl (fun _ => ?_) (fun _ => ?_) | refine WpA.cond rfl (fun _ => ?_) (fun _ => ?_)) | (guard_target =~ RunU _ _ _ _ [] _ _ _ _; first | refine RunU.nilL ?_ | refine RunU.nilD (by simp only [List.reverse_cons, List.reverse_nil, List.nil_append, List.cons_append, List.map_cons, List.map_nil, List.append_nil, fpE, rdE, wkE, rdOf, List.append_eq, List.singleton_append]; decide) ?_) | (guard_target =~ RunU _ _ _ _ (Oper.mk _ _ _ _ _ none :: _) _ _ _ _; refine RunU.cons step_any ?_) | ((fail_if_success (guard_target =~ @Eq _ _ _)); (fail_if_success (guard_target =~ @Exists _ _)); first | refine Then.next ?_ | refine InBlock.next ?_ | refine Done.ret (.cell inferInstance rfl rfl .nil) (.mv (.sh .nil)) ?_ rfl))
    all_goals first | rfl | (exfalso; omega)
end Go.Proofs.Ytakecbnclmjloaa
