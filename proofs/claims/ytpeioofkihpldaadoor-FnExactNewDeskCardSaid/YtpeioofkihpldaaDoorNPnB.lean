/- The library's contracts at this program's numbers. No condition. -/
import Derived.Test.YtpeioofkihpldaaDoorNPwI
import Derived.Test.YtpeioofkihpldaaDoorNCuH
import Derived.Test.YtpeioofkihpldaaDoorNZcD
import Derived.Shelf.Strconv.Itoa4
import Derived.Test.YtpeioofkihpldaaDoorProg
import Derived.Test.YtpeioofkihpldaaDoorNCvF
import Derived.Lib.LaidTab
import Derived.Shelf.Strings.OnBuilder
set_option linter.unusedVariables false
set_option linter.unusedSimpArgs false
namespace Go.Proofs.YtpeioofkihpldaaDoor
set_option maxRecDepth 100000
set_option maxHeartbeats 20000000
open Go.Pv
open Go.ChangeShapes Go.WideShapes Go.ChangeAt Go.RowKit
attribute [local irreducible] RunU WpA Step CallG CallNG Done DoneN
instance fnOk25 : FnOk Tryd.prog 25 := ⟨_, Tryd.func25, rfl, by decide⟩
instance fnOk10 : FnOk Tryd.prog 10 := ⟨_, Tryd.func10, rfl, by decide⟩
instance fnOk51 : FnOk Tryd.prog 51 := ⟨_, Tryd.func51, rfl, by decide⟩
instance fnOk29 : FnOk Tryd.prog 29 := ⟨_, Tryd.func29, rfl, by decide⟩
instance fnOk11 : FnOk Tryd.prog 11 := ⟨_, Tryd.func11, rfl, by decide⟩
theorem br23 : IsBr [2, 3] := by decide +kernel
attribute [local irreducible] decStrict decFalls decIsBr decWithin Strict Falls IsBr Within
theorem parseBr_c : CallA Tryd.prog 25 [aS [40, 50, 59, 51, 41]] [.agg [.sl true 1 (ints [2, 3])], rI 0] [] := by
 have hp := parted_c [50, 59, 51] 59 (by decide)
 rw [show ptR [50, 59, 51] 59 = ([50], [51], true) by decide] at hp
 have hn := numberOf_c [50] (by decide)
 rw [show dgR [50] = (2, [], true) by decide, show decide (0 ≤ vlI [50]) = true by decide] at hn
 have hs := numbersOf_c [51] 44 (by decide)
 rw [show (if nosOk (wdL 44 [51]) then nosL (wdL 44 [51]) (wdL 44 [51]).length else []) = [3] by decide, show decide (nosOk (wdL 44 [51])) = true by decide] at hs
 have hb := implIsBr_c [2, 3] (by decide)
 rw [decide_eq_true br23] at hb
 dsimp only at hp hn
 have hl : ([40, 50, 59, 51, 41] : List UInt8).length = 5 := rfl
 refine cA_ _ Tryd.func25 rfl Tryd.ntmps25 (by first | exact ⟨rfl, rfl⟩ | (simp only [List.all_cons, List.all_nil, V.solid, D.solid, D.solids, solids_ints, solids_bools, solids_LL, Bool.and_self, Bool.and_true, and_self]; done) | simp [V.solid, D.solid, D.solids, solids_lits, solids_ints, solids_bools, solids_LL]) ?_
 repeat' (first | (guard_target =~ WpA _ _ _ _ _ _; first | refine WpA.seq ?_ | refine WpA.drawU ?_ | refine WpA.regionU ?_ | refine WpA.block ?_ | refine WpA.ret ?_ | refine WpA.skip ?_ | refine WpA.exit ?_ | refine WpA.cond_true rfl ?_ | refine WpA.cond_false rfl ?_ | refine WpA.cond_ntrue rfl ?_ | (refine WpA.cond_dec rfl (fun _ => ?_) (fun _ => ?_) <;> try (exfalso; omega)) | (refine WpA.cond_not rfl (fun _ => ?_) (fun _ => ?_) <;> try (exfalso; omega)) | (refine WpA.cond rfl (fun _ => ?_) (fun _ => ?_) <;> try (exfalso; omega))) | (guard_target =~ RunU _ _ _ _ [] _ _ _ _; first | refine RunU.nilL ?_ | refine RunU.nilD (by kernel_rfl) ?_) | (guard_target =~ RunU _ _ _ _ (Oper.mk (some 35) (Op.call ⟨Callee.value _, _, _⟩) _ _ _ none :: _) _ _ _ _; first | refine RunU.cons (sC_ (hp) (.sh (.sh .nil)) (.sh wS_ (.sh wS_ .nil)) rfl) ?_) | (guard_target =~ RunU _ _ _ _ (Oper.mk (some 41) (Op.call ⟨Callee.value _, _, _⟩) _ _ _ none :: _) _ _ _ _; first | refine RunU.cons (sC_ (hn) (.sh .nil) (.sh wS_ .nil) rfl) ?_) | (guard_target =~ RunU _ _ _ _ (Oper.mk (some 53) (Op.call ⟨Callee.value _, _, _⟩) _ _ _ none :: _) _ _ _ _; first | refine RunU.cons (sC_ (hs) (.sh (.sh .nil)) (.sh wS_ (.sh wS_ .nil)) rfl) ?_) | (guard_target =~ RunU _ _ _ _ (Oper.mk (some 66) (Op.call ⟨Callee.value _, _, _⟩) _ _ _ none :: _) _ _ _ _; first | refine RunU.cons (sC_ (hb) (.sh .nil) (.shAgg rfl gA_ .nil) rfl) ?_) | (guard_target =~ RunU _ _ _ _ (Oper.mk _ _ _ _ _ none :: _) _ _ _ _; first | refine RunU.cons (step_str_len rfl rfl) ?_ | refine RunU.cons (step_str_index (m := 0) rfl rfl xR_ (by decide) rfl) ?_ | refine RunU.cons (step_str_index (m := 4) rfl rfl (by decide) (by decide) rfl) ?_ | refine RunU.cons (step_str_cut (l := 1) (m := 4) rfl rfl rfl xR_ (by decide) (by decide) (by decide) rfl) ?_) | (guard_target =~ RunU _ _ _ _ (Oper.mk _ _ _ _ _ none :: _) _ _ _ _; refine RunU.cons step_any ?_) | (guard_target =~ RunU _ _ _ _ (Oper.mk _ _ _ _ _ (some _) :: _) _ _ _ _; first | refine RunU.pass rfl rfl rfl rfl ?_ | refine RunU.pass_undef rfl rfl rfl ?_ | (guard_target =~ RunU _ _ _ _ (Oper.mk (some 35) (Op.call ⟨Callee.value _, _, _⟩) _ _ _ _ :: _) _ _ _ _; first | refine RunU.doit rfl rfl (sC_ (hp) (.sh (.sh .nil)) (.sh wS_ (.sh wS_ .nil)) rfl) ?_) | (guard_target =~ RunU _ _ _ _ (Oper.mk (some 41) (Op.call ⟨Callee.value _, _, _⟩) _ _ _ _ :: _) _ _ _ _; first | refine RunU.doit rfl rfl (sC_ (hn) (.sh .nil) (.sh wS_ .nil) rfl) ?_) | (guard_target =~ RunU _ _ _ _ (Oper.mk (some 53) (Op.call ⟨Callee.value _, _, _⟩) _ _ _ _ :: _) _ _ _ _; first | refine RunU.doit rfl rfl (sC_ (hs) (.sh (.sh .nil)) (.sh wS_ (.sh wS_ .nil)) rfl) ?_) | (guard_target =~ RunU _ _ _ _ (Oper.mk (some 66) (Op.call ⟨Callee.value _, _, _⟩) _ _ _ _ :: _) _ _ _ _; first | refine RunU.doit rfl rfl (sC_ (hb) (.sh .nil) (.shAgg rfl gA_ .nil) rfl) ?_) | refine RunU.doit rfl rfl (step_str_len rfl rfl) ?_ | refine RunU.doit rfl rfl (step_str_index (m := 0) rfl rfl xR_ (by decide) rfl) ?_ | refine RunU.doit rfl rfl (step_str_index (m := 4) rfl rfl (by decide) (by decide) rfl) ?_ | refine RunU.doit rfl rfl (step_str_cut (l := 1) (m := 4) rfl rfl rfl xR_ (by decide) (by decide) (by decide) rfl) ?_ | refine RunU.doit rfl rfl step_any ?_ | ((fail_if_success (refine RunU.doit (rd := []) (up := []) rfl rfl ?_ ?_)); first | (refine RunU.guard_dec rfl rfl (fun _ => ?_) (fun _ => ?_) <;> try (exfalso; omega)) | (refine RunU.guard_not rfl rfl (fun _ => ?_) (fun _ => ?_) <;> try (exfalso; omega)) | (refine RunU.guard rfl rfl (fun _ => ?_) (fun _ => ?_) <;> try (exfalso; omega)))) | ((fail_if_success (guard_target =~ @Eq _ _ _)); (fail_if_success (guard_target =~ @Exists _ _)); first | (guard_target =~ Then _ _ _ _ _; refine Then.next ?_) | (guard_target =~ InBlock _ _ _ _ _; refine InBlock.next ?_) | refine Done.ret (.cell inferInstance rfl rfl (.one (by first | exact .c rfl | exact .own rfl | exact .als rfl rfl | exact .ptr rfl rfl | exact .part rfl rfl rfl) .nil)) (.sh .nil) ?_ rfl))
 all_goals try first | rfl | (exfalso; omega)
theorem cu23 : IsCu [[2, 3]] [[0]] := by decide +kernel
attribute [local irreducible] IsCu decIsCu
abbrev vB8 (b : Bool) : AV := .c (.lit (.bool b))
theorem parseCu_c : CallA Tryd.prog 10 [aS [40, 50, 59, 51, 41]] [rCuv [[2, 3]] [[0]], rI 0] [] := by
 have hp := parted_c [40, 50, 59, 51, 41] 124 (by decide)
 rw [show ptR [40, 50, 59, 51, 41] 124 = ([40, 50, 59, 51, 41], [], false) by decide] at hp
 have hw := wordsOf_c [40, 50, 59, 51, 41] 32 (by decide)
 rw [show wdL 32 [40, 50, 59, 51, 41] = [[40, 50, 59, 51, 41]] by decide] at hw
 have hb := parseBr_c
 have hI := implIsCu_c [[2, 3]] [[0]] (by decide) (by decide) (fun i => by match i with | 0 => decide | i + 1 => simp) (fun i => by match i with | 0 => decide | i + 1 => simp)
 rw [decide_eq_true cu23] at hI
 dsimp only at hp
 obtain ⟨B, hBe⟩ : ∃ B : List (List Int), B = [[2, 3]] := ⟨_, rfl⟩
 have hBl : B.length = 1 := by rw [hBe]; rfl
 have hB1 : B.take 1 = B := by rw [hBe]; rfl
 have hB0 : B.take 0 = [] := rfl
 have hB2 : B.take 1 = B.take 0 ++ [[2, 3]] := by rw [hBe]; rfl
 have hBm : (B.length : Int) * ((B.length : Int) - 1) = 0 := by rw [hBe]; rfl
 rw [← hBe] at hI ⊢
 clear hBe
 have hsq := squareZ_c B.length (by omega)
 rw [show sqZ B.length = [[0]] by rw [hBl]; decide] at hsq
 refine cA_ _ Tryd.func10 rfl Tryd.ntmps10 (by first | exact ⟨rfl, rfl⟩ | (simp only [List.all_cons, List.all_nil, V.solid, D.solid, D.solids, solids_ints, solids_bools, solids_LL, Bool.and_self, Bool.and_true, and_self]; done) | simp [V.solid, D.solid, D.solids, solids_lits, solids_ints, solids_bools, solids_LL]) ?_
 repeat' (first | (guard_target =~ WpA _ _ _ _ _ _; first | refine WpA.seq ?_ | refine WpA.drawU ?_ | refine WpA.regionU ?_ | refine WpA.block ?_ | refine WpA.ret ?_ | refine WpA.skip ?_ | refine WpA.exit ?_ | refine WpA.cond_true rfl ?_ | refine WpA.cond_false rfl ?_ | refine WpA.cond_ntrue rfl ?_ | (refine WpA.cond_dec rfl (fun _ => ?_) (fun _ => ?_) <;> try (exfalso; omega)) | (refine WpA.cond_not rfl (fun _ => ?_) (fun _ => ?_) <;> try (exfalso; omega)) | (refine WpA.cond rfl (fun _ => ?_) (fun _ => ?_) <;> try (exfalso; omega))) | (guard_target =~ RunU _ _ _ _ [] _ _ _ _; first | refine RunU.nilL ?_ | refine RunU.nilD (by kernel_rfl) ?_) | (guard_target =~ RunU _ _ _ _ (Oper.mk (some 20) (Op.call ⟨Callee.value _, _, _⟩) _ _ _ none :: _) _ _ _ _; first | refine RunU.cons (sC_ (hp) (.sh (.sh .nil)) (.sh wS_ (.sh wS_ .nil)) rfl) ?_) | (guard_target =~ RunU _ _ _ _ (Oper.mk (some 26) (Op.call ⟨Callee.value _, _, _⟩) _ _ _ none :: _) _ _ _ _; first | refine RunU.cons (sC_ (hw) (.sh (.sh .nil)) (.sh wS_ (.sh wS_ .nil)) rfl) ?_) | (guard_target =~ RunU _ _ _ _ (Oper.mk _ _ _ _ _ none :: _) _ _ _ _; refine RunU.cons step_any ?_) | (guard_target =~ RunU _ _ _ _ (Oper.mk _ _ _ _ _ (some _) :: _) _ _ _ _; first | refine RunU.pass rfl rfl rfl rfl ?_ | refine RunU.pass_undef rfl rfl rfl ?_ | (guard_target =~ RunU _ _ _ _ (Oper.mk (some 20) (Op.call ⟨Callee.value _, _, _⟩) _ _ _ _ :: _) _ _ _ _; first | refine RunU.doit rfl rfl (sC_ (hp) (.sh (.sh .nil)) (.sh wS_ (.sh wS_ .nil)) rfl) ?_) | (guard_target =~ RunU _ _ _ _ (Oper.mk (some 26) (Op.call ⟨Callee.value _, _, _⟩) _ _ _ _ :: _) _ _ _ _; first | refine RunU.doit rfl rfl (sC_ (hw) (.sh (.sh .nil)) (.sh wS_ (.sh wS_ .nil)) rfl) ?_) | refine RunU.doit rfl rfl step_any ?_ | ((fail_if_success (refine RunU.doit (rd := []) (up := []) rfl rfl ?_ ?_)); first | (refine RunU.guard_dec rfl rfl (fun _ => ?_) (fun _ => ?_) <;> try (exfalso; omega)) | (refine RunU.guard_not rfl rfl (fun _ => ?_) (fun _ => ?_) <;> try (exfalso; omega)) | (refine RunU.guard rfl rfl (fun _ => ?_) (fun _ => ?_) <;> try (exfalso; omega)))) | ((fail_if_success (guard_target =~ @Eq _ _ _)); (fail_if_success (guard_target =~ @Exists _ _)); first | (guard_target =~ Then _ _ _ _ _; refine Then.next ?_) | (guard_target =~ InBlock _ _ _ _ _; refine InBlock.next ?_) | refine Done.ret (.cell inferInstance rfl rfl (.one (by first | exact .c rfl | exact .own rfl | exact .als rfl rfl | exact .ptr rfl rfl | exact .part rfl rfl rfl) .nil)) (.sh .nil) ?_ rfl))
 all_goals try (exfalso; omega)
 refine WpA.loop_slots (ι := Nat × Nat × Nat × Nat) (fun p => [(2, .own p.2.1 (.pt true [.sl true 1 [], .sl true 1 []])), (5, vS []), (6, vB8 false), (7, .own p.2.2.1 (.pt true [.sl true 1 (LL (B.take p.1)), .sl true 1 []])), (26, .own p.2.2.2 (.sl true 1 (strs [[40, 50, 59, 51, 41]]))), (27, vN8 1), (28, vN8 p.1)]) (fun p => p.1 ≤ 1) (fun p => 1 - p.1) (0, _, _, _) (by simp only; omega) ⟨xR_, rfl, rfl, by simp only [hB0]; exact rfl, xR_, rfl, rfl, trivial⟩ ?_
 rintro ⟨j, i2, i7, i26⟩ st nx hj
 dsimp only at hj ⊢
 by_cases hlt : j < 1
 ·have hv : (strs [[40, 50, 59, 51, 41]])[j * 1]? = some (.lit (strV [40, 50, 59, 51, 41])) := by rw [show j = 0 by omega]; rfl
  have hst : B.take (j + 1) = B.take j ++ [[2, 3]] := by rw [show j = 0 by omega]; exact hB2
  have hl : (B.take j).length = 0 := by rw [show j = 0 by omega]; rfl
  have hl1 : (strs [[40, 50, 59, 51, 41]]).length = 1 := rfl
  clear hp hw hsq hI hB1 hB2 hB0
  generalize B.take j = C at *
  repeat' (first | (guard_target =~ WpA _ _ _ _ _ _; first | refine WpA.seq ?_ | refine WpA.drawU ?_ | refine WpA.regionU ?_ | refine WpA.block ?_ | refine WpA.ret ?_ | refine WpA.skip ?_ | refine WpA.exit ?_ | refine WpA.cond_true rfl ?_ | refine WpA.cond_false rfl ?_ | refine WpA.cond_ntrue rfl ?_ | (refine WpA.cond_dec rfl (fun _ => ?_) (fun _ => ?_) <;> try (exfalso; omega)) | (refine WpA.cond_not rfl (fun _ => ?_) (fun _ => ?_) <;> try (exfalso; omega)) | (refine WpA.cond rfl (fun _ => ?_) (fun _ => ?_) <;> try (exfalso; omega))) | (guard_target =~ RunU _ _ _ _ [] _ _ _ _; first | refine RunU.nilL ?_ | refine RunU.nilD (by kernel_rfl) ?_) | (guard_target =~ RunU _ _ _ _ (Oper.mk (some 34) (Op.call ⟨Callee.value _, _, _⟩) _ _ _ none :: _) _ _ _ _; first | refine RunU.cons (sC_ (hb) (.sh .nil) (.sh wS_ .nil) rfl) ?_) | (guard_target =~ RunU _ _ _ _ (Oper.mk _ _ _ _ _ none :: _) _ _ _ _; first | refine RunU.cons (step_load rfl rfl rfl rfl hv rfl) ?_) | (guard_target =~ RunU _ _ _ _ (Oper.mk _ _ _ _ _ none :: _) _ _ _ _; refine RunU.cons step_any ?_) | (guard_target =~ RunU _ _ _ _ (Oper.mk _ _ _ _ _ (some _) :: _) _ _ _ _; first | refine RunU.pass rfl rfl rfl rfl ?_ | refine RunU.pass_undef rfl rfl rfl ?_ | (guard_target =~ RunU _ _ _ _ (Oper.mk (some 34) (Op.call ⟨Callee.value _, _, _⟩) _ _ _ _ :: _) _ _ _ _; first | refine RunU.doit rfl rfl (sC_ (hb) (.sh .nil) (.sh wS_ .nil) rfl) ?_) | refine RunU.doit rfl rfl (step_load rfl rfl rfl rfl hv rfl) ?_ | refine RunU.doit rfl rfl step_any ?_ | ((fail_if_success (refine RunU.doit (rd := []) (up := []) rfl rfl ?_ ?_)); first | (refine RunU.guard_dec rfl rfl (fun _ => ?_) (fun _ => ?_) <;> try (exfalso; omega)) | (refine RunU.guard_not rfl rfl (fun _ => ?_) (fun _ => ?_) <;> try (exfalso; omega)) | (refine RunU.guard rfl rfl (fun _ => ?_) (fun _ => ?_) <;> try (exfalso; omega)))) | ((fail_if_success (guard_target =~ @Eq _ _ _)); (fail_if_success (guard_target =~ @Exists _ _)); first | (guard_target =~ Then _ _ _ _ _; refine Then.next ?_) | (guard_target =~ InBlock _ _ _ _ _; refine InBlock.next ?_) | refine Done.ret (.cell inferInstance rfl rfl (.one (by first | exact .c rfl | exact .own rfl | exact .als rfl rfl | exact .ptr rfl rfl | exact .part rfl rfl rfl) .nil)) (.sh .nil) ?_ rfl))
  all_goals try (exfalso; omega)
  all_goals exact ⟨(j + 1, _, _, _), by simp only; omega, ⟨xR_, rfl, rfl, by simp only [hst]; exact rfl, xR_, rfl, int_eq (by simp only; omega), trivial⟩, by simp only; omega⟩
 ·obtain rfl : j = 1 := by omega
  clear hp hw hb
  rw [hB1]
  clear hB0 hB1 hB2
  repeat' (first | (guard_target =~ WpA _ _ _ _ _ _; first | refine WpA.seq ?_ | refine WpA.drawU ?_ | refine WpA.regionU ?_ | refine WpA.block ?_ | refine WpA.ret ?_ | refine WpA.skip ?_ | refine WpA.exit ?_ | refine WpA.cond_true rfl ?_ | refine WpA.cond_false rfl ?_ | refine WpA.cond_ntrue rfl ?_ | (refine WpA.cond_dec rfl (fun _ => ?_) (fun _ => ?_) <;> try (exfalso; omega)) | (refine WpA.cond_not rfl (fun _ => ?_) (fun _ => ?_) <;> try (exfalso; omega)) | (refine WpA.cond rfl (fun _ => ?_) (fun _ => ?_) <;> try (exfalso; omega))) | (guard_target =~ RunU _ _ _ _ [] _ _ _ _; first | refine RunU.nilL ?_ | refine RunU.nilD (by kernel_rfl) ?_) | (guard_target =~ RunU _ _ _ _ (Oper.mk (some 83) (Op.call ⟨Callee.value _, _, _⟩) _ _ _ none :: _) _ _ _ _; first | refine RunU.cons (sC_ (hsq) (.sh .nil) (.sh wS_ .nil) rfl) ?_) | (guard_target =~ RunU _ _ _ _ (Oper.mk _ _ _ _ _ none :: _) _ _ _ _; refine RunU.cons step_any ?_) | (guard_target =~ RunU _ _ _ _ (Oper.mk _ _ _ _ _ (some _) :: _) _ _ _ _; first | refine RunU.pass rfl rfl rfl rfl ?_ | refine RunU.pass_undef rfl rfl rfl ?_ | (guard_target =~ RunU _ _ _ _ (Oper.mk (some 83) (Op.call ⟨Callee.value _, _, _⟩) _ _ _ _ :: _) _ _ _ _; first | refine RunU.doit rfl rfl (sC_ (hsq) (.sh .nil) (.sh wS_ .nil) rfl) ?_) | refine RunU.doit rfl rfl step_any ?_ | ((fail_if_success (refine RunU.doit (rd := []) (up := []) rfl rfl ?_ ?_)); first | (refine RunU.guard_dec rfl rfl (fun _ => ?_) (fun _ => ?_) <;> try (exfalso; omega)) | (refine RunU.guard_not rfl rfl (fun _ => ?_) (fun _ => ?_) <;> try (exfalso; omega)) | (refine RunU.guard rfl rfl (fun _ => ?_) (fun _ => ?_) <;> try (exfalso; omega)))) | ((fail_if_success (guard_target =~ @Eq _ _ _)); (fail_if_success (guard_target =~ @Exists _ _)); first | (guard_target =~ Then _ _ _ _ _; refine Then.next ?_) | (guard_target =~ InBlock _ _ _ _ _; refine InBlock.next ?_) | refine Done.ret (.cell inferInstance rfl rfl (.one (by first | exact .c rfl | exact .own rfl | exact .als rfl rfl | exact .ptr rfl rfl | exact .part rfl rfl rfl) .nil)) (.sh .nil) ?_ rfl))
  all_goals try (exfalso; omega)
  all_goals try (exfalso; simp_all; done)
  refine WpA.loop_slots (ι := Nat × Nat × Nat) (fun p => [(2, .own p.2.1 (.pt true [.sl true 1 [], .sl true 1 []])), (7, .own p.2.2 (.pt true [.sl true 1 (LL B), .sl true 1 (LL [[0]])])), (12, vN8 1), (85, vN8 1), (86, vN8 p.1)]) (fun p => p.1 ≤ 1) (fun p => 1 - p.1) (0, _, _) (by simp only; omega) ⟨xR_, xR_, int_eq (by omega), int_eq (by omega), rfl, trivial⟩ ?_
  rintro ⟨j, i2, i7⟩ st nx hj
  dsimp only at hj ⊢
  clear hsq
  by_cases hlt : j < 1
  ·repeat' (first | (guard_target =~ WpA _ _ _ _ _ _; first | refine WpA.seq ?_ | refine WpA.drawU ?_ | refine WpA.regionU ?_ | refine WpA.block ?_ | refine WpA.ret ?_ | refine WpA.skip ?_ | refine WpA.exit ?_ | refine WpA.cond_true rfl ?_ | refine WpA.cond_false rfl ?_ | refine WpA.cond_ntrue rfl ?_ | (refine WpA.cond_dec rfl (fun _ => ?_) (fun _ => ?_) <;> try (exfalso; omega)) | (refine WpA.cond_not rfl (fun _ => ?_) (fun _ => ?_) <;> try (exfalso; omega)) | (refine WpA.cond rfl (fun _ => ?_) (fun _ => ?_) <;> try (exfalso; omega))) | (guard_target =~ RunU _ _ _ _ [] _ _ _ _; first | refine RunU.nilL ?_ | refine RunU.nilD (by kernel_rfl) ?_) | (guard_target =~ RunU _ _ _ _ (Oper.mk _ _ _ _ _ none :: _) _ _ _ _; refine RunU.cons step_any ?_) | (guard_target =~ RunU _ _ _ _ (Oper.mk _ _ _ _ _ (some _) :: _) _ _ _ _; first | refine RunU.pass rfl rfl rfl rfl ?_ | refine RunU.pass_undef rfl rfl rfl ?_ | refine RunU.doit rfl rfl step_any ?_ | ((fail_if_success (refine RunU.doit (rd := []) (up := []) rfl rfl ?_ ?_)); first | (refine RunU.guard_dec rfl rfl (fun _ => ?_) (fun _ => ?_) <;> try (exfalso; omega)) | (refine RunU.guard_not rfl rfl (fun _ => ?_) (fun _ => ?_) <;> try (exfalso; omega)) | (refine RunU.guard rfl rfl (fun _ => ?_) (fun _ => ?_) <;> try (exfalso; omega)))) | ((fail_if_success (guard_target =~ @Eq _ _ _)); (fail_if_success (guard_target =~ @Exists _ _)); first | (guard_target =~ Then _ _ _ _ _; refine Then.next ?_) | (guard_target =~ InBlock _ _ _ _ _; refine InBlock.next ?_) | refine Done.ret (.cell inferInstance rfl rfl (.one (by first | exact .c rfl | exact .own rfl | exact .als rfl rfl | exact .ptr rfl rfl | exact .part rfl rfl rfl) .nil)) (.sh .nil) ?_ rfl))
   all_goals try (exfalso; omega)
   refine WpA.loop_slots (ι := Nat × Nat) (fun p => [(2, .own p.1 (.pt true [.sl true 1 [], .sl true 1 []])), (7, .own p.2 (.pt true [.sl true 1 (LL B), .sl true 1 (LL [[0]])])), (12, vN8 1), (17, vN8 1), (85, vN8 1), (86, vN8 j)]) (fun p => True) (fun p => 1) (_, _) trivial ⟨xR_, xR_, rfl, int_eq (by omega), rfl, rfl, trivial⟩ ?_
   rintro ⟨i2, i7⟩ st nx _
   dsimp only
   repeat' (first | (guard_target =~ WpA _ _ _ _ _ _; first | refine WpA.seq ?_ | refine WpA.drawU ?_ | refine WpA.regionU ?_ | refine WpA.block ?_ | refine WpA.ret ?_ | refine WpA.skip ?_ | refine WpA.exit ?_ | refine WpA.cond_true rfl ?_ | refine WpA.cond_false rfl ?_ | refine WpA.cond_ntrue rfl ?_ | (refine WpA.cond_dec rfl (fun _ => ?_) (fun _ => ?_) <;> try (exfalso; omega)) | (refine WpA.cond_not rfl (fun _ => ?_) (fun _ => ?_) <;> try (exfalso; omega)) | (refine WpA.cond rfl (fun _ => ?_) (fun _ => ?_) <;> try (exfalso; omega))) | (guard_target =~ RunU _ _ _ _ [] _ _ _ _; first | refine RunU.nilL ?_ | refine RunU.nilD (by kernel_rfl) ?_) | (guard_target =~ RunU _ _ _ _ (Oper.mk _ _ _ _ _ none :: _) _ _ _ _; refine RunU.cons step_any ?_) | (guard_target =~ RunU _ _ _ _ (Oper.mk _ _ _ _ _ (some _) :: _) _ _ _ _; first | refine RunU.pass rfl rfl rfl rfl ?_ | refine RunU.pass_undef rfl rfl rfl ?_ | refine RunU.doit rfl rfl step_any ?_ | ((fail_if_success (refine RunU.doit (rd := []) (up := []) rfl rfl ?_ ?_)); first | (refine RunU.guard_dec rfl rfl (fun _ => ?_) (fun _ => ?_) <;> try (exfalso; omega)) | (refine RunU.guard_not rfl rfl (fun _ => ?_) (fun _ => ?_) <;> try (exfalso; omega)) | (refine RunU.guard rfl rfl (fun _ => ?_) (fun _ => ?_) <;> try (exfalso; omega)))) | ((fail_if_success (guard_target =~ @Eq _ _ _)); (fail_if_success (guard_target =~ @Exists _ _)); first | (guard_target =~ Then _ _ _ _ _; refine Then.next ?_) | (guard_target =~ InBlock _ _ _ _ _; refine InBlock.next ?_) | refine Done.ret (.cell inferInstance rfl rfl (.one (by first | exact .c rfl | exact .own rfl | exact .als rfl rfl | exact .ptr rfl rfl | exact .part rfl rfl rfl) .nil)) (.sh .nil) ?_ rfl))
   all_goals try (exfalso; omega)
   all_goals exact ⟨(j + 1, _, _), by simp only; omega, ⟨xR_, xR_, rfl, rfl, int_eq (by simp only; omega), trivial⟩, by simp only; omega⟩
  ·obtain rfl : j = 1 := by omega
   repeat' (first | (guard_target =~ WpA _ _ _ _ _ _; first | refine WpA.seq ?_ | refine WpA.drawU ?_ | refine WpA.regionU ?_ | refine WpA.block ?_ | refine WpA.ret ?_ | refine WpA.skip ?_ | refine WpA.exit ?_ | refine WpA.cond_true rfl ?_ | refine WpA.cond_false rfl ?_ | refine WpA.cond_ntrue rfl ?_ | (refine WpA.cond_dec rfl (fun _ => ?_) (fun _ => ?_) <;> try (exfalso; omega)) | (refine WpA.cond_not rfl (fun _ => ?_) (fun _ => ?_) <;> try (exfalso; omega)) | (refine WpA.cond rfl (fun _ => ?_) (fun _ => ?_) <;> try (exfalso; omega))) | (guard_target =~ RunU _ _ _ _ [] _ _ _ _; first | refine RunU.nilL ?_ | refine RunU.nilD (by kernel_rfl) ?_) | (guard_target =~ RunU _ _ _ _ (Oper.mk (some 120) (Op.call ⟨Callee.value _, _, _⟩) _ _ _ none :: _) _ _ _ _; first | refine RunU.cons (sC_ (hI) (.sh .nil) (.shAgg rfl gA_ .nil) rfl) ?_) | (guard_target =~ RunU _ _ _ _ (Oper.mk _ _ _ _ _ none :: _) _ _ _ _; refine RunU.cons step_any ?_) | (guard_target =~ RunU _ _ _ _ (Oper.mk _ _ _ _ _ (some _) :: _) _ _ _ _; first | refine RunU.pass rfl rfl rfl rfl ?_ | refine RunU.pass_undef rfl rfl rfl ?_ | (guard_target =~ RunU _ _ _ _ (Oper.mk (some 120) (Op.call ⟨Callee.value _, _, _⟩) _ _ _ _ :: _) _ _ _ _; first | refine RunU.doit rfl rfl (sC_ (hI) (.sh .nil) (.shAgg rfl gA_ .nil) rfl) ?_) | refine RunU.doit rfl rfl step_any ?_ | ((fail_if_success (refine RunU.doit (rd := []) (up := []) rfl rfl ?_ ?_)); first | (refine RunU.guard_dec rfl rfl (fun _ => ?_) (fun _ => ?_) <;> try (exfalso; omega)) | (refine RunU.guard_not rfl rfl (fun _ => ?_) (fun _ => ?_) <;> try (exfalso; omega)) | (refine RunU.guard rfl rfl (fun _ => ?_) (fun _ => ?_) <;> try (exfalso; omega)))) | ((fail_if_success (guard_target =~ @Eq _ _ _)); (fail_if_success (guard_target =~ @Exists _ _)); first | (guard_target =~ Then _ _ _ _ _; refine Then.next ?_) | (guard_target =~ InBlock _ _ _ _ _; refine InBlock.next ?_) | refine Done.ret (.cell inferInstance rfl rfl (.one (by first | exact .c rfl | exact .own rfl | exact .als rfl rfl | exact .ptr rfl rfl | exact .part rfl rfl rfl) .nil)) (.sh .nil) ?_ rfl))
   all_goals try first | rfl | (exfalso; omega)
theorem signed_c (b : List UInt8) (n : Int) (h1 : 0 < b.length ∧ b.length ≤ 1000) (h2 : byI b 0 ≠ 45) (h3 : dgR b = (n, [], true)) (h4 : 0 ≤ vlI b) : CallA Tryd.prog 51 [aS b] [rI n, rB true] [] := by
 have hn := numberOf_c b (by omega)
 rw [h3, decide_eq_true h4] at hn
 dsimp only at hn
 refine cA_ _ Tryd.func51 rfl Tryd.ntmps51 (by first | exact ⟨rfl, rfl⟩ | (simp only [List.all_cons, List.all_nil, V.solid, D.solid, D.solids, solids_ints, solids_bools, solids_LL, Bool.and_self, Bool.and_true, and_self]; done) | simp [V.solid, D.solid, D.solids, solids_lits, solids_ints, solids_bools, solids_LL]) ?_
 repeat' (first | (guard_target =~ WpA _ _ _ _ _ _; first | refine WpA.seq ?_ | refine WpA.drawU ?_ | refine WpA.regionU ?_ | refine WpA.block ?_ | refine WpA.ret ?_ | refine WpA.skip ?_ | refine WpA.exit ?_ | refine WpA.cond_true rfl ?_ | refine WpA.cond_false rfl ?_ | refine WpA.cond_ntrue rfl ?_ | (refine WpA.cond_dec rfl (fun _ => ?_) (fun _ => ?_) <;> try (exfalso; omega)) | (refine WpA.cond_not rfl (fun _ => ?_) (fun _ => ?_) <;> try (exfalso; omega)) | (refine WpA.cond rfl (fun _ => ?_) (fun _ => ?_) <;> try (exfalso; omega))) | (guard_target =~ RunU _ _ _ _ [] _ _ _ _; first | refine RunU.nilL ?_ | refine RunU.nilD (by kernel_rfl) ?_) | (guard_target =~ RunU _ _ _ _ (Oper.mk _ (Op.call ⟨Callee.value _, _, _⟩) _ _ _ none :: _) _ _ _ _; first | refine RunU.cons (sC_ (hn) (.sh .nil) (.sh wS_ .nil) rfl) ?_) | (guard_target =~ RunU _ _ _ _ (Oper.mk _ _ _ _ _ none :: _) _ _ _ _; first | refine RunU.cons (step_str_len rfl rfl) ?_ | refine RunU.cons (step_str_index (m := 0) rfl rfl xR_ (by omega) rfl) ?_) | (guard_target =~ RunU _ _ _ _ (Oper.mk _ _ _ _ _ none :: _) _ _ _ _; refine RunU.cons step_any ?_) | (guard_target =~ RunU _ _ _ _ (Oper.mk _ _ _ _ _ (some _) :: _) _ _ _ _; first | refine RunU.pass rfl rfl rfl rfl ?_ | refine RunU.pass_undef rfl rfl rfl ?_ | (guard_target =~ RunU _ _ _ _ (Oper.mk _ (Op.call ⟨Callee.value _, _, _⟩) _ _ _ _ :: _) _ _ _ _; first | refine RunU.doit rfl rfl (sC_ (hn) (.sh .nil) (.sh wS_ .nil) rfl) ?_) | refine RunU.doit rfl rfl (step_str_len rfl rfl) ?_ | refine RunU.doit rfl rfl (step_str_index (m := 0) rfl rfl xR_ (by omega) rfl) ?_ | refine RunU.doit rfl rfl step_any ?_ | ((fail_if_success (refine RunU.doit (rd := []) (up := []) rfl rfl ?_ ?_)); first | (refine RunU.guard_dec rfl rfl (fun _ => ?_) (fun _ => ?_) <;> try (exfalso; omega)) | (refine RunU.guard_not rfl rfl (fun _ => ?_) (fun _ => ?_) <;> try (exfalso; omega)) | (refine RunU.guard rfl rfl (fun _ => ?_) (fun _ => ?_) <;> try (exfalso; omega)))) | ((fail_if_success (guard_target =~ @Eq _ _ _)); (fail_if_success (guard_target =~ @Exists _ _)); first | (guard_target =~ Then _ _ _ _ _; refine Then.next ?_) | (guard_target =~ InBlock _ _ _ _ _; refine InBlock.next ?_) | refine Done.ret (.one (by first | exact .c rfl | exact .own rfl | exact .als rfl rfl | exact .ptr rfl rfl | exact .part rfl rfl rfl) (.one (by first | exact .c rfl | exact .own rfl | exact .als rfl rfl | exact .ptr rfl rfl | exact .part rfl rfl rfl) .nil)) (.sh .nil) ?_ rfl))
 all_goals first | rfl | (exfalso; omega)
theorem point1_c : CallA Tryd.prog 29 [aS [50]] [rI 2, rI (-1), rI (-1), rB true] [] := by
 have hp := parted_c [50] 58 (by decide)
 rw [show ptR [50] 58 = ([50], [], false) by decide] at hp
 have hs := signed_c [50] 2 (by decide) (by decide) (by decide) (by decide)
 dsimp only at hp
 refine cA_ _ Tryd.func29 rfl Tryd.ntmps29 (by first | exact ⟨rfl, rfl⟩ | (simp only [List.all_cons, List.all_nil, V.solid, D.solid, D.solids, solids_ints, solids_bools, solids_LL, Bool.and_self, Bool.and_true, and_self]; done) | simp [V.solid, D.solid, D.solids, solids_lits, solids_ints, solids_bools, solids_LL]) ?_
 repeat' (first | (guard_target =~ WpA _ _ _ _ _ _; first | refine WpA.seq ?_ | refine WpA.drawU ?_ | refine WpA.regionU ?_ | refine WpA.block ?_ | refine WpA.ret ?_ | refine WpA.skip ?_ | refine WpA.exit ?_ | refine WpA.cond_true rfl ?_ | refine WpA.cond_false rfl ?_ | refine WpA.cond_ntrue rfl ?_ | (refine WpA.cond_dec rfl (fun _ => ?_) (fun _ => ?_) <;> try (exfalso; omega)) | (refine WpA.cond_not rfl (fun _ => ?_) (fun _ => ?_) <;> try (exfalso; omega)) | (refine WpA.cond rfl (fun _ => ?_) (fun _ => ?_) <;> try (exfalso; omega))) | (guard_target =~ RunU _ _ _ _ [] _ _ _ _; first | refine RunU.nilL ?_ | refine RunU.nilD (by kernel_rfl) ?_) | (guard_target =~ RunU _ _ _ _ (Oper.mk (some 14) (Op.call ⟨Callee.value _, _, _⟩) _ _ _ none :: _) _ _ _ _; first | refine RunU.cons (sC_ (hp) (.sh (.sh .nil)) (.sh wS_ (.sh wS_ .nil)) rfl) ?_) | (guard_target =~ RunU _ _ _ _ (Oper.mk (some 20) (Op.call ⟨Callee.value _, _, _⟩) _ _ _ none :: _) _ _ _ _; first | refine RunU.cons (sC_ (hs) (.sh .nil) (.sh wS_ .nil) rfl) ?_) | (guard_target =~ RunU _ _ _ _ (Oper.mk _ _ _ _ _ none :: _) _ _ _ _; refine RunU.cons step_any ?_) | (guard_target =~ RunU _ _ _ _ (Oper.mk _ _ _ _ _ (some _) :: _) _ _ _ _; first | refine RunU.pass rfl rfl rfl rfl ?_ | refine RunU.pass_undef rfl rfl rfl ?_ | (guard_target =~ RunU _ _ _ _ (Oper.mk (some 14) (Op.call ⟨Callee.value _, _, _⟩) _ _ _ _ :: _) _ _ _ _; first | refine RunU.doit rfl rfl (sC_ (hp) (.sh (.sh .nil)) (.sh wS_ (.sh wS_ .nil)) rfl) ?_) | (guard_target =~ RunU _ _ _ _ (Oper.mk (some 20) (Op.call ⟨Callee.value _, _, _⟩) _ _ _ _ :: _) _ _ _ _; first | refine RunU.doit rfl rfl (sC_ (hs) (.sh .nil) (.sh wS_ .nil) rfl) ?_) | refine RunU.doit rfl rfl step_any ?_ | ((fail_if_success (refine RunU.doit (rd := []) (up := []) rfl rfl ?_ ?_)); first | (refine RunU.guard_dec rfl rfl (fun _ => ?_) (fun _ => ?_) <;> try (exfalso; omega)) | (refine RunU.guard_not rfl rfl (fun _ => ?_) (fun _ => ?_) <;> try (exfalso; omega)) | (refine RunU.guard rfl rfl (fun _ => ?_) (fun _ => ?_) <;> try (exfalso; omega)))) | ((fail_if_success (guard_target =~ @Eq _ _ _)); (fail_if_success (guard_target =~ @Exists _ _)); first | (guard_target =~ Then _ _ _ _ _; refine Then.next ?_) | (guard_target =~ InBlock _ _ _ _ _; refine InBlock.next ?_) | refine Done.ret (.one (by first | exact .c rfl | exact .own rfl | exact .als rfl rfl | exact .ptr rfl rfl | exact .part rfl rfl rfl) (.one (by first | exact .c rfl | exact .own rfl | exact .als rfl rfl | exact .ptr rfl rfl | exact .part rfl rfl rfl) (.one (by first | exact .c rfl | exact .own rfl | exact .als rfl rfl | exact .ptr rfl rfl | exact .part rfl rfl rfl) (.one (by first | exact .c rfl | exact .own rfl | exact .als rfl rfl | exact .ptr rfl rfl | exact .part rfl rfl rfl) .nil)))) (.sh .nil) ?_ rfl))
 all_goals first | rfl | (exfalso; omega)
theorem point2_c : CallA Tryd.prog 29 [aS [49, 58, 48]] [rI 1, rI 0, rI (-1), rB true] [] := by
 have hp := parted_c [49, 58, 48] 58 (by decide)
 rw [show ptR [49, 58, 48] 58 = ([49], [48], true) by decide] at hp
 have hs := signed_c [49] 1 (by decide) (by decide) (by decide) (by decide)
 have hq := parted_c [48] 44 (by decide)
 rw [show ptR [48] 44 = ([48], [], false) by decide] at hq
 have hn := numberOf_c [48] (by decide)
 rw [show dgR [48] = (0, [], true) by decide, show decide (0 ≤ vlI [48]) = true by decide] at hn
 dsimp only at hp hq hn
 refine cA_ _ Tryd.func29 rfl Tryd.ntmps29 (by first | exact ⟨rfl, rfl⟩ | (simp only [List.all_cons, List.all_nil, V.solid, D.solid, D.solids, solids_ints, solids_bools, solids_LL, Bool.and_self, Bool.and_true, and_self]; done) | simp [V.solid, D.solid, D.solids, solids_lits, solids_ints, solids_bools, solids_LL]) ?_
 repeat' (first | (guard_target =~ WpA _ _ _ _ _ _; first | refine WpA.seq ?_ | refine WpA.drawU ?_ | refine WpA.regionU ?_ | refine WpA.block ?_ | refine WpA.ret ?_ | refine WpA.skip ?_ | refine WpA.exit ?_ | refine WpA.cond_true rfl ?_ | refine WpA.cond_false rfl ?_ | refine WpA.cond_ntrue rfl ?_ | (refine WpA.cond_dec rfl (fun _ => ?_) (fun _ => ?_) <;> try (exfalso; omega)) | (refine WpA.cond_not rfl (fun _ => ?_) (fun _ => ?_) <;> try (exfalso; omega)) | (refine WpA.cond rfl (fun _ => ?_) (fun _ => ?_) <;> try (exfalso; omega))) | (guard_target =~ RunU _ _ _ _ [] _ _ _ _; first | refine RunU.nilL ?_ | refine RunU.nilD (by kernel_rfl) ?_) | (guard_target =~ RunU _ _ _ _ (Oper.mk (some 14) (Op.call ⟨Callee.value _, _, _⟩) _ _ _ none :: _) _ _ _ _; first | refine RunU.cons (sC_ (hp) (.sh (.sh .nil)) (.sh wS_ (.sh wS_ .nil)) rfl) ?_) | (guard_target =~ RunU _ _ _ _ (Oper.mk (some 20) (Op.call ⟨Callee.value _, _, _⟩) _ _ _ none :: _) _ _ _ _; first | refine RunU.cons (sC_ (hs) (.sh .nil) (.sh wS_ .nil) rfl) ?_) | (guard_target =~ RunU _ _ _ _ (Oper.mk (some 29) (Op.call ⟨Callee.value _, _, _⟩) _ _ _ none :: _) _ _ _ _; first | refine RunU.cons (sC_ (hq) (.sh (.sh .nil)) (.sh wS_ (.sh wS_ .nil)) rfl) ?_) | (guard_target =~ RunU _ _ _ _ (Oper.mk (some 35) (Op.call ⟨Callee.value _, _, _⟩) _ _ _ none :: _) _ _ _ _; first | refine RunU.cons (sC_ (hn) (.sh .nil) (.sh wS_ .nil) rfl) ?_) | (guard_target =~ RunU _ _ _ _ (Oper.mk _ _ _ _ _ none :: _) _ _ _ _; refine RunU.cons step_any ?_) | (guard_target =~ RunU _ _ _ _ (Oper.mk _ _ _ _ _ (some _) :: _) _ _ _ _; first | refine RunU.pass rfl rfl rfl rfl ?_ | refine RunU.pass_undef rfl rfl rfl ?_ | (guard_target =~ RunU _ _ _ _ (Oper.mk (some 14) (Op.call ⟨Callee.value _, _, _⟩) _ _ _ _ :: _) _ _ _ _; first | refine RunU.doit rfl rfl (sC_ (hp) (.sh (.sh .nil)) (.sh wS_ (.sh wS_ .nil)) rfl) ?_) | (guard_target =~ RunU _ _ _ _ (Oper.mk (some 20) (Op.call ⟨Callee.value _, _, _⟩) _ _ _ _ :: _) _ _ _ _; first | refine RunU.doit rfl rfl (sC_ (hs) (.sh .nil) (.sh wS_ .nil) rfl) ?_) | (guard_target =~ RunU _ _ _ _ (Oper.mk (some 29) (Op.call ⟨Callee.value _, _, _⟩) _ _ _ _ :: _) _ _ _ _; first | refine RunU.doit rfl rfl (sC_ (hq) (.sh (.sh .nil)) (.sh wS_ (.sh wS_ .nil)) rfl) ?_) | (guard_target =~ RunU _ _ _ _ (Oper.mk (some 35) (Op.call ⟨Callee.value _, _, _⟩) _ _ _ _ :: _) _ _ _ _; first | refine RunU.doit rfl rfl (sC_ (hn) (.sh .nil) (.sh wS_ .nil) rfl) ?_) | refine RunU.doit rfl rfl step_any ?_ | ((fail_if_success (refine RunU.doit (rd := []) (up := []) rfl rfl ?_ ?_)); first | (refine RunU.guard_dec rfl rfl (fun _ => ?_) (fun _ => ?_) <;> try (exfalso; omega)) | (refine RunU.guard_not rfl rfl (fun _ => ?_) (fun _ => ?_) <;> try (exfalso; omega)) | (refine RunU.guard rfl rfl (fun _ => ?_) (fun _ => ?_) <;> try (exfalso; omega)))) | ((fail_if_success (guard_target =~ @Eq _ _ _)); (fail_if_success (guard_target =~ @Exists _ _)); first | (guard_target =~ Then _ _ _ _ _; refine Then.next ?_) | (guard_target =~ InBlock _ _ _ _ _; refine InBlock.next ?_) | refine Done.ret (.one (by first | exact .c rfl | exact .own rfl | exact .als rfl rfl | exact .ptr rfl rfl | exact .part rfl rfl rfl) (.one (by first | exact .c rfl | exact .own rfl | exact .als rfl rfl | exact .ptr rfl rfl | exact .part rfl rfl rfl) (.one (by first | exact .c rfl | exact .own rfl | exact .als rfl rfl | exact .ptr rfl rfl | exact .part rfl rfl rfl) (.one (by first | exact .c rfl | exact .own rfl | exact .als rfl rfl | exact .ptr rfl rfl | exact .part rfl rfl rfl) .nil)))) (.sh .nil) ?_ rfl))
 all_goals first | rfl | (exfalso; omega)
theorem point3_c : CallA Tryd.prog 29 [aS [49, 58, 49, 44, 48]] [rI 1, rI 1, rI 0, rB true] [] := by
 have hp := parted_c [49, 58, 49, 44, 48] 58 (by decide)
 rw [show ptR [49, 58, 49, 44, 48] 58 = ([49], [49, 44, 48], true) by decide] at hp
 have hs := signed_c [49] 1 (by decide) (by decide) (by decide) (by decide)
 have hq := parted_c [49, 44, 48] 44 (by decide)
 rw [show ptR [49, 44, 48] 44 = ([49], [48], true) by decide] at hq
 have hn := numberOf_c [49] (by decide)
 rw [show dgR [49] = (1, [], true) by decide, show decide (0 ≤ vlI [49]) = true by decide] at hn
 have hm := numberOf_c [48] (by decide)
 rw [show dgR [48] = (0, [], true) by decide, show decide (0 ≤ vlI [48]) = true by decide] at hm
 dsimp only at hp hq hn hm
 refine cA_ _ Tryd.func29 rfl Tryd.ntmps29 (by first | exact ⟨rfl, rfl⟩ | (simp only [List.all_cons, List.all_nil, V.solid, D.solid, D.solids, solids_ints, solids_bools, solids_LL, Bool.and_self, Bool.and_true, and_self]; done) | simp [V.solid, D.solid, D.solids, solids_lits, solids_ints, solids_bools, solids_LL]) ?_
 repeat' (first | (guard_target =~ WpA _ _ _ _ _ _; first | refine WpA.seq ?_ | refine WpA.drawU ?_ | refine WpA.regionU ?_ | refine WpA.block ?_ | refine WpA.ret ?_ | refine WpA.skip ?_ | refine WpA.exit ?_ | refine WpA.cond_true rfl ?_ | refine WpA.cond_false rfl ?_ | refine WpA.cond_ntrue rfl ?_ | (refine WpA.cond_dec rfl (fun _ => ?_) (fun _ => ?_) <;> try (exfalso; omega)) | (refine WpA.cond_not rfl (fun _ => ?_) (fun _ => ?_) <;> try (exfalso; omega)) | (refine WpA.cond rfl (fun _ => ?_) (fun _ => ?_) <;> try (exfalso; omega))) | (guard_target =~ RunU _ _ _ _ [] _ _ _ _; first | refine RunU.nilL ?_ | refine RunU.nilD (by kernel_rfl) ?_) | (guard_target =~ RunU _ _ _ _ (Oper.mk (some 14) (Op.call ⟨Callee.value _, _, _⟩) _ _ _ none :: _) _ _ _ _; first | refine RunU.cons (sC_ (hp) (.sh (.sh .nil)) (.sh wS_ (.sh wS_ .nil)) rfl) ?_) | (guard_target =~ RunU _ _ _ _ (Oper.mk (some 20) (Op.call ⟨Callee.value _, _, _⟩) _ _ _ none :: _) _ _ _ _; first | refine RunU.cons (sC_ (hs) (.sh .nil) (.sh wS_ .nil) rfl) ?_) | (guard_target =~ RunU _ _ _ _ (Oper.mk (some 29) (Op.call ⟨Callee.value _, _, _⟩) _ _ _ none :: _) _ _ _ _; first | refine RunU.cons (sC_ (hq) (.sh (.sh .nil)) (.sh wS_ (.sh wS_ .nil)) rfl) ?_) | (guard_target =~ RunU _ _ _ _ (Oper.mk (some 35) (Op.call ⟨Callee.value _, _, _⟩) _ _ _ none :: _) _ _ _ _; first | refine RunU.cons (sC_ (hn) (.sh .nil) (.sh wS_ .nil) rfl) ?_) | (guard_target =~ RunU _ _ _ _ (Oper.mk (some 44) (Op.call ⟨Callee.value _, _, _⟩) _ _ _ none :: _) _ _ _ _; first | refine RunU.cons (sC_ (hm) (.sh .nil) (.sh wS_ .nil) rfl) ?_) | (guard_target =~ RunU _ _ _ _ (Oper.mk _ _ _ _ _ none :: _) _ _ _ _; refine RunU.cons step_any ?_) | (guard_target =~ RunU _ _ _ _ (Oper.mk _ _ _ _ _ (some _) :: _) _ _ _ _; first | refine RunU.pass rfl rfl rfl rfl ?_ | refine RunU.pass_undef rfl rfl rfl ?_ | (guard_target =~ RunU _ _ _ _ (Oper.mk (some 14) (Op.call ⟨Callee.value _, _, _⟩) _ _ _ _ :: _) _ _ _ _; first | refine RunU.doit rfl rfl (sC_ (hp) (.sh (.sh .nil)) (.sh wS_ (.sh wS_ .nil)) rfl) ?_) | (guard_target =~ RunU _ _ _ _ (Oper.mk (some 20) (Op.call ⟨Callee.value _, _, _⟩) _ _ _ _ :: _) _ _ _ _; first | refine RunU.doit rfl rfl (sC_ (hs) (.sh .nil) (.sh wS_ .nil) rfl) ?_) | (guard_target =~ RunU _ _ _ _ (Oper.mk (some 29) (Op.call ⟨Callee.value _, _, _⟩) _ _ _ _ :: _) _ _ _ _; first | refine RunU.doit rfl rfl (sC_ (hq) (.sh (.sh .nil)) (.sh wS_ (.sh wS_ .nil)) rfl) ?_) | (guard_target =~ RunU _ _ _ _ (Oper.mk (some 35) (Op.call ⟨Callee.value _, _, _⟩) _ _ _ _ :: _) _ _ _ _; first | refine RunU.doit rfl rfl (sC_ (hn) (.sh .nil) (.sh wS_ .nil) rfl) ?_) | (guard_target =~ RunU _ _ _ _ (Oper.mk (some 44) (Op.call ⟨Callee.value _, _, _⟩) _ _ _ _ :: _) _ _ _ _; first | refine RunU.doit rfl rfl (sC_ (hm) (.sh .nil) (.sh wS_ .nil) rfl) ?_) | refine RunU.doit rfl rfl step_any ?_ | ((fail_if_success (refine RunU.doit (rd := []) (up := []) rfl rfl ?_ ?_)); first | (refine RunU.guard_dec rfl rfl (fun _ => ?_) (fun _ => ?_) <;> try (exfalso; omega)) | (refine RunU.guard_not rfl rfl (fun _ => ?_) (fun _ => ?_) <;> try (exfalso; omega)) | (refine RunU.guard rfl rfl (fun _ => ?_) (fun _ => ?_) <;> try (exfalso; omega)))) | ((fail_if_success (guard_target =~ @Eq _ _ _)); (fail_if_success (guard_target =~ @Exists _ _)); first | (guard_target =~ Then _ _ _ _ _; refine Then.next ?_) | (guard_target =~ InBlock _ _ _ _ _; refine InBlock.next ?_) | refine Done.ret (.one (by first | exact .c rfl | exact .own rfl | exact .als rfl rfl | exact .ptr rfl rfl | exact .part rfl rfl rfl) (.one (by first | exact .c rfl | exact .own rfl | exact .als rfl rfl | exact .ptr rfl rfl | exact .part rfl rfl rfl) (.one (by first | exact .c rfl | exact .own rfl | exact .als rfl rfl | exact .ptr rfl rfl | exact .part rfl rfl rfl) (.one (by first | exact .c rfl | exact .own rfl | exact .als rfl rfl | exact .ptr rfl rfl | exact .part rfl rfl rfl) .nil)))) (.sh .nil) ?_ rfl))
 all_goals first | rfl | (exfalso; omega)
theorem cl23 : IsCl [-1, 0, 1] [-1, -1, 0] [2, 1, 1] := by decide +kernel
attribute [local irreducible] IsCl decIsCl
def wsCl : List (List UInt8) := [[50], [49, 58, 48], [49, 58, 49, 44, 48]]
theorem points_c (j : Nat) (h : j < 3) : CallA Tryd.prog 29 [aS (wsCl.getD (j * 1) [])] [rI (([2, 1, 1] : List Int).getD j 0), rI (([-1, 0, 1] : List Int).getD j 0), rI (([-1, -1, 0] : List Int).getD j 0), rB true] [] := by
 match j, h with
 | 0, _ => exact point1_c
 | 1, _ => exact point2_c
 | 2, _ => exact point3_c
theorem take_snoc (l : List Int) {j : Nat} (h : j < l.length) : l.take (j + 1) = l.take j ++ [l.getD j 0] := by
 rw [List.take_add_one, List.getD_eq_getElem?_getD, List.getElem?_eq_getElem h]
 rfl
theorem parseCl_c : CallA Tryd.prog 11 [aS [50, 32, 49, 58, 48, 32, 49, 58, 49, 44, 48]] [rCl [-1, 0, 1] [-1, -1, 0] [2, 1, 1], rI 0] [] := by
 have hw := wordsOf_c [50, 32, 49, 58, 48, 32, 49, 58, 49, 44, 48] 32 (by decide)
 rw [show wdL 32 [50, 32, 49, 58, 48, 32, 49, 58, 49, 44, 48] = wsCl by decide] at hw
 have hI := implIsCl_c [-1, 0, 1] [-1, -1, 0] [2, 1, 1] (by decide) (by decide) (by decide)
 rw [decide_eq_true cl23] at hI
 have hPt := points_c
 have hv : ∀ j, j < 3 → (strs wsCl)[j * 1]? = some (.lit (strV (wsCl.getD (j * 1) []))) := fun j h => strs_get (by show j * 1 < 3; omega)
 have hwl : (strs wsCl).length = 3 := rfl
 have hwl2 : wsCl.length = 3 := rfl
 obtain ⟨P, hP⟩ : ∃ P : List Int, P = [-1, 0, 1] := ⟨_, rfl⟩
 obtain ⟨S, hS⟩ : ∃ S : List Int, S = [-1, -1, 0] := ⟨_, rfl⟩
 obtain ⟨W, hW⟩ : ∃ W : List Int, W = [2, 1, 1] := ⟨_, rfl⟩
 have lP : P.length = 3 := by rw [hP]; rfl
 have lS : S.length = 3 := by rw [hS]; rfl
 have lW : W.length = 3 := by rw [hW]; rfl
 have eP : P.take 3 = P := by rw [hP]; rfl
 have eS : S.take 3 = S := by rw [hS]; rfl
 have eW : W.take 3 = W := by rw [hW]; rfl
 rw [← hP, ← hS, ← hW] at hI hPt ⊢
 clear hP hS hW
 generalize wsCl = ws at *
 refine cA_ _ Tryd.func11 rfl Tryd.ntmps11 (by first | exact ⟨rfl, rfl⟩ | (simp only [List.all_cons, List.all_nil, V.solid, D.solid, D.solids, solids_ints, solids_bools, solids_LL, Bool.and_self, Bool.and_true, and_self]; done) | simp [V.solid, D.solid, D.solids, solids_lits, solids_ints, solids_bools, solids_LL]) ?_
 repeat' (first | (guard_target =~ WpA _ _ _ _ _ _; first | refine WpA.seq ?_ | refine WpA.drawU ?_ | refine WpA.regionU ?_ | refine WpA.block ?_ | refine WpA.ret ?_ | refine WpA.skip ?_ | refine WpA.exit ?_ | refine WpA.cond_true rfl ?_ | refine WpA.cond_false rfl ?_ | refine WpA.cond_ntrue rfl ?_ | (refine WpA.cond_dec rfl (fun _ => ?_) (fun _ => ?_) <;> try (exfalso; omega)) | (refine WpA.cond_not rfl (fun _ => ?_) (fun _ => ?_) <;> try (exfalso; omega)) | (refine WpA.cond rfl (fun _ => ?_) (fun _ => ?_) <;> try (exfalso; omega))) | (guard_target =~ RunU _ _ _ _ [] _ _ _ _; first | refine RunU.nilL ?_ | refine RunU.nilD (by kernel_rfl) ?_) | (guard_target =~ RunU _ _ _ _ (Oper.mk (some 13) (Op.call ⟨Callee.value _, _, _⟩) _ _ _ none :: _) _ _ _ _; first | refine RunU.cons (sC_ (hw) (.sh (.sh .nil)) (.sh wS_ (.sh wS_ .nil)) rfl) ?_) | (guard_target =~ RunU _ _ _ _ (Oper.mk _ _ _ _ _ none :: _) _ _ _ _; refine RunU.cons step_any ?_) | (guard_target =~ RunU _ _ _ _ (Oper.mk _ _ _ _ _ (some _) :: _) _ _ _ _; first | refine RunU.pass rfl rfl rfl rfl ?_ | refine RunU.pass_undef rfl rfl rfl ?_ | (guard_target =~ RunU _ _ _ _ (Oper.mk (some 13) (Op.call ⟨Callee.value _, _, _⟩) _ _ _ _ :: _) _ _ _ _; first | refine RunU.doit rfl rfl (sC_ (hw) (.sh (.sh .nil)) (.sh wS_ (.sh wS_ .nil)) rfl) ?_) | refine RunU.doit rfl rfl step_any ?_ | ((fail_if_success (refine RunU.doit (rd := []) (up := []) rfl rfl ?_ ?_)); first | (refine RunU.guard_dec rfl rfl (fun _ => ?_) (fun _ => ?_) <;> try (exfalso; omega)) | (refine RunU.guard_not rfl rfl (fun _ => ?_) (fun _ => ?_) <;> try (exfalso; omega)) | (refine RunU.guard rfl rfl (fun _ => ?_) (fun _ => ?_) <;> try (exfalso; omega)))) | ((fail_if_success (guard_target =~ @Eq _ _ _)); (fail_if_success (guard_target =~ @Exists _ _)); first | (guard_target =~ Then _ _ _ _ _; refine Then.next ?_) | (guard_target =~ InBlock _ _ _ _ _; refine InBlock.next ?_) | refine Done.ret (.cell inferInstance rfl rfl (.one (by first | exact .c rfl | exact .own rfl | exact .als rfl rfl | exact .ptr rfl rfl | exact .part rfl rfl rfl) .nil)) (.sh .nil) ?_ rfl))
 all_goals try (exfalso; omega)
 refine WpA.loop_slots (ι := Nat × Nat × Nat × Nat) (fun p => [(2, .own p.2.1 (.pt true [.sl true 1 [], .sl true 1 [], .sl true 1 []])), (4, .own p.2.2.1 (.pt true [.sl true 1 (ints (P.take p.1)), .sl true 1 (ints (S.take p.1)), .sl true 1 (ints (W.take p.1))])), (13, .own p.2.2.2 (.sl true 1 (strs ws))), (14, vN8 ws.length), (15, vN8 p.1)]) (fun p => p.1 ≤ 3) (fun p => 3 - p.1) (0, _, _, _) (by simp only; omega) ⟨xR_, xR_, xR_, int_eq (by simp), rfl, trivial⟩ ?_
 rintro ⟨j, i2, i4, i13⟩ st nx hj
 dsimp only at hj ⊢
 by_cases hlt : j < 3
 ·have hb := hPt j hlt
  have hv := hv j hlt
  have sP := take_snoc P (j := j) (by omega)
  have sS := take_snoc S (j := j) (by omega)
  have sW := take_snoc W (j := j) (by omega)
  have lP1 : (P.take j).length = j := by simp; omega
  have lS1 : (S.take j).length = j := by simp; omega
  have lW1 : (W.take j).length = j := by simp; omega
  clear hPt hI eP eS eW hw
  generalize P.getD j 0 = p at *
  generalize S.getD j 0 = q at *
  generalize W.getD j 0 = r at *
  generalize P.take j = P0 at *
  generalize S.take j = S0 at *
  generalize W.take j = W0 at *
  repeat' (first | (guard_target =~ WpA _ _ _ _ _ _; first | refine WpA.seq ?_ | refine WpA.drawU ?_ | refine WpA.regionU ?_ | refine WpA.block ?_ | refine WpA.ret ?_ | refine WpA.skip ?_ | refine WpA.exit ?_ | refine WpA.cond_true rfl ?_ | refine WpA.cond_false rfl ?_ | refine WpA.cond_ntrue rfl ?_ | (refine WpA.cond_dec rfl (fun _ => ?_) (fun _ => ?_) <;> try (exfalso; omega)) | (refine WpA.cond_not rfl (fun _ => ?_) (fun _ => ?_) <;> try (exfalso; omega)) | (refine WpA.cond rfl (fun _ => ?_) (fun _ => ?_) <;> try (exfalso; omega))) | (guard_target =~ RunU _ _ _ _ [] _ _ _ _; first | refine RunU.nilL ?_ | refine RunU.nilD (by kernel_rfl) ?_) | (guard_target =~ RunU _ _ _ _ (Oper.mk (some 21) (Op.call ⟨Callee.value _, _, _⟩) _ _ _ none :: _) _ _ _ _; first | refine RunU.cons (sC_ (hb) (.sh .nil) (.sh wS_ .nil) rfl) ?_) | (guard_target =~ RunU _ _ _ _ (Oper.mk _ _ _ _ _ none :: _) _ _ _ _; first | refine RunU.cons (step_load rfl rfl rfl rfl hv rfl) ?_) | (guard_target =~ RunU _ _ _ _ (Oper.mk _ _ _ _ _ none :: _) _ _ _ _; refine RunU.cons step_any ?_) | (guard_target =~ RunU _ _ _ _ (Oper.mk _ _ _ _ _ (some _) :: _) _ _ _ _; first | refine RunU.pass rfl rfl rfl rfl ?_ | refine RunU.pass_undef rfl rfl rfl ?_ | (guard_target =~ RunU _ _ _ _ (Oper.mk (some 21) (Op.call ⟨Callee.value _, _, _⟩) _ _ _ _ :: _) _ _ _ _; first | refine RunU.doit rfl rfl (sC_ (hb) (.sh .nil) (.sh wS_ .nil) rfl) ?_) | refine RunU.doit rfl rfl (step_load rfl rfl rfl rfl hv rfl) ?_ | refine RunU.doit rfl rfl step_any ?_ | ((fail_if_success (refine RunU.doit (rd := []) (up := []) rfl rfl ?_ ?_)); first | (refine RunU.guard_dec rfl rfl (fun _ => ?_) (fun _ => ?_) <;> try (exfalso; omega)) | (refine RunU.guard_not rfl rfl (fun _ => ?_) (fun _ => ?_) <;> try (exfalso; omega)) | (refine RunU.guard rfl rfl (fun _ => ?_) (fun _ => ?_) <;> try (exfalso; omega)))) | ((fail_if_success (guard_target =~ @Eq _ _ _)); (fail_if_success (guard_target =~ @Exists _ _)); first | (guard_target =~ Then _ _ _ _ _; refine Then.next ?_) | (guard_target =~ InBlock _ _ _ _ _; refine InBlock.next ?_) | refine Done.ret (.cell inferInstance rfl rfl (.one (by first | exact .c rfl | exact .own rfl | exact .als rfl rfl | exact .ptr rfl rfl | exact .part rfl rfl rfl) .nil)) (.sh .nil) ?_ rfl))
  all_goals try (exfalso; omega)
  all_goals exact ⟨(j + 1, _, _, _), by simp only; omega, ⟨xR_, by simp only [sP, sS, sW]; exact rfl, xR_, rfl, int_eq (by simp only; omega), trivial⟩, by simp only; omega⟩
 ·obtain rfl : j = 3 := by omega
  clear hPt hw
  rw [eP, eS, eW]
  repeat' (first | (guard_target =~ WpA _ _ _ _ _ _; first | refine WpA.seq ?_ | refine WpA.drawU ?_ | refine WpA.regionU ?_ | refine WpA.block ?_ | refine WpA.ret ?_ | refine WpA.skip ?_ | refine WpA.exit ?_ | refine WpA.cond_true rfl ?_ | refine WpA.cond_false rfl ?_ | refine WpA.cond_ntrue rfl ?_ | (refine WpA.cond_dec rfl (fun _ => ?_) (fun _ => ?_) <;> try (exfalso; omega)) | (refine WpA.cond_not rfl (fun _ => ?_) (fun _ => ?_) <;> try (exfalso; omega)) | (refine WpA.cond rfl (fun _ => ?_) (fun _ => ?_) <;> try (exfalso; omega))) | (guard_target =~ RunU _ _ _ _ [] _ _ _ _; first | refine RunU.nilL ?_ | refine RunU.nilD (by kernel_rfl) ?_) | (guard_target =~ RunU _ _ _ _ (Oper.mk (some 55) (Op.call ⟨Callee.value _, _, _⟩) _ _ _ none :: _) _ _ _ _; first | refine RunU.cons (sC_ (hI) (.sh .nil) (.shAgg rfl gA_ .nil) rfl) ?_) | (guard_target =~ RunU _ _ _ _ (Oper.mk _ _ _ _ _ none :: _) _ _ _ _; refine RunU.cons step_any ?_) | (guard_target =~ RunU _ _ _ _ (Oper.mk _ _ _ _ _ (some _) :: _) _ _ _ _; first | refine RunU.pass rfl rfl rfl rfl ?_ | refine RunU.pass_undef rfl rfl rfl ?_ | (guard_target =~ RunU _ _ _ _ (Oper.mk (some 55) (Op.call ⟨Callee.value _, _, _⟩) _ _ _ _ :: _) _ _ _ _; first | refine RunU.doit rfl rfl (sC_ (hI) (.sh .nil) (.shAgg rfl gA_ .nil) rfl) ?_) | refine RunU.doit rfl rfl step_any ?_ | ((fail_if_success (refine RunU.doit (rd := []) (up := []) rfl rfl ?_ ?_)); first | (refine RunU.guard_dec rfl rfl (fun _ => ?_) (fun _ => ?_) <;> try (exfalso; omega)) | (refine RunU.guard_not rfl rfl (fun _ => ?_) (fun _ => ?_) <;> try (exfalso; omega)) | (refine RunU.guard rfl rfl (fun _ => ?_) (fun _ => ?_) <;> try (exfalso; omega)))) | ((fail_if_success (guard_target =~ @Eq _ _ _)); (fail_if_success (guard_target =~ @Exists _ _)); first | (guard_target =~ Then _ _ _ _ _; refine Then.next ?_) | (guard_target =~ InBlock _ _ _ _ _; refine InBlock.next ?_) | refine Done.ret (.cell inferInstance rfl rfl (.one (by first | exact .c rfl | exact .own rfl | exact .als rfl rfl | exact .ptr rfl rfl | exact .part rfl rfl rfl) .nil)) (.sh .nil) ?_ rfl))
  all_goals first | rfl | (exfalso; omega)
end Go.Proofs.YtpeioofkihpldaaDoor
namespace Go.Proofs.YtpeioofkihpldaaDoor
open Go.Shelf
def fmtInt_ren : Go.Shelf.Ren := ⟨fun | 173 => 69 | 246 => 77 | 283 => 84 | 284 => 85 | 285 => 86 | 286 => 87 | 129 => 93 | 317 => 92 | 318 => 94 | 319 => 95 | 320 => 96 | 337 => 97 | 338 => 98 | n => n, fun | 2 => 2 | 3 => 3 | 9 => 9 | 4 => 4 | 171 => 116 | 0 => 0 | 53 => 117 | 37 => 100 | 5 => 5 | 173 => 120 | 212 => 128 | 51 => 129 | 20 => 20 | 213 => 130 | 46 => 132 | 232 => 135 | 233 => 136 | n => n, fun | 17 => 0 | 18 => 2 | 19 => 3 | n => n⟩
theorem fmtInt : Go.Proofs.LaysM.n173 Tryd.prog fmtInt_ren := {
 mixed := by kernel_rfl
 f129 := Tryd.func93.trans (congrArg some (by kernel_rfl))
 f173 := Tryd.func69.trans (congrArg some (by kernel_rfl))
 f246 := Tryd.func77.trans (congrArg some (by kernel_rfl))
 f283 := Tryd.func84.trans (congrArg some (by kernel_rfl))
 f284 := Tryd.func85.trans (congrArg some (by kernel_rfl))
 f285 := Tryd.func86.trans (congrArg some (by kernel_rfl))
 f286 := Tryd.func87.trans (congrArg some (by kernel_rfl))
 f317 := Tryd.func92.trans (congrArg some (by kernel_rfl))
 f318 := Tryd.func94.trans (congrArg some (by kernel_rfl))
 f319 := Tryd.func95.trans (congrArg some (by kernel_rfl))
 f320 := Tryd.func96.trans (congrArg some (by kernel_rfl))
 f337 := Tryd.func97.trans (congrArg some (by kernel_rfl))
 f338 := Tryd.func98.trans (congrArg some (by kernel_rfl))
 t0 := Tryd.underlying0
 a0 := Tryd.isAgg0
 z0 := Tryd.sizeOf0
 v0 := Tryd.zeroValue0
 t2 := Tryd.underlying2
 a2 := Tryd.isAgg2
 z2 := Tryd.sizeOf2
 v2 := Tryd.zeroValue2
 t3 := Tryd.underlying3
 a3 := Tryd.isAgg3
 z3 := Tryd.sizeOf3
 v3 := Tryd.zeroValue3
 t4 := Tryd.underlying4
 a4 := Tryd.isAgg4
 z4 := Tryd.sizeOf4
 v4 := Tryd.zeroValue4
 t5 := Tryd.underlying5
 a5 := Tryd.isAgg5
 z5 := Tryd.sizeOf5
 v5 := Tryd.zeroValue5
 t9 := Tryd.underlying9
 a9 := Tryd.isAgg9
 z9 := Tryd.sizeOf9
 v9 := Tryd.zeroValue9
 t20 := Tryd.underlying20
 a20 := Tryd.isAgg20
 z20 := Tryd.sizeOf20
 v20 := Tryd.zeroValue20
 t37 := Tryd.underlying100
 a37 := Tryd.isAgg100
 z37 := Tryd.sizeOf100
 v37 := Tryd.zeroValue100
 t46 := Tryd.underlying132
 a46 := Tryd.isAgg132
 z46 := Tryd.sizeOf132
 v46 := Tryd.zeroValue132
 t51 := Tryd.underlying129
 a51 := Tryd.isAgg129
 z51 := Tryd.sizeOf129
 v51 := Tryd.zeroValue129
 t53 := Tryd.underlying117
 a53 := Tryd.isAgg117
 z53 := Tryd.sizeOf117
 v53 := Tryd.zeroValue117
 t171 := Tryd.underlying116
 a171 := Tryd.isAgg116
 z171 := Tryd.sizeOf116
 v171 := Tryd.zeroValue116
 t173 := Tryd.underlying120
 a173 := Tryd.isAgg120
 z173 := Tryd.sizeOf120
 v173 := Tryd.zeroValue120
 t212 := Tryd.underlying128
 a212 := Tryd.isAgg128
 z212 := Tryd.sizeOf128
 v212 := Tryd.zeroValue128
 t213 := Tryd.underlying130
 a213 := Tryd.isAgg130
 z213 := Tryd.sizeOf130
 t232 := Tryd.underlying135
 a232 := Tryd.isAgg135
 z232 := Tryd.sizeOf135
 v232 := Tryd.zeroValue135
 t233 := Tryd.underlying136
 a233 := Tryd.isAgg136
 z233 := Tryd.sizeOf136
 v233 := Tryd.zeroValue136
 g17 := by kernel_rfl
 g18 := by kernel_rfl
 g19 := by kernel_rfl
 i0 := by kernel_rfl
 i2 := by kernel_rfl
 i3 := by kernel_rfl
 i4 := by kernel_rfl
 i5 := by kernel_rfl
 i9 := by kernel_rfl
 i20 := by kernel_rfl
 i37 := by kernel_rfl
 i46 := by kernel_rfl
 i51 := by kernel_rfl
 i53 := by kernel_rfl
 i171 := by kernel_rfl
 i173 := by kernel_rfl
 i212 := by kernel_rfl
 i232 := by kernel_rfl
 i233 := by kernel_rfl
 m17 := by kernel_rfl
 m18 := by kernel_rfl
 m19 := by kernel_rfl }
end Go.Proofs.YtpeioofkihpldaaDoor
namespace Go.Proofs.YtpeioofkihpldaaDoor
set_option maxHeartbeats 20000000
open Go.Pv
open Go.ChangeShapes Go.WideShapes Go.ChangeAt Go.RowKit
attribute [local irreducible] RunU WpA Step CallG CallNG Done DoneN
instance fnOk69 : FnOk Tryd.prog 69 := ⟨_, Tryd.func69, rfl, by decide⟩
instance fnOk59 : FnOk Tryd.prog 59 := ⟨_, Tryd.func59, rfl, by decide⟩
attribute [local irreducible] CallZ
def p10C : Array Value := (Lib.pow10Tab.map fun z => Value.int .u64 z).toArray
noncomputable def p10G : Nat := (Tryd.prog.globalNamed "internal/strconv.uint64pow10").getD 0
theorem p10_at : Tryd.prog.globalNamed "internal/strconv.uint64pow10" = some p10G := by kernel_rfl
abbrev Z10 : (Nat → Prop) → World → Prop := TabZ p10G p10C
theorem z10_in : ∀ F w, Z10 F w → ∀ q ∈ [tabR p10G p10C], q.1 = tabId ∧ TabAt F w q := fun F w h q hq => by
 rw [List.mem_singleton] at hq
 subst hq
 exact ⟨rfl, _, _, rfl, h⟩
theorem z10_out {n : NN} (h : n.R = [tabR p10G p10C]) : ∀ F w, (∀ q ∈ n.R, q.1 = tabId → TabAt F w q) → Z10 F w := fun F w hq =>
 (hq (tabR p10G p10C) (by rw [h]; simp) rfl).get
theorem keep_grow (w : World) (k : Nat) (os : Array Obj) : Keep w [] (Go.Sort.grow (w.drewN k) os) :=
 ⟨rfl, rfl, rfl, by simp [Go.Sort.grow, World.drewN], fun g hg _ => by
  simp only [Same, Go.Sort.grow, World.drewN]
  rw [Array.getElem?_append_left hg], fun _ => by simp [Go.Sort.grow, World.drewN]⟩
theorem formatInt_z (n : Nat) (hn : n ≤ 9223372036854775807) : CallZ Z10 true Tryd.prog 69 [aI (n : Int), aI 10] [rS (Lib.decDigits n)] [] := by
 unfold CallZ
 intro w vs M F hz hF ha hnd hM
 simp only [ArgsR, ArgR, VR, RD] at ha
 obtain ⟨u, us, L1, L2, rfl, rfl, ⟨rfl, r1, rfl, _, _⟩, u2, us2, L3, L4, rfl, rfl, ⟨rfl, r2, rfl, _, _⟩, rfl, rfl⟩ := ha
 have htab : Lib.TabIs Tryd.prog w "internal/strconv.uint64pow10" .u64 Lib.pow10Tab := by
  obtain ⟨hg, x, y, hh⟩ := hz
  unfold Lib.TabIs World.var?
  rw [p10_at]
  simp only [Option.bind_some, hh]
  rfl
 have hc := Go.Proofs.Any.strconv_FormatInt_10 fmtInt (n : Int) (by omega) (by omega) w htab
 refine Calls.mono hc ?_
 rintro e w' ⟨rfl, k, os, rfl⟩
 have hi : Lib.itoa (n : Int) = Lib.decDigits n := by unfold Lib.itoa; rw [if_neg (by omega)]; simp
 rw [hi]
 refine ⟨[strV (Lib.decDigits n)], [], [], rfl, keep_grow w k os, ?_, ?_, by simp, by simp⟩
 ·simp only [VRs, VR, RD]
  exact ⟨_, _, [], [], rfl, rfl, ⟨fun _ => undef, rfl, by simp [Value.oneCell'], rfl⟩, by simp⟩
 ·simp only [OutsR]
  exact ⟨_, _, rfl, _, _, rfl, by simp⟩
theorem decimal_z (n : Nat) (hn : n ≤ 9223372036854775807) : CallZ Z10 true Tryd.prog 59 [aI (n : Int)] [rS (Lib.decDigits n)] [] := by
 have hF := formatInt_z n hn
 refine callT_of z10_in _ Tryd.func59 rfl Tryd.ntmps59 (by first | exact ⟨rfl, rfl⟩ | (simp only [List.all_cons, List.all_nil, V.solid, D.solid, D.solids, solids_ints, solids_bools, solids_LL, Bool.and_self, Bool.and_true, and_self]; done) | simp [V.solid, D.solid, D.solids, solids_lits, solids_ints, solids_bools, solids_LL]) ?_
 repeat' (first | (guard_target =~ WpA _ _ _ _ _ _; first | refine WpA.seq ?_ | refine WpA.drawU ?_ | refine WpA.regionU ?_ | refine WpA.block ?_ | refine WpA.ret ?_ | refine WpA.skip ?_ | refine WpA.exit ?_ | refine WpA.cond_true rfl ?_ | refine WpA.cond_false rfl ?_ | refine WpA.cond_ntrue rfl ?_ | refine WpA.cond_dec rfl (fun _ => ?_) (fun _ => ?_) | refine WpA.cond_not rfl (fun _ => ?_) (fun _ => ?_) | refine WpA.cond rfl (fun _ => ?_) (fun _ => ?_)) | (guard_target =~ RunU _ _ _ _ [] _ _ _ _; first | refine RunU.nilL ?_ | refine RunU.nilD (by kernel_rfl) ?_) | (guard_target =~ RunU _ _ _ _ (Oper.mk _ _ _ _ _ none :: _) _ _ _ _; first | refine RunU.cons (step_callZ hF (by exact z10_out rfl) (.sh (.sh .nil)) (.sh wS_ (.sh wS_ .nil)) rfl) ?_) | (guard_target =~ RunU _ _ _ _ (Oper.mk _ _ _ _ _ none :: _) _ _ _ _; refine RunU.cons step_any ?_) | (guard_target =~ RunU _ _ _ _ (Oper.mk _ _ _ _ _ (some _) :: _) _ _ _ _; first | refine RunU.pass rfl rfl rfl rfl ?_ | refine RunU.pass_undef rfl rfl rfl ?_ | refine RunU.doit rfl rfl (step_callZ hF (by exact z10_out rfl) (.sh (.sh .nil)) (.sh wS_ (.sh wS_ .nil)) rfl) ?_ | refine RunU.doit rfl rfl step_any ?_ | ((fail_if_success (refine RunU.doit (rd := []) (up := []) rfl rfl ?_ ?_)); first | refine RunU.guard_dec rfl rfl (fun _ => ?_) (fun _ => ?_) | refine RunU.guard_not rfl rfl (fun _ => ?_) (fun _ => ?_) | refine RunU.guard rfl rfl (fun _ => ?_) (fun _ => ?_))) | ((fail_if_success (guard_target =~ @Eq _ _ _)); (fail_if_success (guard_target =~ @Exists _ _)); first | (guard_target =~ Then _ _ _ _ _; refine Then.next ?_) | (guard_target =~ InBlock _ _ _ _ _; refine InBlock.next ?_) | refine Done.ret (.one (by first | exact .c rfl | exact .own rfl | exact .als rfl rfl | exact .ptr rfl rfl | exact .part rfl rfl rfl) .nil) (.sh .nil) ?_ rfl))
 all_goals first | rfl | (exfalso; omega)
end Go.Proofs.YtpeioofkihpldaaDoor
namespace Go.Proofs.YtpeioofkihpldaaDoor
open Go.Shelf
def sJoin_ren : Go.Shelf.Ren := ⟨fun | 156 => 60 | 165 => 70 | 166 => 71 | 169 => 72 | 240 => 78 | 241 => 79 | 276 => 88 | 277 => 89 | n => n, fun | 31 => 54 | 9 => 9 | 3 => 3 | 4 => 4 | 0 => 0 | 20 => 20 | 72 => 102 | 76 => 106 | 70 => 99 | 37 => 100 | 75 => 105 | 127 => 112 | 164 => 122 | 5 => 5 | 80 => 108 | n => n, fun | n => n⟩
theorem sJoin : Go.Proofs.Lays.n156 Tryd.prog sJoin_ren := {
 mixed := by kernel_rfl
 f156 := Tryd.func60.trans (congrArg some (by kernel_rfl))
 f165 := Tryd.func70.trans (congrArg some (by kernel_rfl))
 f166 := Tryd.func71.trans (congrArg some (by kernel_rfl))
 f169 := Tryd.func72.trans (congrArg some (by kernel_rfl))
 f240 := Tryd.func78.trans (congrArg some (by kernel_rfl))
 f241 := Tryd.func79.trans (congrArg some (by kernel_rfl))
 f276 := Tryd.func88.trans (congrArg some (by kernel_rfl))
 f277 := Tryd.func89.trans (congrArg some (by kernel_rfl))
 t0 := Tryd.underlying0
 a0 := Tryd.isAgg0
 z0 := Tryd.sizeOf0
 v0 := Tryd.zeroValue0
 t3 := Tryd.underlying3
 a3 := Tryd.isAgg3
 z3 := Tryd.sizeOf3
 v3 := Tryd.zeroValue3
 t4 := Tryd.underlying4
 a4 := Tryd.isAgg4
 z4 := Tryd.sizeOf4
 v4 := Tryd.zeroValue4
 t9 := Tryd.underlying9
 a9 := Tryd.isAgg9
 z9 := Tryd.sizeOf9
 v9 := Tryd.zeroValue9
 t20 := Tryd.underlying20
 a20 := Tryd.isAgg20
 z20 := Tryd.sizeOf20
 v20 := Tryd.zeroValue20
 t31 := Tryd.underlying54
 a31 := Tryd.isAgg54
 z31 := Tryd.sizeOf54
 v31 := Tryd.zeroValue54
 t37 := Tryd.underlying100
 a37 := Tryd.isAgg100
 z37 := Tryd.sizeOf100
 v37 := Tryd.zeroValue100
 t70 := Tryd.underlying99
 a70 := Tryd.isAgg99
 z70 := Tryd.sizeOf99
 v70 := Tryd.zeroValue99
 t72 := Tryd.underlying102
 a72 := Tryd.isAgg102
 z72 := Tryd.sizeOf102
 v72 := Tryd.zeroValue102
 t75 := Tryd.underlying105
 a75 := Tryd.isAgg105
 z75 := Tryd.sizeOf105
 v75 := Tryd.zeroValue105
 t76 := Tryd.underlying106
 a76 := Tryd.isAgg106
 z76 := Tryd.sizeOf106
 v76 := Tryd.zeroValue106
 t127 := Tryd.underlying112
 a127 := Tryd.isAgg112
 z127 := Tryd.sizeOf112
 v127 := Tryd.zeroValue112
 t164 := Tryd.underlying122
 a164 := Tryd.isAgg122
 z164 := Tryd.sizeOf122
 v164 := Tryd.zeroValue122 }
end Go.Proofs.YtpeioofkihpldaaDoor
