/- The laws' functions on desks that are made. No condition. -/
import Derived.Test.YtpeioofkihpldaaDoorNPwI
import Derived.Test.YtpeioofkihpldaaDoorNZcD
import Derived.Test.YtpeioofkihpldaaDoorNPnB
import Derived.Test.YtpeioofkihpldaaDoorNPnD
import Derived.Test.YtpeioofkihpldaaDoorNCuF
import Derived.Test.YtpeioofkihpldaaDoorNPoB
import Derived.Test.YtpeioofkihpldaaDoorNCuG
import Derived.Test.YtpeioofkihpldaaDoorNPvO
set_option linter.unusedVariables false
set_option linter.unusedSimpArgs false
namespace Go.Proofs.YtpeioofkihpldaaDoor
set_option maxRecDepth 100000
set_option maxHeartbeats 20000000
open Go.Pv
open Go.ChangeShapes Go.WideShapes Go.ChangeAt Go.RowKit
attribute [local irreducible] RunU WpA Step CallG CallNG Done DoneN DoneF CallF StepX
instance fnOk5 : FnOk Tryd.prog 5 := ⟨_, Tryd.func5, rfl, by decide⟩
instance fnOk9 : FnOk Tryd.prog 9 := ⟨_, Tryd.func9, rfl, by decide⟩
instance fnOk4 : FnOk Tryd.prog 4 := ⟨_, Tryd.func4, rfl, by decide⟩
attribute [local irreducible] CallZ
def wsPo : List (List UInt8) := [[121, 94, 50], [120, 94, 51]]
theorem terms_c (j : Nat) (h : j < 2) : CallA Tryd.prog 31 [aS (wsPo.getD (j * 1) [])] [rL (([[0, 2, 1], [3, 0, 1]] : List (List Int)).getD j []), rB true] [] := by
 match j, h with
 | 0, _ =>
  have := polyTerm_c [121, 94, 50] (by decide)
  rw [show ptm [121, 94, 50] = ([0, 2, 1], true) by decide] at this
  exact this
 | 1, _ =>
  have := polyTerm_c [120, 94, 51] (by decide)
  rw [show ptm [120, 94, 51] = ([3, 0, 1], true) by decide] at this
  exact this
theorem po23 : IsPol [[0, 2, 1], [3, 0, 1]] := by decide +kernel
theorem po23_text : poT [[0, 2, 1], [3, 0, 1]] = [121, 94, 50, 43, 120, 94, 51] := by
 have h2 : Lib.decDigits 2 = [50] := dec_small (by omega)
 have h3 : Lib.decDigits 3 = [51] := dec_small (by omega)
 have a1 : wdB [0, 2, 1] = [121, 94, 50] := by
  show ([] ++ (([121] : List UInt8) ++ [94] ++ Lib.decDigits 2)) = _
  rw [h2]; rfl
 have a2 : wdB [3, 0, 1] = [120, 94, 51] := by
  show ((([120] : List UInt8) ++ [94] ++ Lib.decDigits 3) ++ []) = _
  rw [h3]; rfl
 have b1 : wdT [0, 2, 1] = [121, 94, 50] := by
  unfold wdT
  rw [a1]
  rfl
 have b2 : wdT [3, 0, 1] = [120, 94, 51] := by
  unfold wdT
  rw [a2]
  rfl
 show Lib.join [wdT [0, 2, 1], wdT [3, 0, 1]] [43] = _
 rw [b1, b2]
 rfl
attribute [local irreducible] IsPol decIsPol IsCu decIsCu IsCl decIsCl
theorem take_snocL (l : List (List Int)) {j : Nat} (h : j < l.length) : l.take (j + 1) = l.take j ++ [l.getD j []] := by
 rw [List.take_add_one, List.getD_eq_getElem?_getD, List.getElem?_eq_getElem h]
 rfl
theorem parsePo_z : CallZ Z10 true Tryd.prog 12 [aS [121, 94, 50, 43, 120, 94, 51]] [.agg [.sl true 1 (LL [[0, 2, 1], [3, 0, 1]])], rI 0] [] := by
 have hw := wordsOf_c [121, 94, 50, 43, 120, 94, 51] 43 (by decide)
 rw [show wdL 43 [121, 94, 50, 43, 120, 94, 51] = wsPo by decide] at hw
 have hI := implPol_c [[0, 2, 1], [3, 0, 1]] (by decide) (fun i => by match i with | 0 => decide | 1 => decide | i + 2 => simp)
 rw [decide_eq_true po23] at hI
 have hT := polyText_z [[0, 2, 1], [3, 0, 1]] (by decide) (fun i hi => by
  match i, hi with
  | 0, _ => exact ⟨rfl, by decide, by decide, by decide⟩
  | 1, _ => exact ⟨rfl, by decide, by decide, by decide⟩)
 rw [po23_text] at hT
 have hPt := terms_c
 have hv : ∀ j, j < 2 → (strs wsPo)[j * 1]? = some (.lit (strV (wsPo.getD (j * 1) []))) := fun j h => strs_get (by show j * 1 < 2; omega)
 have hwl : (strs wsPo).length = 2 := rfl
 have hwl2 : wsPo.length = 2 := rfl
 obtain ⟨P, hP⟩ : ∃ P : List (List Int), P = [[0, 2, 1], [3, 0, 1]] := ⟨_, rfl⟩
 have lP : P.length = 2 := by rw [hP]; rfl
 have eP : P.take 2 = P := by rw [hP]; rfl
 have e0 : P.take 0 = [] := rfl
 rw [← hP] at hI hPt hT ⊢
 clear hP
 obtain ⟨s, hs⟩ : ∃ s : List UInt8, s = [121, 94, 50, 43, 120, 94, 51] := ⟨_, rfl⟩
 have hs0 : s ≠ [48] := by rw [hs]; decide
 rw [← hs] at hT hw ⊢
 clear hs
 generalize wsPo = ws at *
 refine callT_of z10_in _ Tryd.func12 rfl Tryd.ntmps12 (by first | exact ⟨rfl, rfl⟩ | (simp only [List.all_cons, List.all_nil, V.solid, D.solid, D.solids, solids_ints, solids_bools, solids_LL, Bool.and_self, Bool.and_true, and_self]; done) | simp [V.solid, D.solid, D.solids, solids_lits, solids_ints, solids_bools, solids_LL]) ?_
 repeat' (first | (guard_target =~ WpA _ _ _ _ _ _; first | refine WpA.seq ?_ | refine WpA.drawU ?_ | refine WpA.regionU ?_ | refine WpA.block ?_ | refine WpA.ret ?_ | refine WpA.skip ?_ | refine WpA.exit ?_ | refine WpA.cond_true rfl ?_ | refine WpA.cond_false rfl ?_ | refine WpA.cond_ntrue rfl ?_ | (refine WpA.cond_dec rfl (fun _ => ?_) (fun _ => ?_) <;> try (exfalso; omega)) | (refine WpA.cond_not rfl (fun _ => ?_) (fun _ => ?_) <;> try (exfalso; omega)) | (refine WpA.cond rfl (fun _ => ?_) (fun _ => ?_) <;> try (exfalso; omega))) | (guard_target =~ RunU _ _ _ _ [] _ _ _ _; first | refine RunU.nilL ?_ | refine RunU.nilD (by kernel_rfl) ?_) | (guard_target =~ RunU _ _ _ _ (Oper.mk (some 14) (Op.call ⟨Callee.value _, _, _⟩) _ _ _ none :: _) _ _ _ _; first | refine RunU.cons (sC_ (hw) (.sh (.sh .nil)) (.sh wS_ (.sh wS_ .nil)) rfl) ?_) | (guard_target =~ RunU _ _ _ _ (Oper.mk _ _ _ _ _ none :: _) _ _ _ _; first | refine RunU.cons (step_str_eql rfl rfl rfl) ?_) | (guard_target =~ RunU _ _ _ _ (Oper.mk _ _ _ _ _ none :: _) _ _ _ _; refine RunU.cons step_any ?_) | (guard_target =~ RunU _ _ _ _ (Oper.mk _ _ _ _ _ (some _) :: _) _ _ _ _; first | refine RunU.pass rfl rfl rfl rfl ?_ | refine RunU.pass_undef rfl rfl rfl ?_ | (guard_target =~ RunU _ _ _ _ (Oper.mk (some 14) (Op.call ⟨Callee.value _, _, _⟩) _ _ _ _ :: _) _ _ _ _; first | refine RunU.doit rfl rfl (sC_ (hw) (.sh (.sh .nil)) (.sh wS_ (.sh wS_ .nil)) rfl) ?_) | refine RunU.doit rfl rfl (step_str_eql rfl rfl rfl) ?_ | refine RunU.doit rfl rfl step_any ?_ | ((fail_if_success (refine RunU.doit (rd := []) (up := []) rfl rfl ?_ ?_)); first | (refine RunU.guard_dec rfl rfl (fun _ => ?_) (fun _ => ?_) <;> try (exfalso; omega)) | (refine RunU.guard_not rfl rfl (fun _ => ?_) (fun _ => ?_) <;> try (exfalso; omega)) | (refine RunU.guard rfl rfl (fun _ => ?_) (fun _ => ?_) <;> try (exfalso; omega)))) | ((fail_if_success (guard_target =~ @Eq _ _ _)); (fail_if_success (guard_target =~ @Exists _ _)); first | (guard_target =~ Then _ _ _ _ _; refine Then.next ?_) | (guard_target =~ InBlock _ _ _ _ _; refine InBlock.next ?_) | refine Done.ret (.cell inferInstance rfl rfl (.one (by first | exact .c rfl | exact .own rfl | exact .als rfl rfl | exact .ptr rfl rfl | exact .part rfl rfl rfl) .nil)) (.sh .nil) ?_ rfl))
 all_goals try (exfalso; omega)
 all_goals try (exact absurd ‹_› hs0)
 refine WpA.loop_slots (ι := Nat × Nat × Nat × Nat) (fun p => [(0, vS s), (2, .own p.2.1 (.pt true [.sl true 1 []])), (4, .own p.2.2.1 (.pt true [.sl true 1 (LL (P.take p.1))])), (14, .own p.2.2.2 (.sl true 1 (strs ws))), (15, vN8 ws.length), (16, vN8 p.1)]) (fun p => p.1 ≤ 2) (fun p => 2 - p.1) (0, _, _, _) (by simp only; omega) ⟨rfl, xR_, by simp only [e0]; exact rfl, xR_, int_eq (by simp), rfl, trivial⟩ ?_
 rintro ⟨j, i2, i4, i14⟩ st nx hj
 dsimp only at hj ⊢
 by_cases hlt : j < 2
 ·have hb := hPt j hlt
  have hv := hv j hlt
  have sP := take_snocL P (j := j) (by omega)
  have lP1 : (P.take j).length = j := by simp; omega
  clear hPt hI eP hw hT e0
  generalize P.getD j [] = p at *
  generalize P.take j = P0 at *
  repeat' (first | (guard_target =~ WpA _ _ _ _ _ _; first | refine WpA.seq ?_ | refine WpA.drawU ?_ | refine WpA.regionU ?_ | refine WpA.block ?_ | refine WpA.ret ?_ | refine WpA.skip ?_ | refine WpA.exit ?_ | refine WpA.cond_true rfl ?_ | refine WpA.cond_false rfl ?_ | refine WpA.cond_ntrue rfl ?_ | (refine WpA.cond_dec rfl (fun _ => ?_) (fun _ => ?_) <;> try (exfalso; omega)) | (refine WpA.cond_not rfl (fun _ => ?_) (fun _ => ?_) <;> try (exfalso; omega)) | (refine WpA.cond rfl (fun _ => ?_) (fun _ => ?_) <;> try (exfalso; omega))) | (guard_target =~ RunU _ _ _ _ [] _ _ _ _; first | refine RunU.nilL ?_ | refine RunU.nilD (by kernel_rfl) ?_) | (guard_target =~ RunU _ _ _ _ (Oper.mk (some 22) (Op.call ⟨Callee.value _, _, _⟩) _ _ _ none :: _) _ _ _ _; first | refine RunU.cons (sC_ (hb) (.sh .nil) (.sh wS_ .nil) rfl) ?_) | (guard_target =~ RunU _ _ _ _ (Oper.mk _ _ _ _ _ none :: _) _ _ _ _; first | refine RunU.cons (step_load rfl rfl rfl rfl hv rfl) ?_) | (guard_target =~ RunU _ _ _ _ (Oper.mk _ _ _ _ _ none :: _) _ _ _ _; refine RunU.cons step_any ?_) | (guard_target =~ RunU _ _ _ _ (Oper.mk _ _ _ _ _ (some _) :: _) _ _ _ _; first | refine RunU.pass rfl rfl rfl rfl ?_ | refine RunU.pass_undef rfl rfl rfl ?_ | (guard_target =~ RunU _ _ _ _ (Oper.mk (some 22) (Op.call ⟨Callee.value _, _, _⟩) _ _ _ _ :: _) _ _ _ _; first | refine RunU.doit rfl rfl (sC_ (hb) (.sh .nil) (.sh wS_ .nil) rfl) ?_) | refine RunU.doit rfl rfl (step_load rfl rfl rfl rfl hv rfl) ?_ | refine RunU.doit rfl rfl step_any ?_ | ((fail_if_success (refine RunU.doit (rd := []) (up := []) rfl rfl ?_ ?_)); first | (refine RunU.guard_dec rfl rfl (fun _ => ?_) (fun _ => ?_) <;> try (exfalso; omega)) | (refine RunU.guard_not rfl rfl (fun _ => ?_) (fun _ => ?_) <;> try (exfalso; omega)) | (refine RunU.guard rfl rfl (fun _ => ?_) (fun _ => ?_) <;> try (exfalso; omega)))) | ((fail_if_success (guard_target =~ @Eq _ _ _)); (fail_if_success (guard_target =~ @Exists _ _)); first | (guard_target =~ Then _ _ _ _ _; refine Then.next ?_) | (guard_target =~ InBlock _ _ _ _ _; refine InBlock.next ?_) | refine Done.ret (.cell inferInstance rfl rfl (.one (by first | exact .c rfl | exact .own rfl | exact .als rfl rfl | exact .ptr rfl rfl | exact .part rfl rfl rfl) .nil)) (.sh .nil) ?_ rfl))
  all_goals try (exfalso; omega)
  all_goals exact ⟨(j + 1, _, _, _), by simp only; omega, ⟨rfl, xR_, by simp only [sP]; exact rfl, xR_, rfl, int_eq (by simp only; omega), trivial⟩, by simp only; omega⟩
 ·obtain rfl : j = 2 := by omega
  clear hPt hw e0
  rw [eP]
  repeat' (first | (guard_target =~ WpA _ _ _ _ _ _; first | refine WpA.seq ?_ | refine WpA.drawU ?_ | refine WpA.regionU ?_ | refine WpA.block ?_ | refine WpA.ret ?_ | refine WpA.skip ?_ | refine WpA.exit ?_ | refine WpA.cond_true rfl ?_ | refine WpA.cond_false rfl ?_ | refine WpA.cond_ntrue rfl ?_ | (refine WpA.cond_dec rfl (fun _ => ?_) (fun _ => ?_) <;> try (exfalso; omega)) | (refine WpA.cond_not rfl (fun _ => ?_) (fun _ => ?_) <;> try (exfalso; omega)) | (refine WpA.cond rfl (fun _ => ?_) (fun _ => ?_) <;> try (exfalso; omega))) | (guard_target =~ RunU _ _ _ _ [] _ _ _ _; first | refine RunU.nilL ?_ | refine RunU.nilD (by kernel_rfl) ?_) | (guard_target =~ RunU _ _ _ _ (Oper.mk (some 46) _ _ _ _ _ :: _) _ _ _ _; refine RunU.doit rfl rfl (step_callZ hT (by exact z10_out rfl) (.sh .nil) (.shAgg rfl gA_ .nil) rfl) ?_) | (guard_target =~ RunU _ _ _ _ (Oper.mk (some 42) (Op.call ⟨Callee.value _, _, _⟩) _ _ _ none :: _) _ _ _ _; first | refine RunU.cons (sC_ (hI) (.sh .nil) (.shAgg rfl gA_ .nil) rfl) ?_) | (guard_target =~ RunU _ _ _ _ (Oper.mk _ _ _ _ _ none :: _) _ _ _ _; first | refine RunU.cons (step_str_neq rfl rfl rfl) ?_) | (guard_target =~ RunU _ _ _ _ (Oper.mk _ _ _ _ _ none :: _) _ _ _ _; refine RunU.cons step_any ?_) | (guard_target =~ RunU _ _ _ _ (Oper.mk _ _ _ _ _ (some _) :: _) _ _ _ _; first | refine RunU.pass rfl rfl rfl rfl ?_ | refine RunU.pass_undef rfl rfl rfl ?_ | (guard_target =~ RunU _ _ _ _ (Oper.mk (some 42) (Op.call ⟨Callee.value _, _, _⟩) _ _ _ _ :: _) _ _ _ _; first | refine RunU.doit rfl rfl (sC_ (hI) (.sh .nil) (.shAgg rfl gA_ .nil) rfl) ?_) | refine RunU.doit rfl rfl (step_str_neq rfl rfl rfl) ?_ | refine RunU.doit rfl rfl step_any ?_ | ((fail_if_success (refine RunU.doit (rd := []) (up := []) rfl rfl ?_ ?_)); first | (refine RunU.guard_dec rfl rfl (fun _ => ?_) (fun _ => ?_) <;> try (exfalso; omega)) | (refine RunU.guard_not rfl rfl (fun _ => ?_) (fun _ => ?_) <;> try (exfalso; omega)) | (refine RunU.guard rfl rfl (fun _ => ?_) (fun _ => ?_) <;> try (exfalso; omega)))) | ((fail_if_success (guard_target =~ @Eq _ _ _)); (fail_if_success (guard_target =~ @Exists _ _)); first | (guard_target =~ Then _ _ _ _ _; refine Then.next ?_) | (guard_target =~ InBlock _ _ _ _ _; refine InBlock.next ?_) | refine Done.ret (.cell inferInstance rfl rfl (.one (by first | exact .c rfl | exact .own rfl | exact .als rfl rfl | exact .ptr rfl rfl | exact .part rfl rfl rfl) .nil)) (.sh .nil) ?_ rfl))
  all_goals first | rfl | (exfalso; omega) | (rename_i q; exact absurd rfl q) | (rename_i q _; exact absurd rfl q)
theorem newImpl_z : CallZ Z10 true Tryd.prog 5 [] [rDe [[2, 3]] [[0]] [-1, 0, 1] [-1, -1, 0] [2, 1, 1] [[0, 2, 1], [3, 0, 1]]] [] := by
 have h1 := parseCu_c
 have h2 := parseCl_c
 have h3 := parsePo_z
 refine callT_of z10_in _ Tryd.func5 rfl Tryd.ntmps5 (by first | exact ⟨rfl, rfl⟩ | (simp only [List.all_cons, List.all_nil, V.solid, D.solid, D.solids, solids_ints, solids_bools, solids_LL, Bool.and_self, Bool.and_true, and_self]; done) | simp [V.solid, D.solid, D.solids, solids_lits, solids_ints, solids_bools, solids_LL]) ?_
 repeat' (first | (guard_target =~ WpA _ _ _ _ _ _; first | refine WpA.seq ?_ | refine WpA.drawU ?_ | refine WpA.regionU ?_ | refine WpA.block ?_ | refine WpA.ret ?_ | refine WpA.skip ?_ | refine WpA.exit ?_ | refine WpA.cond_true rfl ?_ | refine WpA.cond_false rfl ?_ | refine WpA.cond_ntrue rfl ?_ | (refine WpA.cond_dec rfl (fun _ => ?_) (fun _ => ?_) <;> try (exfalso; omega)) | (refine WpA.cond_not rfl (fun _ => ?_) (fun _ => ?_) <;> try (exfalso; omega)) | (refine WpA.cond rfl (fun _ => ?_) (fun _ => ?_) <;> try (exfalso; omega))) | (guard_target =~ RunU _ _ _ _ [] _ _ _ _; first | refine RunU.nilL ?_ | refine RunU.nilD (by kernel_rfl) ?_) | (guard_target =~ RunU _ _ _ _ (Oper.mk (some 16) _ _ _ _ _ :: _) _ _ _ _; refine RunU.cons (step_callZ h3 (by exact z10_out rfl) (.sh .nil) (.sh wS_ .nil) rfl) ?_) | (guard_target =~ RunU _ _ _ _ (Oper.mk (some 8) (Op.call ⟨Callee.value _, _, _⟩) _ _ _ none :: _) _ _ _ _; first | refine RunU.cons (sC_ (h1) (.sh .nil) (.sh wS_ .nil) rfl) ?_) | (guard_target =~ RunU _ _ _ _ (Oper.mk (some 12) (Op.call ⟨Callee.value _, _, _⟩) _ _ _ none :: _) _ _ _ _; first | refine RunU.cons (sC_ (h2) (.sh .nil) (.sh wS_ .nil) rfl) ?_) | (guard_target =~ RunU _ _ _ _ (Oper.mk _ _ _ _ _ none :: _) _ _ _ _; refine RunU.cons step_any ?_) | (guard_target =~ RunU _ _ _ _ (Oper.mk _ _ _ _ _ (some _) :: _) _ _ _ _; first | refine RunU.pass rfl rfl rfl rfl ?_ | refine RunU.pass_undef rfl rfl rfl ?_ | (guard_target =~ RunU _ _ _ _ (Oper.mk (some 8) (Op.call ⟨Callee.value _, _, _⟩) _ _ _ _ :: _) _ _ _ _; first | refine RunU.doit rfl rfl (sC_ (h1) (.sh .nil) (.sh wS_ .nil) rfl) ?_) | (guard_target =~ RunU _ _ _ _ (Oper.mk (some 12) (Op.call ⟨Callee.value _, _, _⟩) _ _ _ _ :: _) _ _ _ _; first | refine RunU.doit rfl rfl (sC_ (h2) (.sh .nil) (.sh wS_ .nil) rfl) ?_) | refine RunU.doit rfl rfl step_any ?_ | ((fail_if_success (refine RunU.doit (rd := []) (up := []) rfl rfl ?_ ?_)); first | (refine RunU.guard_dec rfl rfl (fun _ => ?_) (fun _ => ?_) <;> try (exfalso; omega)) | (refine RunU.guard_not rfl rfl (fun _ => ?_) (fun _ => ?_) <;> try (exfalso; omega)) | (refine RunU.guard rfl rfl (fun _ => ?_) (fun _ => ?_) <;> try (exfalso; omega)))) | ((fail_if_success (guard_target =~ @Eq _ _ _)); (fail_if_success (guard_target =~ @Exists _ _)); first | (guard_target =~ Then _ _ _ _ _; refine Then.next ?_) | (guard_target =~ InBlock _ _ _ _ _; refine InBlock.next ?_) | refine Done.ret (.cell inferInstance rfl rfl .nil) .nil ?_ rfl))
 all_goals try first | rfl | (exfalso; omega)
abbrev rDeF (B C : List (List Int)) (P S W : List Int) (L : List (List Int)) : V := .agg [.sl false 1 (LLs B), .sl false 1 (LLs C), .sl false 1 (ints P), .sl false 1 (ints S), .sl false 1 (ints W), .sl false 1 (LLs L)]
theorem newSpec_f : CallF Tryd.prog 9 [] [rDeF [[2, 3]] [[0]] [-1, 0, 1] [-1, -1, 0] [2, 1, 1] [[0, 2, 1], [3, 0, 1]]] := by
 have hCo := l06Code_c [2, 3] br23 3 (by omega)
 have hSe := l06Sequence_c [2, 3] br23 3 (by omega)
 rw [show cdL (mulK [2, 3] 3) = [0, 2] by decide +kernel] at hCo
 rw [show mulK [2, 3] 3 = [2, 1, 1] by decide +kernel] at hSe
 have hB := branch7_c [2, 3] [0, 2] [2, 1, 1] 3 (by omega) (by decide) (fun i => by match i with | 0 => decide | 1 => decide | i + 2 => simp) hCo hSe
 rw [show parT 3 = [-1, 0, 1] by decide, show secT [0, 2] 3 = [-1, -1, 0] by decide] at hB
 clear hCo hSe
 refine callF_of _ Tryd.func9 rfl Tryd.ntmps9 rfl ?_
 repeat' (first | (guard_target =~ WpA _ _ _ _ _ _; first | refine WpA.freezeInC 4 1 [.sl false 1 (ints [2, 3])] rfl rfl rfl (by show D.erases [D.sl true 1 (ints [2, 3])] = _; simp only [D.erases, D.erase, eI_]) ?_ | refine WpA.seq ?_ | refine WpA.drawU ?_ | refine WpA.regionU ?_ | refine WpA.block ?_ | refine WpA.ret ?_ | refine WpA.skip ?_ | refine WpA.exit ?_ | refine WpA.cond_true rfl ?_ | refine WpA.cond_false rfl ?_ | refine WpA.cond_ntrue rfl ?_ | (refine WpA.cond_dec rfl (fun _ => ?_) (fun _ => ?_) <;> try (exfalso; omega)) | (refine WpA.cond_not rfl (fun _ => ?_) (fun _ => ?_) <;> try (exfalso; omega)) | (refine WpA.cond rfl (fun _ => ?_) (fun _ => ?_) <;> try (exfalso; omega))) | (guard_target =~ RunU _ _ _ _ [] _ _ _ _; first | refine RunU.nilL ?_ | refine RunU.nilD (by kernel_rfl) ?_) | (guard_target =~ RunU _ _ _ _ (Oper.mk (some 10) (Op.call ⟨Callee.value _, _, _⟩) _ _ _ none :: _) _ _ _ _; first | refine RunU.cons (sC_ (hB) (.sh (.sh .nil)) (.shAgg rfl gA_ (.sh wS_ .nil)) rfl) ?_) | (guard_target =~ RunU _ _ _ _ (Oper.mk _ _ _ _ _ none :: _) _ _ _ _; refine RunU.cons step_any ?_) | (guard_target =~ RunU _ _ _ _ (Oper.mk _ _ _ _ _ (some _) :: _) _ _ _ _; first | refine RunU.pass rfl rfl rfl rfl ?_ | refine RunU.pass_undef rfl rfl rfl ?_ | (guard_target =~ RunU _ _ _ _ (Oper.mk (some 10) (Op.call ⟨Callee.value _, _, _⟩) _ _ _ _ :: _) _ _ _ _; first | refine RunU.doit rfl rfl (sC_ (hB) (.sh (.sh .nil)) (.shAgg rfl gA_ (.sh wS_ .nil)) rfl) ?_) | refine RunU.doit rfl rfl step_any ?_ | ((fail_if_success (refine RunU.doit (rd := []) (up := []) rfl rfl ?_ ?_)); first | (refine RunU.guard_dec rfl rfl (fun _ => ?_) (fun _ => ?_) <;> try (exfalso; omega)) | (refine RunU.guard_not rfl rfl (fun _ => ?_) (fun _ => ?_) <;> try (exfalso; omega)) | (refine RunU.guard rfl rfl (fun _ => ?_) (fun _ => ?_) <;> try (exfalso; omega)))) | ((fail_if_success (guard_target =~ @Eq _ _ _)); (fail_if_success (guard_target =~ @Exists _ _)); first | (guard_target =~ Then _ _ _ _ _; refine Then.next ?_) | (guard_target =~ InBlock _ _ _ _ _; refine InBlock.next ?_) | refine DoneF.ret (.cell inferInstance rfl rfl .nil) rfl | refine DoneF.ret (.cell inferInstance rfl rfl .nil) ?_ | refine DoneF.normal (.cell inferInstance rfl rfl .nil) rfl | refine DoneF.normal (.cell inferInstance rfl rfl .nil) ?_))
 all_goals try first | rfl | (exfalso; omega)
theorem newSpec2_f : CallF Tryd.prog 4 [] [rDeF [[2, 3]] [[0]] [-1, 0, 1] [-1, -1, 0] [2, 1, 1] [[0, 2, 1], [3, 0, 1]]] := by
 have h := newSpec_f
 refine callF_of _ Tryd.func4 rfl Tryd.ntmps4 rfl ?_
 repeat' (first | (guard_target =~ WpA _ _ _ _ _ _; first | refine WpA.seq ?_ | refine WpA.drawU ?_ | refine WpA.regionU ?_ | refine WpA.block ?_ | refine WpA.ret ?_ | refine WpA.skip ?_ | refine WpA.exit ?_ | refine WpA.cond_true rfl ?_ | refine WpA.cond_false rfl ?_ | refine WpA.cond_ntrue rfl ?_ | (refine WpA.cond_dec rfl (fun _ => ?_) (fun _ => ?_) <;> try (exfalso; omega)) | (refine WpA.cond_not rfl (fun _ => ?_) (fun _ => ?_) <;> try (exfalso; omega)) | (refine WpA.cond rfl (fun _ => ?_) (fun _ => ?_) <;> try (exfalso; omega))) | (guard_target =~ RunU _ _ _ _ [] _ _ _ _; first | refine RunU.nilL ?_ | refine RunU.nilD (by kernel_rfl) ?_) | (guard_target =~ RunU _ _ _ _ (Oper.mk _ (Op.call ⟨Callee.value _, _, _⟩) _ _ _ none :: _) _ _ _ _; first | refine RunU.consX (step_callF (h) .nil .nil rfl rfl) ?_) | (guard_target =~ RunU _ _ _ _ (Oper.mk _ _ _ _ _ none :: _) _ _ _ _; refine RunU.cons step_any ?_) | (guard_target =~ RunU _ _ _ _ (Oper.mk _ _ _ _ _ (some _) :: _) _ _ _ _; first | refine RunU.pass rfl rfl rfl rfl ?_ | refine RunU.pass_undef rfl rfl rfl ?_ | (guard_target =~ RunU _ _ _ _ (Oper.mk _ (Op.call ⟨Callee.value _, _, _⟩) _ _ _ _ :: _) _ _ _ _; first | refine RunU.doit rfl rfl (step_callF (h) .nil .nil rfl rfl) ?_) | refine RunU.doit rfl rfl step_any ?_ | ((fail_if_success (refine RunU.doit (rd := []) (up := []) rfl rfl ?_ ?_)); first | (refine RunU.guard_dec rfl rfl (fun _ => ?_) (fun _ => ?_) <;> try (exfalso; omega)) | (refine RunU.guard_not rfl rfl (fun _ => ?_) (fun _ => ?_) <;> try (exfalso; omega)) | (refine RunU.guard rfl rfl (fun _ => ?_) (fun _ => ?_) <;> try (exfalso; omega)))) | ((fail_if_success (guard_target =~ @Eq _ _ _)); (fail_if_success (guard_target =~ @Exists _ _)); first | (guard_target =~ Then _ _ _ _ _; refine Then.next ?_) | (guard_target =~ InBlock _ _ _ _ _; refine InBlock.next ?_) | refine DoneF.ret (.cell inferInstance rfl rfl .nil) rfl | refine DoneF.ret (.cell inferInstance rfl rfl .nil) ?_ | refine DoneF.normal (.cell inferInstance rfl rfl .nil) rfl | refine DoneF.normal (.cell inferInstance rfl rfl .nil) ?_))
 all_goals try first | rfl | (exfalso; omega)
end Go.Proofs.YtpeioofkihpldaaDoor
namespace Go.Proofs.YtpeioofkihpldaaDoor
set_option maxHeartbeats 20000000
open Go.Pv
open Go.ChangeShapes Go.WideShapes Go.ChangeAt Go.RowKit
attribute [local irreducible] RunU WpA Step CallG CallNG Done DoneN
instance fnOk16 : FnOk Tryd.prog 16 := ⟨_, Tryd.func16, rfl, by decide⟩
instance fnOk19 : FnOk Tryd.prog 19 := ⟨_, Tryd.func19, rfl, by decide⟩
theorem two_cells {F : Nat → Prop} {w : World} {d1 d2 : D} {r : Rho} {us : List Value} {M : List Nat} (h : RDs F w [d1, d2] 0 r us M) : ∃ u1 u2, us = [u1, u2] := by
 have := h.length
 match us, this with
 | [u1, u2], _ => exact ⟨u1, u2, rfl⟩
theorem markCurve_ia (A B : List (List Int)) (k : Int) (hA : A.length ≤ 100) (hB : B.length ≤ 100) (ha : ∀ i, (A.getD i []).length ≤ 1000) (hb : ∀ i, (B.getD i []).length ≤ 1000) (hk : 0 ≤ k ∧ k ≤ 1000) :
    CallIA Tryd.prog 16 [.sl true 1 (LL A), .sl true 1 (LL B)] [.int .i64 k] [.int .i64 (k + tot A A.length + tot B B.length)] [.sl true 1 (LL (marksTo k A A.length)), .sl true 1 (LL (marksTo (k + tot A A.length) B B.length))] := by
  have hta := tot_le ha A.length
  intro w us M F r hF h hnd hM
  obtain ⟨u1, u2, rfl⟩ := two_cells h
  obtain ⟨h1, hF1, hM1⟩ := rds_alloc (.cells #[u1, u2] 25) hF h hM
  have hsa : w.heap.size < (w.alloc (.cells #[u1, u2] 25)).heap.size := by simp
  obtain ⟨u, hu, hcall⟩ := io_at (P := Tryd.prog) (markBranchS_c A k (by omega) ha (by omega)) (j := 0) rfl rfl hF1 h1 hnd hM1
  obtain rfl : u1 = u := by simpa using hu
  go_enter Tryd.func16, Tryd.ntmps16
  go_wp2_with (go_at_call 37; refine hcall.mono ?_; rintro e w1 ⟨r1, Lo1, rfl, hone1, hk1, hr1, hn1, hL1⟩)
  all_goals (have hsm := (hk1.block w.heap.size (by simp) (fun hm => by have := hM _ hm; omega)).trans (alloc_new w (.cells #[u1, u2] 25)); have hb : w1.cell? ⟨w.heap.size, 1, none⟩ = some u2 := by simp [World.cell?, hsm])
  all_goals first
    | (have hno : w1.cell? ⟨w.heap.size, 1, none⟩ = none := by assumption
       rw [hb] at hno; cases hno)
    | skip
  rename_i K1 a1 K2 a2 _ _ heq
  rw [hb] at heq
  cases heq
  refine a2 _ _ ?_
  have hF2 : ∀ g, F g → g < w1.heap.size ∧ g ∉ Lo1 := fun g hg => ⟨Nat.lt_of_lt_of_le (hF1 g hg).1 hk1.size, fun hm => by
    rcases (hL1 g hm).2 with h | h
    · exact (hF1 g hg).2 h
    · have := (hF1 g hg).1; omega⟩
  obtain ⟨u, hu, hcall2⟩ := io_at (P := Tryd.prog) (markSS_c B (k + tot A A.length) (by omega) (by assumption) (by omega)) (j := 1) rfl rfl hF2 hr1 hn1 (fun g hg => (hL1 g hg).1)
  obtain rfl : u2 = u := by simpa using hu
  go_wp2_with (go_at_call 38; refine hcall2.mono ?_; rintro e w2 ⟨r2, Lo2, rfl, hone2, hk2, hr2, hn2, hL2⟩)
  go_ret
  refine ⟨r2, Lo2, rfl, one_res hone2, keep_alloc (hk1.trans hk2 fun g hg hlt => ?_), hr2, hn2, fresh_alloc (o := .cells #[u1, u2] 25) fun g hg => ⟨(hL2 g hg).1, ?_⟩⟩
  · rcases (hL1 g hg).2 with h | h
    · exact h
    · omega
  · rcases (hL2 g hg).2 with h | h
    · exact (hL1 g h).2
    · have := hk1.size; exact .inr (by omega)
theorem heldCurve_c (A B : List (List Int)) (k : Int) (ha : Held k A) (hb : Held (k + tot A A.length) B) (hA : A.length ≤ 100) (hB : B.length ≤ 100) (hla : ∀ i, (A.getD i []).length ≤ 1000) (hlb : ∀ i, (B.getD i []).length ≤ 1000) (hk : 0 ≤ k ∧ k ≤ 1000) : CallA Tryd.prog 19 [aCu A B, aI k] [rI (k + tot A A.length + tot B B.length)] [] := by
 have hta := tot_le hla A.length
 have htb := tot_le hlb B.length
 have h1 := heldBranchS_c A k ha (by omega) hla (by omega)
 have h2 := heldSS_c B (k + tot A A.length) hb (by omega) hlb (by omega)
 clear ha hb hla hlb
 refine cA_ _ Tryd.func19 rfl Tryd.ntmps19 (by first | exact ⟨rfl, rfl⟩ | (simp only [List.all_cons, List.all_nil, V.solid, D.solid, D.solids, solids_ints, solids_bools, solids_LL, Bool.and_self, Bool.and_true, and_self]; done) | simp [V.solid, D.solid, D.solids, solids_lits, solids_ints, solids_bools, solids_LL]) ?_
 repeat' (first | (guard_target =~ WpA _ _ _ _ _ _; first | refine WpA.seq ?_ | refine WpA.drawU ?_ | refine WpA.regionU ?_ | refine WpA.block ?_ | refine WpA.ret ?_ | refine WpA.skip ?_ | refine WpA.exit ?_ | refine WpA.cond_true rfl ?_ | refine WpA.cond_false rfl ?_ | refine WpA.cond_ntrue rfl ?_ | refine WpA.cond_dec rfl (fun _ => ?_) (fun _ => ?_) | refine WpA.cond_not rfl (fun _ => ?_) (fun _ => ?_) | refine WpA.cond rfl (fun _ => ?_) (fun _ => ?_)) | (guard_target =~ RunU _ _ _ _ [] _ _ _ _; first | refine RunU.nilL ?_ | refine RunU.nilD (by kernel_rfl) ?_) | (guard_target =~ RunU _ _ _ _ (Oper.mk (some 8) (Op.call ⟨Callee.value _, _, _⟩) _ _ _ none :: _) _ _ _ _; first | refine RunU.cons (sC_ (h1) (.sh (.sh .nil)) (.sh wS_ (.sh wS_ .nil)) rfl) ?_) | (guard_target =~ RunU _ _ _ _ (Oper.mk (some 14) (Op.call ⟨Callee.value _, _, _⟩) _ _ _ none :: _) _ _ _ _; first | refine RunU.cons (sC_ (h2) (.sh (.sh .nil)) (.sh wS_ (.sh wS_ .nil)) rfl) ?_) | (guard_target =~ RunU _ _ _ _ (Oper.mk _ _ _ _ _ none :: _) _ _ _ _; refine RunU.cons step_any ?_) | (guard_target =~ RunU _ _ _ _ (Oper.mk _ _ _ _ _ (some _) :: _) _ _ _ _; first | refine RunU.pass rfl rfl rfl rfl ?_ | refine RunU.pass_undef rfl rfl rfl ?_ | (guard_target =~ RunU _ _ _ _ (Oper.mk (some 8) (Op.call ⟨Callee.value _, _, _⟩) _ _ _ _ :: _) _ _ _ _; first | refine RunU.doit rfl rfl (sC_ (h1) (.sh (.sh .nil)) (.sh wS_ (.sh wS_ .nil)) rfl) ?_) | (guard_target =~ RunU _ _ _ _ (Oper.mk (some 14) (Op.call ⟨Callee.value _, _, _⟩) _ _ _ _ :: _) _ _ _ _; first | refine RunU.doit rfl rfl (sC_ (h2) (.sh (.sh .nil)) (.sh wS_ (.sh wS_ .nil)) rfl) ?_) | refine RunU.doit rfl rfl step_any ?_ | ((fail_if_success (refine RunU.doit (rd := []) (up := []) rfl rfl ?_ ?_)); first | refine RunU.guard_dec rfl rfl (fun _ => ?_) (fun _ => ?_) | refine RunU.guard_not rfl rfl (fun _ => ?_) (fun _ => ?_) | refine RunU.guard rfl rfl (fun _ => ?_) (fun _ => ?_))) | ((fail_if_success (guard_target =~ @Eq _ _ _)); (fail_if_success (guard_target =~ @Exists _ _)); first | refine Then.next ?_ | refine InBlock.next ?_ | refine Done.ret (.one (by first | exact .c rfl | exact .own rfl | exact .als rfl rfl | exact .ptr rfl rfl | exact .part rfl rfl rfl) .nil) (.sh (.sh .nil)) ?_ rfl))
 all_goals first | rfl | (exfalso; omega)
instance fnOk18 : FnOk Tryd.prog 18 := ⟨_, Tryd.func18, rfl, by decide⟩
instance fnOk7 : FnOk Tryd.prog 7 := ⟨_, Tryd.func7, rfl, by decide⟩
instance fnOk21 : FnOk Tryd.prog 21 := ⟨_, Tryd.func21, rfl, by decide⟩
instance fnOk20 : FnOk Tryd.prog 20 := ⟨_, Tryd.func20, rfl, by decide⟩
instance fnOk8 : FnOk Tryd.prog 8 := ⟨_, Tryd.func8, rfl, by decide⟩
theorem rds_congr {F : Nat → Prop} {w : World} : ∀ (ds : List D) (k : Nat) (r r' : Rho) (us : List Value) (L : List Nat), (∀ j, k ≤ j → j < k + ds.length → r.at j = r'.at j) → RDs F w ds k r us L → RDs F w ds k r' us L
 | [], _, _, _, _, _, _, h => by simpa only [RDs] using h
 | d :: ds, k, r, r', us, L, hr, h => by
  simp only [RDs] at h ⊢
  obtain ⟨u, us', L1, L2, rfl, rfl, h1, h2⟩ := h
  refine ⟨u, us', L1, L2, rfl, rfl, ?_, rds_congr ds (k + 1) r r' us' L2 (fun j hj hj2 => hr j (by omega) (by simp only [List.length_cons]; omega)) h2⟩
  rw [← hr k (Nat.le_refl _) (by simp only [List.length_cons]; omega)]
  exact h1
def shR (c : Nat) (r : Rho) : Rho := fun π => match π with
 | [] => r []
 | j :: q => r ((j + c) :: q)
theorem rds_shift {F : Nat → Prop} {w : World} (c : Nat) (r : Rho) : ∀ (ds : List D) (k : Nat) (us : List Value) (L : List Nat), RDs F w ds (k + c) r us L ↔ RDs F w ds k (shR c r) us L
 | [], _, _, _ => by simp only [RDs]
 | d :: ds, k, us, L => by
  have e : (shR c r).at k = r.at (k + c) := rfl
  have ih := fun us L => rds_shift (F := F) (w := w) c r ds (k + 1) us L
  rw [show k + 1 + c = k + c + 1 by omega] at ih
  simp only [RDs, e, ih]
theorem rds_app {F : Nat → Prop} {w : World} (r : Rho) (es : List D) : ∀ (ds : List D) (k : Nat) (us : List Value) (L : List Nat), RDs F w (ds ++ es) k r us L ↔ ∃ us1 us2 L1 L2, us = us1 ++ us2 ∧ L = L1 ++ L2 ∧ RDs F w ds k r us1 L1 ∧ RDs F w es (k + ds.length) r us2 L2
 | [], k, us, L => by
  simp only [List.nil_append, RDs, List.length_nil, Nat.add_zero]
  constructor
  ·intro h; exact ⟨[], us, [], L, rfl, rfl, ⟨rfl, rfl⟩, h⟩
  ·rintro ⟨us1, us2, L1, L2, rfl, rfl, ⟨rfl, rfl⟩, h⟩; exact h
 | d :: ds, k, us, L => by
  have ih := fun us L => rds_app (F := F) (w := w) r es ds (k + 1) us L
  simp only [List.cons_append, RDs, ih, List.length_cons]
  constructor
  ·rintro ⟨u, us', L1, L2, rfl, rfl, h1, us1, us2, L3, L4, rfl, rfl, h2, h3⟩
   exact ⟨u :: us1, us2, L1 ++ L3, L4, rfl, by simp, ⟨u, us1, L1, L3, rfl, rfl, h1, h2⟩, by rw [show k + (ds.length + 1) = k + 1 + ds.length by omega]; exact h3⟩
  ·rintro ⟨us1, us2, L1, L2, rfl, rfl, ⟨u, us', L3, L4, rfl, rfl, h1, h2⟩, h3⟩
   exact ⟨u, us' ++ us2, L3, L4 ++ L2, rfl, by simp, h1, us', us2, L4, L2, rfl, rfl, h2, by rw [show k + 1 + ds.length = k + (ds.length + 1) by omega]; exact h3⟩
theorem ia_seg {P : Program} {K : FuncId} {ds1 ds2 ds2' ds3 : List D} {ks rs : List Value} (hc : CallIA P K ds2 ks rs ds2') (hl : ds2'.length = ds2.length) {w : World} {us : List Value} {M : List Nat} {F : Nat → Prop} {r : Rho}
  (hF : ∀ g, F g → g < w.heap.size ∧ g ∉ M) (h : RDs F w (ds1 ++ (ds2 ++ ds3)) 0 r us M) (hnd : M.Nodup) (hM : ∀ g ∈ M, g < w.heap.size) :
  ∃ us1 us2 us3, us = us1 ++ (us2 ++ us3) ∧ us1.length = ds1.length ∧ us2.length = ds2.length ∧ Calls P K (.agg us2.toArray :: ks).toArray w fun e w' => ∃ r' Lo, e = .returned (retVal rs) ∧ (∀ v ∈ rs, v.oneCell' = true) ∧ Keep w M w' ∧ RDs F w' (ds1 ++ (ds2' ++ ds3)) 0 r' us Lo ∧ Lo.Nodup ∧ ∀ g ∈ Lo, g < w'.heap.size ∧ (g ∈ M ∨ w.heap.size ≤ g) := by
 obtain ⟨us1, us', A, L', rfl, rfl, h1, h'⟩ := (rds_app r _ ds1 0 us M).1 h
 obtain ⟨us2, us3, B, C, rfl, rfl, h2, h3⟩ := (rds_app r ds3 ds2 _ us' L').1 h'
 rw [Nat.zero_add] at h2 h3
 have h2s := (rds_shift ds1.length r ds2 0 us2 B).1 (by rw [Nat.zero_add]; exact h2)
 have hnd2 := hnd
 simp only [List.nodup_append, List.mem_append] at hnd2
 refine ⟨us1, us2, us3, rfl, h1.length, h2.length, (hc w us2 B F (shR ds1.length r) (fun g hg => ⟨(hF g hg).1, fun hm => (hF g hg).2 (by simp [hm])⟩) h2s hnd2.2.1.1 (fun g hg => hM g (by simp [hg]))).mono ?_⟩
 rintro e w' ⟨r', Lo, he, hone, hk, hr, hn, hL⟩
 have hsF : ∀ g, F g → Same w w' g := fun g hg => hk.block g (hF g hg).1 (fun hm => (hF g hg).2 (by simp [hm]))
 have hsA : ∀ g ∈ A, Same w w' g := fun g hg => hk.block g (hM g (by simp [hg])) (fun hm => hnd2.2.2 g hg g (.inl hm) rfl)
 have hsC : ∀ g ∈ C, Same w w' g := fun g hg => hk.block g (hM g (by simp [hg])) (fun hm => hnd2.2.1.2.2 g hm g hg rfl)
 have k1 := RDs.same (fun _ h => h) hsF ds1 0 r us1 A h1 hsA
 have k3 := RDs.same (fun _ h => h) hsF ds3 _ r us3 C h3 hsC
 let R : Rho := fun π => match π with
  | [] => r []
  | j :: q => if ds1.length ≤ j ∧ j < ds1.length + ds2.length then r' ((j - ds1.length) :: q) else r (j :: q)
 have e1 : RDs F w' ds1 0 R us1 A := rds_congr ds1 0 r R us1 A (fun j _ hj => by
  funext q
  show r (j :: q) = if ds1.length ≤ j ∧ j < ds1.length + ds2.length then r' ((j - ds1.length) :: q) else r (j :: q)
  rw [if_neg (by omega)]) k1
 have e3 : RDs F w' ds3 (ds1.length + ds2.length) R us3 C := rds_congr ds3 _ r R us3 C (fun j hj _ => by
  funext q
  show r (j :: q) = if ds1.length ≤ j ∧ j < ds1.length + ds2.length then r' ((j - ds1.length) :: q) else r (j :: q)
  rw [if_neg (by omega)]) k3
 have e2 : RDs F w' ds2' ds1.length R us2 Lo := by
  have := (rds_shift (F := F) (w := w') ds1.length R ds2' 0 us2 Lo).2 (rds_congr ds2' 0 r' (shR ds1.length R) us2 Lo (fun j _ hj => by
   funext q
   show r' (j :: q) = if ds1.length ≤ j + ds1.length ∧ j + ds1.length < ds1.length + ds2.length then r' ((j + ds1.length - ds1.length) :: q) else r ((j + ds1.length) :: q)
   rw [if_pos (by omega), Nat.add_sub_cancel]) hr)
  rwa [Nat.zero_add] at this
 refine ⟨R, A ++ (Lo ++ C), he, hone, ⟨hk.os, hk.tape, hk.output, hk.size, fun g hg hn => hk.block g hg (fun hm => hn (by simp [hm])), hk.drawn⟩, (rds_app R _ ds1 0 _ _).2 ⟨us1, us2 ++ us3, A, Lo ++ C, rfl, rfl, e1, ?_⟩, ?_, fun g hg => ?_⟩
 ·rw [Nat.zero_add]
  exact (rds_app R ds3 ds2' _ _ _).2 ⟨us2, us3, Lo, C, rfl, rfl, e2, by rw [hl]; exact e3⟩
 ·have hf : ∀ g ∈ Lo, g ∉ A ∧ g ∉ C := fun g hg => by
   rcases (hL g hg).2 with h | h
   ·exact ⟨fun h' => hnd2.2.2 g h' g (.inl h) rfl, fun h' => hnd2.2.1.2.2 g h g h' rfl⟩
   ·exact ⟨fun h' => by have := hM g (by simp [h']); omega, fun h' => by have := hM g (by simp [h']); omega⟩
  simp only [List.nodup_append, List.mem_append]
  grind
 ·simp only [List.mem_append] at hg
  rcases hg with hg | hg | hg
  ·exact ⟨Nat.lt_of_lt_of_le (hM g (by simp [hg])) hk.size, .inl (by simp [hg])⟩
  ·refine ⟨(hL g hg).1, ?_⟩
   rcases (hL g hg).2 with h | h
   ·exact .inl (by simp [h])
   ·exact .inr h
  ·exact ⟨Nat.lt_of_lt_of_le (hM g (by simp [hg])) hk.size, .inl (by simp [hg])⟩
theorem one_cellP {F : Nat → Prop} {w : World} {d1 : D} {r : Rho} {us : List Value} {M : List Nat} (h : RDs F w [d1] 0 r us M) : ∃ u1, us = [u1] := by
 have := h.length
 match us, this with
 | [u1], _ => exact ⟨u1, rfl⟩
theorem markPoly_ia (B : List (List Int)) (k : Int) (hB : B.length ≤ 100) (hb : ∀ i, (B.getD i []).length ≤ 1000) (hk : 0 ≤ k ∧ k ≤ 1000000) :
  CallIA Tryd.prog 18 [.sl true 1 (LL B)] [.int .i64 k] [.int .i64 (k + tot B B.length)] [.sl true 1 (LL (marksTo k B B.length))] := by
 intro w us M F r hF h hnd hM
 obtain ⟨u1, rfl⟩ := one_cellP h
 obtain ⟨h1, hF1, hM1⟩ := rds_alloc (.cells #[u1] 30) hF h hM
 obtain ⟨u, hu, hcall⟩ := io_at (P := Tryd.prog) (markSS_c B k (by omega) hb (by omega)) (j := 0) rfl rfl hF1 h1 hnd hM1
 obtain rfl : u1 = u := by simpa using hu
 go_enter Tryd.func18, Tryd.ntmps18
 go_wp2_with (go_at_call 38; refine hcall.mono ?_; rintro e w1 ⟨r1, Lo1, rfl, hone1, hk1, hr1, hn1, hL1⟩)
 go_ret
 exact ⟨r1, Lo1, rfl, one_res hone1, keep_alloc hk1, hr1, hn1, fresh_alloc (o := .cells #[u1] 30) hL1⟩
theorem six_cells {F : Nat → Prop} {w : World} {d1 d2 d3 d4 d5 d6 : D} {r : Rho} {us : List Value} {M : List Nat} (h : RDs F w [d1, d2, d3, d4, d5, d6] 0 r us M) : ∃ u1 u2 u3 u4 u5 u6, us = [u1, u2, u3, u4, u5, u6] := by
 have := h.length
 match us, this with
 | [u1, u2, u3, u4, u5, u6], _ => exact ⟨u1, u2, u3, u4, u5, u6, rfl⟩
theorem seg_of {u1 u2 u3 u4 u5 u6 : Value} {a b c : List Value} (h : [u1, u2, u3, u4, u5, u6] = a ++ (b ++ c)) (ha : a.length = 2) (hb : b.length = 3) : b = [u3, u4, u5] := by
 match a, ha, b, hb with
 | [x, y], _, [p, q, r], _ => simp at h; simp [h]
theorem seg0_of {u1 u2 u3 u4 u5 u6 : Value} {a b c : List Value} (h : [u1, u2, u3, u4, u5, u6] = a ++ (b ++ c)) (ha : a.length = 0) (hb : b.length = 2) : b = [u1, u2] := by
 match a, ha, b, hb with
 | [], _, [p, q], _ => simp at h; simp [h]
theorem seg5_of {u1 u2 u3 u4 u5 u6 : Value} {a b c : List Value} (h : [u1, u2, u3, u4, u5, u6] = a ++ (b ++ c)) (ha : a.length = 5) (hb : b.length = 1) : b = [u6] := by
 match a, ha, b, hb with
 | [x1, x2, x3, x4, x5], _, [p], _ => simp at h; simp [h]
theorem markDesk_ia (A B : List (List Int)) (P S W : List Int) (L : List (List Int)) (k : Int) (hA : A.length ≤ 100) (hB : B.length ≤ 100) (ha : ∀ i, (A.getD i []).length ≤ 1000) (hb : ∀ i, (B.getD i []).length ≤ 1000) (hP : P.length ≤ 1000) (hS : S.length ≤ 1000) (hW : W.length ≤ 1000)
  (hL : L.length ≤ 100) (hl : ∀ i, (L.getD i []).length ≤ 1000) (hk : 0 ≤ k ∧ k ≤ 1000) :
  CallIA Tryd.prog 7 [.sl true 1 (LL A), .sl true 1 (LL B), .sl true 1 (ints P), .sl true 1 (ints S), .sl true 1 (ints W), .sl true 1 (LL L)] [.int .i64 k] [.int .i64 (k + tot A A.length + tot B B.length + P.length + S.length + W.length + tot L L.length)]
   [.sl true 1 (LL (marksTo k A A.length)), .sl true 1 (LL (marksTo (k + tot A A.length) B B.length)), .sl true 1 (ints (marks (k + tot A A.length + tot B B.length) P.length)), .sl true 1 (ints (marks (k + tot A A.length + tot B B.length + P.length) S.length)), .sl true 1 (ints (marks (k + tot A A.length + tot B B.length + P.length + S.length) W.length)), .sl true 1 (LL (marksTo (k + tot A A.length + tot B B.length + P.length + S.length + W.length) L L.length))] := by
 have hta := tot_le ha A.length
 have htb := tot_le hb B.length
 intro w us M F r hF h hnd hM
 obtain ⟨u1, u2, u3, u4, u5, u6, rfl⟩ := six_cells h
 obtain ⟨h1, hF1, hM1⟩ := rds_alloc (.cells #[u1, u2, u3, u4, u5, u6] 32) hF h hM
 have hsa : w.heap.size < (w.alloc (.cells #[u1, u2, u3, u4, u5, u6] 32)).heap.size := by simp
 obtain ⟨a1, b1, c1, e1, l1, l2, hcall⟩ := ia_seg (P := Tryd.prog) (ds1 := []) (ds3 := [.sl true 1 (ints P), .sl true 1 (ints S), .sl true 1 (ints W), .sl true 1 (LL L)]) (markCurve_ia A B k hA hB ha hb (by omega)) rfl hF1 h1 hnd hM1
 obtain rfl := seg0_of e1 l1 l2
 clear e1 l1 l2
 go_enter Tryd.func7, Tryd.ntmps7
 go_wp2_with (go_at_call 16; refine hcall.mono ?_; rintro e w1 ⟨r1, Lo1, rfl, hone1, hk1, hr1, hn1, hL1⟩; have hsm1 := (hk1.block w.heap.size (by simp) (fun hm => by have := hM _ hm; omega)).trans (alloc_new w (.cells #[u1, u2, u3, u4, u5, u6] 32)); have q2 : w1.cell? ⟨w.heap.size, 2, none⟩ = some u3 := (by simp [World.cell?, hsm1]); have q3 : w1.cell? ⟨w.heap.size, 3, none⟩ = some u4 := (by simp [World.cell?, hsm1]); have q4 : w1.cell? ⟨w.heap.size, 4, none⟩ = some u5 := (by simp [World.cell?, hsm1]))
 have hsz := hk1.size
 have hF2 : ∀ g, F g → g < w1.heap.size ∧ g ∉ Lo1 := fun g hg => ⟨Nat.lt_of_lt_of_le (hF1 g hg).1 hk1.size, fun hm => by
  rcases (hL1 g hm).2 with h | h
  ·exact (hF1 g hg).2 h
  ·have := (hF1 g hg).1; omega⟩
 have hno1 : w.heap.size ∉ Lo1 := fun hm => by
  rcases (hL1 _ hm).2 with h | h
  ·have := hM _ h; omega
  ·omega
 obtain ⟨a2, b2, c2, e2, m1, m2, hcall2⟩ := ia_seg (P := Tryd.prog) (ds1 := [.sl true 1 (LL (marksTo k A A.length)), .sl true 1 (LL (marksTo (k + tot A A.length) B B.length))]) (ds3 := [.sl true 1 (LL L)]) (markCluster_ia P S W (k + tot A A.length + tot B B.length) (by omega) (by omega) (by omega) (by omega)) rfl hF2 hr1 hn1 (fun g hg => (hL1 g hg).1)
 obtain rfl := seg_of e2 m1 m2
 clear e2 m1 m2
 have hs1 : w.heap.size < w1.heap.size := by omega
 go_wp2_with (go_at_call 17; refine hcall2.mono ?_; rintro e w2 ⟨r2, Lo2, rfl, hone2, hk2, hr2, hn2, hL2⟩; have hsm2 := (hk2.block w.heap.size hs1 hno1).trans hsm1; have q5 : w2.cell? ⟨w.heap.size, 5, none⟩ = some u6 := (by simp [World.cell?, hsm2]))
 have hF3 : ∀ g, F g → g < w2.heap.size ∧ g ∉ Lo2 := fun g hg => ⟨Nat.lt_of_lt_of_le (hF2 g hg).1 hk2.size, fun hm => by
  rcases (hL2 g hm).2 with h | h
  ·exact (hF2 g hg).2 h
  ·have := (hF2 g hg).1; omega⟩
 obtain ⟨a3, b3, c3, e3, m3, m4, hcall3⟩ := ia_seg (P := Tryd.prog) (ds1 := [.sl true 1 (LL (marksTo k A A.length)), .sl true 1 (LL (marksTo (k + tot A A.length) B B.length)), .sl true 1 (ints (marks (k + tot A A.length + tot B B.length) P.length)), .sl true 1 (ints (marks (k + tot A A.length + tot B B.length + P.length) S.length)), .sl true 1 (ints (marks (k + tot A A.length + tot B B.length + P.length + S.length) W.length))]) (ds3 := []) (markPoly_ia L (k + tot A A.length + tot B B.length + P.length + S.length + W.length) hL hl (by omega)) rfl hF3 hr2 hn2 (fun g hg => (hL2 g hg).1)
 obtain rfl := seg5_of e3 m3 m4
 clear e3 m3 m4
 go_wp2_with (go_at_call 18; refine hcall3.mono ?_; rintro e w3 ⟨r3, Lo3, rfl, hone3, hk3, hr3, hn3, hL3⟩)
 go_ret
 have hk12 : Keep (w.alloc (.cells #[u1, u2, u3, u4, u5, u6] 32)) M w2 := hk1.trans hk2 fun g hg hlt => by
  rcases (hL1 g hg).2 with h | h
  ·exact h
  ·omega
 have hL12 : ∀ g ∈ Lo2, g < w2.heap.size ∧ (g ∈ M ∨ (w.alloc (.cells #[u1, u2, u3, u4, u5, u6] 32)).heap.size ≤ g) := fun g hg => ⟨(hL2 g hg).1, by
  rcases (hL2 g hg).2 with h | h
  ·exact (hL1 g h).2
  ·exact .inr (Nat.le_trans hk1.size h)⟩
 refine ⟨r3, Lo3, rfl, hone3, keep_alloc (hk12.trans hk3 fun g hg hlt => ?_), hr3, hn3, fresh_alloc (o := .cells #[u1, u2, u3, u4, u5, u6] 32) fun g hg => ⟨(hL3 g hg).1, ?_⟩⟩
 ·rcases (hL12 g hg).2 with h | h
  ·exact h
  ·omega
 ·rcases (hL3 g hg).2 with h | h
  ·exact (hL12 g h).2
  ·exact .inr (Nat.le_trans hk12.size h)
theorem heldPoly_c (B : List (List Int)) (k : Int) (hb : Held k B) (hB : B.length ≤ 100) (hlb : ∀ i, (B.getD i []).length ≤ 1000) (hk : 0 ≤ k ∧ k ≤ 1000000) : CallA Tryd.prog 21 [aPo B, aI k] [rI (k + tot B B.length)] [] := by
 have htb := tot_le hlb B.length
 have h2 := heldSS_c B k hb (by omega) hlb (by omega)
 clear hb hlb
 refine cA_ _ Tryd.func21 rfl Tryd.ntmps21 (by first | exact ⟨rfl, rfl⟩ | (simp only [List.all_cons, List.all_nil, V.solid, D.solid, D.solids, solids_ints, solids_bools, solids_LL, Bool.and_self, Bool.and_true, and_self]; done) | simp [V.solid, D.solid, D.solids, solids_lits, solids_ints, solids_bools, solids_LL]) ?_
 repeat' (first | (guard_target =~ WpA _ _ _ _ _ _; first | refine WpA.seq ?_ | refine WpA.drawU ?_ | refine WpA.regionU ?_ | refine WpA.block ?_ | refine WpA.ret ?_ | refine WpA.skip ?_ | refine WpA.exit ?_ | refine WpA.cond_true rfl ?_ | refine WpA.cond_false rfl ?_ | refine WpA.cond_ntrue rfl ?_ | refine WpA.cond_dec rfl (fun _ => ?_) (fun _ => ?_) | refine WpA.cond_not rfl (fun _ => ?_) (fun _ => ?_) | refine WpA.cond rfl (fun _ => ?_) (fun _ => ?_)) | (guard_target =~ RunU _ _ _ _ [] _ _ _ _; first | refine RunU.nilL ?_ | refine RunU.nilD (by kernel_rfl) ?_) | (guard_target =~ RunU _ _ _ _ (Oper.mk _ (Op.call ⟨Callee.value _, _, _⟩) _ _ _ none :: _) _ _ _ _; first | refine RunU.cons (sC_ (h2) (.sh (.sh .nil)) (.sh wS_ (.sh wS_ .nil)) rfl) ?_) | (guard_target =~ RunU _ _ _ _ (Oper.mk _ _ _ _ _ none :: _) _ _ _ _; refine RunU.cons step_any ?_) | (guard_target =~ RunU _ _ _ _ (Oper.mk _ _ _ _ _ (some _) :: _) _ _ _ _; first | refine RunU.pass rfl rfl rfl rfl ?_ | refine RunU.pass_undef rfl rfl rfl ?_ | (guard_target =~ RunU _ _ _ _ (Oper.mk _ (Op.call ⟨Callee.value _, _, _⟩) _ _ _ _ :: _) _ _ _ _; first | refine RunU.doit rfl rfl (sC_ (h2) (.sh (.sh .nil)) (.sh wS_ (.sh wS_ .nil)) rfl) ?_) | refine RunU.doit rfl rfl step_any ?_ | ((fail_if_success (refine RunU.doit (rd := []) (up := []) rfl rfl ?_ ?_)); first | refine RunU.guard_dec rfl rfl (fun _ => ?_) (fun _ => ?_) | refine RunU.guard_not rfl rfl (fun _ => ?_) (fun _ => ?_) | refine RunU.guard rfl rfl (fun _ => ?_) (fun _ => ?_))) | ((fail_if_success (guard_target =~ @Eq _ _ _)); (fail_if_success (guard_target =~ @Exists _ _)); first | (guard_target =~ Then _ _ _ _ _; refine Then.next ?_) | (guard_target =~ InBlock _ _ _ _ _; refine InBlock.next ?_) | refine Done.ret (.one (by first | exact .c rfl | exact .own rfl | exact .als rfl rfl | exact .ptr rfl rfl | exact .part rfl rfl rfl) .nil) (.sh (.sh .nil)) ?_ rfl))
 all_goals first | rfl | (exfalso; omega)
theorem heldCluster_c (P S W : List Int) (k : Int) (h1 : P = marks k P.length) (h2 : S = marks (k + P.length) S.length) (h3 : W = marks (k + P.length + S.length) W.length) (hP : P.length ≤ 1000) (hS : S.length ≤ 1000) (hW : W.length ≤ 1000) (hk : 0 ≤ k ∧ k ≤ 1000000) : CallA Tryd.prog 20 [aCl P S W, aI k] [rI (k + P.length + S.length + W.length)] [] := by
 have c1 := held_c P k h1 (by omega) (by omega)
 have c2 := held_c S (k + P.length) h2 (by omega) (by omega)
 have c3 := held_c W (k + P.length + S.length) h3 (by omega) (by omega)
 clear h1 h2 h3
 refine cA_ _ Tryd.func20 rfl Tryd.ntmps20 (by first | exact ⟨rfl, rfl⟩ | (simp only [List.all_cons, List.all_nil, V.solid, D.solid, D.solids, solids_ints, solids_bools, solids_LL, Bool.and_self, Bool.and_true, and_self]; done) | simp [V.solid, D.solid, D.solids, solids_lits, solids_ints, solids_bools, solids_LL]) ?_
 repeat' (first | (guard_target =~ WpA _ _ _ _ _ _; first | refine WpA.seq ?_ | refine WpA.drawU ?_ | refine WpA.regionU ?_ | refine WpA.block ?_ | refine WpA.ret ?_ | refine WpA.skip ?_ | refine WpA.exit ?_ | refine WpA.cond_true rfl ?_ | refine WpA.cond_false rfl ?_ | refine WpA.cond_ntrue rfl ?_ | (refine WpA.cond_dec rfl (fun _ => ?_) (fun _ => ?_) <;> try (exfalso; omega)) | (refine WpA.cond_not rfl (fun _ => ?_) (fun _ => ?_) <;> try (exfalso; omega)) | (refine WpA.cond rfl (fun _ => ?_) (fun _ => ?_) <;> try (exfalso; omega))) | (guard_target =~ RunU _ _ _ _ [] _ _ _ _; first | refine RunU.nilL ?_ | refine RunU.nilD (by kernel_rfl) ?_) | (guard_target =~ RunU _ _ _ _ (Oper.mk (some 8) (Op.call ⟨Callee.value _, _, _⟩) _ _ _ none :: _) _ _ _ _; first | refine RunU.cons (sC_ (c1) (.sh (.sh .nil)) (.sh wS_ (.sh wS_ .nil)) rfl) ?_) | (guard_target =~ RunU _ _ _ _ (Oper.mk (some 14) (Op.call ⟨Callee.value _, _, _⟩) _ _ _ none :: _) _ _ _ _; first | refine RunU.cons (sC_ (c2) (.sh (.sh .nil)) (.sh wS_ (.sh wS_ .nil)) rfl) ?_) | (guard_target =~ RunU _ _ _ _ (Oper.mk (some 20) (Op.call ⟨Callee.value _, _, _⟩) _ _ _ none :: _) _ _ _ _; first | refine RunU.cons (sC_ (c3) (.sh (.sh .nil)) (.sh wS_ (.sh wS_ .nil)) rfl) ?_) | (guard_target =~ RunU _ _ _ _ (Oper.mk _ _ _ _ _ none :: _) _ _ _ _; refine RunU.cons step_any ?_) | (guard_target =~ RunU _ _ _ _ (Oper.mk _ _ _ _ _ (some _) :: _) _ _ _ _; first | refine RunU.pass rfl rfl rfl rfl ?_ | refine RunU.pass_undef rfl rfl rfl ?_ | (guard_target =~ RunU _ _ _ _ (Oper.mk (some 8) (Op.call ⟨Callee.value _, _, _⟩) _ _ _ _ :: _) _ _ _ _; first | refine RunU.doit rfl rfl (sC_ (c1) (.sh (.sh .nil)) (.sh wS_ (.sh wS_ .nil)) rfl) ?_) | (guard_target =~ RunU _ _ _ _ (Oper.mk (some 14) (Op.call ⟨Callee.value _, _, _⟩) _ _ _ _ :: _) _ _ _ _; first | refine RunU.doit rfl rfl (sC_ (c2) (.sh (.sh .nil)) (.sh wS_ (.sh wS_ .nil)) rfl) ?_) | (guard_target =~ RunU _ _ _ _ (Oper.mk (some 20) (Op.call ⟨Callee.value _, _, _⟩) _ _ _ _ :: _) _ _ _ _; first | refine RunU.doit rfl rfl (sC_ (c3) (.sh (.sh .nil)) (.sh wS_ (.sh wS_ .nil)) rfl) ?_) | refine RunU.doit rfl rfl step_any ?_ | ((fail_if_success (refine RunU.doit (rd := []) (up := []) rfl rfl ?_ ?_)); first | (refine RunU.guard_dec rfl rfl (fun _ => ?_) (fun _ => ?_) <;> try (exfalso; omega)) | (refine RunU.guard_not rfl rfl (fun _ => ?_) (fun _ => ?_) <;> try (exfalso; omega)) | (refine RunU.guard rfl rfl (fun _ => ?_) (fun _ => ?_) <;> try (exfalso; omega)))) | ((fail_if_success (guard_target =~ @Eq _ _ _)); (fail_if_success (guard_target =~ @Exists _ _)); first | (guard_target =~ Then _ _ _ _ _; refine Then.next ?_) | (guard_target =~ InBlock _ _ _ _ _; refine InBlock.next ?_) | refine Done.ret (.one (by first | exact .c rfl | exact .own rfl | exact .als rfl rfl | exact .ptr rfl rfl | exact .part rfl rfl rfl) .nil) (.sh (.sh .nil)) ?_ rfl))
 all_goals first | rfl | (exfalso; omega)
theorem heldDesk_c (A B : List (List Int)) (P S W : List Int) (L : List (List Int)) (k : Int) (hA : A.length ≤ 100) (hB : B.length ≤ 100) (ha : ∀ i, (A.getD i []).length ≤ 1000) (hb : ∀ i, (B.getD i []).length ≤ 1000) (hP : P.length ≤ 1000) (hS : S.length ≤ 1000) (hW : W.length ≤ 1000)
  (hL : L.length ≤ 100) (hl : ∀ i, (L.getD i []).length ≤ 1000) (hk : 0 ≤ k ∧ k ≤ 1000)
  (h1 : Held k A) (h2 : Held (k + tot A A.length) B) (h3 : P = marks (k + tot A A.length + tot B B.length) P.length) (h4 : S = marks (k + tot A A.length + tot B B.length + P.length) S.length) (h5 : W = marks (k + tot A A.length + tot B B.length + P.length + S.length) W.length) (h6 : Held (k + tot A A.length + tot B B.length + P.length + S.length + W.length) L) :
  CallA Tryd.prog 8 [aDe A B P S W L, aI k] [rI (k + tot A A.length + tot B B.length + P.length + S.length + W.length + tot L L.length)] [] := by
 have hta := tot_le ha A.length
 have htb := tot_le hb B.length
 have htl := tot_le hl L.length
 have c1 := heldCurve_c A B k h1 h2 hA hB ha hb (by omega)
 have c2 := heldCluster_c P S W (k + tot A A.length + tot B B.length) h3 h4 h5 hP hS hW (by omega)
 have c3 := heldPoly_c L (k + tot A A.length + tot B B.length + P.length + S.length + W.length) h6 hL hl (by omega)
 clear h1 h2 h3 h4 h5 h6 ha hb hl
 refine cA_ _ Tryd.func8 rfl Tryd.ntmps8 (by first | exact ⟨rfl, rfl⟩ | (simp only [List.all_cons, List.all_nil, V.solid, D.solid, D.solids, solids_ints, solids_bools, solids_LL, Bool.and_self, Bool.and_true, and_self]; done) | simp [V.solid, D.solid, D.solids, solids_lits, solids_ints, solids_bools, solids_LL]) ?_
 repeat' (first | (guard_target =~ WpA _ _ _ _ _ _; first | refine WpA.seq ?_ | refine WpA.drawU ?_ | refine WpA.regionU ?_ | refine WpA.block ?_ | refine WpA.ret ?_ | refine WpA.skip ?_ | refine WpA.exit ?_ | refine WpA.cond_true rfl ?_ | refine WpA.cond_false rfl ?_ | refine WpA.cond_ntrue rfl ?_ | (refine WpA.cond_dec rfl (fun _ => ?_) (fun _ => ?_) <;> try (exfalso; omega)) | (refine WpA.cond_not rfl (fun _ => ?_) (fun _ => ?_) <;> try (exfalso; omega)) | (refine WpA.cond rfl (fun _ => ?_) (fun _ => ?_) <;> try (exfalso; omega))) | (guard_target =~ RunU _ _ _ _ [] _ _ _ _; first | refine RunU.nilL ?_ | refine RunU.nilD (by kernel_rfl) ?_) | (guard_target =~ RunU _ _ _ _ (Oper.mk (some 8) (Op.call ⟨Callee.value _, _, _⟩) _ _ _ none :: _) _ _ _ _; first | refine RunU.cons (sC_ (c1) (.sh (.sh .nil)) (.shAgg rfl gA_ (.sh wS_ .nil)) rfl) ?_) | (guard_target =~ RunU _ _ _ _ (Oper.mk (some 14) (Op.call ⟨Callee.value _, _, _⟩) _ _ _ none :: _) _ _ _ _; first | refine RunU.cons (sC_ (c2) (.sh (.sh .nil)) (.shAgg rfl gA_ (.sh wS_ .nil)) rfl) ?_) | (guard_target =~ RunU _ _ _ _ (Oper.mk (some 20) (Op.call ⟨Callee.value _, _, _⟩) _ _ _ none :: _) _ _ _ _; first | refine RunU.cons (sC_ (c3) (.sh (.sh .nil)) (.shAgg rfl gA_ (.sh wS_ .nil)) rfl) ?_) | (guard_target =~ RunU _ _ _ _ (Oper.mk _ _ _ _ _ none :: _) _ _ _ _; refine RunU.cons step_any ?_) | (guard_target =~ RunU _ _ _ _ (Oper.mk _ _ _ _ _ (some _) :: _) _ _ _ _; first | refine RunU.pass rfl rfl rfl rfl ?_ | refine RunU.pass_undef rfl rfl rfl ?_ | (guard_target =~ RunU _ _ _ _ (Oper.mk (some 8) (Op.call ⟨Callee.value _, _, _⟩) _ _ _ _ :: _) _ _ _ _; first | refine RunU.doit rfl rfl (sC_ (c1) (.sh (.sh .nil)) (.shAgg rfl gA_ (.sh wS_ .nil)) rfl) ?_) | (guard_target =~ RunU _ _ _ _ (Oper.mk (some 14) (Op.call ⟨Callee.value _, _, _⟩) _ _ _ _ :: _) _ _ _ _; first | refine RunU.doit rfl rfl (sC_ (c2) (.sh (.sh .nil)) (.shAgg rfl gA_ (.sh wS_ .nil)) rfl) ?_) | (guard_target =~ RunU _ _ _ _ (Oper.mk (some 20) (Op.call ⟨Callee.value _, _, _⟩) _ _ _ _ :: _) _ _ _ _; first | refine RunU.doit rfl rfl (sC_ (c3) (.sh (.sh .nil)) (.shAgg rfl gA_ (.sh wS_ .nil)) rfl) ?_) | refine RunU.doit rfl rfl step_any ?_ | ((fail_if_success (refine RunU.doit (rd := []) (up := []) rfl rfl ?_ ?_)); first | (refine RunU.guard_dec rfl rfl (fun _ => ?_) (fun _ => ?_) <;> try (exfalso; omega)) | (refine RunU.guard_not rfl rfl (fun _ => ?_) (fun _ => ?_) <;> try (exfalso; omega)) | (refine RunU.guard rfl rfl (fun _ => ?_) (fun _ => ?_) <;> try (exfalso; omega)))) | ((fail_if_success (guard_target =~ @Eq _ _ _)); (fail_if_success (guard_target =~ @Exists _ _)); first | (guard_target =~ Then _ _ _ _ _; refine Then.next ?_) | (guard_target =~ InBlock _ _ _ _ _; refine InBlock.next ?_) | refine Done.ret (.one (by first | exact .c rfl | exact .own rfl | exact .als rfl rfl | exact .ptr rfl rfl | exact .part rfl rfl rfl) .nil) (.sh (.sh .nil)) ?_ rfl))
 all_goals first | rfl | (exfalso; omega)
end Go.Proofs.YtpeioofkihpldaaDoor
