/- Valences and Euler numbers of clusters: the program. No condition. -/
import Derived.Test.YtleleajafgmpbaaVZcG
import Derived.Test.YtleleajafgmpbaaVHaC
import Derived.Test.YtleleajafgmpbaaVZcM
import Derived.Test.YtleleajafgmpbaaVGrG
import Derived.Test.YtleleajafgmpbaaVGrM
namespace Go.Proofs.Ytleleajafgmpbaa
set_option maxHeartbeats 20000000
set_option linter.unusedVariables false
set_option linter.unusedSimpArgs false
open Go.Pv
open Go.ChangeShapes Go.WideShapes Go.ChangeAt Go.RowKit
attribute [local irreducible] RunU WpA Step CallG CallNG Done DoneN
instance fnOk91 : FnOk Try.prog 91 := ⟨_, Try.func91, rfl, by decide⟩
def wtTo (P S : List Int) (n i : Nat) : List Int := (List.range i).map fun t => mtTo P S n t t
theorem wtTo_len (P S : List Int) (n i : Nat) : (wtTo P S n i).length = i := by simp [wtTo]
theorem wtTo_step (P S : List Int) (n i : Nat) : wtTo P S n (i + 1) = wtTo P S n i ++ [mtTo P S n i i] := by simp [wtTo, List.range_succ]
theorem mtM_at (P S : List Int) (n : Nat) {m i : Nat} (h : i < m) : (mtM P S n m).getD i [] = mtR P S n i n := by simp [mtM, List.getD_eq_getElem?_getD, h]
theorem mtR_at (P S : List Int) (n i : Nat) {k m : Nat} (h : k < m) : (mtR P S n i m).getD k 0 = mtTo P S n i k := by simp [mtR, List.getD_eq_getElem?_getD, h]
abbrev dGr (w : List Int) (E : List (List Int)) : D := .pt true [.sl true 1 (ints w), .sl true 1 (LL E)]
theorem own_gr2 {id : Nat} {w w' : List Int} {E E' : List (List Int)} (h : w = w') (h2 : E = E') : AV.own id (dGr w E) = AV.own id (dGr w' E') := by rw [h, h2]
set_option maxRecDepth 100000 in
theorem specGraph_c (P S W : List Int) (h : Cl P S W) : CallA Try.prog 91 [aCl P S W] [.agg [.sl true 1 (ints (wtTo P S P.length P.length)), .sl true 1 (LL (edTo P S P.length P.length))]] [] := by
  have hl := h.len
  have hM := specMt_c P S W h
  have hML := mtM_len P S P.length P.length
  have hrl : ∀ i, i < P.length → ((mtM P S P.length P.length).getD i []).length = P.length := fun i hi => by rw [mtM_at _ _ _ hi, mtR_len]
  have hat : ∀ i k, i < P.length → k < P.length → ((mtM P S P.length P.length).getD i []).getD k 0 = mtTo P S P.length i k := fun i k hi hk => by rw [mtM_at _ _ _ hi, mtR_at _ _ _ _ hk]
  generalize mtM P S P.length P.length = M at *
  refine callA_of _ Try.func91 rfl Try.ntmps91 (by first | exact ⟨rfl, rfl⟩ | (simp only [List.all_cons, List.all_nil, V.solid, D.solid, D.solids, solids_ints, solids_bools, solids_LL, Bool.and_self, Bool.and_true, and_self]; done) | simp [V.solid, D.solid, D.solids, solids_lits, solids_ints, solids_bools, solids_LL]) ?_
  repeat' (first | (guard_target =~ WpA _ _ _ _ _ _; first | refine WpA.seq ?_ | refine WpA.drawU ?_ | refine WpA.regionU ?_ | refine WpA.block ?_ | refine WpA.ret ?_ | refine WpA.skip ?_ | refine WpA.exit ?_ | refine WpA.cond_true rfl ?_ | refine WpA.cond_false rfl ?_ | refine WpA.cond_ntrue rfl ?_ | refine WpA.cond_dec rfl (fun _ => ?_) (fun _ => ?_) | refine WpA.cond_not rfl (fun _ => ?_) (fun _ => ?_) | refine WpA.cond rfl (fun _ => ?_) (fun _ => ?_)) | (guard_target =~ RunU _ _ _ _ [] _ _ _ _; first | refine RunU.nilL ?_ | refine RunU.nilD (by kernel_rfl) ?_) | (guard_target =~ RunU _ _ _ _ (Oper.mk _ (Op.call ⟨Callee.value _, _, _⟩) _ _ _ none :: _) _ _ _ _; first | refine RunU.cons (step_call (hM) (.sh .nil) (.shAgg rfl aggs_any .nil) rfl) ?_) | (guard_target =~ RunU _ _ _ _ (Oper.mk _ _ _ _ _ none :: _) _ _ _ _; refine RunU.cons step_any ?_) | ((fail_if_success (guard_target =~ @Eq _ _ _)); (fail_if_success (guard_target =~ @Exists _ _)); first | refine Then.next ?_ | refine InBlock.next ?_ | refine Done.ret (.cell inferInstance rfl rfl .nil) (.sh .nil) ?_ rfl))
  clear hM h
  refine WpA.loop_ids2 (fun i i3 i4 => [(2, .own 2 (.pt true [.sl true 1 [], .sl true 1 []])), (3, .own i3 (dGr (wtTo P S P.length i) (edTo P S P.length i))), (4, .own i4 (.sl true 1 (LL M))), (5, vJ i)]) (fun i => i ≤ P.length) (fun i => P.length - i) 0 _ _ (by omega) ⟨rfl, by exact rfl, by exact rfl, rfl, trivial⟩ ?_
  intro i i3 i4 s nx hi
  have hwl := wtTo_len P S P.length i
  have hel := edTo_len P S P.length i
  have hin : i * P.length ≤ 24 * 24 := Nat.mul_le_mul (by omega) hl.2
  by_cases hlt : i < P.length
  · have r1 := hrl (i * 1) (by omega)
    have a1 := hat (i * 1) (i * 1) (by omega) (by omega)
    have hw := wtTo_step P S P.length i
    have e1 : wtTo P S P.length i ++ [(M.getD (i * 1) []).getD (i * 1) 0] = wtTo P S P.length (i + 1) := by rw [hw, a1]; simp only [Nat.mul_one]
    repeat' (first | (guard_target =~ WpA _ _ _ _ _ _; first | refine WpA.seq ?_ | refine WpA.drawU ?_ | refine WpA.regionU ?_ | refine WpA.block ?_ | refine WpA.ret ?_ | refine WpA.skip ?_ | refine WpA.exit ?_ | refine WpA.cond_true rfl ?_ | refine WpA.cond_false rfl ?_ | refine WpA.cond_ntrue rfl ?_ | refine WpA.cond_dec rfl (fun _ => ?_) (fun _ => ?_) | refine WpA.cond_not rfl (fun _ => ?_) (fun _ => ?_) | refine WpA.cond rfl (fun _ => ?_) (fun _ => ?_)) | (guard_target =~ RunU _ _ _ _ [] _ _ _ _; first | refine RunU.nilL ?_ | refine RunU.nilD (by kernel_rfl) ?_) | (guard_target =~ RunU _ _ _ _ (Oper.mk _ _ _ _ _ none :: _) _ _ _ _; refine RunU.cons step_any ?_) | ((fail_if_success (guard_target =~ @Eq _ _ _)); (fail_if_success (guard_target =~ @Exists _ _)); first | refine Then.next ?_ | refine InBlock.next ?_ | refine Done.ret (.cell inferInstance rfl rfl .nil) (.sh .nil) ?_ rfl))
    all_goals try (exfalso; omega)
    refine WpA.loop_ids2 (fun m i3 i4 => [(2, .own 2 (.pt true [.sl true 1 [], .sl true 1 []])), (3, .own i3 (dGr (wtTo P S P.length (i + 1)) (edTo P S P.length i ++ rowE P S P.length i m))), (4, .own i4 (.sl true 1 (LL M))), (5, vJ i), (6, vJ (i + 1 + m : Nat))]) (fun m => m ≤ P.length - 1 - i) (fun m => P.length - m) 0 _ _ (by omega) ⟨rfl, by exact own_gr2 e1 (by simp [rowE]), rfl, rfl, int_eq (by simp), trivial⟩ ?_
    clear a1 r1 e1 hw
    intro m i3 i4 s nx hm
    have hrw := rowE_len P S P.length i m
    by_cases hml : i + 1 + m < P.length
    · have r1 := hrl (i * 1) (by omega)
      have a1 := hat (i * 1) ((i + 1 + m) * 1) (by omega) (by omega)
      have hr : rowE P S P.length i (m + 1) = rowE P S P.length i m ++ if mtTo P S P.length i (i + 1 + m) = 1 then [[(i : Int), ((i + 1 + m : Nat) : Int)]] else [] := rfl
      have hEl : (edTo P S P.length i ++ rowE P S P.length i m).length ≤ 1000 := by rw [List.length_append]; omega
      have a2 : mtTo P S P.length i (i + 1 + m) = (M.getD (i * 1) []).getD ((i + 1 + m) * 1) 0 := by rw [a1]; simp only [Nat.mul_one]
      rw [a2] at hr
      by_cases h1 : (M.getD (i * 1) []).getD ((i + 1 + m) * 1) 0 = 1
      · rw [if_pos h1] at hr
        have e2 : (edTo P S P.length i ++ rowE P S P.length i m) ++ [[(i : Int), ((i + 1 + m : Nat) : Int)]] = edTo P S P.length i ++ rowE P S P.length i (m + 1) := by rw [hr, List.append_assoc]
        generalize edTo P S P.length i ++ rowE P S P.length i m = EE at *
        clear hrl hat a1 a2
        repeat' (first | (guard_target =~ WpA _ _ _ _ _ _; first | refine WpA.seq ?_ | refine WpA.drawU ?_ | refine WpA.regionU ?_ | refine WpA.block ?_ | refine WpA.ret ?_ | refine WpA.skip ?_ | refine WpA.exit ?_ | refine WpA.cond_true rfl ?_ | refine WpA.cond_false rfl ?_ | refine WpA.cond_ntrue rfl ?_ | refine WpA.cond_dec rfl (fun _ => ?_) (fun _ => ?_) | refine WpA.cond_not rfl (fun _ => ?_) (fun _ => ?_) | refine WpA.cond rfl (fun _ => ?_) (fun _ => ?_)) | (guard_target =~ RunU _ _ _ _ [] _ _ _ _; first | refine RunU.nilL ?_ | refine RunU.nilD (by kernel_rfl) ?_) | (guard_target =~ RunU _ _ _ _ (Oper.mk _ _ _ _ _ none :: _) _ _ _ _; refine RunU.cons step_any ?_) | ((fail_if_success (guard_target =~ @Eq _ _ _)); (fail_if_success (guard_target =~ @Exists _ _)); first | refine Then.next ?_ | refine InBlock.next ?_ | refine Done.ret (.cell inferInstance rfl rfl .nil) (.sh .nil) ?_ rfl))
        all_goals try (exfalso; omega)
        all_goals exact ⟨m + 1, by omega, ⟨_, _, rfl, by exact own_gr2 rfl e2, rfl, rfl, int_eq (by omega), trivial⟩, by omega⟩
      · rw [if_neg h1, List.append_nil] at hr
        rw [← hr]
        clear hrl hat a1 a2
        repeat' (first | (guard_target =~ WpA _ _ _ _ _ _; first | refine WpA.seq ?_ | refine WpA.drawU ?_ | refine WpA.regionU ?_ | refine WpA.block ?_ | refine WpA.ret ?_ | refine WpA.skip ?_ | refine WpA.exit ?_ | refine WpA.cond_true rfl ?_ | refine WpA.cond_false rfl ?_ | refine WpA.cond_ntrue rfl ?_ | refine WpA.cond_dec rfl (fun _ => ?_) (fun _ => ?_) | refine WpA.cond_not rfl (fun _ => ?_) (fun _ => ?_) | refine WpA.cond rfl (fun _ => ?_) (fun _ => ?_)) | (guard_target =~ RunU _ _ _ _ [] _ _ _ _; first | refine RunU.nilL ?_ | refine RunU.nilD (by kernel_rfl) ?_) | (guard_target =~ RunU _ _ _ _ (Oper.mk _ _ _ _ _ none :: _) _ _ _ _; refine RunU.cons step_any ?_) | ((fail_if_success (guard_target =~ @Eq _ _ _)); (fail_if_success (guard_target =~ @Exists _ _)); first | refine Then.next ?_ | refine InBlock.next ?_ | refine Done.ret (.cell inferInstance rfl rfl .nil) (.sh .nil) ?_ rfl))
        all_goals try (exfalso; omega)
        all_goals exact ⟨m + 1, by omega, ⟨_, _, rfl, by exact own_gr2 rfl (by rw [hr]), rfl, rfl, int_eq (by omega), trivial⟩, by omega⟩
    · obtain rfl : m = P.length - 1 - i := by omega
      have e3 : edTo P S P.length i ++ rowE P S P.length i (P.length - 1 - i) = edTo P S P.length (i + 1) := rfl
      clear hrl hat
      repeat' (first | (guard_target =~ WpA _ _ _ _ _ _; first | refine WpA.seq ?_ | refine WpA.drawU ?_ | refine WpA.regionU ?_ | refine WpA.block ?_ | refine WpA.ret ?_ | refine WpA.skip ?_ | refine WpA.exit ?_ | refine WpA.cond_true rfl ?_ | refine WpA.cond_false rfl ?_ | refine WpA.cond_ntrue rfl ?_ | refine WpA.cond_dec rfl (fun _ => ?_) (fun _ => ?_) | refine WpA.cond_not rfl (fun _ => ?_) (fun _ => ?_) | refine WpA.cond rfl (fun _ => ?_) (fun _ => ?_)) | (guard_target =~ RunU _ _ _ _ [] _ _ _ _; first | refine RunU.nilL ?_ | refine RunU.nilD (by kernel_rfl) ?_) | (guard_target =~ RunU _ _ _ _ (Oper.mk _ _ _ _ _ none :: _) _ _ _ _; refine RunU.cons step_any ?_) | ((fail_if_success (guard_target =~ @Eq _ _ _)); (fail_if_success (guard_target =~ @Exists _ _)); first | refine Then.next ?_ | refine InBlock.next ?_ | refine Done.ret (.cell inferInstance rfl rfl .nil) (.sh .nil) ?_ rfl))
      all_goals try (exfalso; omega)
      all_goals exact ⟨i + 1, by omega, ⟨_, _, rfl, by exact own_gr2 rfl e3, rfl, int_eq (by omega), trivial⟩, by omega⟩
  · obtain rfl : i = P.length := by omega
    clear hrl hat
    repeat' (first | (guard_target =~ WpA _ _ _ _ _ _; first | refine WpA.seq ?_ | refine WpA.drawU ?_ | refine WpA.regionU ?_ | refine WpA.block ?_ | refine WpA.ret ?_ | refine WpA.skip ?_ | refine WpA.exit ?_ | refine WpA.cond_true rfl ?_ | refine WpA.cond_false rfl ?_ | refine WpA.cond_ntrue rfl ?_ | refine WpA.cond_dec rfl (fun _ => ?_) (fun _ => ?_) | refine WpA.cond_not rfl (fun _ => ?_) (fun _ => ?_) | refine WpA.cond rfl (fun _ => ?_) (fun _ => ?_)) | (guard_target =~ RunU _ _ _ _ [] _ _ _ _; first | refine RunU.nilL ?_ | refine RunU.nilD (by kernel_rfl) ?_) | (guard_target =~ RunU _ _ _ _ (Oper.mk _ _ _ _ _ none :: _) _ _ _ _; refine RunU.cons step_any ?_) | ((fail_if_success (guard_target =~ @Eq _ _ _)); (fail_if_success (guard_target =~ @Exists _ _)); first | refine Then.next ?_ | refine InBlock.next ?_ | refine Done.ret (.cell inferInstance rfl rfl .nil) (.sh .nil) ?_ rfl))
    all_goals first | rfl | (exfalso; omega)
end Go.Proofs.Ytleleajafgmpbaa
namespace Go.Proofs.Ytleleajafgmpbaa
set_option maxHeartbeats 20000000
set_option linter.unusedVariables false
set_option linter.unusedSimpArgs false
open Go.Pv
open Go.ChangeShapes Go.WideShapes Go.ChangeAt Go.RowKit
attribute [local irreducible] RunU WpA Step CallG CallNG Done DoneN
instance fnOk73 : FnOk Try.prog 73 := ⟨_, Try.func73, rfl, by decide⟩
set_option maxRecDepth 100000 in
theorem graphOf_c (P S W : List Int) (h : Cl P S W) : CallA Try.prog 73 [aCl P S W] [.agg [.sl true 1 (ints (wtTo P S P.length P.length)), .sl true 1 (LL (edTo P S P.length P.length))]] [] := by
  have hl := h.len
  have hM := excMat_c P S W h
  have hML := mtM_len P S P.length P.length
  have hrl : ∀ i, i < P.length → ((mtM P S P.length P.length).getD i []).length = P.length := fun i hi => by rw [mtM_at _ _ _ hi, mtR_len]
  have hat : ∀ i k, i < P.length → k < P.length → ((mtM P S P.length P.length).getD i []).getD k 0 = mtTo P S P.length i k := fun i k hi hk => by rw [mtM_at _ _ _ hi, mtR_at _ _ _ _ hk]
  generalize mtM P S P.length P.length = M at *
  refine callA_of _ Try.func73 rfl Try.ntmps73 (by first | exact ⟨rfl, rfl⟩ | (simp only [List.all_cons, List.all_nil, V.solid, D.solid, D.solids, solids_ints, solids_bools, solids_LL, Bool.and_self, Bool.and_true, and_self]; done) | simp [V.solid, D.solid, D.solids, solids_lits, solids_ints, solids_bools, solids_LL]) ?_
  repeat' (first | (guard_target =~ WpA _ _ _ _ _ _; first | refine WpA.seq ?_ | refine WpA.drawU ?_ | refine WpA.regionU ?_ | refine WpA.block ?_ | refine WpA.ret ?_ | refine WpA.skip ?_ | refine WpA.exit ?_ | refine WpA.cond_true rfl ?_ | refine WpA.cond_false rfl ?_ | refine WpA.cond_ntrue rfl ?_ | refine WpA.cond_dec rfl (fun _ => ?_) (fun _ => ?_) | refine WpA.cond_not rfl (fun _ => ?_) (fun _ => ?_) | refine WpA.cond rfl (fun _ => ?_) (fun _ => ?_)) | (guard_target =~ RunU _ _ _ _ [] _ _ _ _; first | refine RunU.nilL ?_ | refine RunU.nilD (by kernel_rfl) ?_) | (guard_target =~ RunU _ _ _ _ (Oper.mk _ (Op.call ⟨Callee.value _, _, _⟩) _ _ _ none :: _) _ _ _ _; first | refine RunU.cons (step_call (hM) (.sh .nil) (.shAgg rfl aggs_any .nil) rfl) ?_) | (guard_target =~ RunU _ _ _ _ (Oper.mk _ _ _ _ _ none :: _) _ _ _ _; refine RunU.cons step_any ?_) | ((fail_if_success (guard_target =~ @Eq _ _ _)); (fail_if_success (guard_target =~ @Exists _ _)); first | refine Then.next ?_ | refine InBlock.next ?_ | refine Done.ret (.cell inferInstance rfl rfl .nil) (.sh .nil) ?_ rfl))
  clear hM h
  refine WpA.loop_ids2 (fun i i3 i11 => [(2, .own 2 (.pt true [.sl true 1 [], .sl true 1 []])), (3, .own i3 (dGr (wtTo P S P.length i) (edTo P S P.length i))), (11, .own i11 (.sl true 1 (LL M))), (12, vJ P.length), (13, vJ i)]) (fun i => i ≤ P.length) (fun i => P.length - i) 0 _ _ (by omega) ⟨rfl, by exact rfl, by exact rfl, int_eq (by omega), rfl, trivial⟩ ?_
  intro i i3 i11 s nx hi
  have hwl := wtTo_len P S P.length i
  have hel := edTo_len P S P.length i
  have hin : i * P.length ≤ 24 * 24 := Nat.mul_le_mul (by omega) hl.2
  by_cases hlt : i < P.length
  · have r1 := hrl (i * 1) (by omega)
    have a1 := hat (i * 1) (i * 1) (by omega) (by omega)
    have hw := wtTo_step P S P.length i
    have e1 : wtTo P S P.length i ++ [(M.getD (i * 1) []).getD (i * 1) 0] = wtTo P S P.length (i + 1) := by rw [hw, a1]; simp only [Nat.mul_one]
    repeat' (first | (guard_target =~ WpA _ _ _ _ _ _; first | refine WpA.seq ?_ | refine WpA.drawU ?_ | refine WpA.regionU ?_ | refine WpA.block ?_ | refine WpA.ret ?_ | refine WpA.skip ?_ | refine WpA.exit ?_ | refine WpA.cond_true rfl ?_ | refine WpA.cond_false rfl ?_ | refine WpA.cond_ntrue rfl ?_ | refine WpA.cond_dec rfl (fun _ => ?_) (fun _ => ?_) | refine WpA.cond_not rfl (fun _ => ?_) (fun _ => ?_) | refine WpA.cond rfl (fun _ => ?_) (fun _ => ?_)) | (guard_target =~ RunU _ _ _ _ [] _ _ _ _; first | refine RunU.nilL ?_ | refine RunU.nilD (by kernel_rfl) ?_) | (guard_target =~ RunU _ _ _ _ (Oper.mk _ _ _ _ _ none :: _) _ _ _ _; refine RunU.cons step_any ?_) | ((fail_if_success (guard_target =~ @Eq _ _ _)); (fail_if_success (guard_target =~ @Exists _ _)); first | refine Then.next ?_ | refine InBlock.next ?_ | refine Done.ret (.cell inferInstance rfl rfl .nil) (.sh .nil) ?_ rfl))
    all_goals try (exfalso; omega)
    refine WpA.loop_slots2 (fun m i3 => [(2, .own 2 (.pt true [.sl true 1 [], .sl true 1 []])), (3, .own i3 (dGr (wtTo P S P.length (i + 1)) (edTo P S P.length i ++ rowE P S P.length i m))), (4, vJ i), (5, .als 11 i11 ([] ++ [i * 1])), (6, vJ (i + 1 + m : Nat)), (11, .own i11 (.sl true 1 (LL M))), (12, vJ P.length), (13, vJ i)]) (fun m => m ≤ P.length - 1 - i) (fun m => P.length - m) 0 _ (by omega) ⟨rfl, by exact own_gr2 e1 (by simp [rowE]), rfl, rfl, int_eq (by simp), rfl, rfl, rfl, trivial⟩ ?_
    clear a1 e1 hw
    intro m i3 s nx hm
    have hrw := rowE_len P S P.length i m
    by_cases hml : i + 1 + m < P.length
    · have a1 := hat (i * 1) ((i + 1 + m) * 1) (by omega) (by omega)
      have hr : rowE P S P.length i (m + 1) = rowE P S P.length i m ++ if mtTo P S P.length i (i + 1 + m) = 1 then [[(i : Int), ((i + 1 + m : Nat) : Int)]] else [] := rfl
      have hEl : (edTo P S P.length i ++ rowE P S P.length i m).length ≤ 1000 := by rw [List.length_append]; omega
      have a2 : mtTo P S P.length i (i + 1 + m) = (M.getD (i * 1) []).getD ((i + 1 + m) * 1) 0 := by rw [a1]; simp only [Nat.mul_one]
      rw [a2] at hr
      by_cases h1 : (M.getD (i * 1) []).getD ((i + 1 + m) * 1) 0 = 1
      · rw [if_pos h1] at hr
        have e2 : (edTo P S P.length i ++ rowE P S P.length i m) ++ [[(i : Int), ((i + 1 + m : Nat) : Int)]] = edTo P S P.length i ++ rowE P S P.length i (m + 1) := by rw [hr, List.append_assoc]
        generalize edTo P S P.length i ++ rowE P S P.length i m = EE at *
        clear hrl hat a1 a2
        repeat' (first | (guard_target =~ WpA _ _ _ _ _ _; first | refine WpA.seq ?_ | refine WpA.drawU ?_ | refine WpA.regionU ?_ | refine WpA.block ?_ | refine WpA.ret ?_ | refine WpA.skip ?_ | refine WpA.exit ?_ | refine WpA.cond_true rfl ?_ | refine WpA.cond_false rfl ?_ | refine WpA.cond_ntrue rfl ?_ | refine WpA.cond_dec rfl (fun _ => ?_) (fun _ => ?_) | refine WpA.cond_not rfl (fun _ => ?_) (fun _ => ?_) | refine WpA.cond rfl (fun _ => ?_) (fun _ => ?_)) | (guard_target =~ RunU _ _ _ _ [] _ _ _ _; first | refine RunU.nilL ?_ | refine RunU.nilD (by kernel_rfl) ?_) | (guard_target =~ RunU _ _ _ _ (Oper.mk _ _ _ _ _ none :: _) _ _ _ _; refine RunU.cons step_any ?_) | ((fail_if_success (guard_target =~ @Eq _ _ _)); (fail_if_success (guard_target =~ @Exists _ _)); first | refine Then.next ?_ | refine InBlock.next ?_ | refine Done.ret (.cell inferInstance rfl rfl .nil) (.sh .nil) ?_ rfl))
        all_goals try (exfalso; omega)
        all_goals exact ⟨m + 1, by omega, ⟨_, rfl, by exact own_gr2 rfl e2, rfl, rfl, int_eq (by omega), rfl, rfl, rfl, trivial⟩, by omega⟩
      · rw [if_neg h1, List.append_nil] at hr
        rw [← hr]
        clear hrl hat a1 a2
        repeat' (first | (guard_target =~ WpA _ _ _ _ _ _; first | refine WpA.seq ?_ | refine WpA.drawU ?_ | refine WpA.regionU ?_ | refine WpA.block ?_ | refine WpA.ret ?_ | refine WpA.skip ?_ | refine WpA.exit ?_ | refine WpA.cond_true rfl ?_ | refine WpA.cond_false rfl ?_ | refine WpA.cond_ntrue rfl ?_ | refine WpA.cond_dec rfl (fun _ => ?_) (fun _ => ?_) | refine WpA.cond_not rfl (fun _ => ?_) (fun _ => ?_) | refine WpA.cond rfl (fun _ => ?_) (fun _ => ?_)) | (guard_target =~ RunU _ _ _ _ [] _ _ _ _; first | refine RunU.nilL ?_ | refine RunU.nilD (by kernel_rfl) ?_) | (guard_target =~ RunU _ _ _ _ (Oper.mk _ _ _ _ _ none :: _) _ _ _ _; refine RunU.cons step_any ?_) | ((fail_if_success (guard_target =~ @Eq _ _ _)); (fail_if_success (guard_target =~ @Exists _ _)); first | refine Then.next ?_ | refine InBlock.next ?_ | refine Done.ret (.cell inferInstance rfl rfl .nil) (.sh .nil) ?_ rfl))
        all_goals try (exfalso; omega)
        all_goals exact ⟨m + 1, by omega, ⟨_, rfl, by exact own_gr2 rfl (by rw [hr]), rfl, rfl, int_eq (by omega), rfl, rfl, rfl, trivial⟩, by omega⟩
    · obtain rfl : m = P.length - 1 - i := by omega
      have e3 : edTo P S P.length i ++ rowE P S P.length i (P.length - 1 - i) = edTo P S P.length (i + 1) := rfl
      clear hrl hat
      repeat' (first | (guard_target =~ WpA _ _ _ _ _ _; first | refine WpA.seq ?_ | refine WpA.drawU ?_ | refine WpA.regionU ?_ | refine WpA.block ?_ | refine WpA.ret ?_ | refine WpA.skip ?_ | refine WpA.exit ?_ | refine WpA.cond_true rfl ?_ | refine WpA.cond_false rfl ?_ | refine WpA.cond_ntrue rfl ?_ | refine WpA.cond_dec rfl (fun _ => ?_) (fun _ => ?_) | refine WpA.cond_not rfl (fun _ => ?_) (fun _ => ?_) | refine WpA.cond rfl (fun _ => ?_) (fun _ => ?_)) | (guard_target =~ RunU _ _ _ _ [] _ _ _ _; first | refine RunU.nilL ?_ | refine RunU.nilD (by kernel_rfl) ?_) | (guard_target =~ RunU _ _ _ _ (Oper.mk _ _ _ _ _ none :: _) _ _ _ _; refine RunU.cons step_any ?_) | ((fail_if_success (guard_target =~ @Eq _ _ _)); (fail_if_success (guard_target =~ @Exists _ _)); first | refine Then.next ?_ | refine InBlock.next ?_ | refine Done.ret (.cell inferInstance rfl rfl .nil) (.sh .nil) ?_ rfl))
      all_goals try (exfalso; omega)
      all_goals exact ⟨i + 1, by omega, ⟨_, _, rfl, by exact own_gr2 rfl e3, rfl, rfl, int_eq (by omega), trivial⟩, by omega⟩
  · obtain rfl : i = P.length := by omega
    clear hrl hat
    repeat' (first | (guard_target =~ WpA _ _ _ _ _ _; first | refine WpA.seq ?_ | refine WpA.drawU ?_ | refine WpA.regionU ?_ | refine WpA.block ?_ | refine WpA.ret ?_ | refine WpA.skip ?_ | refine WpA.exit ?_ | refine WpA.cond_true rfl ?_ | refine WpA.cond_false rfl ?_ | refine WpA.cond_ntrue rfl ?_ | refine WpA.cond_dec rfl (fun _ => ?_) (fun _ => ?_) | refine WpA.cond_not rfl (fun _ => ?_) (fun _ => ?_) | refine WpA.cond rfl (fun _ => ?_) (fun _ => ?_)) | (guard_target =~ RunU _ _ _ _ [] _ _ _ _; first | refine RunU.nilL ?_ | refine RunU.nilD (by kernel_rfl) ?_) | (guard_target =~ RunU _ _ _ _ (Oper.mk _ _ _ _ _ none :: _) _ _ _ _; refine RunU.cons step_any ?_) | ((fail_if_success (guard_target =~ @Eq _ _ _)); (fail_if_success (guard_target =~ @Exists _ _)); first | refine Then.next ?_ | refine InBlock.next ?_ | refine Done.ret (.cell inferInstance rfl rfl .nil) (.sh .nil) ?_ rfl))
    all_goals first | rfl | (exfalso; omega)
end Go.Proofs.Ytleleajafgmpbaa
namespace Go.Proofs.Ytleleajafgmpbaa
set_option maxHeartbeats 20000000
set_option linter.unusedVariables false
set_option linter.unusedSimpArgs false
open Go.Pv
open Go.ChangeShapes Go.WideShapes Go.ChangeAt Go.RowKit
attribute [local irreducible] RunU WpA Step CallG CallNG Done DoneN
instance fnOk62 : FnOk Try.prog 62 := ⟨_, Try.func62, rfl, by decide⟩
instance fnOk27 : FnOk Try.prog 27 := ⟨_, Try.func27, rfl, by decide⟩
def vaTo (E : List (List Int)) (n : Nat) : List Int := (List.range n).map fun v : Nat => ((near E v).length : Int)
theorem vaTo_len (E : List (List Int)) (n : Nat) : (vaTo E n).length = n := by simp [vaTo]
theorem vaTo_step (E : List (List Int)) (j : Nat) : vaTo E (j + 1) = vaTo E j ++ [((near E j).length : Int)] := by simp [vaTo, List.range_succ]
theorem near_few (E : List (List Int)) (v : Int) : (near E v).length ≤ 2 * E.length := by
  have h1 := lowN_len E v E.length
  have h2 := uppN_len E v E.length
  unfold near
  rw [List.length_append]
  omega
set_option maxRecDepth 100000 in
theorem specVa_c (P S W : List Int) (h : Cl P S W) : CallA Try.prog 62 [aCl P S W] [rL (vaTo (edTo P S P.length P.length) P.length)] [] := by
  have hl := h.len
  have hG := specGraph_c P S W h
  have hwl := wtTo_len P S P.length P.length
  have hgood := edTo_good P S P.length
  have hel := edTo_len P S P.length P.length
  have hin : P.length * P.length ≤ 24 * 24 := Nat.mul_le_mul hl.2 hl.2
  clear h
  generalize wtTo P S P.length P.length = w at *
  generalize edTo P S P.length P.length = E at *
  have hNr := fun v => near_c w E v (by omega) (fun j hj => (hgood j hj).1)
  refine callA_of _ Try.func62 rfl Try.ntmps62 (by first | exact ⟨rfl, rfl⟩ | (simp only [List.all_cons, List.all_nil, V.solid, D.solid, D.solids, solids_ints, solids_bools, solids_LL, Bool.and_self, Bool.and_true, and_self]; done) | simp [V.solid, D.solid, D.solids, solids_lits, solids_ints, solids_bools, solids_LL]) ?_
  repeat' (first | (guard_target =~ WpA _ _ _ _ _ _; first | refine WpA.seq ?_ | refine WpA.drawU ?_ | refine WpA.regionU ?_ | refine WpA.block ?_ | refine WpA.ret ?_ | refine WpA.skip ?_ | refine WpA.exit ?_ | refine WpA.cond_true rfl ?_ | refine WpA.cond_false rfl ?_ | refine WpA.cond_ntrue rfl ?_ | refine WpA.cond_dec rfl (fun _ => ?_) (fun _ => ?_) | refine WpA.cond_not rfl (fun _ => ?_) (fun _ => ?_) | refine WpA.cond rfl (fun _ => ?_) (fun _ => ?_)) | (guard_target =~ RunU _ _ _ _ [] _ _ _ _; first | refine RunU.nilL ?_ | refine RunU.nilD (by kernel_rfl) ?_) | (guard_target =~ RunU _ _ _ _ (Oper.mk _ (Op.call ⟨Callee.value _, _, _⟩) _ _ _ none :: _) _ _ _ _; first | refine RunU.cons (step_call (hG) (.sh .nil) (.shAgg rfl aggs_any .nil) rfl) ?_) | (guard_target =~ RunU _ _ _ _ (Oper.mk _ _ _ _ _ none :: _) _ _ _ _; refine RunU.cons step_any ?_) | ((fail_if_success (guard_target =~ @Eq _ _ _)); (fail_if_success (guard_target =~ @Exists _ _)); first | refine Then.next ?_ | refine InBlock.next ?_ | refine Done.ret (.one (by first | exact .c rfl | exact .own rfl | exact .als rfl rfl | exact .ptr rfl rfl | exact .part rfl rfl rfl) .nil) (.sh .nil) ?_ rfl))
  clear hG hgood
  refine WpA.loop_ids2 (fun j i3 i4 => [(3, .own i3 (dGr w E)), (4, .own i4 (.sl true 1 (ints (vaTo E j)))), (5, vJ j)]) (fun j => j ≤ P.length) (fun j => P.length - j) 0 _ _ (by omega) ⟨by exact rfl, by exact own_ints (l := []) rfl, rfl, trivial⟩ ?_
  intro j i3 i4 s nx hj
  have hvl := vaTo_len E j
  have hst := vaTo_step E j
  have hnf := near_few E j
  by_cases hlt : j < P.length
  · have hN := hNr j
    clear hNr
    repeat' (first | (guard_target =~ WpA _ _ _ _ _ _; first | refine WpA.seq ?_ | refine WpA.drawU ?_ | refine WpA.regionU ?_ | refine WpA.block ?_ | refine WpA.ret ?_ | refine WpA.skip ?_ | refine WpA.exit ?_ | refine WpA.cond_true rfl ?_ | refine WpA.cond_false rfl ?_ | refine WpA.cond_ntrue rfl ?_ | refine WpA.cond_dec rfl (fun _ => ?_) (fun _ => ?_) | refine WpA.cond_not rfl (fun _ => ?_) (fun _ => ?_) | refine WpA.cond rfl (fun _ => ?_) (fun _ => ?_)) | (guard_target =~ RunU _ _ _ _ [] _ _ _ _; first | refine RunU.nilL ?_ | refine RunU.nilD (by kernel_rfl) ?_) | (guard_target =~ RunU _ _ _ _ (Oper.mk _ (Op.call ⟨Callee.value _, _, _⟩) _ _ _ none :: _) _ _ _ _; first | refine RunU.cons (step_call (hN) (.sh (.sh .nil)) (.shAgg rfl aggs_any (.sh shows_any .nil)) rfl) ?_) | (guard_target =~ RunU _ _ _ _ (Oper.mk _ _ _ _ _ none :: _) _ _ _ _; refine RunU.cons step_any ?_) | ((fail_if_success (guard_target =~ @Eq _ _ _)); (fail_if_success (guard_target =~ @Exists _ _)); first | refine Then.next ?_ | refine InBlock.next ?_ | refine Done.ret (.one (by first | exact .c rfl | exact .own rfl | exact .als rfl rfl | exact .ptr rfl rfl | exact .part rfl rfl rfl) .nil) (.sh .nil) ?_ rfl))
    all_goals try (exfalso; omega)
    all_goals exact ⟨j + 1, by omega, ⟨_, _, rfl, by exact own_ints hst.symm, int_eq (by omega), trivial⟩, by omega⟩
  · obtain rfl : j = P.length := by omega
    clear hNr
    repeat' (first | (guard_target =~ WpA _ _ _ _ _ _; first | refine WpA.seq ?_ | refine WpA.drawU ?_ | refine WpA.regionU ?_ | refine WpA.block ?_ | refine WpA.ret ?_ | refine WpA.skip ?_ | refine WpA.exit ?_ | refine WpA.cond_true rfl ?_ | refine WpA.cond_false rfl ?_ | refine WpA.cond_ntrue rfl ?_ | refine WpA.cond_dec rfl (fun _ => ?_) (fun _ => ?_) | refine WpA.cond_not rfl (fun _ => ?_) (fun _ => ?_) | refine WpA.cond rfl (fun _ => ?_) (fun _ => ?_)) | (guard_target =~ RunU _ _ _ _ [] _ _ _ _; first | refine RunU.nilL ?_ | refine RunU.nilD (by kernel_rfl) ?_) | (guard_target =~ RunU _ _ _ _ (Oper.mk _ _ _ _ _ none :: _) _ _ _ _; refine RunU.cons step_any ?_) | ((fail_if_success (guard_target =~ @Eq _ _ _)); (fail_if_success (guard_target =~ @Exists _ _)); first | refine Then.next ?_ | refine InBlock.next ?_ | refine Done.ret (.one (by first | exact .c rfl | exact .own rfl | exact .als rfl rfl | exact .ptr rfl rfl | exact .part rfl rfl rfl) .nil) (.sh .nil) ?_ rfl))
    all_goals first | rfl | (exfalso; omega)
end Go.Proofs.Ytleleajafgmpbaa
namespace Go.Proofs.Ytleleajafgmpbaa
set_option maxHeartbeats 20000000
set_option linter.unusedVariables false
set_option linter.unusedSimpArgs false
open Go.Pv
open Go.ChangeShapes Go.WideShapes Go.ChangeAt Go.RowKit
attribute [local irreducible] RunU WpA Step CallG CallNG Done DoneN
def euJ (V X : List Int) (j : Nat) : List Int := (List.range V.length).map fun t => if t < j then 2 - V.getD t 0 - X.getD t 0 else V.getD t 0
theorem euJ_len (V X : List Int) (j : Nat) : (euJ V X j).length = V.length := by simp [euJ]
theorem euJ_at (V X : List Int) (j : Nat) {t : Nat} (h : t < V.length) : (euJ V X j).getD t 0 = if t < j then 2 - V.getD t 0 - X.getD t 0 else V.getD t 0 := by simp [euJ, List.getD_eq_getElem?_getD, h]
theorem euJ_zero (V X : List Int) : euJ V X 0 = V := by
  refine list_ext (by simp [euJ_len]) fun k hk => ?_
  simp only [euJ_len] at hk
  rw [euJ_at _ _ _ hk, if_neg (by omega)]
theorem euJ_step {V X : List Int} {j : Nat} (h : j < V.length) : (euJ V X j).set j (2 - (euJ V X j).getD j 0 - X.getD j 0) = euJ V X (j + 1) := by
  refine list_ext (by simp [euJ_len]) fun k hk => ?_
  simp only [List.length_set, euJ_len] at hk
  rw [getD_set' (by rw [euJ_len]; exact h), euJ_at _ _ _ hk, euJ_at _ _ _ hk, euJ_at _ _ _ h, if_neg (Nat.lt_irrefl j)]
  by_cases e : j = k
  · subst e; rw [if_pos rfl, if_pos (by omega)]
  · rw [if_neg e]
    by_cases h2 : k < j
    · rw [if_pos h2, if_pos (by omega)]
    · rw [if_neg h2, if_neg (by omega)]
set_option maxRecDepth 100000 in
theorem specEu_c (P S W : List Int) (h : Cl P S W) : CallA Try.prog 27 [aCl P S W] [rL (euJ (vaTo (edTo P S P.length P.length) P.length) (exTo P S W W.length) P.length)] [] := by
  have hl := h.len
  have hW := h.lW
  have hV := specVa_c P S W h
  have hX := specEx_c P S W h
  have vl := vaTo_len (edTo P S P.length P.length) P.length
  have xl := exTo_len P S W W.length
  have hel := edTo_len P S P.length P.length
  have hin : P.length * P.length ≤ 24 * 24 := Nat.mul_le_mul hl.2 hl.2
  have vb : ∀ i, i < P.length → 0 ≤ (vaTo (edTo P S P.length P.length) P.length).getD i 0 ∧ (vaTo (edTo P S P.length P.length) P.length).getD i 0 ≤ 2000 := fun i hi => by
    have := near_few (edTo P S P.length P.length) i
    simp [vaTo, List.getD_eq_getElem?_getD, hi]
    omega
  have xb : ∀ i, i < P.length → -10000000 ≤ (exTo P S W W.length).getD i 0 ∧ (exTo P S W W.length).getD i 0 ≤ 10000000 := fun i hi => by
    have := exAt_bnd (P := P) (S := S) (W := W) (fun i hi => h.w i (by omega)) (i := i) (by omega) W.length (Nat.le_refl _)
    rw [exTo_at _ _ _ _ (by omega)]
    omega
  clear h hel hin
  generalize vaTo (edTo P S P.length P.length) P.length = Va at *
  generalize exTo P S W W.length = X at *
  refine callA_of _ Try.func27 rfl Try.ntmps27 (by first | exact ⟨rfl, rfl⟩ | (simp only [List.all_cons, List.all_nil, V.solid, D.solid, D.solids, solids_ints, solids_bools, solids_LL, Bool.and_self, Bool.and_true, and_self]; done) | simp [V.solid, D.solid, D.solids, solids_lits, solids_ints, solids_bools, solids_LL]) ?_
  repeat' (first | (guard_target =~ WpA _ _ _ _ _ _; first | refine WpA.seq ?_ | refine WpA.drawU ?_ | refine WpA.regionU ?_ | refine WpA.block ?_ | refine WpA.ret ?_ | refine WpA.skip ?_ | refine WpA.exit ?_ | refine WpA.cond_true rfl ?_ | refine WpA.cond_false rfl ?_ | refine WpA.cond_ntrue rfl ?_ | refine WpA.cond_dec rfl (fun _ => ?_) (fun _ => ?_) | refine WpA.cond_not rfl (fun _ => ?_) (fun _ => ?_) | refine WpA.cond rfl (fun _ => ?_) (fun _ => ?_)) | (guard_target =~ RunU _ _ _ _ [] _ _ _ _; first | refine RunU.nilL ?_ | refine RunU.nilD (by kernel_rfl) ?_) | (guard_target =~ RunU _ _ _ _ (Oper.mk _ (Op.call ⟨Callee.value _, _, _⟩) _ _ _ none :: _) _ _ _ _; first | refine RunU.cons (step_call (hV) (.sh .nil) (.shAgg rfl aggs_any .nil) rfl) ?_ | refine RunU.cons (step_call (hX) (.sh (.sh .nil)) (.shAgg rfl aggs_any (.sh shows_any .nil)) rfl) ?_) | (guard_target =~ RunU _ _ _ _ (Oper.mk _ _ _ _ _ none :: _) _ _ _ _; refine RunU.cons step_any ?_) | ((fail_if_success (guard_target =~ @Eq _ _ _)); (fail_if_success (guard_target =~ @Exists _ _)); first | refine Then.next ?_ | refine InBlock.next ?_ | refine Done.ret (.one (by first | exact .c rfl | exact .own rfl | exact .als rfl rfl | exact .ptr rfl rfl | exact .part rfl rfl rfl) .nil) (.sh .nil) ?_ rfl))
  clear hV hX
  refine WpA.loop_ids2 (fun j i3 i4 => [(3, .own i3 (.sl true 1 (ints (euJ Va X j)))), (4, .own i4 (.sl true 1 (ints X))), (5, vJ j)]) (fun j => j ≤ P.length) (fun j => P.length - j) 0 _ _ (by omega) ⟨by exact own_ints (euJ_zero Va X).symm, by exact rfl, rfl, trivial⟩ ?_
  intro j i3 i4 s nx hj
  have hel := euJ_len Va X j
  by_cases hlt : j < P.length
  · have hst := euJ_step (V := Va) (X := X) (j := j) (by omega)
    have b1 := vb (j * 1) (by omega)
    have b2 := xb (j * 1) (by omega)
    have b3 := euJ_at Va X j (t := j * 1) (by omega)
    rw [if_neg (by omega)] at b3
    have hst2 : (euJ Va X j).set (j * 1) (2 - (euJ Va X j).getD (j * 1) 0 - X.getD (j * 1) 0) = euJ Va X (j + 1) := by simp only [Nat.mul_one]; exact hst
    rw [← b3] at b1
    clear vb xb b3 hst
    repeat' (first | (guard_target =~ WpA _ _ _ _ _ _; first | refine WpA.seq ?_ | refine WpA.drawU ?_ | refine WpA.regionU ?_ | refine WpA.block ?_ | refine WpA.ret ?_ | refine WpA.skip ?_ | refine WpA.exit ?_ | refine WpA.cond_true rfl ?_ | refine WpA.cond_false rfl ?_ | refine WpA.cond_ntrue rfl ?_ | refine WpA.cond_dec rfl (fun _ => ?_) (fun _ => ?_) | refine WpA.cond_not rfl (fun _ => ?_) (fun _ => ?_) | refine WpA.cond rfl (fun _ => ?_) (fun _ => ?_)) | (guard_target =~ RunU _ _ _ _ [] _ _ _ _; first | refine RunU.nilL ?_ | refine RunU.nilD (by kernel_rfl) ?_) | (guard_target =~ RunU _ _ _ _ (Oper.mk _ _ _ _ _ none :: _) _ _ _ _; refine RunU.cons step_any ?_) | ((fail_if_success (guard_target =~ @Eq _ _ _)); (fail_if_success (guard_target =~ @Exists _ _)); first | refine Then.next ?_ | refine InBlock.next ?_ | refine Done.ret (.one (by first | exact .c rfl | exact .own rfl | exact .als rfl rfl | exact .ptr rfl rfl | exact .part rfl rfl rfl) .nil) (.sh .nil) ?_ rfl))
    all_goals try (exfalso; omega)
    all_goals exact ⟨j + 1, by omega, ⟨_, _, by exact own_ints hst2, rfl, int_eq (by omega), trivial⟩, by omega⟩
  · obtain rfl : j = P.length := by omega
    clear vb xb
    repeat' (first | (guard_target =~ WpA _ _ _ _ _ _; first | refine WpA.seq ?_ | refine WpA.drawU ?_ | refine WpA.regionU ?_ | refine WpA.block ?_ | refine WpA.ret ?_ | refine WpA.skip ?_ | refine WpA.exit ?_ | refine WpA.cond_true rfl ?_ | refine WpA.cond_false rfl ?_ | refine WpA.cond_ntrue rfl ?_ | refine WpA.cond_dec rfl (fun _ => ?_) (fun _ => ?_) | refine WpA.cond_not rfl (fun _ => ?_) (fun _ => ?_) | refine WpA.cond rfl (fun _ => ?_) (fun _ => ?_)) | (guard_target =~ RunU _ _ _ _ [] _ _ _ _; first | refine RunU.nilL ?_ | refine RunU.nilD (by kernel_rfl) ?_) | (guard_target =~ RunU _ _ _ _ (Oper.mk _ _ _ _ _ none :: _) _ _ _ _; refine RunU.cons step_any ?_) | ((fail_if_success (guard_target =~ @Eq _ _ _)); (fail_if_success (guard_target =~ @Exists _ _)); first | refine Then.next ?_ | refine InBlock.next ?_ | refine Done.ret (.one (by first | exact .c rfl | exact .own rfl | exact .als rfl rfl | exact .ptr rfl rfl | exact .part rfl rfl rfl) .nil) (.sh .nil) ?_ rfl))
    all_goals first | rfl | (exfalso; omega)
end Go.Proofs.Ytleleajafgmpbaa
namespace Go.Proofs.Ytleleajafgmpbaa
set_option maxHeartbeats 20000000
set_option linter.unusedVariables false
set_option linter.unusedSimpArgs false
open Go.Pv
open Go.ChangeShapes Go.WideShapes Go.ChangeAt Go.RowKit
attribute [local irreducible] RunU WpA Step CallG CallNG Done DoneN
instance fnOk72 : FnOk Try.prog 72 := ⟨_, Try.func72, rfl, by decide⟩
instance fnOk36 : FnOk Try.prog 36 := ⟨_, Try.func36, rfl, by decide⟩
theorem srtRow_len {n : Nat} {E : List (List Int)} (hg : GoodE n E) {i : Nat} (hi : i < n) : (((adjL E n E.length).map srt).getD i []).length = (near E i).length := by
  rw [adj_srt hg]
  simp [nbL, List.getD_eq_getElem?_getD, hi]
set_option maxRecDepth 100000 in
theorem valences_c (w : List Int) (E : List (List Int)) (hw : w.length ≤ 24) (hE : E.length ≤ 1000) (hg : GoodE w.length E) : CallA Try.prog 72 [aGr w E] [rL (vaTo E w.length)] [] := by
  have hN := neighbours_c w E (by omega) hE hg
  have hr := fun i (hi : i < w.length) => srtRow_len hg hi
  have hNl : ((adjL E w.length E.length).map srt).length = w.length := by rw [List.length_map, adjL_len]
  have hf := near_few E
  clear hg
  generalize (adjL E w.length E.length).map srt = A at *
  refine callA_of _ Try.func72 rfl Try.ntmps72 (by first | exact ⟨rfl, rfl⟩ | (simp only [List.all_cons, List.all_nil, V.solid, D.solid, D.solids, solids_ints, solids_bools, solids_LL, Bool.and_self, Bool.and_true, and_self]; done) | simp [V.solid, D.solid, D.solids, solids_lits, solids_ints, solids_bools, solids_LL]) ?_
  repeat' (first | (guard_target =~ WpA _ _ _ _ _ _; first | refine WpA.seq ?_ | refine WpA.drawU ?_ | refine WpA.regionU ?_ | refine WpA.block ?_ | refine WpA.ret ?_ | refine WpA.skip ?_ | refine WpA.exit ?_ | refine WpA.cond_true rfl ?_ | refine WpA.cond_false rfl ?_ | refine WpA.cond_ntrue rfl ?_ | refine WpA.cond_dec rfl (fun _ => ?_) (fun _ => ?_) | refine WpA.cond_not rfl (fun _ => ?_) (fun _ => ?_) | refine WpA.cond rfl (fun _ => ?_) (fun _ => ?_)) | (guard_target =~ RunU _ _ _ _ [] _ _ _ _; first | refine RunU.nilL ?_ | refine RunU.nilD (by kernel_rfl) ?_) | (guard_target =~ RunU _ _ _ _ (Oper.mk _ (Op.call ⟨Callee.value _, _, _⟩) _ _ _ none :: _) _ _ _ _; first | refine RunU.cons (step_call (hN) (.sh .nil) (.shAgg rfl aggs_any .nil) rfl) ?_) | (guard_target =~ RunU _ _ _ _ (Oper.mk _ _ _ _ _ none :: _) _ _ _ _; refine RunU.cons step_any ?_) | ((fail_if_success (guard_target =~ @Eq _ _ _)); (fail_if_success (guard_target =~ @Exists _ _)); first | refine Then.next ?_ | refine InBlock.next ?_ | refine Done.ret (.one (by first | exact .c rfl | exact .own rfl | exact .als rfl rfl | exact .ptr rfl rfl | exact .part rfl rfl rfl) .nil) (.sh .nil) ?_ rfl))
  clear hN
  refine WpA.loop_ids2 (fun j i3 i8 => [(3, .own i3 (.sl true 1 (ints (vaTo E j)))), (8, .own i8 (.sl true 1 (LL A))), (9, vJ w.length), (10, vJ j)]) (fun j => j ≤ w.length) (fun j => w.length - j) 0 _ _ (by omega) ⟨by exact own_ints (l := []) rfl, by exact rfl, int_eq (by omega), rfl, trivial⟩ ?_
  intro j i3 i8 s nx hj
  have hvl := vaTo_len E j
  have hst := vaTo_step E j
  have hnf := hf j
  by_cases hlt : j < w.length
  · have hr := hr (j * 1) (by omega)
    rw [show ((near E j).length : Int) = ((A.getD (j * 1) []).length : Int) by rw [hr, Nat.mul_one]] at hst
    rw [Nat.mul_one] at hr
    have hr2 : (A.getD (j * 1) []).length = (near E j).length := by rw [Nat.mul_one]; exact hr
    clear hf hr
    repeat' (first | (guard_target =~ WpA _ _ _ _ _ _; first | refine WpA.seq ?_ | refine WpA.drawU ?_ | refine WpA.regionU ?_ | refine WpA.block ?_ | refine WpA.ret ?_ | refine WpA.skip ?_ | refine WpA.exit ?_ | refine WpA.cond_true rfl ?_ | refine WpA.cond_false rfl ?_ | refine WpA.cond_ntrue rfl ?_ | refine WpA.cond_dec rfl (fun _ => ?_) (fun _ => ?_) | refine WpA.cond_not rfl (fun _ => ?_) (fun _ => ?_) | refine WpA.cond rfl (fun _ => ?_) (fun _ => ?_)) | (guard_target =~ RunU _ _ _ _ [] _ _ _ _; first | refine RunU.nilL ?_ | refine RunU.nilD (by kernel_rfl) ?_) | (guard_target =~ RunU _ _ _ _ (Oper.mk _ _ _ _ _ none :: _) _ _ _ _; refine RunU.cons step_any ?_) | ((fail_if_success (guard_target =~ @Eq _ _ _)); (fail_if_success (guard_target =~ @Exists _ _)); first | refine Then.next ?_ | refine InBlock.next ?_ | refine Done.ret (.one (by first | exact .c rfl | exact .own rfl | exact .als rfl rfl | exact .ptr rfl rfl | exact .part rfl rfl rfl) .nil) (.sh .nil) ?_ rfl))
    all_goals try (exfalso; omega)
    all_goals exact ⟨j + 1, by omega, ⟨_, _, by exact own_ints hst.symm, rfl, rfl, int_eq (by omega), trivial⟩, by omega⟩
  · obtain rfl : j = w.length := by omega
    clear hf hr
    repeat' (first | (guard_target =~ WpA _ _ _ _ _ _; first | refine WpA.seq ?_ | refine WpA.drawU ?_ | refine WpA.regionU ?_ | refine WpA.block ?_ | refine WpA.ret ?_ | refine WpA.skip ?_ | refine WpA.exit ?_ | refine WpA.cond_true rfl ?_ | refine WpA.cond_false rfl ?_ | refine WpA.cond_ntrue rfl ?_ | refine WpA.cond_dec rfl (fun _ => ?_) (fun _ => ?_) | refine WpA.cond_not rfl (fun _ => ?_) (fun _ => ?_) | refine WpA.cond rfl (fun _ => ?_) (fun _ => ?_)) | (guard_target =~ RunU _ _ _ _ [] _ _ _ _; first | refine RunU.nilL ?_ | refine RunU.nilD (by kernel_rfl) ?_) | (guard_target =~ RunU _ _ _ _ (Oper.mk _ _ _ _ _ none :: _) _ _ _ _; refine RunU.cons step_any ?_) | ((fail_if_success (guard_target =~ @Eq _ _ _)); (fail_if_success (guard_target =~ @Exists _ _)); first | refine Then.next ?_ | refine InBlock.next ?_ | refine Done.ret (.one (by first | exact .c rfl | exact .own rfl | exact .als rfl rfl | exact .ptr rfl rfl | exact .part rfl rfl rfl) .nil) (.sh .nil) ?_ rfl))
    all_goals first | rfl | (exfalso; omega)
def euA (V X : List Int) (j : Nat) : List Int := (List.range j).map fun t => 2 - V.getD t 0 - X.getD t 0
theorem euA_len (V X : List Int) (j : Nat) : (euA V X j).length = j := by simp [euA]
theorem euA_step (V X : List Int) (j : Nat) : euA V X (j + 1) = euA V X j ++ [2 - V.getD j 0 - X.getD j 0] := by simp [euA, List.range_succ]
theorem euA_eq (V X : List Int) : euA V X V.length = euJ V X V.length := by
  unfold euA euJ
  refine List.map_congr_left fun t ht => ?_
  rw [if_pos (by simpa using ht)]
set_option maxRecDepth 100000 in
theorem implEu_c (P S W : List Int) (h : Cl P S W) : CallA Try.prog 36 [aCl P S W] [rL (euJ (vaTo (edTo P S P.length P.length) P.length) (exTo P S W W.length) P.length)] [] := by
  have hl := h.len
  have hW := h.lW
  have hG := graphOf_c P S W h
  have hX := implEx_c P S W h
  have vl := vaTo_len (edTo P S P.length P.length) P.length
  have xl := exTo_len P S W W.length
  have hwl := wtTo_len P S P.length P.length
  have hel := edTo_len P S P.length P.length
  have hin : P.length * P.length ≤ 24 * 24 := Nat.mul_le_mul hl.2 hl.2
  have hV := valences_c (wtTo P S P.length P.length) (edTo P S P.length P.length) (by omega) (by omega) (by rw [hwl]; exact edTo_good P S P.length)
  rw [hwl] at hV
  have vb : ∀ i, i < P.length → 0 ≤ (vaTo (edTo P S P.length P.length) P.length).getD i 0 ∧ (vaTo (edTo P S P.length P.length) P.length).getD i 0 ≤ 2000 := fun i hi => by
    have := near_few (edTo P S P.length P.length) i
    simp [vaTo, List.getD_eq_getElem?_getD, hi]
    omega
  have xb := exTo_in h (j := W.length) (by omega)
  have ee := euA_eq (vaTo (edTo P S P.length P.length) P.length) (exTo P S W W.length)
  rw [vl] at ee
  rw [← ee]
  clear h hel hin ee
  generalize vaTo (edTo P S P.length P.length) P.length = Va at *
  generalize exTo P S W W.length = X at *
  generalize wtTo P S P.length P.length = wt at *
  generalize edTo P S P.length P.length = E at *
  refine callA_of _ Try.func36 rfl Try.ntmps36 (by first | exact ⟨rfl, rfl⟩ | (simp only [List.all_cons, List.all_nil, V.solid, D.solid, D.solids, solids_ints, solids_bools, solids_LL, Bool.and_self, Bool.and_true, and_self]; done) | simp [V.solid, D.solid, D.solids, solids_lits, solids_ints, solids_bools, solids_LL]) ?_
  repeat' (first | (guard_target =~ WpA _ _ _ _ _ _; first | refine WpA.seq ?_ | refine WpA.drawU ?_ | refine WpA.regionU ?_ | refine WpA.block ?_ | refine WpA.ret ?_ | refine WpA.skip ?_ | refine WpA.exit ?_ | refine WpA.cond_true rfl ?_ | refine WpA.cond_false rfl ?_ | refine WpA.cond_ntrue rfl ?_ | refine WpA.cond_dec rfl (fun _ => ?_) (fun _ => ?_) | refine WpA.cond_not rfl (fun _ => ?_) (fun _ => ?_) | refine WpA.cond rfl (fun _ => ?_) (fun _ => ?_)) | (guard_target =~ RunU _ _ _ _ [] _ _ _ _; first | refine RunU.nilL ?_ | refine RunU.nilD (by kernel_rfl) ?_) | (guard_target =~ RunU _ _ _ _ (Oper.mk _ (Op.call ⟨Callee.value _, _, _⟩) _ _ _ none :: _) _ _ _ _; first | refine RunU.cons (step_call (hG) (.sh .nil) (.shAgg rfl aggs_any .nil) rfl) ?_ | refine RunU.cons (step_call (hX) (.sh .nil) (.shAgg rfl aggs_any .nil) rfl) ?_ | refine RunU.cons (step_call (hV) (.sh .nil) (.shAgg rfl aggs_any .nil) rfl) ?_) | (guard_target =~ RunU _ _ _ _ (Oper.mk _ _ _ _ _ none :: _) _ _ _ _; refine RunU.cons step_any ?_) | ((fail_if_success (guard_target =~ @Eq _ _ _)); (fail_if_success (guard_target =~ @Exists _ _)); first | refine Then.next ?_ | refine InBlock.next ?_ | refine Done.ret (.one (by first | exact .c rfl | exact .own rfl | exact .als rfl rfl | exact .ptr rfl rfl | exact .part rfl rfl rfl) .nil) (.sh .nil) ?_ rfl))
  clear hG hV hX
  refine WpA.loop_ids3 (fun j i3 i4 i12 => [(3, .own i3 (.sl true 1 (ints (euA Va X j)))), (4, .own i4 (.sl true 1 (ints X))), (12, .own i12 (.sl true 1 (ints Va))), (13, vJ P.length), (14, vJ j)]) (fun j => j ≤ P.length) (fun j => P.length - j) 0 _ _ _ (by omega) ⟨by exact own_ints (l := []) rfl, by exact rfl, by exact rfl, int_eq (by omega), rfl, trivial⟩ ?_
  intro j i3 i4 i12 s nx hj
  have hel := euA_len Va X j
  by_cases hlt : j < P.length
  · have hst := euA_step Va X j
    have b1 := vb (j * 1) (by omega)
    have b2 := xb (j * 1)
    rw [show 2 - Va.getD j 0 - X.getD j 0 = 2 - Va.getD (j * 1) 0 - X.getD (j * 1) 0 by rw [Nat.mul_one]] at hst
    clear vb xb
    repeat' (first | (guard_target =~ WpA _ _ _ _ _ _; first | refine WpA.seq ?_ | refine WpA.drawU ?_ | refine WpA.regionU ?_ | refine WpA.block ?_ | refine WpA.ret ?_ | refine WpA.skip ?_ | refine WpA.exit ?_ | refine WpA.cond_true rfl ?_ | refine WpA.cond_false rfl ?_ | refine WpA.cond_ntrue rfl ?_ | refine WpA.cond_dec rfl (fun _ => ?_) (fun _ => ?_) | refine WpA.cond_not rfl (fun _ => ?_) (fun _ => ?_) | refine WpA.cond rfl (fun _ => ?_) (fun _ => ?_)) | (guard_target =~ RunU _ _ _ _ [] _ _ _ _; first | refine RunU.nilL ?_ | refine RunU.nilD (by kernel_rfl) ?_) | (guard_target =~ RunU _ _ _ _ (Oper.mk _ _ _ _ _ none :: _) _ _ _ _; refine RunU.cons step_any ?_) | ((fail_if_success (guard_target =~ @Eq _ _ _)); (fail_if_success (guard_target =~ @Exists _ _)); first | refine Then.next ?_ | refine InBlock.next ?_ | refine Done.ret (.one (by first | exact .c rfl | exact .own rfl | exact .als rfl rfl | exact .ptr rfl rfl | exact .part rfl rfl rfl) .nil) (.sh .nil) ?_ rfl))
    all_goals try (exfalso; omega)
    all_goals exact ⟨j + 1, by omega, ⟨_, _, _, by exact own_ints hst.symm, rfl, rfl, rfl, int_eq (by omega), trivial⟩, by omega⟩
  · obtain rfl : j = P.length := by omega
    clear vb xb
    repeat' (first | (guard_target =~ WpA _ _ _ _ _ _; first | refine WpA.seq ?_ | refine WpA.drawU ?_ | refine WpA.regionU ?_ | refine WpA.block ?_ | refine WpA.ret ?_ | refine WpA.skip ?_ | refine WpA.exit ?_ | refine WpA.cond_true rfl ?_ | refine WpA.cond_false rfl ?_ | refine WpA.cond_ntrue rfl ?_ | refine WpA.cond_dec rfl (fun _ => ?_) (fun _ => ?_) | refine WpA.cond_not rfl (fun _ => ?_) (fun _ => ?_) | refine WpA.cond rfl (fun _ => ?_) (fun _ => ?_)) | (guard_target =~ RunU _ _ _ _ [] _ _ _ _; first | refine RunU.nilL ?_ | refine RunU.nilD (by kernel_rfl) ?_) | (guard_target =~ RunU _ _ _ _ (Oper.mk _ _ _ _ _ none :: _) _ _ _ _; refine RunU.cons step_any ?_) | ((fail_if_success (guard_target =~ @Eq _ _ _)); (fail_if_success (guard_target =~ @Exists _ _)); first | refine Then.next ?_ | refine InBlock.next ?_ | refine Done.ret (.one (by first | exact .c rfl | exact .own rfl | exact .als rfl rfl | exact .ptr rfl rfl | exact .part rfl rfl rfl) .nil) (.sh .nil) ?_ rfl))
    all_goals first | rfl | (exfalso; omega)
end Go.Proofs.Ytleleajafgmpbaa
