/- Excesses of clusters: the reference. No condition. -/
import Derived.Test.YtleleajafgmpbaaVZcA
import Derived.Test.YtleleajafgmpbaaVGrH
namespace Go.Proofs.Ytleleajafgmpbaa
set_option maxHeartbeats 20000000
set_option linter.unusedVariables false
set_option linter.unusedSimpArgs false
open Go.Pv
open Go.ChangeShapes Go.WideShapes Go.ChangeAt Go.RowKit
attribute [local irreducible] RunU WpA Step CallG CallNG Done DoneN
instance fnOk70 : FnOk Try.prog 70 := ⟨_, Try.func70, rfl, by decide⟩
def pxJ (P S : List Int) (j : Nat) : List (List Int) := (List.range P.length).map fun i => if i < j then prxAt P S i else []
theorem pxJ_len (P S : List Int) (j : Nat) : (pxJ P S j).length = P.length := by simp [pxJ]
theorem pxJ_at (P S : List Int) (j : Nat) {i : Nat} (h : i < P.length) : (pxJ P S j).getD i [] = if i < j then prxAt P S i else [] := by simp [pxJ, List.getD_eq_getElem?_getD, h]
theorem pxJ_end (P S : List Int) : pxJ P S P.length = prxTo P S P.length := by
  unfold pxJ prxTo
  refine List.map_congr_left fun i hi => ?_
  rw [if_pos (by simpa using hi)]
theorem pxJ_mk {id : Nat} (P S : List Int) : AV.own id (.sl true 1 (List.replicate P.length (D.sl true 1 []))) = AV.own id (.sl true 1 (LL (pxJ P S 1))) := by
  have : pxJ P S 1 = List.replicate P.length [] := by
    unfold pxJ
    rw [show List.replicate P.length ([] : List Int) = (List.range P.length).map fun _ => [] by simp [List.map_const']]
    refine List.map_congr_left fun i _ => ?_
    by_cases e : i = 0
    · subst e; simp [prxAt]
    · rw [if_neg (by omega)]
  rw [this]
  simp [LL, ints]
theorem pxJ_one {P S : List Int} {j : Nat} (h1 : 1 ≤ j) (hj : j < P.length) (hs : ¬ 0 ≤ S.getD j 0) : (pxJ P S j).set j ((pxJ P S j).getD j [] ++ [P.getD j 0]) = pxJ P S (j + 1) := by
  refine extL (by simp [pxJ_len]) fun k hk => ?_
  simp only [List.length_set, pxJ_len] at hk
  rw [getD_setL (by rw [pxJ_len]; exact hj), pxJ_at _ _ _ hk, pxJ_at _ _ _ hk, pxJ_at _ _ _ hj, if_neg (Nat.lt_irrefl j)]
  by_cases e : j = k
  · subst e
    rw [if_pos rfl, if_pos (by omega), prxAt, if_neg (by omega), if_neg hs]
  · rw [if_neg e]
    by_cases h2 : k < j
    · rw [if_pos h2, if_pos (by omega)]
    · rw [if_neg h2, if_neg (by omega)]
theorem pxJ_two {P S : List Int} {j : Nat} (h1 : 1 ≤ j) (hj : j < P.length) (hs : 0 ≤ S.getD j 0) : ((pxJ P S j).set j ((pxJ P S j).getD j [] ++ [S.getD j 0])).set j (((pxJ P S j).set j ((pxJ P S j).getD j [] ++ [S.getD j 0])).getD j [] ++ [P.getD j 0]) = pxJ P S (j + 1) := by
  have hl := pxJ_len P S j
  refine extL (by simp [pxJ_len]) fun k hk => ?_
  simp only [List.length_set, pxJ_len] at hk
  rw [getD_setL (by rw [List.length_set, hl]; exact hj), getD_setL (by rw [hl]; exact hj), getD_setL (by rw [hl]; exact hj), pxJ_at _ _ _ hk, pxJ_at _ _ _ hk, pxJ_at _ _ _ hj, if_neg (Nat.lt_irrefl j)]
  by_cases e : j = k
  · subst e
    rw [if_pos rfl, if_pos rfl, if_pos (by omega), prxAt, if_neg (by omega), if_pos hs]
    rfl
  · rw [if_neg e, if_neg e]
    by_cases h2 : k < j
    · rw [if_pos h2, if_pos (by omega)]
    · rw [if_neg h2, if_neg (by omega)]
set_option maxRecDepth 100000 in
theorem clPrx_c (P S W : List Int) (h : Cl P S W) : CallA Try.prog 70 [aCl P S W] [rLL (prxTo P S P.length)] [] := by
  have hl := h.len
  have hS := h.lS
  have he := pxJ_end P S
  rw [← he]
  clear he h
  refine callA_of _ Try.func70 rfl Try.ntmps70 (by first | exact ⟨rfl, rfl⟩ | (simp only [List.all_cons, List.all_nil, V.solid, D.solid, D.solids, solids_ints, solids_bools, solids_LL, Bool.and_self, Bool.and_true, and_self]; done) | simp [V.solid, D.solid, D.solids, solids_lits, solids_ints, solids_bools, solids_LL]) ?_
  repeat' (first | (guard_target =~ WpA _ _ _ _ _ _; first | refine WpA.seq ?_ | refine WpA.drawU ?_ | refine WpA.regionU ?_ | refine WpA.block ?_ | refine WpA.ret ?_ | refine WpA.skip ?_ | refine WpA.exit ?_ | refine WpA.cond_true rfl ?_ | refine WpA.cond_false rfl ?_ | refine WpA.cond_ntrue rfl ?_ | refine WpA.cond_dec rfl (fun _ => ?_) (fun _ => ?_) | refine WpA.cond_not rfl (fun _ => ?_) (fun _ => ?_) | refine WpA.cond rfl (fun _ => ?_) (fun _ => ?_)) | (guard_target =~ RunU _ _ _ _ [] _ _ _ _; first | refine RunU.nilL ?_ | refine RunU.nilD (by simp only [List.reverse_cons, List.reverse_nil, List.nil_append, List.cons_append, List.map_cons, List.map_nil, List.append_nil, fpE, rdE, wkE, rdOf, List.append_eq, List.singleton_append]; decide) ?_) | (guard_target =~ RunU _ _ _ _ (Oper.mk _ _ _ _ _ none :: _) _ _ _ _; refine RunU.cons step_any ?_) | ((fail_if_success (guard_target =~ @Eq _ _ _)); (fail_if_success (guard_target =~ @Exists _ _)); first | refine Then.next ?_ | refine InBlock.next ?_ | refine Done.ret (.one (by first | exact .c rfl | exact .own rfl | exact .als rfl rfl | exact .ptr rfl rfl | exact .part rfl rfl rfl) .nil) (.sh .nil) ?_ rfl))
  refine WpA.loop_slots2 (fun j id => [(1, vCl P S W), (3, .own id (.sl true 1 (LL (pxJ P S j)))), (4, vJ j)]) (fun j => 1 ≤ j ∧ j ≤ P.length) (fun j => P.length - j) 1 _ (by omega) ⟨rfl, by exact pxJ_mk P S, rfl, trivial⟩ ?_
  rintro j id s nx ⟨h1, hj⟩
  have hpl := pxJ_len P S j
  by_cases hlt : j < P.length
  · have hrow : ((pxJ P S j).getD (j * 1) []).length = 0 := by rw [Nat.mul_one, pxJ_at _ _ _ hlt, if_neg (Nat.lt_irrefl j)]; rfl
    by_cases hs0 : 0 ≤ S.getD (j * 1) 0
    · have e := pxJ_two h1 hlt (by simpa using hs0)
      have lb : (((pxJ P S j).set (j * 1) ((pxJ P S j).getD (j * 1) [] ++ [S.getD (j * 1) 0])).getD (j * 1) []).length = 1 := by
        rw [getD_setL (by omega), if_pos rfl, List.length_append, hrow]; rfl
      have ls : ((pxJ P S j).set (j * 1) ((pxJ P S j).getD (j * 1) [] ++ [S.getD (j * 1) 0])).length = (pxJ P S j).length := List.length_set
      rw [show ∀ A : List (List Int), (A.set j (A.getD j [] ++ [S.getD j 0])).set j ((A.set j (A.getD j [] ++ [S.getD j 0])).getD j [] ++ [P.getD j 0]) = (A.set (j * 1) (A.getD (j * 1) [] ++ [S.getD (j * 1) 0])).set (j * 1) ((A.set (j * 1) (A.getD (j * 1) [] ++ [S.getD (j * 1) 0])).getD (j * 1) [] ++ [P.getD (j * 1) 0]) from fun A => by simp only [Nat.mul_one]] at e
      generalize pxJ P S j = A at *
      repeat' (first | (guard_target =~ WpA _ _ _ _ _ _; first | refine WpA.seq ?_ | refine WpA.drawU ?_ | refine WpA.regionU ?_ | refine WpA.block ?_ | refine WpA.ret ?_ | refine WpA.skip ?_ | refine WpA.exit ?_ | refine WpA.cond_true rfl ?_ | refine WpA.cond_false rfl ?_ | refine WpA.cond_ntrue rfl ?_ | refine WpA.cond_dec rfl (fun _ => ?_) (fun _ => ?_) | refine WpA.cond_not rfl (fun _ => ?_) (fun _ => ?_) | refine WpA.cond rfl (fun _ => ?_) (fun _ => ?_)) | (guard_target =~ RunU _ _ _ _ [] _ _ _ _; first | refine RunU.nilL ?_ | refine RunU.nilD (by simp only [List.reverse_cons, List.reverse_nil, List.nil_append, List.cons_append, List.map_cons, List.map_nil, List.append_nil, fpE, rdE, wkE, rdOf, List.append_eq, List.singleton_append]; decide) ?_) | (guard_target =~ RunU _ _ _ _ (Oper.mk (some 21) (Op.move _) _ _ _ none :: _) _ _ _ _; first | refine RunU.consW (stepW_move_headL rfl rfl) ?_ | refine RunU.consW (stepW_move_header rfl rfl) ?_) | (guard_target =~ RunU _ _ _ _ (Oper.mk (some 35) (Op.move _) _ _ _ none :: _) _ _ _ _; first | refine RunU.consW (stepW_move_headL rfl rfl) ?_ | refine RunU.consW (stepW_move_header rfl rfl) ?_) | (guard_target =~ RunU _ _ _ _ (Oper.mk _ (Op.call ⟨Callee.builtin Builtin.append, _, _⟩) _ _ _ none :: _) _ _ _ _; refine RunU.consK step_any (by exact rfl) (by exact rfl) (by exact hdr_set rfl) ?_) | (guard_target =~ RunU _ _ _ _ (Oper.mk _ _ _ _ _ none :: _) _ _ _ _; refine RunU.cons step_any ?_) | ((fail_if_success (guard_target =~ @Eq _ _ _)); (fail_if_success (guard_target =~ @Exists _ _)); first | refine Then.next ?_ | refine InBlock.next ?_ | refine Done.ret (.one (by first | exact .c rfl | exact .own rfl | exact .als rfl rfl | exact .ptr rfl rfl | exact .part rfl rfl rfl) .nil) (.sh .nil) ?_ rfl))
      all_goals try (exfalso; omega)
      all_goals exact ⟨j + 1, by omega, ⟨_, rfl, by exact own_LL e, int_eq (by omega), trivial⟩, by omega⟩
    · have e := pxJ_one h1 hlt (by simpa using hs0)
      rw [show ∀ A : List (List Int), A.set j (A.getD j [] ++ [P.getD j 0]) = A.set (j * 1) (A.getD (j * 1) [] ++ [P.getD (j * 1) 0]) from fun A => by simp only [Nat.mul_one]] at e
      generalize pxJ P S j = A at *
      repeat' (first | (guard_target =~ WpA _ _ _ _ _ _; first | refine WpA.seq ?_ | refine WpA.drawU ?_ | refine WpA.regionU ?_ | refine WpA.block ?_ | refine WpA.ret ?_ | refine WpA.skip ?_ | refine WpA.exit ?_ | refine WpA.cond_true rfl ?_ | refine WpA.cond_false rfl ?_ | refine WpA.cond_ntrue rfl ?_ | refine WpA.cond_dec rfl (fun _ => ?_) (fun _ => ?_) | refine WpA.cond_not rfl (fun _ => ?_) (fun _ => ?_) | refine WpA.cond rfl (fun _ => ?_) (fun _ => ?_)) | (guard_target =~ RunU _ _ _ _ [] _ _ _ _; first | refine RunU.nilL ?_ | refine RunU.nilD (by simp only [List.reverse_cons, List.reverse_nil, List.nil_append, List.cons_append, List.map_cons, List.map_nil, List.append_nil, fpE, rdE, wkE, rdOf, List.append_eq, List.singleton_append]; decide) ?_) | (guard_target =~ RunU _ _ _ _ (Oper.mk (some 21) (Op.move _) _ _ _ none :: _) _ _ _ _; first | refine RunU.consW (stepW_move_headL rfl rfl) ?_ | refine RunU.consW (stepW_move_header rfl rfl) ?_) | (guard_target =~ RunU _ _ _ _ (Oper.mk (some 35) (Op.move _) _ _ _ none :: _) _ _ _ _; first | refine RunU.consW (stepW_move_headL rfl rfl) ?_ | refine RunU.consW (stepW_move_header rfl rfl) ?_) | (guard_target =~ RunU _ _ _ _ (Oper.mk _ (Op.call ⟨Callee.builtin Builtin.append, _, _⟩) _ _ _ none :: _) _ _ _ _; refine RunU.consK step_any (by exact rfl) (by exact rfl) (by exact hdr_set rfl) ?_) | (guard_target =~ RunU _ _ _ _ (Oper.mk _ _ _ _ _ none :: _) _ _ _ _; refine RunU.cons step_any ?_) | ((fail_if_success (guard_target =~ @Eq _ _ _)); (fail_if_success (guard_target =~ @Exists _ _)); first | refine Then.next ?_ | refine InBlock.next ?_ | refine Done.ret (.one (by first | exact .c rfl | exact .own rfl | exact .als rfl rfl | exact .ptr rfl rfl | exact .part rfl rfl rfl) .nil) (.sh .nil) ?_ rfl))
      all_goals try (exfalso; omega)
      all_goals exact ⟨j + 1, by omega, ⟨_, rfl, by exact own_LL e, int_eq (by omega), trivial⟩, by omega⟩
  · obtain rfl : j = P.length := by omega
    repeat' (first | (guard_target =~ WpA _ _ _ _ _ _; first | refine WpA.seq ?_ | refine WpA.drawU ?_ | refine WpA.regionU ?_ | refine WpA.block ?_ | refine WpA.ret ?_ | refine WpA.skip ?_ | refine WpA.exit ?_ | refine WpA.cond_true rfl ?_ | refine WpA.cond_false rfl ?_ | refine WpA.cond_ntrue rfl ?_ | refine WpA.cond_dec rfl (fun _ => ?_) (fun _ => ?_) | refine WpA.cond_not rfl (fun _ => ?_) (fun _ => ?_) | refine WpA.cond rfl (fun _ => ?_) (fun _ => ?_)) | (guard_target =~ RunU _ _ _ _ [] _ _ _ _; first | refine RunU.nilL ?_ | refine RunU.nilD (by simp only [List.reverse_cons, List.reverse_nil, List.nil_append, List.cons_append, List.map_cons, List.map_nil, List.append_nil, fpE, rdE, wkE, rdOf, List.append_eq, List.singleton_append]; decide) ?_) | (guard_target =~ RunU _ _ _ _ (Oper.mk _ _ _ _ _ none :: _) _ _ _ _; refine RunU.cons step_any ?_) | ((fail_if_success (guard_target =~ @Eq _ _ _)); (fail_if_success (guard_target =~ @Exists _ _)); first | refine Then.next ?_ | refine InBlock.next ?_ | refine Done.ret (.one (by first | exact .c rfl | exact .own rfl | exact .als rfl rfl | exact .ptr rfl rfl | exact .part rfl rfl rfl) .nil) (.sh .nil) ?_ rfl))
    all_goals first | rfl | (exfalso; omega)
end Go.Proofs.Ytleleajafgmpbaa
namespace Go.Proofs.Ytleleajafgmpbaa
set_option maxHeartbeats 20000000
set_option linter.unusedVariables false
set_option linter.unusedSimpArgs false
open Go.Pv
open Go.ChangeShapes Go.WideShapes Go.ChangeAt Go.RowKit
attribute [local irreducible] RunU WpA Step CallG CallNG Done DoneN
instance fnOk61 : FnOk Try.prog 61 := ⟨_, Try.func61, rfl, by decide⟩
instance fnOk25 : FnOk Try.prog 25 := ⟨_, Try.func25, rfl, by decide⟩
set_option maxRecDepth 100000 in
theorem specEx_c (P S W : List Int) (h : Cl P S W) : CallA Try.prog 61 [aCl P S W, aL W] [rL (exTo P S W W.length)] [] := by
  have hl := h.len
  have hS := h.lS
  have hW := h.lW
  refine callA_of _ Try.func61 rfl Try.ntmps61 (by first | exact ⟨rfl, rfl⟩ | (simp only [List.all_cons, List.all_nil, V.solid, D.solid, D.solids, solids_ints, solids_bools, solids_LL, Bool.and_self, Bool.and_true, and_self]; done) | simp [V.solid, D.solid, D.solids, solids_lits, solids_ints, solids_bools, solids_LL]) ?_
  repeat' (first | (guard_target =~ WpA _ _ _ _ _ _; first | refine WpA.seq ?_ | refine WpA.drawU ?_ | refine WpA.regionU ?_ | refine WpA.block ?_ | refine WpA.ret ?_ | refine WpA.skip ?_ | refine WpA.exit ?_ | refine WpA.cond_true rfl ?_ | refine WpA.cond_false rfl ?_ | refine WpA.cond_ntrue rfl ?_ | refine WpA.cond_dec rfl (fun _ => ?_) (fun _ => ?_) | refine WpA.cond_not rfl (fun _ => ?_) (fun _ => ?_) | refine WpA.cond rfl (fun _ => ?_) (fun _ => ?_)) | (guard_target =~ RunU _ _ _ _ [] _ _ _ _; first | refine RunU.nilL ?_ | refine RunU.nilD (by kernel_rfl) ?_) | (guard_target =~ RunU _ _ _ _ (Oper.mk _ (Op.call ⟨Callee.value _, _, _⟩) _ _ _ none :: _) _ _ _ _; first | refine RunU.cons (step_call (l01Own_c W (by omega)) (.sh .nil) (.sh shows_any .nil) rfl) ?_) | (guard_target =~ RunU _ _ _ _ (Oper.mk _ _ _ _ _ none :: _) _ _ _ _; refine RunU.cons step_any ?_) | ((fail_if_success (guard_target =~ @Eq _ _ _)); (fail_if_success (guard_target =~ @Exists _ _)); first | refine Then.next ?_ | refine InBlock.next ?_ | refine Done.ret (.one (by first | exact .c rfl | exact .own rfl | exact .als rfl rfl | exact .ptr rfl rfl | exact .part rfl rfl rfl) .nil) (.sh (.sh .nil)) ?_ rfl))
  refine WpA.loop_slots2 (fun j id => [(1, .c (.sl false 1 (ints W))), (2, .own 2 (.pt true [.sl false 1 (ints P), .sl false 1 (ints S), .sl false 1 (ints W)])), (5, .own id (.sl true 1 (ints (exTo P S W (j + 1))))), (6, vJ (j + 1 : Nat))]) (fun j => j + 1 ≤ W.length) (fun j => W.length - j) 0 _ (by omega) ⟨rfl, rfl, by exact own_ints (exTo_first P S W).symm, rfl, trivial⟩ ?_
  intro j id s nx hj
  have hel := exTo_len P S W (j + 1)
  by_cases hlt : j + 1 < W.length
  · have hp := h.p ((j + 1) * 1) (by omega) (by omega)
    have hs := h.s ((j + 1) * 1) (by omega)
    have hw := h.w ((j + 1) * 1) (by omega)
    have hbnd : ∀ i, i < W.length → -10000000 ≤ (exTo P S W (j + 1)).getD i 0 ∧ (exTo P S W (j + 1)).getD i 0 ≤ 10000000 := fun i hi => by
      have := exAt_bnd (P := P) (S := S) (W := W) (fun i hi => h.w i (by omega)) (i := i) hi (j + 1) (by omega)
      rw [exTo_at _ _ _ _ hi]
      omega
    have b1 := hbnd ((P.getD ((j + 1) * 1) 0).toNat * 1) (by omega)
    by_cases hs0 : 0 ≤ S.getD ((j + 1) * 1) 0
    · have e := (exTo_two h (j := j + 1) (by omega) (by omega) (by simpa using hs0)).1
      have b2 := hbnd ((S.getD ((j + 1) * 1) 0).toNat * 1) (by omega)
      have b3 := sub1_at (exTo P S W (j + 1)) ((P.getD ((j + 1) * 1) 0).toNat * 1) (W.getD ((j + 1) * 1) 0) ((S.getD ((j + 1) * 1) 0).toNat * 1) (by omega)
      have b4 : -20000000 ≤ (sub1 (exTo P S W (j + 1)) ((P.getD ((j + 1) * 1) 0).toNat * 1) (W.getD ((j + 1) * 1) 0)).getD ((S.getD ((j + 1) * 1) 0).toNat * 1) 0 ∧ (sub1 (exTo P S W (j + 1)) ((P.getD ((j + 1) * 1) 0).toNat * 1) (W.getD ((j + 1) * 1) 0)).getD ((S.getD ((j + 1) * 1) 0).toNat * 1) 0 ≤ 20000000 := by
        rw [b3]; split <;> omega
      have e2 : sub1 (sub1 (exTo P S W (j + 1)) ((P.getD ((j + 1) * 1) 0).toNat * 1) (W.getD ((j + 1) * 1) 0)) ((S.getD ((j + 1) * 1) 0).toNat * 1) (W.getD ((j + 1) * 1) 0) = exTo P S W (j + 1 + 1) := by
        simp only [Nat.mul_one]; exact e
      unfold sub1 at e2 b4
      clear e b3 hbnd h
      repeat' (first | (guard_target =~ WpA _ _ _ _ _ _; first | refine WpA.seq ?_ | refine WpA.drawU ?_ | refine WpA.regionU ?_ | refine WpA.block ?_ | refine WpA.ret ?_ | refine WpA.skip ?_ | refine WpA.exit ?_ | refine WpA.cond_true rfl ?_ | refine WpA.cond_false rfl ?_ | refine WpA.cond_ntrue rfl ?_ | refine WpA.cond_dec rfl (fun _ => ?_) (fun _ => ?_) | refine WpA.cond_not rfl (fun _ => ?_) (fun _ => ?_) | refine WpA.cond rfl (fun _ => ?_) (fun _ => ?_)) | (guard_target =~ RunU _ _ _ _ [] _ _ _ _; first | refine RunU.nilL ?_ | refine RunU.nilD (by kernel_rfl) ?_) | (guard_target =~ RunU _ _ _ _ (Oper.mk _ _ _ _ _ none :: _) _ _ _ _; refine RunU.cons step_any ?_) | ((fail_if_success (guard_target =~ @Eq _ _ _)); (fail_if_success (guard_target =~ @Exists _ _)); first | refine Then.next ?_ | refine InBlock.next ?_ | refine Done.ret (.one (by first | exact .c rfl | exact .own rfl | exact .als rfl rfl | exact .ptr rfl rfl | exact .part rfl rfl rfl) .nil) (.sh (.sh .nil)) ?_ rfl))
      all_goals try (exfalso; omega)
      all_goals exact ⟨j + 1, by omega, ⟨_, rfl, rfl, by exact own_ints e2, int_eq (by simp), trivial⟩, by omega⟩
    · have e := exTo_one h (j := j + 1) (by omega) (by omega) (by simpa using hs0)
      have e2 : sub1 (exTo P S W (j + 1)) ((P.getD ((j + 1) * 1) 0).toNat * 1) (W.getD ((j + 1) * 1) 0) = exTo P S W (j + 1 + 1) := by
        simp only [Nat.mul_one]; exact e
      unfold sub1 at e2
      clear e hbnd h
      repeat' (first | (guard_target =~ WpA _ _ _ _ _ _; first | refine WpA.seq ?_ | refine WpA.drawU ?_ | refine WpA.regionU ?_ | refine WpA.block ?_ | refine WpA.ret ?_ | refine WpA.skip ?_ | refine WpA.exit ?_ | refine WpA.cond_true rfl ?_ | refine WpA.cond_false rfl ?_ | refine WpA.cond_ntrue rfl ?_ | refine WpA.cond_dec rfl (fun _ => ?_) (fun _ => ?_) | refine WpA.cond_not rfl (fun _ => ?_) (fun _ => ?_) | refine WpA.cond rfl (fun _ => ?_) (fun _ => ?_)) | (guard_target =~ RunU _ _ _ _ [] _ _ _ _; first | refine RunU.nilL ?_ | refine RunU.nilD (by kernel_rfl) ?_) | (guard_target =~ RunU _ _ _ _ (Oper.mk _ _ _ _ _ none :: _) _ _ _ _; refine RunU.cons step_any ?_) | ((fail_if_success (guard_target =~ @Eq _ _ _)); (fail_if_success (guard_target =~ @Exists _ _)); first | refine Then.next ?_ | refine InBlock.next ?_ | refine Done.ret (.one (by first | exact .c rfl | exact .own rfl | exact .als rfl rfl | exact .ptr rfl rfl | exact .part rfl rfl rfl) .nil) (.sh (.sh .nil)) ?_ rfl))
      all_goals try (exfalso; omega)
      all_goals exact ⟨j + 1, by omega, ⟨_, rfl, rfl, by exact own_ints e2, int_eq (by simp), trivial⟩, by omega⟩
  · have ej : j + 1 = W.length := by omega
    rw [ej] at *
    repeat' (first | (guard_target =~ WpA _ _ _ _ _ _; first | refine WpA.seq ?_ | refine WpA.drawU ?_ | refine WpA.regionU ?_ | refine WpA.block ?_ | refine WpA.ret ?_ | refine WpA.skip ?_ | refine WpA.exit ?_ | refine WpA.cond_true rfl ?_ | refine WpA.cond_false rfl ?_ | refine WpA.cond_ntrue rfl ?_ | refine WpA.cond_dec rfl (fun _ => ?_) (fun _ => ?_) | refine WpA.cond_not rfl (fun _ => ?_) (fun _ => ?_) | refine WpA.cond rfl (fun _ => ?_) (fun _ => ?_)) | (guard_target =~ RunU _ _ _ _ [] _ _ _ _; first | refine RunU.nilL ?_ | refine RunU.nilD (by kernel_rfl) ?_) | (guard_target =~ RunU _ _ _ _ (Oper.mk _ _ _ _ _ none :: _) _ _ _ _; refine RunU.cons step_any ?_) | ((fail_if_success (guard_target =~ @Eq _ _ _)); (fail_if_success (guard_target =~ @Exists _ _)); first | refine Then.next ?_ | refine InBlock.next ?_ | refine Done.ret (.one (by first | exact .c rfl | exact .own rfl | exact .als rfl rfl | exact .ptr rfl rfl | exact .part rfl rfl rfl) .nil) (.sh (.sh .nil)) ?_ rfl))
    all_goals first | rfl | (exfalso; omega)
def ConsC (P S W : List Int) : Prop := ∀ i, i < W.length → 0 ≤ (exTo P S W W.length).getD i 0
instance (P S W : List Int) : Decidable (ConsC P S W) := by unfold ConsC; infer_instance
set_option maxRecDepth 100000 in
theorem specCons_c (P S W : List Int) (h : Cl P S W) : CallA Try.prog 25 [aCl P S W] [rB (decide (ConsC P S W))] [] := by
  have hE := specEx_c P S W h
  have hel := exTo_len P S W W.length
  have hW : W.length ≤ 24 := by have := h.lW; have := h.len; omega
  have hiff : ConsC P S W ↔ ∀ i, i < (exTo P S W W.length).length → 0 ≤ (exTo P S W W.length).getD i 0 := by rw [hel]; rfl
  rw [show decide (ConsC P S W) = decide (∀ i, i < (exTo P S W W.length).length → 0 ≤ (exTo P S W W.length).getD i 0) from decide_eq_decide.2 hiff]
  rw [← hel] at hW
  clear hiff hel h
  generalize exTo P S W W.length = E at *
  refine callA_of _ Try.func25 rfl Try.ntmps25 (by first | exact ⟨rfl, rfl⟩ | (simp only [List.all_cons, List.all_nil, V.solid, D.solid, D.solids, solids_ints, solids_bools, solids_LL, Bool.and_self, Bool.and_true, and_self]; done) | simp [V.solid, D.solid, D.solids, solids_lits, solids_ints, solids_bools, solids_LL]) ?_
  repeat' (first | (guard_target =~ WpA _ _ _ _ _ _; first | refine WpA.seq ?_ | refine WpA.drawU ?_ | refine WpA.regionU ?_ | refine WpA.block ?_ | refine WpA.ret ?_ | refine WpA.skip ?_ | refine WpA.exit ?_ | refine WpA.cond_true rfl ?_ | refine WpA.cond_false rfl ?_ | refine WpA.cond_ntrue rfl ?_ | refine WpA.cond_dec rfl (fun _ => ?_) (fun _ => ?_) | refine WpA.cond_not rfl (fun _ => ?_) (fun _ => ?_) | refine WpA.cond rfl (fun _ => ?_) (fun _ => ?_)) | (guard_target =~ RunU _ _ _ _ [] _ _ _ _; first | refine RunU.nilL ?_ | refine RunU.nilD (by kernel_rfl) ?_) | (guard_target =~ RunU _ _ _ _ (Oper.mk _ (Op.call ⟨Callee.value _, _, _⟩) _ _ _ none :: _) _ _ _ _; first | refine RunU.cons (step_call (hE) (.sh (.sh .nil)) (.shAgg rfl aggs_any (.sh shows_any .nil)) rfl) ?_) | (guard_target =~ RunU _ _ _ _ (Oper.mk _ _ _ _ _ none :: _) _ _ _ _; refine RunU.cons step_any ?_) | ((fail_if_success (guard_target =~ @Eq _ _ _)); (fail_if_success (guard_target =~ @Exists _ _)); first | refine Then.next ?_ | refine InBlock.next ?_ | refine Done.ret (.one (by first | exact .c rfl | exact .own rfl | exact .als rfl rfl | exact .ptr rfl rfl | exact .part rfl rfl rfl) .nil) (.sh .nil) ?_ rfl))
  clear hE
  refine WpA.loop_slots2 (fun j id => [(3, .own id (.sl true 1 (ints E))), (4, vJ j)]) (fun j => j ≤ E.length ∧ ∀ k, k < j → 0 ≤ E.getD k 0) (fun j => E.length - j) 0 _ ⟨by omega, fun k h => by omega⟩ ⟨by exact rfl, rfl, trivial⟩ ?_
  rintro j id s nx ⟨hj, hok⟩
  by_cases hlt : j < E.length
  · by_cases hb : E.getD (j * 1) 0 < 0
    · rw [decide_eq_false (fun h : (∀ i, i < E.length → 0 ≤ E.getD i 0) => by have := h j hlt; rw [Nat.mul_one] at hb; omega)]
      clear hok
      repeat' (first | (guard_target =~ WpA _ _ _ _ _ _; first | refine WpA.seq ?_ | refine WpA.drawU ?_ | refine WpA.regionU ?_ | refine WpA.block ?_ | refine WpA.ret ?_ | refine WpA.skip ?_ | refine WpA.exit ?_ | refine WpA.cond_true rfl ?_ | refine WpA.cond_false rfl ?_ | refine WpA.cond_ntrue rfl ?_ | refine WpA.cond_dec rfl (fun _ => ?_) (fun _ => ?_) | refine WpA.cond_not rfl (fun _ => ?_) (fun _ => ?_) | refine WpA.cond rfl (fun _ => ?_) (fun _ => ?_)) | (guard_target =~ RunU _ _ _ _ [] _ _ _ _; first | refine RunU.nilL ?_ | refine RunU.nilD (by kernel_rfl) ?_) | (guard_target =~ RunU _ _ _ _ (Oper.mk _ _ _ _ _ none :: _) _ _ _ _; refine RunU.cons step_any ?_) | ((fail_if_success (guard_target =~ @Eq _ _ _)); (fail_if_success (guard_target =~ @Exists _ _)); first | refine Then.next ?_ | refine InBlock.next ?_ | refine Done.ret (.one (by first | exact .c rfl | exact .own rfl | exact .als rfl rfl | exact .ptr rfl rfl | exact .part rfl rfl rfl) .nil) (.sh .nil) ?_ rfl))
      all_goals first | rfl | (exfalso; omega)
    · have hok2 : ∀ k, k < j + 1 → 0 ≤ E.getD k 0 := fun k hk => by
        by_cases e : k = j
        · subst e; rw [Nat.mul_one] at hb; omega
        · exact hok k (by omega)
      clear hok
      repeat' (first | (guard_target =~ WpA _ _ _ _ _ _; first | refine WpA.seq ?_ | refine WpA.drawU ?_ | refine WpA.regionU ?_ | refine WpA.block ?_ | refine WpA.ret ?_ | refine WpA.skip ?_ | refine WpA.exit ?_ | refine WpA.cond_true rfl ?_ | refine WpA.cond_false rfl ?_ | refine WpA.cond_ntrue rfl ?_ | refine WpA.cond_dec rfl (fun _ => ?_) (fun _ => ?_) | refine WpA.cond_not rfl (fun _ => ?_) (fun _ => ?_) | refine WpA.cond rfl (fun _ => ?_) (fun _ => ?_)) | (guard_target =~ RunU _ _ _ _ [] _ _ _ _; first | refine RunU.nilL ?_ | refine RunU.nilD (by kernel_rfl) ?_) | (guard_target =~ RunU _ _ _ _ (Oper.mk _ _ _ _ _ none :: _) _ _ _ _; refine RunU.cons step_any ?_) | ((fail_if_success (guard_target =~ @Eq _ _ _)); (fail_if_success (guard_target =~ @Exists _ _)); first | refine Then.next ?_ | refine InBlock.next ?_ | refine Done.ret (.one (by first | exact .c rfl | exact .own rfl | exact .als rfl rfl | exact .ptr rfl rfl | exact .part rfl rfl rfl) .nil) (.sh .nil) ?_ rfl))
      all_goals try (exfalso; omega)
      all_goals exact ⟨j + 1, ⟨by omega, hok2⟩, ⟨_, rfl, int_eq (by omega), trivial⟩, by omega⟩
  · rw [decide_eq_true (fun i hi => hok i (by omega))]
    clear hok
    repeat' (first | (guard_target =~ WpA _ _ _ _ _ _; first | refine WpA.seq ?_ | refine WpA.drawU ?_ | refine WpA.regionU ?_ | refine WpA.block ?_ | refine WpA.ret ?_ | refine WpA.skip ?_ | refine WpA.exit ?_ | refine WpA.cond_true rfl ?_ | refine WpA.cond_false rfl ?_ | refine WpA.cond_ntrue rfl ?_ | refine WpA.cond_dec rfl (fun _ => ?_) (fun _ => ?_) | refine WpA.cond_not rfl (fun _ => ?_) (fun _ => ?_) | refine WpA.cond rfl (fun _ => ?_) (fun _ => ?_)) | (guard_target =~ RunU _ _ _ _ [] _ _ _ _; first | refine RunU.nilL ?_ | refine RunU.nilD (by kernel_rfl) ?_) | (guard_target =~ RunU _ _ _ _ (Oper.mk _ _ _ _ _ none :: _) _ _ _ _; refine RunU.cons step_any ?_) | ((fail_if_success (guard_target =~ @Eq _ _ _)); (fail_if_success (guard_target =~ @Exists _ _)); first | refine Then.next ?_ | refine InBlock.next ?_ | refine Done.ret (.one (by first | exact .c rfl | exact .own rfl | exact .als rfl rfl | exact .ptr rfl rfl | exact .part rfl rfl rfl) .nil) (.sh .nil) ?_ rfl))
    all_goals first | rfl | (exfalso; omega)
end Go.Proofs.Ytleleajafgmpbaa
