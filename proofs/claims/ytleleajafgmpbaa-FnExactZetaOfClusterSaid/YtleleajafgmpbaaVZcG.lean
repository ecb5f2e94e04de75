/- Intersection matrices of clusters: the reference. No condition. -/
import Derived.Test.YtleleajafgmpbaaVZcA
import Derived.Test.YtleleajafgmpbaaVHaB
import Derived.Test.YtleleajafgmpbaaVGrM
namespace Go.Proofs.Ytleleajafgmpbaa
set_option maxHeartbeats 20000000
set_option linter.unusedVariables false
set_option linter.unusedSimpArgs false
open Go.Pv
open Go.ChangeShapes Go.WideShapes Go.ChangeAt Go.RowKit
attribute [local irreducible] RunU WpA Step CallG CallNG Done DoneN
instance fnOk26 : FnOk Try.prog 26 := ⟨_, Try.func26, rfl, by decide⟩
theorem pow3_le : ∀ j : Fin 25, (3 : Int) ^ j.val ≤ 282429536481 := by decide +kernel
theorem orTo_fit {P S W : List Int} (h : Cl P S W) {j : Nat} (hj : j ≤ W.length) (i : Nat) : -28242953648100000 ≤ (orTo P S W j).getD i 0 ∧ (orTo P S W j).getD i 0 ≤ 28242953648100000 := by
  have h1 := orTo_bnd (P := P) (S := S) (W := W) (fun i hi => h.w i (by have := h.lW; omega)) j hj i
  have h2 := pow3_le ⟨j, by have := h.lW; have := h.len; omega⟩
  simp only at h2
  omega
set_option maxRecDepth 100000 in
theorem specOr_c (P S W : List Int) (h : Cl P S W) : CallA Try.prog 26 [aCl P S W, aL W] [rL (orTo P S W W.length)] [] := by
  have hl := h.len
  have hS := h.lS
  have hW := h.lW
  refine callA_of _ Try.func26 rfl Try.ntmps26 (by first | exact ⟨rfl, rfl⟩ | (simp only [List.all_cons, List.all_nil, V.solid, D.solid, D.solids, solids_ints, solids_bools, solids_LL, Bool.and_self, Bool.and_true, and_self]; done) | simp [V.solid, D.solid, D.solids, solids_lits, solids_ints, solids_bools, solids_LL]) ?_
  repeat' (first | (guard_target =~ WpA _ _ _ _ _ _; first | refine WpA.seq ?_ | refine WpA.drawU ?_ | refine WpA.regionU ?_ | refine WpA.block ?_ | refine WpA.ret ?_ | refine WpA.skip ?_ | refine WpA.exit ?_ | refine WpA.cond_true rfl ?_ | refine WpA.cond_false rfl ?_ | refine WpA.cond_ntrue rfl ?_ | refine WpA.cond_dec rfl (fun _ => ?_) (fun _ => ?_) | refine WpA.cond_not rfl (fun _ => ?_) (fun _ => ?_) | refine WpA.cond rfl (fun _ => ?_) (fun _ => ?_)) | (guard_target =~ RunU _ _ _ _ [] _ _ _ _; first | refine RunU.nilL ?_ | refine RunU.nilD (by kernel_rfl) ?_) | (guard_target =~ RunU _ _ _ _ (Oper.mk _ _ _ _ _ none :: _) _ _ _ _; refine RunU.cons step_any ?_) | ((fail_if_success (guard_target =~ @Eq _ _ _)); (fail_if_success (guard_target =~ @Exists _ _)); first | refine Then.next ?_ | refine InBlock.next ?_ | refine Done.ret (.one (by first | exact .c rfl | exact .own rfl | exact .als rfl rfl | exact .ptr rfl rfl | exact .part rfl rfl rfl) .nil) (.sh (.sh .nil)) ?_ rfl))
  refine WpA.loop_slots2 (fun j id => [(1, .c (.sl false 1 (ints W))), (2, .own 2 (.pt true [.sl false 1 (ints P), .sl false 1 (ints S), .sl false 1 (ints W)])), (5, .own id (.sl true 1 (ints (orTo P S W j)))), (6, vJ j)]) (fun j => j ≤ W.length) (fun j => W.length - j) 0 _ (by omega) ⟨rfl, rfl, by exact own_ints (l := []) rfl, rfl, trivial⟩ ?_
  intro j id s nx hj
  have hol := orTo_len P S W j
  by_cases hlt : j < W.length
  · have hp := fun h1 => h.p (j * 1) h1 (by omega)
    have hs := h.s (j * 1) (by omega)
    have hw := h.w (j * 1) (by omega)
    have b1 := orTo_fit h hj ((P.getD (j * 1) 0).toNat * 1)
    have b2 := orTo_fit h hj ((S.getD (j * 1) 0).toNat * 1)
    have hst : orTo P S W (j + 1) = orTo P S W j ++ [W.getD (j * 1) 0 + (if 0 ≤ S.getD (j * 1) 0 then (orTo P S W j).getD ((S.getD (j * 1) 0).toNat * 1) 0 else 0) + (if 1 ≤ j then (orTo P S W j).getD ((P.getD (j * 1) 0).toNat * 1) 0 else 0)] := by simp only [Nat.mul_one]; rfl
    by_cases h1 : 1 ≤ j
    · have hp := hp (by omega)
      rw [if_pos h1] at hst
      by_cases hs0 : 0 ≤ S.getD (j * 1) 0
      · rw [if_pos hs0, Int.add_right_comm] at hst
        clear h
        repeat' (first | (guard_target =~ WpA _ _ _ _ _ _; first | refine WpA.seq ?_ | refine WpA.drawU ?_ | refine WpA.regionU ?_ | refine WpA.block ?_ | refine WpA.ret ?_ | refine WpA.skip ?_ | refine WpA.exit ?_ | refine WpA.cond_true rfl ?_ | refine WpA.cond_false rfl ?_ | refine WpA.cond_ntrue rfl ?_ | refine WpA.cond_dec rfl (fun _ => ?_) (fun _ => ?_) | refine WpA.cond_not rfl (fun _ => ?_) (fun _ => ?_) | refine WpA.cond rfl (fun _ => ?_) (fun _ => ?_)) | (guard_target =~ RunU _ _ _ _ [] _ _ _ _; first | refine RunU.nilL ?_ | refine RunU.nilD (by kernel_rfl) ?_) | (guard_target =~ RunU _ _ _ _ (Oper.mk _ _ _ _ _ none :: _) _ _ _ _; refine RunU.cons step_any ?_) | ((fail_if_success (guard_target =~ @Eq _ _ _)); (fail_if_success (guard_target =~ @Exists _ _)); first | refine Then.next ?_ | refine InBlock.next ?_ | refine Done.ret (.one (by first | exact .c rfl | exact .own rfl | exact .als rfl rfl | exact .ptr rfl rfl | exact .part rfl rfl rfl) .nil) (.sh (.sh .nil)) ?_ rfl))
        all_goals try (exfalso; omega)
        all_goals exact ⟨j + 1, by omega, ⟨_, rfl, rfl, by exact own_ints hst.symm, int_eq (by omega), trivial⟩, by omega⟩
      · rw [if_neg hs0, Int.add_zero] at hst
        clear h
        repeat' (first | (guard_target =~ WpA _ _ _ _ _ _; first | refine WpA.seq ?_ | refine WpA.drawU ?_ | refine WpA.regionU ?_ | refine WpA.block ?_ | refine WpA.ret ?_ | refine WpA.skip ?_ | refine WpA.exit ?_ | refine WpA.cond_true rfl ?_ | refine WpA.cond_false rfl ?_ | refine WpA.cond_ntrue rfl ?_ | refine WpA.cond_dec rfl (fun _ => ?_) (fun _ => ?_) | refine WpA.cond_not rfl (fun _ => ?_) (fun _ => ?_) | refine WpA.cond rfl (fun _ => ?_) (fun _ => ?_)) | (guard_target =~ RunU _ _ _ _ [] _ _ _ _; first | refine RunU.nilL ?_ | refine RunU.nilD (by kernel_rfl) ?_) | (guard_target =~ RunU _ _ _ _ (Oper.mk _ _ _ _ _ none :: _) _ _ _ _; refine RunU.cons step_any ?_) | ((fail_if_success (guard_target =~ @Eq _ _ _)); (fail_if_success (guard_target =~ @Exists _ _)); first | refine Then.next ?_ | refine InBlock.next ?_ | refine Done.ret (.one (by first | exact .c rfl | exact .own rfl | exact .als rfl rfl | exact .ptr rfl rfl | exact .part rfl rfl rfl) .nil) (.sh (.sh .nil)) ?_ rfl))
        all_goals try (exfalso; omega)
        all_goals exact ⟨j + 1, by omega, ⟨_, rfl, rfl, by exact own_ints hst.symm, int_eq (by omega), trivial⟩, by omega⟩
    · have hs0 : ¬ 0 ≤ S.getD (j * 1) 0 := by omega
      rw [if_neg h1, if_neg hs0, Int.add_zero, Int.add_zero] at hst
      clear h hp
      repeat' (first | (guard_target =~ WpA _ _ _ _ _ _; first | refine WpA.seq ?_ | refine WpA.drawU ?_ | refine WpA.regionU ?_ | refine WpA.block ?_ | refine WpA.ret ?_ | refine WpA.skip ?_ | refine WpA.exit ?_ | refine WpA.cond_true rfl ?_ | refine WpA.cond_false rfl ?_ | refine WpA.cond_ntrue rfl ?_ | refine WpA.cond_dec rfl (fun _ => ?_) (fun _ => ?_) | refine WpA.cond_not rfl (fun _ => ?_) (fun _ => ?_) | refine WpA.cond rfl (fun _ => ?_) (fun _ => ?_)) | (guard_target =~ RunU _ _ _ _ [] _ _ _ _; first | refine RunU.nilL ?_ | refine RunU.nilD (by kernel_rfl) ?_) | (guard_target =~ RunU _ _ _ _ (Oper.mk _ _ _ _ _ none :: _) _ _ _ _; refine RunU.cons step_any ?_) | ((fail_if_success (guard_target =~ @Eq _ _ _)); (fail_if_success (guard_target =~ @Exists _ _)); first | refine Then.next ?_ | refine InBlock.next ?_ | refine Done.ret (.one (by first | exact .c rfl | exact .own rfl | exact .als rfl rfl | exact .ptr rfl rfl | exact .part rfl rfl rfl) .nil) (.sh (.sh .nil)) ?_ rfl))
      all_goals try (exfalso; omega)
      all_goals exact ⟨j + 1, by omega, ⟨_, rfl, rfl, by exact own_ints hst.symm, int_eq (by omega), trivial⟩, by omega⟩
  · have ej : j = W.length := by omega
    rw [ej] at *
    repeat' (first | (guard_target =~ WpA _ _ _ _ _ _; first | refine WpA.seq ?_ | refine WpA.drawU ?_ | refine WpA.regionU ?_ | refine WpA.block ?_ | refine WpA.ret ?_ | refine WpA.skip ?_ | refine WpA.exit ?_ | refine WpA.cond_true rfl ?_ | refine WpA.cond_false rfl ?_ | refine WpA.cond_ntrue rfl ?_ | refine WpA.cond_dec rfl (fun _ => ?_) (fun _ => ?_) | refine WpA.cond_not rfl (fun _ => ?_) (fun _ => ?_) | refine WpA.cond rfl (fun _ => ?_) (fun _ => ?_)) | (guard_target =~ RunU _ _ _ _ [] _ _ _ _; first | refine RunU.nilL ?_ | refine RunU.nilD (by kernel_rfl) ?_) | (guard_target =~ RunU _ _ _ _ (Oper.mk _ _ _ _ _ none :: _) _ _ _ _; refine RunU.cons step_any ?_) | ((fail_if_success (guard_target =~ @Eq _ _ _)); (fail_if_success (guard_target =~ @Exists _ _)); first | refine Then.next ?_ | refine InBlock.next ?_ | refine Done.ret (.one (by first | exact .c rfl | exact .own rfl | exact .als rfl rfl | exact .ptr rfl rfl | exact .part rfl rfl rfl) .nil) (.sh (.sh .nil)) ?_ rfl))
    all_goals first | rfl | (exfalso; omega)
end Go.Proofs.Ytleleajafgmpbaa
namespace Go.Proofs.Ytleleajafgmpbaa
set_option maxHeartbeats 20000000
set_option linter.unusedVariables false
set_option linter.unusedSimpArgs false
open Go.Pv
open Go.ChangeShapes Go.WideShapes Go.ChangeAt Go.RowKit
attribute [local irreducible] RunU WpA Step CallG CallNG Done DoneN
instance fnOk69 : FnOk Try.prog 69 := ⟨_, Try.func69, rfl, by decide⟩
instance fnOk34 : FnOk Try.prog 34 := ⟨_, Try.func34, rfl, by decide⟩
instance fnOk71 : FnOk Try.prog 71 := ⟨_, Try.func71, rfl, by decide⟩
abbrev dCl (P S W : List Int) : D := .pt false [.sl false 1 (ints P), .sl false 1 (ints S), .sl false 1 (ints W)]
theorem ordOwn_c (P S W : List Int) (j : Nat) (hj : j < W.length) : CallA Try.prog 71 [aI j, .sh (.one (dCl P S W))] [rI (W.getD (j * 1) 0)] [] := by
  refine callA_of _ Try.func71 rfl Try.ntmps71 (by first | exact ⟨rfl, rfl⟩ | (simp only [List.all_cons, List.all_nil, V.solid, D.solid, D.solids, solids_ints, solids_bools, solids_LL, Bool.and_self, Bool.and_true, and_self]; done) | simp [V.solid, D.solid, D.solids, solids_lits, solids_ints, solids_bools, solids_LL]) ?_
  repeat' (first | (guard_target =~ WpA _ _ _ _ _ _; first | refine WpA.seq ?_ | refine WpA.drawU ?_ | refine WpA.regionU ?_ | refine WpA.block ?_ | refine WpA.ret ?_ | refine WpA.skip ?_ | refine WpA.exit ?_ | refine WpA.cond_true rfl ?_ | refine WpA.cond_false rfl ?_ | refine WpA.cond_ntrue rfl ?_ | refine WpA.cond_dec rfl (fun _ => ?_) (fun _ => ?_) | refine WpA.cond_not rfl (fun _ => ?_) (fun _ => ?_) | refine WpA.cond rfl (fun _ => ?_) (fun _ => ?_)) | (guard_target =~ RunU _ _ _ _ [] _ _ _ _; first | refine RunU.nilL ?_ | refine RunU.nilD (by kernel_rfl) ?_) | (guard_target =~ RunU _ _ _ _ (Oper.mk _ _ _ _ _ none :: _) _ _ _ _; refine RunU.cons step_any ?_) | ((fail_if_success (guard_target =~ @Eq _ _ _)); (fail_if_success (guard_target =~ @Exists _ _)); first | refine Then.next ?_ | refine InBlock.next ?_ | refine Done.ret (.one (by first | exact .c rfl | exact .own rfl | exact .als rfl rfl | exact .ptr rfl rfl | exact .part rfl rfl rfl) .nil) (.sh (.sh .nil)) ?_ rfl))
  all_goals first | rfl | (exfalso; omega)
def acTo (O L : List Int) (w : Int) : Nat → Int
  | 0 => w
  | k + 1 => acTo O L w k + O.getD (L.getD k 0).toNat 0
theorem acTo_in {O L : List Int} {w B : Int} (hB : ∀ i, -B ≤ O.getD i 0 ∧ O.getD i 0 ≤ B) (hw : -100000 ≤ w ∧ w ≤ 100000) (hL : L.length ≤ 2) : ∀ k : Nat, k ≤ L.length → -(2 * B + 100000) ≤ acTo O L w k ∧ acTo O L w k ≤ 2 * B + 100000 := by
  have h0 := hB 0
  intro k hk
  have b0 := hB (L.getD 0 0).toNat
  have b1 := hB (L.getD 1 0).toNat
  rcases k with _ | _ | _ | k
  · simp only [acTo]; omega
  · simp only [acTo]; omega
  · simp only [acTo]; omega
  · omega
theorem acTo_end {P S W : List Int} (h : Cl P S W) {j : Nat} (hj : j < P.length) : orTo P S W j ++ [acTo (orTo P S W j) (prxAt P S j) (W.getD j 0) (prxAt P S j).length] = orTo P S W (j + 1) := by
  have e0 : orTo P S W (j + 1) = orTo P S W j ++ [W.getD j 0 + (if 0 ≤ S.getD j 0 then (orTo P S W j).getD (S.getD j 0).toNat 0 else 0) + (if 1 ≤ j then (orTo P S W j).getD (P.getD j 0).toNat 0 else 0)] := rfl
  rw [e0]
  congr 2
  by_cases h0 : j = 0
  · subst h0
    have := h.p0.2
    rw [show prxAt P S 0 = [] by simp [prxAt], if_neg (by omega), if_neg (by omega)]
    simp [acTo]
  · rw [if_pos (show 1 ≤ j by omega)]
    by_cases hs : 0 ≤ S.getD j 0
    · rw [if_pos hs, show prxAt P S j = [S.getD j 0, P.getD j 0] by simp only [prxAt, if_neg h0, if_pos hs]; rfl]
      rfl
    · rw [if_neg hs, show prxAt P S j = [P.getD j 0] by simp only [prxAt, if_neg h0, if_neg hs]; rfl, Int.add_zero]
      rfl
set_option maxRecDepth 100000 in
theorem added_c (P S W : List Int) (h : Cl P S W) : CallA Try.prog 69 [aLL (prxTo P S P.length), .sh (.one (.fn 71 [dCl P S W]))] [rL (orTo P S W W.length)] [] := by
  have hl := h.len
  have hW := h.lW
  have hML := prxTo_len P S P.length
  have hMa : ∀ j, j < P.length → (prxTo P S P.length).getD (j * 1) [] = prxAt P S j := fun j hj => by rw [Nat.mul_one]; exact prxTo_at P S hj
  have hin := fun j (hj : j ≤ P.length) i => orTo_fit h (show j ≤ W.length by omega) i
  have hst := fun j (hj : j < P.length) => acTo_end h hj
  have hmem := fun j (hj : j < P.length) => prxAt_mem h hj
  have hw := h.w
  have hol := orTo_len P S W
  have hpl := prxAt_len P S
  clear h
  generalize prxTo P S P.length = M at *
  refine callA_of _ Try.func69 rfl Try.ntmps69 (by first | exact ⟨rfl, rfl⟩ | (simp only [List.all_cons, List.all_nil, V.solid, D.solid, D.solids, solids_ints, solids_bools, solids_LL, Bool.and_self, Bool.and_true, and_self]; done) | simp [V.solid, D.solid, D.solids, solids_lits, solids_ints, solids_bools, solids_LL]) ?_
  repeat' (first | (guard_target =~ WpA _ _ _ _ _ _; first | refine WpA.seq ?_ | refine WpA.drawU ?_ | refine WpA.regionU ?_ | refine WpA.block ?_ | refine WpA.ret ?_ | refine WpA.skip ?_ | refine WpA.exit ?_ | refine WpA.cond_true rfl ?_ | refine WpA.cond_false rfl ?_ | refine WpA.cond_ntrue rfl ?_ | refine WpA.cond_dec rfl (fun _ => ?_) (fun _ => ?_) | refine WpA.cond_not rfl (fun _ => ?_) (fun _ => ?_) | refine WpA.cond rfl (fun _ => ?_) (fun _ => ?_)) | (guard_target =~ RunU _ _ _ _ [] _ _ _ _; first | refine RunU.nilL ?_ | refine RunU.nilD (by kernel_rfl) ?_) | (guard_target =~ RunU _ _ _ _ (Oper.mk _ _ _ _ _ none :: _) _ _ _ _; refine RunU.cons step_any ?_) | ((fail_if_success (guard_target =~ @Eq _ _ _)); (fail_if_success (guard_target =~ @Exists _ _)); first | refine Then.next ?_ | refine InBlock.next ?_ | refine Done.ret (.one (by first | exact .c rfl | exact .own rfl | exact .als rfl rfl | exact .ptr rfl rfl | exact .part rfl rfl rfl) .nil) (.sh (.sh .nil)) ?_ rfl))
  refine WpA.loop_slots2 (fun j id => [(1, .c (.fn 71 [dCl P S W])), (5, .own id (.sl true 1 (ints (orTo P S W j)))), (12, .c (.sl false 1 (LLs M))), (13, vJ P.length), (14, vJ j)]) (fun j => j ≤ P.length) (fun j => P.length - j) 0 _ (by omega) ⟨rfl, by exact own_ints (l := []) rfl, rfl, int_eq (by omega), rfl, trivial⟩ ?_
  intro j id s nx hj
  by_cases hlt : j < P.length
  · have ha := hMa j hlt
    have hst := hst j hlt
    have hmem := hmem j hlt
    have hpl := hpl j
    have hin := hin j hj
    have hol := hol j
    have hw := hw (j * 1) (by omega)
    have hC := ordOwn_c P S W j (by omega)
    rw [show W.getD j 0 = W.getD (j * 1) 0 by rw [Nat.mul_one], ← ha] at hst
    rw [← ha] at hmem hpl
    generalize orTo P S W j = X at *
    clear ha hMa
    repeat' (first | (guard_target =~ WpA _ _ _ _ _ _; first | refine WpA.seq ?_ | refine WpA.drawU ?_ | refine WpA.regionU ?_ | refine WpA.block ?_ | refine WpA.ret ?_ | refine WpA.skip ?_ | refine WpA.exit ?_ | refine WpA.cond_true rfl ?_ | refine WpA.cond_false rfl ?_ | refine WpA.cond_ntrue rfl ?_ | refine WpA.cond_dec rfl (fun _ => ?_) (fun _ => ?_) | refine WpA.cond_not rfl (fun _ => ?_) (fun _ => ?_) | refine WpA.cond rfl (fun _ => ?_) (fun _ => ?_)) | (guard_target =~ RunU _ _ _ _ [] _ _ _ _; first | refine RunU.nilL ?_ | refine RunU.nilD (by kernel_rfl) ?_) | (guard_target =~ RunU _ _ _ _ (Oper.mk _ (Op.call ⟨Callee.value _, _, _⟩) _ _ _ none :: _) _ _ _ _; first | refine RunU.cons (step_call_clo (hC) (by exact rfl) (by exact rfl) (.sh .nil) (.sh shows_any .nil) rfl) ?_) | (guard_target =~ RunU _ _ _ _ (Oper.mk _ _ _ _ _ none :: _) _ _ _ _; refine RunU.cons step_any ?_) | ((fail_if_success (guard_target =~ @Eq _ _ _)); (fail_if_success (guard_target =~ @Exists _ _)); first | refine Then.next ?_ | refine InBlock.next ?_ | refine Done.ret (.one (by first | exact .c rfl | exact .own rfl | exact .als rfl rfl | exact .ptr rfl rfl | exact .part rfl rfl rfl) .nil) (.sh (.sh .nil)) ?_ rfl))
    all_goals try (exfalso; omega)
    clear hC
    refine WpA.loop_slots2 (fun k id => [(1, .c (.fn 71 [dCl P S W])), (5, .own id (.sl true 1 (ints X))), (8, vJ (acTo X (M.getD (j * 1) []) (W.getD (j * 1) 0) k)), (12, .c (.sl false 1 (LLs M))), (13, vJ P.length), (14, vJ j), (22, .c (.sl false 1 (ints (M.getD (j * 1) [])))), (23, vJ (M.getD (j * 1) []).length), (24, vJ k)]) (fun k => k ≤ (M.getD (j * 1) []).length) (fun k => (M.getD (j * 1) []).length - k) 0 _ (by omega) ⟨rfl, by exact rfl, rfl, rfl, rfl, rfl, rfl, rfl, rfl, trivial⟩ ?_
    intro k id s nx hk
    have b0 := acTo_in (L := M.getD (j * 1) []) hin hw hpl k hk
    by_cases hkl : k < (M.getD (j * 1) []).length
    · have m1 := hmem (k * 1) (by omega)
      have b1 := hin (((M.getD (j * 1) []).getD (k * 1) 0).toNat * 1)
      have b2 := acTo_in (L := M.getD (j * 1) []) hin hw hpl (k + 1) hkl
      have e : acTo X (M.getD (j * 1) []) (W.getD (j * 1) 0) k + X.getD (((M.getD (j * 1) []).getD (k * 1) 0).toNat * 1) 0 = acTo X (M.getD (j * 1) []) (W.getD (j * 1) 0) (k + 1) := by
        simp only [Nat.mul_one]; rfl
      clear hst hmem hin
      generalize acTo X (M.getD (j * 1) []) (W.getD (j * 1) 0) k = y at *
      repeat' (first | (guard_target =~ WpA _ _ _ _ _ _; first | refine WpA.seq ?_ | refine WpA.drawU ?_ | refine WpA.regionU ?_ | refine WpA.block ?_ | refine WpA.ret ?_ | refine WpA.skip ?_ | refine WpA.exit ?_ | refine WpA.cond_true rfl ?_ | refine WpA.cond_false rfl ?_ | refine WpA.cond_ntrue rfl ?_ | refine WpA.cond_dec rfl (fun _ => ?_) (fun _ => ?_) | refine WpA.cond_not rfl (fun _ => ?_) (fun _ => ?_) | refine WpA.cond rfl (fun _ => ?_) (fun _ => ?_)) | (guard_target =~ RunU _ _ _ _ [] _ _ _ _; first | refine RunU.nilL ?_ | refine RunU.nilD (by kernel_rfl) ?_) | (guard_target =~ RunU _ _ _ _ (Oper.mk _ _ _ _ _ none :: _) _ _ _ _; refine RunU.cons step_any ?_) | ((fail_if_success (guard_target =~ @Eq _ _ _)); (fail_if_success (guard_target =~ @Exists _ _)); first | refine Then.next ?_ | refine InBlock.next ?_ | refine Done.ret (.one (by first | exact .c rfl | exact .own rfl | exact .als rfl rfl | exact .ptr rfl rfl | exact .part rfl rfl rfl) .nil) (.sh (.sh .nil)) ?_ rfl))
      all_goals try (exfalso; omega)
      all_goals exact ⟨k + 1, by omega, ⟨_, rfl, rfl, int_eq e, rfl, rfl, rfl, rfl, rfl, int_eq (by omega), trivial⟩, by omega⟩
    · obtain rfl : k = (M.getD (j * 1) []).length := by omega
      clear hmem hin
      repeat' (first | (guard_target =~ WpA _ _ _ _ _ _; first | refine WpA.seq ?_ | refine WpA.drawU ?_ | refine WpA.regionU ?_ | refine WpA.block ?_ | refine WpA.ret ?_ | refine WpA.skip ?_ | refine WpA.exit ?_ | refine WpA.cond_true rfl ?_ | refine WpA.cond_false rfl ?_ | refine WpA.cond_ntrue rfl ?_ | refine WpA.cond_dec rfl (fun _ => ?_) (fun _ => ?_) | refine WpA.cond_not rfl (fun _ => ?_) (fun _ => ?_) | refine WpA.cond rfl (fun _ => ?_) (fun _ => ?_)) | (guard_target =~ RunU _ _ _ _ [] _ _ _ _; first | refine RunU.nilL ?_ | refine RunU.nilD (by kernel_rfl) ?_) | (guard_target =~ RunU _ _ _ _ (Oper.mk _ _ _ _ _ none :: _) _ _ _ _; refine RunU.cons step_any ?_) | ((fail_if_success (guard_target =~ @Eq _ _ _)); (fail_if_success (guard_target =~ @Exists _ _)); first | refine Then.next ?_ | refine InBlock.next ?_ | refine Done.ret (.one (by first | exact .c rfl | exact .own rfl | exact .als rfl rfl | exact .ptr rfl rfl | exact .part rfl rfl rfl) .nil) (.sh (.sh .nil)) ?_ rfl))
      all_goals try (exfalso; omega)
      all_goals exact ⟨j + 1, by omega, ⟨_, rfl, by exact own_ints hst, rfl, rfl, int_eq (by omega), trivial⟩, by omega⟩
  · obtain rfl : j = P.length := by omega
    rw [hW]
    clear hin hst hmem hw hMa
    repeat' (first | (guard_target =~ WpA _ _ _ _ _ _; first | refine WpA.seq ?_ | refine WpA.drawU ?_ | refine WpA.regionU ?_ | refine WpA.block ?_ | refine WpA.ret ?_ | refine WpA.skip ?_ | refine WpA.exit ?_ | refine WpA.cond_true rfl ?_ | refine WpA.cond_false rfl ?_ | refine WpA.cond_ntrue rfl ?_ | refine WpA.cond_dec rfl (fun _ => ?_) (fun _ => ?_) | refine WpA.cond_not rfl (fun _ => ?_) (fun _ => ?_) | refine WpA.cond rfl (fun _ => ?_) (fun _ => ?_)) | (guard_target =~ RunU _ _ _ _ [] _ _ _ _; first | refine RunU.nilL ?_ | refine RunU.nilD (by kernel_rfl) ?_) | (guard_target =~ RunU _ _ _ _ (Oper.mk _ _ _ _ _ none :: _) _ _ _ _; refine RunU.cons step_any ?_) | ((fail_if_success (guard_target =~ @Eq _ _ _)); (fail_if_success (guard_target =~ @Exists _ _)); first | refine Then.next ?_ | refine InBlock.next ?_ | refine Done.ret (.one (by first | exact .c rfl | exact .own rfl | exact .als rfl rfl | exact .ptr rfl rfl | exact .part rfl rfl rfl) .nil) (.sh (.sh .nil)) ?_ rfl))
    all_goals first | rfl | (exfalso; omega)
set_option maxRecDepth 100000 in
theorem implOr_c (P S W : List Int) (h : Cl P S W) : CallA Try.prog 34 [aCl P S W] [rL (orTo P S W W.length)] [] := by
  have hP := clPrx_c P S W h
  have hE := added_c P S W h
  clear h
  refine callA_of _ Try.func34 rfl Try.ntmps34 (by first | exact ⟨rfl, rfl⟩ | (simp only [List.all_cons, List.all_nil, V.solid, D.solid, D.solids, solids_ints, solids_bools, solids_LL, Bool.and_self, Bool.and_true, and_self]; done) | simp [V.solid, D.solid, D.solids, solids_lits, solids_ints, solids_bools, solids_LL]) ?_
  repeat' (first | (guard_target =~ WpA _ _ _ _ _ _; first | refine WpA.seq ?_ | refine WpA.drawU ?_ | refine WpA.regionU ?_ | refine WpA.block ?_ | refine WpA.ret ?_ | refine WpA.skip ?_ | refine WpA.exit ?_ | refine WpA.cond_true rfl ?_ | refine WpA.cond_false rfl ?_ | refine WpA.cond_ntrue rfl ?_ | refine WpA.cond_dec rfl (fun _ => ?_) (fun _ => ?_) | refine WpA.cond_not rfl (fun _ => ?_) (fun _ => ?_) | refine WpA.cond rfl (fun _ => ?_) (fun _ => ?_)) | (guard_target =~ RunU _ _ _ _ [] _ _ _ _; first | refine RunU.nilL ?_ | refine RunU.nilD (by kernel_rfl) ?_) | (guard_target =~ RunU _ _ _ _ (Oper.mk _ (Op.call ⟨Callee.value _, _, _⟩) _ _ _ none :: _) _ _ _ _; first | refine RunU.cons (step_call (hP) (.sh .nil) (.shAgg rfl aggs_any .nil) rfl) ?_ | refine RunU.cons (step_call (hE) (.sh (.sh .nil)) (.sh shows_any (.sh shows_any .nil)) rfl) ?_) | (guard_target =~ RunU _ _ _ _ (Oper.mk _ _ _ _ _ none :: _) _ _ _ _; first | refine RunU.cons (step_makeFunc (.cons (.root rfl) .nil) rfl) ?_) | (guard_target =~ RunU _ _ _ _ (Oper.mk _ _ _ _ _ none :: _) _ _ _ _; refine RunU.cons step_any ?_) | ((fail_if_success (guard_target =~ @Eq _ _ _)); (fail_if_success (guard_target =~ @Exists _ _)); first | refine Then.next ?_ | refine InBlock.next ?_ | refine Done.ret (.one (by first | exact .c rfl | exact .own rfl | exact .als rfl rfl | exact .ptr rfl rfl | exact .part rfl rfl rfl) .nil) (.sh .nil) ?_ rfl))
  all_goals rfl
end Go.Proofs.Ytleleajafgmpbaa
namespace Go.Proofs.Ytleleajafgmpbaa
set_option maxHeartbeats 20000000
set_option linter.unusedVariables false
set_option linter.unusedSimpArgs false
open Go.Pv
open Go.ChangeShapes Go.WideShapes Go.ChangeAt Go.RowKit
attribute [local irreducible] RunU WpA Step CallG CallNG Done DoneN
def pe (P S : List Int) (i j : Nat) : Int := if i = j then 1 else if P.getD i 0 = (j : Int) ∨ S.getD i 0 = (j : Int) then -1 else 0
theorem pe_mul (P S : List Int) (i j k : Nat) : -1 ≤ pe P S i j * pe P S i k ∧ pe P S i j * pe P S i k ≤ 1 := by
  unfold pe
  split <;> (try split) <;> (try split) <;> (try split) <;> simp
def mtTo (P S : List Int) : Nat → Nat → Nat → Int
  | 0, _, _ => 0
  | j + 1, i, k => mtTo P S j i k - pe P S j i * pe P S j k
theorem mtTo_in (P S : List Int) (i k : Nat) : ∀ j : Nat, -(j : Int) ≤ mtTo P S j i k ∧ mtTo P S j i k ≤ j
  | 0 => by simp [mtTo]
  | j + 1 => by
    have := mtTo_in P S i k j
    have := pe_mul P S j i k
    simp only [mtTo]
    omega
def rowE (P S : List Int) (n i : Nat) : Nat → List (List Int)
  | 0 => []
  | m + 1 => rowE P S n i m ++ if mtTo P S n i (i + 1 + m) = 1 then [[(i : Int), ((i + 1 + m : Nat) : Int)]] else []
def edTo (P S : List Int) (n : Nat) : Nat → List (List Int)
  | 0 => []
  | i + 1 => edTo P S n i ++ rowE P S n i (n - 1 - i)
theorem rowE_len (P S : List Int) (n i : Nat) : ∀ m, (rowE P S n i m).length ≤ m
  | 0 => Nat.le_refl _
  | m + 1 => by
    have := rowE_len P S n i m
    rw [rowE, List.length_append]
    split <;> simp <;> omega
theorem edTo_len (P S : List Int) (n : Nat) : ∀ i, (edTo P S n i).length ≤ i * n
  | 0 => by simp [edTo]
  | i + 1 => by
    have h1 := edTo_len P S n i
    have h2 := rowE_len P S n i (n - 1 - i)
    rw [edTo, List.length_append, Nat.add_mul]
    omega
theorem rowE_mem {P S : List Int} {n i : Nat} : ∀ (m : Nat) (e : List Int), e ∈ rowE P S n i m → ∃ x : Nat, x < m ∧ e = [(i : Int), ((i + 1 + x : Nat) : Int)]
  | 0, e, h => by simp [rowE] at h
  | m + 1, e, h => by
    rw [rowE] at h
    rcases List.mem_append.1 h with h | h
    · obtain ⟨x, h1, h2⟩ := rowE_mem m e h
      exact ⟨x, by omega, h2⟩
    · split at h
      · rw [List.mem_singleton] at h
        exact ⟨m, by omega, h⟩
      · simp at h
theorem edTo_mem {P S : List Int} {n : Nat} : ∀ (i : Nat) (e : List Int), e ∈ edTo P S n i → ∃ a b : Nat, a < i ∧ a < b ∧ b < n ∧ e = [(a : Int), (b : Int)]
  | 0, e, h => by simp [edTo] at h
  | i + 1, e, h => by
    rw [edTo] at h
    rcases List.mem_append.1 h with h | h
    · obtain ⟨a, b, h1, h2, h3, h4⟩ := edTo_mem i e h
      exact ⟨a, b, by omega, h2, h3, h4⟩
    · obtain ⟨x, h1, h2⟩ := rowE_mem _ e h
      exact ⟨i, i + 1 + x, by omega, by omega, by omega, h2⟩
theorem lexPair {a b c d : Int} (h : a < c ∨ a = c ∧ b < d) : lexC [a, b] [c, d] < 0 := by
  rcases h with h | ⟨rfl, h⟩
  · rw [lexC, if_pos h]; omega
  · rw [lexC, if_neg (by omega), if_neg (by omega), lexC, if_pos h]; omega
theorem rowE_asc (P S : List Int) (n i : Nat) : ∀ m, (rowE P S n i m).Pairwise fun x y => lexC x y < 0
  | 0 => List.Pairwise.nil
  | m + 1 => by
    rw [rowE]
    refine List.pairwise_append.2 ⟨rowE_asc P S n i m, ?_, fun x hx y hy => ?_⟩
    · split <;> simp
    · obtain ⟨p, h1, rfl⟩ := rowE_mem m x hx
      split at hy
      · rw [List.mem_singleton] at hy
        subst hy
        exact lexPair (.inr ⟨rfl, by omega⟩)
      · simp at hy
theorem edTo_asc (P S : List Int) (n : Nat) : ∀ i, (edTo P S n i).Pairwise fun x y => lexC x y < 0
  | 0 => List.Pairwise.nil
  | i + 1 => by
    rw [edTo]
    refine List.pairwise_append.2 ⟨edTo_asc P S n i, rowE_asc P S n i _, fun x hx y hy => ?_⟩
    obtain ⟨a, b, h1, h2, h3, rfl⟩ := edTo_mem i x hx
    obtain ⟨p, h4, rfl⟩ := rowE_mem _ y hy
    exact lexPair (.inl (by omega))
theorem edTo_good (P S : List Int) (n : Nat) : GoodE n (edTo P S n n) := by
  intro j hj
  have hg : (edTo P S n n).getD j [] = (edTo P S n n)[j] := by rw [List.getD_eq_getElem?_getD, List.getElem?_eq_getElem hj]; rfl
  obtain ⟨a, b, h1, h2, h3, h4⟩ := edTo_mem n _ (List.getElem_mem hj)
  refine ⟨by rw [hg, h4]; rfl, ?_, fun h0 => ?_⟩
  · unfold ea eb
    rw [hg, h4]
    simp
    omega
  · have hg2 : (edTo P S n n).getD (j - 1) [] = (edTo P S n n)[j - 1] := by rw [List.getD_eq_getElem?_getD, List.getElem?_eq_getElem (by omega)]; rfl
    rw [hg, hg2]
    exact List.pairwise_iff_getElem.1 (edTo_asc P S n n) (j - 1) j (by omega) hj (by omega)
end Go.Proofs.Ytleleajafgmpbaa
namespace Go.Proofs.Ytleleajafgmpbaa
set_option maxHeartbeats 20000000
set_option linter.unusedVariables false
set_option linter.unusedSimpArgs false
open Go.Pv
open Go.ChangeShapes Go.WideShapes Go.ChangeAt Go.RowKit
attribute [local irreducible] RunU WpA Step CallG CallNG Done DoneN
instance fnOk129 : FnOk Try.prog 129 := ⟨_, Try.func129, rfl, by decide⟩
def prR (P S : List Int) (n i : Nat) : List Int := (List.range n).map fun t => pe P S i t
def prM (P S : List Int) (n : Nat) (i : Nat) : List (List Int) := (List.range i).map fun t => prR P S n t
theorem prR_len (P S : List Int) (n i : Nat) : (prR P S n i).length = n := by simp [prR]
theorem prM_len (P S : List Int) (n i : Nat) : (prM P S n i).length = i := by simp [prM]
theorem prM_step (P S : List Int) (n i : Nat) : prM P S n (i + 1) = prM P S n i ++ [prR P S n i] := by simp [prM, List.range_succ]
def prJ (P S : List Int) (n i j : Nat) : List Int := (List.range n).map fun t => if t < j ∧ (P.getD i 0 = (t : Int) ∨ S.getD i 0 = (t : Int)) then -1 else 0
theorem prJ_len (P S : List Int) (n i j : Nat) : (prJ P S n i j).length = n := by simp [prJ]
theorem prJ_at (P S : List Int) {n t : Nat} (i j : Nat) (h : t < n) : (prJ P S n i j).getD t 0 = if t < j ∧ (P.getD i 0 = (t : Int) ∨ S.getD i 0 = (t : Int)) then -1 else 0 := by simp [prJ, List.getD_eq_getElem?_getD, h]
theorem prR_at (P S : List Int) {n t : Nat} (i : Nat) (h : t < n) : (prR P S n i).getD t 0 = pe P S i t := by simp [prR, List.getD_eq_getElem?_getD, h]
theorem prJ_zero (P S : List Int) (n i : Nat) : prJ P S n i 0 = List.replicate n 0 := by simp [prJ, List.map_const']
theorem getD_set' {A : List Int} {i k : Nat} {v : Int} (h : i < A.length) : (A.set i v).getD k 0 = if i = k then v else A.getD k 0 := by
  by_cases e : i = k
  · subst e; rw [if_pos rfl, List.getD_eq_getElem?_getD, List.getElem?_set_self h]; rfl
  · rw [if_neg e, List.getD_eq_getElem?_getD, List.getElem?_set_ne e, ← List.getD_eq_getElem?_getD]
theorem prJ_yes {P S : List Int} {n i j : Nat} (hj : j < n) (h : P.getD i 0 = (j : Int) ∨ S.getD i 0 = (j : Int)) : (prJ P S n i j).set j (-1) = prJ P S n i (j + 1) := by
  refine list_ext (by simp [prJ_len]) fun k hk => ?_
  simp only [List.length_set, prJ_len] at hk
  rw [getD_set' (by rw [prJ_len]; exact hj), prJ_at _ _ _ _ hk, prJ_at _ _ _ _ hk]
  by_cases e : j = k
  · subst e; rw [if_pos rfl, if_pos ⟨by omega, h⟩]
  · rw [if_neg e]
    by_cases h2 : k < j
    · simp [h2, show k < j + 1 by omega]
    · rw [if_neg (fun q => h2 q.1), if_neg (fun q => by have := q.1; omega)]
theorem prJ_no {P S : List Int} {n i j : Nat} (h : ¬ (P.getD i 0 = (j : Int) ∨ S.getD i 0 = (j : Int))) : prJ P S n i j = prJ P S n i (j + 1) := by
  refine list_ext (by simp [prJ_len]) fun k hk => ?_
  simp only [prJ_len] at hk
  rw [prJ_at _ _ _ _ hk, prJ_at _ _ _ _ hk]
  by_cases e : j = k
  · subst e; rw [if_neg (fun q => by have := q.1; omega), if_neg (fun q => h q.2)]
  · by_cases h2 : k < j
    · simp [h2, show k < j + 1 by omega]
    · rw [if_neg (fun q => h2 q.1), if_neg (fun q => by have := q.1; omega)]
theorem prJ_end {P S W : List Int} (h : Cl P S W) {i : Nat} (hi : i < P.length) : (prJ P S P.length i i).set i 1 = prR P S P.length i := by
  refine list_ext (by simp [prJ_len, prR_len]) fun k hk => ?_
  simp only [List.length_set, prJ_len] at hk
  rw [getD_set' (by rw [prJ_len]; exact hi), prJ_at _ _ _ _ hk, prR_at _ _ _ hk, pe]
  by_cases e : i = k
  · rw [if_pos e, if_pos e]
  · rw [if_neg e, if_neg e]
    have hs := h.s i hi
    have hp : P.getD i 0 ≤ (i : Int) - 1 := by
      by_cases h0 : i = 0
      · subst h0; have := h.p0.1; omega
      · exact (h.p i (by omega) hi).2
    by_cases h2 : k < i
    · simp [h2]
    · rw [if_neg (fun q => h2 q.1), if_neg (fun q => by omega)]
set_option maxRecDepth 100000 in
theorem specPr_c (P S W : List Int) (h : Cl P S W) : CallA Try.prog 129 [aCl P S W] [rLL (prM P S P.length P.length)] [] := by
  have hl := h.len
  have hS := h.lS
  refine callA_of _ Try.func129 rfl Try.ntmps129 (by first | exact ⟨rfl, rfl⟩ | (simp only [List.all_cons, List.all_nil, V.solid, D.solid, D.solids, solids_ints, solids_bools, solids_LL, Bool.and_self, Bool.and_true, and_self]; done) | simp [V.solid, D.solid, D.solids, solids_lits, solids_ints, solids_bools, solids_LL]) ?_
  repeat' (first | (guard_target =~ WpA _ _ _ _ _ _; first | refine WpA.seq ?_ | refine WpA.drawU ?_ | refine WpA.regionU ?_ | refine WpA.block ?_ | refine WpA.ret ?_ | refine WpA.skip ?_ | refine WpA.exit ?_ | refine WpA.cond_true rfl ?_ | refine WpA.cond_false rfl ?_ | refine WpA.cond_ntrue rfl ?_ | refine WpA.cond_dec rfl (fun _ => ?_) (fun _ => ?_) | refine WpA.cond_not rfl (fun _ => ?_) (fun _ => ?_) | refine WpA.cond rfl (fun _ => ?_) (fun _ => ?_)) | (guard_target =~ RunU _ _ _ _ [] _ _ _ _; first | refine RunU.nilL ?_ | refine RunU.nilD (by kernel_rfl) ?_) | (guard_target =~ RunU _ _ _ _ (Oper.mk _ _ _ _ _ none :: _) _ _ _ _; refine RunU.cons step_any ?_) | ((fail_if_success (guard_target =~ @Eq _ _ _)); (fail_if_success (guard_target =~ @Exists _ _)); first | refine Then.next ?_ | refine InBlock.next ?_ | refine Done.ret (.one (by first | exact .c rfl | exact .own rfl | exact .als rfl rfl | exact .ptr rfl rfl | exact .part rfl rfl rfl) .nil) (.sh .nil) ?_ rfl))
  refine WpA.loop_slots2 (fun i id => [(1, vCl P S W), (3, .own id (.sl true 1 (LL (prM P S P.length i)))), (4, vJ i)]) (fun i => i ≤ P.length) (fun i => P.length - i) 0 _ (by omega) ⟨rfl, by exact rfl, rfl, trivial⟩ ?_
  intro i id s nx hi
  have hpl := prM_len P S P.length i
  by_cases hlt : i < P.length
  · have hend := prJ_end h hlt
    have hst := prM_step P S P.length i
    rw [← hend] at hst
    repeat' (first | (guard_target =~ WpA _ _ _ _ _ _; first | refine WpA.seq ?_ | refine WpA.drawU ?_ | refine WpA.regionU ?_ | refine WpA.block ?_ | refine WpA.ret ?_ | refine WpA.skip ?_ | refine WpA.exit ?_ | refine WpA.cond_true rfl ?_ | refine WpA.cond_false rfl ?_ | refine WpA.cond_ntrue rfl ?_ | refine WpA.cond_dec rfl (fun _ => ?_) (fun _ => ?_) | refine WpA.cond_not rfl (fun _ => ?_) (fun _ => ?_) | refine WpA.cond rfl (fun _ => ?_) (fun _ => ?_)) | (guard_target =~ RunU _ _ _ _ [] _ _ _ _; first | refine RunU.nilL ?_ | refine RunU.nilD (by kernel_rfl) ?_) | (guard_target =~ RunU _ _ _ _ (Oper.mk _ _ _ _ _ none :: _) _ _ _ _; refine RunU.cons step_any ?_) | ((fail_if_success (guard_target =~ @Eq _ _ _)); (fail_if_success (guard_target =~ @Exists _ _)); first | refine Then.next ?_ | refine InBlock.next ?_ | refine Done.ret (.one (by first | exact .c rfl | exact .own rfl | exact .als rfl rfl | exact .ptr rfl rfl | exact .part rfl rfl rfl) .nil) (.sh .nil) ?_ rfl))
    all_goals try (exfalso; omega)
    refine WpA.loop_slots2 (fun j id5 => [(1, vCl P S W), (3, .own id (.sl true 1 (LL (prM P S P.length i)))), (4, vJ i), (5, .own id5 (.sl true 1 (ints (prJ P S P.length i j)))), (6, vJ j)]) (fun j => j ≤ i) (fun j => i - j) 0 _ (by omega) ⟨rfl, rfl, rfl, by exact own_ints (prJ_zero P S P.length i).symm, rfl, trivial⟩ ?_
    intro j id5 s nx hj
    have hjl := prJ_len P S P.length i j
    by_cases hji : j < i
    · have hN := near_cl P S W i j (by omega) hS hl.2
      by_cases hn : P.getD i 0 = (j : Int) ∨ S.getD i 0 = (j : Int)
      · have e := prJ_yes (P := P) (S := S) (n := P.length) (i := i) (j := j) (by omega) hn
        rw [decide_eq_true (show NearC P S ((i : Int).toNat * 1) j from ⟨by omega, by simpa using hn⟩)] at hN
        rw [show (prJ P S P.length i j).set j (-1) = (prJ P S P.length i j).set (j * 1) (-1) by rw [Nat.mul_one]] at e
        clear hst hend h
        repeat' (first | (guard_target =~ WpA _ _ _ _ _ _; first | refine WpA.seq ?_ | refine WpA.drawU ?_ | refine WpA.regionU ?_ | refine WpA.block ?_ | refine WpA.ret ?_ | refine WpA.skip ?_ | refine WpA.exit ?_ | refine WpA.cond_true rfl ?_ | refine WpA.cond_false rfl ?_ | refine WpA.cond_ntrue rfl ?_ | refine WpA.cond_dec rfl (fun _ => ?_) (fun _ => ?_) | refine WpA.cond_not rfl (fun _ => ?_) (fun _ => ?_) | refine WpA.cond rfl (fun _ => ?_) (fun _ => ?_)) | (guard_target =~ RunU _ _ _ _ [] _ _ _ _; first | refine RunU.nilL ?_ | refine RunU.nilD (by kernel_rfl) ?_) | (guard_target =~ RunU _ _ _ _ (Oper.mk _ (Op.call ⟨Callee.value _, _, _⟩) _ _ _ none :: _) _ _ _ _; first | refine RunU.cons (step_call (hN) (.sh (.sh (.sh .nil))) (.shAgg rfl aggs_any (.sh shows_any (.sh shows_any .nil))) rfl) ?_) | (guard_target =~ RunU _ _ _ _ (Oper.mk _ _ _ _ _ none :: _) _ _ _ _; refine RunU.cons step_any ?_) | ((fail_if_success (guard_target =~ @Eq _ _ _)); (fail_if_success (guard_target =~ @Exists _ _)); first | refine Then.next ?_ | refine InBlock.next ?_ | refine Done.ret (.one (by first | exact .c rfl | exact .own rfl | exact .als rfl rfl | exact .ptr rfl rfl | exact .part rfl rfl rfl) .nil) (.sh .nil) ?_ rfl))
        all_goals try (exfalso; omega)
        all_goals exact ⟨j + 1, by omega, ⟨_, rfl, rfl, rfl, by exact own_ints e, int_eq (by omega), trivial⟩, by omega⟩
      · have e := prJ_no (P := P) (S := S) (n := P.length) (i := i) (j := j) hn
        rw [decide_eq_false (show ¬ NearC P S ((i : Int).toNat * 1) j from fun q => hn (by simpa using q.2))] at hN
        clear hst hend h
        repeat' (first | (guard_target =~ WpA _ _ _ _ _ _; first | refine WpA.seq ?_ | refine WpA.drawU ?_ | refine WpA.regionU ?_ | refine WpA.block ?_ | refine WpA.ret ?_ | refine WpA.skip ?_ | refine WpA.exit ?_ | refine WpA.cond_true rfl ?_ | refine WpA.cond_false rfl ?_ | refine WpA.cond_ntrue rfl ?_ | refine WpA.cond_dec rfl (fun _ => ?_) (fun _ => ?_) | refine WpA.cond_not rfl (fun _ => ?_) (fun _ => ?_) | refine WpA.cond rfl (fun _ => ?_) (fun _ => ?_)) | (guard_target =~ RunU _ _ _ _ [] _ _ _ _; first | refine RunU.nilL ?_ | refine RunU.nilD (by kernel_rfl) ?_) | (guard_target =~ RunU _ _ _ _ (Oper.mk _ (Op.call ⟨Callee.value _, _, _⟩) _ _ _ none :: _) _ _ _ _; first | refine RunU.cons (step_call (hN) (.sh (.sh (.sh .nil))) (.shAgg rfl aggs_any (.sh shows_any (.sh shows_any .nil))) rfl) ?_) | (guard_target =~ RunU _ _ _ _ (Oper.mk _ _ _ _ _ none :: _) _ _ _ _; refine RunU.cons step_any ?_) | ((fail_if_success (guard_target =~ @Eq _ _ _)); (fail_if_success (guard_target =~ @Exists _ _)); first | refine Then.next ?_ | refine InBlock.next ?_ | refine Done.ret (.one (by first | exact .c rfl | exact .own rfl | exact .als rfl rfl | exact .ptr rfl rfl | exact .part rfl rfl rfl) .nil) (.sh .nil) ?_ rfl))
        all_goals try (exfalso; omega)
        all_goals exact ⟨j + 1, by omega, ⟨_, rfl, rfl, rfl, by exact own_ints e, int_eq (by omega), trivial⟩, by omega⟩
    · obtain rfl : j = i := by omega
      rw [show (prJ P S P.length j j).set j 1 = (prJ P S P.length j j).set (j * 1) 1 by rw [Nat.mul_one]] at hst
      clear hend h
      repeat' (first | (guard_target =~ WpA _ _ _ _ _ _; first | refine WpA.seq ?_ | refine WpA.drawU ?_ | refine WpA.regionU ?_ | refine WpA.block ?_ | refine WpA.ret ?_ | refine WpA.skip ?_ | refine WpA.exit ?_ | refine WpA.cond_true rfl ?_ | refine WpA.cond_false rfl ?_ | refine WpA.cond_ntrue rfl ?_ | refine WpA.cond_dec rfl (fun _ => ?_) (fun _ => ?_) | refine WpA.cond_not rfl (fun _ => ?_) (fun _ => ?_) | refine WpA.cond rfl (fun _ => ?_) (fun _ => ?_)) | (guard_target =~ RunU _ _ _ _ [] _ _ _ _; first | refine RunU.nilL ?_ | refine RunU.nilD (by kernel_rfl) ?_) | (guard_target =~ RunU _ _ _ _ (Oper.mk _ _ _ _ _ none :: _) _ _ _ _; refine RunU.cons step_any ?_) | ((fail_if_success (guard_target =~ @Eq _ _ _)); (fail_if_success (guard_target =~ @Exists _ _)); first | refine Then.next ?_ | refine InBlock.next ?_ | refine Done.ret (.one (by first | exact .c rfl | exact .own rfl | exact .als rfl rfl | exact .ptr rfl rfl | exact .part rfl rfl rfl) .nil) (.sh .nil) ?_ rfl))
      all_goals try (exfalso; omega)
      all_goals exact ⟨j + 1, by omega, ⟨_, rfl, by exact own_LL hst.symm, int_eq (by omega), trivial⟩, by omega⟩
  · obtain rfl : i = P.length := by omega
    repeat' (first | (guard_target =~ WpA _ _ _ _ _ _; first | refine WpA.seq ?_ | refine WpA.drawU ?_ | refine WpA.regionU ?_ | refine WpA.block ?_ | refine WpA.ret ?_ | refine WpA.skip ?_ | refine WpA.exit ?_ | refine WpA.cond_true rfl ?_ | refine WpA.cond_false rfl ?_ | refine WpA.cond_ntrue rfl ?_ | refine WpA.cond_dec rfl (fun _ => ?_) (fun _ => ?_) | refine WpA.cond_not rfl (fun _ => ?_) (fun _ => ?_) | refine WpA.cond rfl (fun _ => ?_) (fun _ => ?_)) | (guard_target =~ RunU _ _ _ _ [] _ _ _ _; first | refine RunU.nilL ?_ | refine RunU.nilD (by kernel_rfl) ?_) | (guard_target =~ RunU _ _ _ _ (Oper.mk _ _ _ _ _ none :: _) _ _ _ _; refine RunU.cons step_any ?_) | ((fail_if_success (guard_target =~ @Eq _ _ _)); (fail_if_success (guard_target =~ @Exists _ _)); first | refine Then.next ?_ | refine InBlock.next ?_ | refine Done.ret (.one (by first | exact .c rfl | exact .own rfl | exact .als rfl rfl | exact .ptr rfl rfl | exact .part rfl rfl rfl) .nil) (.sh .nil) ?_ rfl))
    all_goals first | rfl | (exfalso; omega)
end Go.Proofs.Ytleleajafgmpbaa
namespace Go.Proofs.Ytleleajafgmpbaa
set_option maxHeartbeats 20000000
set_option linter.unusedVariables false
set_option linter.unusedSimpArgs false
open Go.Pv
open Go.ChangeShapes Go.WideShapes Go.ChangeAt Go.RowKit
attribute [local irreducible] RunU WpA Step CallG CallNG Done DoneN
instance fnOk108 : FnOk Try.prog 108 := ⟨_, Try.func108, rfl, by decide⟩
def mtR (P S : List Int) (n i : Nat) (k : Nat) : List Int := (List.range k).map fun t => mtTo P S n i t
def mtM (P S : List Int) (n : Nat) (i : Nat) : List (List Int) := (List.range i).map fun t => mtR P S n t n
theorem mtR_len (P S : List Int) (n i k : Nat) : (mtR P S n i k).length = k := by simp [mtR]
theorem mtM_len (P S : List Int) (n i : Nat) : (mtM P S n i).length = i := by simp [mtM]
theorem mtR_step (P S : List Int) (n i k : Nat) : mtR P S n i (k + 1) = mtR P S n i k ++ [mtTo P S n i k] := by simp [mtR, List.range_succ]
theorem mtM_step (P S : List Int) (n i : Nat) : mtM P S n (i + 1) = mtM P S n i ++ [mtR P S n i n] := by simp [mtM, List.range_succ]
theorem prM_at (P S : List Int) (n : Nat) {m i : Nat} (h : i < m) : (prM P S n m).getD i [] = prR P S n i := by simp [prM, List.getD_eq_getElem?_getD, h]
set_option maxRecDepth 100000 in
theorem specMt_c (P S W : List Int) (h : Cl P S W) : CallA Try.prog 108 [aCl P S W] [rLL (mtM P S P.length P.length)] [] := by
  have hl := h.len
  have hP := specPr_c P S W h
  have hML := prM_len P S P.length P.length
  have hrl : ∀ i, i < P.length → ((prM P S P.length P.length).getD i []).length = P.length := fun i hi => by rw [prM_at _ _ _ hi, prR_len]
  have hat : ∀ i k, i < P.length → k < P.length → ((prM P S P.length P.length).getD i []).getD k 0 = pe P S i k := fun i k hi hk => by rw [prM_at _ _ _ hi, prR_at _ _ _ hk]
  generalize prM P S P.length P.length = M at *
  refine callA_of _ Try.func108 rfl Try.ntmps108 (by first | exact ⟨rfl, rfl⟩ | (simp only [List.all_cons, List.all_nil, V.solid, D.solid, D.solids, solids_ints, solids_bools, solids_LL, Bool.and_self, Bool.and_true, and_self]; done) | simp [V.solid, D.solid, D.solids, solids_lits, solids_ints, solids_bools, solids_LL]) ?_
  repeat' (first | (guard_target =~ WpA _ _ _ _ _ _; first | refine WpA.seq ?_ | refine WpA.drawU ?_ | refine WpA.regionU ?_ | refine WpA.block ?_ | refine WpA.ret ?_ | refine WpA.skip ?_ | refine WpA.exit ?_ | refine WpA.cond_true rfl ?_ | refine WpA.cond_false rfl ?_ | refine WpA.cond_ntrue rfl ?_ | refine WpA.cond_dec rfl (fun _ => ?_) (fun _ => ?_) | refine WpA.cond_not rfl (fun _ => ?_) (fun _ => ?_) | refine WpA.cond rfl (fun _ => ?_) (fun _ => ?_)) | (guard_target =~ RunU _ _ _ _ [] _ _ _ _; first | refine RunU.nilL ?_ | refine RunU.nilD (by kernel_rfl) ?_) | (guard_target =~ RunU _ _ _ _ (Oper.mk _ (Op.call ⟨Callee.value _, _, _⟩) _ _ _ none :: _) _ _ _ _; first | refine RunU.cons (step_call (hP) (.sh .nil) (.shAgg rfl aggs_any .nil) rfl) ?_) | (guard_target =~ RunU _ _ _ _ (Oper.mk _ _ _ _ _ none :: _) _ _ _ _; refine RunU.cons step_any ?_) | ((fail_if_success (guard_target =~ @Eq _ _ _)); (fail_if_success (guard_target =~ @Exists _ _)); first | refine Then.next ?_ | refine InBlock.next ?_ | refine Done.ret (.one (by first | exact .c rfl | exact .own rfl | exact .als rfl rfl | exact .ptr rfl rfl | exact .part rfl rfl rfl) .nil) (.sh .nil) ?_ rfl))
  clear hP h
  refine WpA.loop_ids2 (fun i i3 i4 => [(3, .own i3 (.sl true 1 (LL M))), (4, .own i4 (.sl true 1 (LL (mtM P S P.length i)))), (5, vJ i)]) (fun i => i ≤ P.length) (fun i => P.length - i) 0 _ _ (by omega) ⟨by exact rfl, by exact rfl, rfl, trivial⟩ ?_
  intro i i3 i4 s nx hi
  have hl1 := mtM_len P S P.length i
  by_cases hlt : i < P.length
  · have hst := mtM_step P S P.length i
    repeat' (first | (guard_target =~ WpA _ _ _ _ _ _; first | refine WpA.seq ?_ | refine WpA.drawU ?_ | refine WpA.regionU ?_ | refine WpA.block ?_ | refine WpA.ret ?_ | refine WpA.skip ?_ | refine WpA.exit ?_ | refine WpA.cond_true rfl ?_ | refine WpA.cond_false rfl ?_ | refine WpA.cond_ntrue rfl ?_ | refine WpA.cond_dec rfl (fun _ => ?_) (fun _ => ?_) | refine WpA.cond_not rfl (fun _ => ?_) (fun _ => ?_) | refine WpA.cond rfl (fun _ => ?_) (fun _ => ?_)) | (guard_target =~ RunU _ _ _ _ [] _ _ _ _; first | refine RunU.nilL ?_ | refine RunU.nilD (by kernel_rfl) ?_) | (guard_target =~ RunU _ _ _ _ (Oper.mk _ _ _ _ _ none :: _) _ _ _ _; refine RunU.cons step_any ?_) | ((fail_if_success (guard_target =~ @Eq _ _ _)); (fail_if_success (guard_target =~ @Exists _ _)); first | refine Then.next ?_ | refine InBlock.next ?_ | refine Done.ret (.one (by first | exact .c rfl | exact .own rfl | exact .als rfl rfl | exact .ptr rfl rfl | exact .part rfl rfl rfl) .nil) (.sh .nil) ?_ rfl))
    all_goals try (exfalso; omega)
    refine WpA.loop_ids3 (fun k i3 i4 i6 => [(3, .own i3 (.sl true 1 (LL M))), (4, .own i4 (.sl true 1 (LL (mtM P S P.length i)))), (5, vJ i), (6, .own i6 (.sl true 1 (ints (mtR P S P.length i k)))), (7, vJ k)]) (fun k => k ≤ P.length) (fun k => P.length - k) 0 _ _ _ (by omega) ⟨rfl, rfl, rfl, by exact own_ints (l := []) rfl, rfl, trivial⟩ ?_
    intro k i3 i4 i6 s nx hk
    have hl2 := mtR_len P S P.length i k
    by_cases hkl : k < P.length
    · have hst2 := mtR_step P S P.length i k
      repeat' (first | (guard_target =~ WpA _ _ _ _ _ _; first | refine WpA.seq ?_ | refine WpA.drawU ?_ | refine WpA.regionU ?_ | refine WpA.block ?_ | refine WpA.ret ?_ | refine WpA.skip ?_ | refine WpA.exit ?_ | refine WpA.cond_true rfl ?_ | refine WpA.cond_false rfl ?_ | refine WpA.cond_ntrue rfl ?_ | refine WpA.cond_dec rfl (fun _ => ?_) (fun _ => ?_) | refine WpA.cond_not rfl (fun _ => ?_) (fun _ => ?_) | refine WpA.cond rfl (fun _ => ?_) (fun _ => ?_)) | (guard_target =~ RunU _ _ _ _ [] _ _ _ _; first | refine RunU.nilL ?_ | refine RunU.nilD (by kernel_rfl) ?_) | (guard_target =~ RunU _ _ _ _ (Oper.mk _ _ _ _ _ none :: _) _ _ _ _; refine RunU.cons step_any ?_) | ((fail_if_success (guard_target =~ @Eq _ _ _)); (fail_if_success (guard_target =~ @Exists _ _)); first | refine Then.next ?_ | refine InBlock.next ?_ | refine Done.ret (.one (by first | exact .c rfl | exact .own rfl | exact .als rfl rfl | exact .ptr rfl rfl | exact .part rfl rfl rfl) .nil) (.sh .nil) ?_ rfl))
      all_goals try (exfalso; omega)
      refine WpA.loop_ids3 (fun j i3 i4 i6 => [(3, .own i3 (.sl true 1 (LL M))), (4, .own i4 (.sl true 1 (LL (mtM P S P.length i)))), (5, vJ i), (6, .own i6 (.sl true 1 (ints (mtR P S P.length i k)))), (7, vJ k), (8, vJ (mtTo P S j i k)), (9, vJ j)]) (fun j => j ≤ P.length) (fun j => P.length - j) 0 _ _ _ (by omega) ⟨rfl, rfl, rfl, rfl, rfl, rfl, rfl, trivial⟩ ?_
      intro j i3 i4 i6 s nx hj
      by_cases hjl : j < P.length
      · have r1 := hrl (j * 1) (by omega)
        have a1 := hat (j * 1) (i * 1) (by omega) (by omega)
        have a2 := hat (j * 1) (k * 1) (by omega) (by omega)
        have m1 := pe_mul P S (j * 1) (i * 1) (k * 1)
        have m2 := mtTo_in P S i k j
        have e : mtTo P S j i k - (M.getD (j * 1) []).getD (i * 1) 0 * (M.getD (j * 1) []).getD (k * 1) 0 = mtTo P S (j + 1) i k := by rw [a1, a2]; simp only [Nat.mul_one]; rfl
        rw [← a1, ← a2] at m1
        clear a1 a2 hrl hat hst hst2
        repeat' (first | (guard_target =~ WpA _ _ _ _ _ _; first | refine WpA.seq ?_ | refine WpA.drawU ?_ | refine WpA.regionU ?_ | refine WpA.block ?_ | refine WpA.ret ?_ | refine WpA.skip ?_ | refine WpA.exit ?_ | refine WpA.cond_true rfl ?_ | refine WpA.cond_false rfl ?_ | refine WpA.cond_ntrue rfl ?_ | refine WpA.cond_dec rfl (fun _ => ?_) (fun _ => ?_) | refine WpA.cond_not rfl (fun _ => ?_) (fun _ => ?_) | refine WpA.cond rfl (fun _ => ?_) (fun _ => ?_)) | (guard_target =~ RunU _ _ _ _ [] _ _ _ _; first | refine RunU.nilL ?_ | refine RunU.nilD (by kernel_rfl) ?_) | (guard_target =~ RunU _ _ _ _ (Oper.mk _ _ _ _ _ none :: _) _ _ _ _; refine RunU.cons step_any ?_) | ((fail_if_success (guard_target =~ @Eq _ _ _)); (fail_if_success (guard_target =~ @Exists _ _)); first | refine Then.next ?_ | refine InBlock.next ?_ | refine Done.ret (.one (by first | exact .c rfl | exact .own rfl | exact .als rfl rfl | exact .ptr rfl rfl | exact .part rfl rfl rfl) .nil) (.sh .nil) ?_ rfl))
        all_goals try (exfalso; omega)
        all_goals exact ⟨j + 1, by omega, ⟨_, _, _, rfl, rfl, rfl, rfl, rfl, int_eq e, int_eq (by omega), trivial⟩, by omega⟩
      · obtain rfl : j = P.length := by omega
        clear hrl hat hst
        repeat' (first | (guard_target =~ WpA _ _ _ _ _ _; first | refine WpA.seq ?_ | refine WpA.drawU ?_ | refine WpA.regionU ?_ | refine WpA.block ?_ | refine WpA.ret ?_ | refine WpA.skip ?_ | refine WpA.exit ?_ | refine WpA.cond_true rfl ?_ | refine WpA.cond_false rfl ?_ | refine WpA.cond_ntrue rfl ?_ | refine WpA.cond_dec rfl (fun _ => ?_) (fun _ => ?_) | refine WpA.cond_not rfl (fun _ => ?_) (fun _ => ?_) | refine WpA.cond rfl (fun _ => ?_) (fun _ => ?_)) | (guard_target =~ RunU _ _ _ _ [] _ _ _ _; first | refine RunU.nilL ?_ | refine RunU.nilD (by kernel_rfl) ?_) | (guard_target =~ RunU _ _ _ _ (Oper.mk _ _ _ _ _ none :: _) _ _ _ _; refine RunU.cons step_any ?_) | ((fail_if_success (guard_target =~ @Eq _ _ _)); (fail_if_success (guard_target =~ @Exists _ _)); first | refine Then.next ?_ | refine InBlock.next ?_ | refine Done.ret (.one (by first | exact .c rfl | exact .own rfl | exact .als rfl rfl | exact .ptr rfl rfl | exact .part rfl rfl rfl) .nil) (.sh .nil) ?_ rfl))
        all_goals try (exfalso; omega)
        all_goals exact ⟨k + 1, by omega, ⟨_, _, _, rfl, rfl, rfl, by exact own_ints hst2.symm, int_eq (by omega), trivial⟩, by omega⟩
    · obtain rfl : k = P.length := by omega
      clear hrl hat
      repeat' (first | (guard_target =~ WpA _ _ _ _ _ _; first | refine WpA.seq ?_ | refine WpA.drawU ?_ | refine WpA.regionU ?_ | refine WpA.block ?_ | refine WpA.ret ?_ | refine WpA.skip ?_ | refine WpA.exit ?_ | refine WpA.cond_true rfl ?_ | refine WpA.cond_false rfl ?_ | refine WpA.cond_ntrue rfl ?_ | refine WpA.cond_dec rfl (fun _ => ?_) (fun _ => ?_) | refine WpA.cond_not rfl (fun _ => ?_) (fun _ => ?_) | refine WpA.cond rfl (fun _ => ?_) (fun _ => ?_)) | (guard_target =~ RunU _ _ _ _ [] _ _ _ _; first | refine RunU.nilL ?_ | refine RunU.nilD (by kernel_rfl) ?_) | (guard_target =~ RunU _ _ _ _ (Oper.mk _ _ _ _ _ none :: _) _ _ _ _; refine RunU.cons step_any ?_) | ((fail_if_success (guard_target =~ @Eq _ _ _)); (fail_if_success (guard_target =~ @Exists _ _)); first | refine Then.next ?_ | refine InBlock.next ?_ | refine Done.ret (.one (by first | exact .c rfl | exact .own rfl | exact .als rfl rfl | exact .ptr rfl rfl | exact .part rfl rfl rfl) .nil) (.sh .nil) ?_ rfl))
      all_goals try (exfalso; omega)
      all_goals exact ⟨i + 1, by omega, ⟨_, _, rfl, by exact own_LL hst.symm, int_eq (by omega), trivial⟩, by omega⟩
  · obtain rfl : i = P.length := by omega
    clear hrl hat
    repeat' (first | (guard_target =~ WpA _ _ _ _ _ _; first | refine WpA.seq ?_ | refine WpA.drawU ?_ | refine WpA.regionU ?_ | refine WpA.block ?_ | refine WpA.ret ?_ | refine WpA.skip ?_ | refine WpA.exit ?_ | refine WpA.cond_true rfl ?_ | refine WpA.cond_false rfl ?_ | refine WpA.cond_ntrue rfl ?_ | refine WpA.cond_dec rfl (fun _ => ?_) (fun _ => ?_) | refine WpA.cond_not rfl (fun _ => ?_) (fun _ => ?_) | refine WpA.cond rfl (fun _ => ?_) (fun _ => ?_)) | (guard_target =~ RunU _ _ _ _ [] _ _ _ _; first | refine RunU.nilL ?_ | refine RunU.nilD (by kernel_rfl) ?_) | (guard_target =~ RunU _ _ _ _ (Oper.mk _ _ _ _ _ none :: _) _ _ _ _; refine RunU.cons step_any ?_) | ((fail_if_success (guard_target =~ @Eq _ _ _)); (fail_if_success (guard_target =~ @Exists _ _)); first | refine Then.next ?_ | refine InBlock.next ?_ | refine Done.ret (.one (by first | exact .c rfl | exact .own rfl | exact .als rfl rfl | exact .ptr rfl rfl | exact .part rfl rfl rfl) .nil) (.sh .nil) ?_ rfl))
    all_goals first | rfl | (exfalso; omega)
end Go.Proofs.Ytleleajafgmpbaa
