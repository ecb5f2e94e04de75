/- The head of a slice that a root holds, cut to its length, becomes a root of its own. No condition. -/
import Derived.Test.YtpeioofkihpldaaDoorNAbA
import Derived.Test.YtpeioofkihpldaaDoorNNuA
import Derived.Test.YtpeioofkihpldaaDoorNPvW
import Derived.Test.YtpeioofkihpldaaDoorNPvX
import Derived.Test.YtpeioofkihpldaaDoorNPwI
set_option linter.unusedVariables false
set_option linter.unusedSimpArgs false
namespace Go.Proofs.YtpeioofkihpldaaDoor
set_option maxHeartbeats 20000000
open Go.Pv
open Go.ChangeShapes Go.WideShapes Go.ChangeAt Go.RowKit
attribute [local irreducible] RunU WpA Step CallG CallNG Done DoneN
instance fnOk73 : FnOk Tryd.prog 73 := ⟨_, Tryd.func73, rfl, by decide⟩
instance fnOk74 : FnOk Tryd.prog 74 := ⟨_, Tryd.func74, rfl, by decide⟩
instance fnOk62 : FnOk Tryd.prog 62 := ⟨_, Tryd.func62, rfl, by decide⟩
theorem l01Steps_c (a b : Int) (ha : 0 ≤ a ∧ a ≤ 1000000) (hb : 0 ≤ b ∧ b ≤ 1000000) : CallA Tryd.prog 74 [aI a, aI b] [rLL (stp b.toNat a b)] [] := by
 generalize hT : stp b.toNat a b = T
 refine cA_ _ Tryd.func74 rfl Tryd.ntmps74 (by first | exact ⟨rfl, rfl⟩ | (simp only [List.all_cons, List.all_nil, V.solid, D.solid, D.solids, solids_ints, solids_bools, solids_LL, Bool.and_self, Bool.and_true, and_self]; done) | simp [V.solid, D.solid, D.solids, solids_lits, solids_ints, solids_bools, solids_LL]) ?_
 repeat' (first | (guard_target =~ WpA _ _ _ _ _ _; first | refine WpA.seq ?_ | refine WpA.drawU ?_ | refine WpA.regionU ?_ | refine WpA.block ?_ | refine WpA.ret ?_ | refine WpA.skip ?_ | refine WpA.exit ?_ | refine WpA.cond_true rfl ?_ | refine WpA.cond_false rfl ?_ | refine WpA.cond_ntrue rfl ?_ | refine WpA.cond_dec rfl (fun _ => ?_) (fun _ => ?_) | refine WpA.cond_not rfl (fun _ => ?_) (fun _ => ?_) | refine WpA.cond rfl (fun _ => ?_) (fun _ => ?_)) | (guard_target =~ RunU _ _ _ _ [] _ _ _ _; first | refine RunU.nilL ?_ | refine RunU.nilD (by kernel_rfl) ?_) | (guard_target =~ RunU _ _ _ _ (Oper.mk _ _ _ _ _ none :: _) _ _ _ _; refine RunU.cons step_any ?_) | (guard_target =~ RunU _ _ _ _ (Oper.mk _ _ _ _ _ (some _) :: _) _ _ _ _; first | refine RunU.pass rfl rfl rfl rfl ?_ | refine RunU.pass_undef rfl rfl rfl ?_ | refine RunU.doit rfl rfl step_any ?_ | ((fail_if_success (refine RunU.doit (rd := []) (up := []) rfl rfl ?_ ?_)); first | refine RunU.guard_dec rfl rfl (fun _ => ?_) (fun _ => ?_) | refine RunU.guard_not rfl rfl (fun _ => ?_) (fun _ => ?_) | refine RunU.guard rfl rfl (fun _ => ?_) (fun _ => ?_))) | refine Then.next ?_ | refine InBlock.next ?_ | refine Done.ret (.one (by first | exact .c rfl | exact .own rfl | exact .als rfl rfl | exact .ptr rfl rfl | exact .part rfl rfl rfl) .nil) (.sh (.sh .nil)) ?_ rfl)
 refine WpA.loop_slots (ι := List (List Int) × Int × Int × Nat × Nat) (fun q => [(0, vAb q.2.1), (1, vAb q.2.2.1), (5, .own q.2.2.2.2 (.sl true 1 (LL q.1)))]) (fun q => (0 ≤ q.2.1 ∧ q.2.1 ≤ 1000000) ∧ (0 ≤ q.2.2.1 ∧ q.2.2.1 ≤ 1000000) ∧ q.2.2.1.toNat ≤ q.2.2.2.1 ∧ q.1.length + q.2.2.2.1 ≤ 2000000 ∧ q.1 ++ stp q.2.2.2.1 q.2.1 q.2.2.1 = T) (fun q => q.2.2.1.toNat) ([], a, b, b.toNat, _) ⟨ha, hb, Nat.le_refl _, by simp; omega, by simpa using hT⟩ ⟨rfl, rfl, xR_, trivial⟩ ?_
 rintro ⟨L, x, y, f, i5⟩ s nx ⟨hx, hy, hf, hL, hT2⟩
 simp only at hx hy hf hL hT2
 dsimp only
 clear hT
 by_cases h0 : 0 < y
 ·have hm := Int.emod_nonneg x (show y ≠ 0 by omega)
  have hl := Int.emod_lt_of_pos x h0
  obtain ⟨f', rfl⟩ : ∃ f', f = f' + 1 := ⟨f - 1, by omega⟩
  rw [stp, if_pos h0] at hT2
  repeat' (first | (guard_target =~ WpA _ _ _ _ _ _; first | refine WpA.seq ?_ | refine WpA.drawU ?_ | refine WpA.regionU ?_ | refine WpA.block ?_ | refine WpA.ret ?_ | refine WpA.skip ?_ | refine WpA.exit ?_ | refine WpA.cond_true rfl ?_ | refine WpA.cond_false rfl ?_ | refine WpA.cond_ntrue rfl ?_ | refine WpA.cond_dec rfl (fun _ => ?_) (fun _ => ?_) | refine WpA.cond_not rfl (fun _ => ?_) (fun _ => ?_) | refine WpA.cond rfl (fun _ => ?_) (fun _ => ?_)) | (guard_target =~ RunU _ _ _ _ [] _ _ _ _; first | refine RunU.nilL ?_ | refine RunU.nilD (by kernel_rfl) ?_) | (guard_target =~ RunU _ _ _ _ (Oper.mk _ _ _ _ _ none :: _) _ _ _ _; refine RunU.cons step_any ?_) | (guard_target =~ RunU _ _ _ _ (Oper.mk _ _ _ _ _ (some _) :: _) _ _ _ _; first | refine RunU.pass rfl rfl rfl rfl ?_ | refine RunU.pass_undef rfl rfl rfl ?_ | refine RunU.doit rfl rfl step_any ?_ | ((fail_if_success (refine RunU.doit (rd := []) (up := []) rfl rfl ?_ ?_)); first | refine RunU.guard_dec rfl rfl (fun _ => ?_) (fun _ => ?_) | refine RunU.guard_not rfl rfl (fun _ => ?_) (fun _ => ?_) | refine RunU.guard rfl rfl (fun _ => ?_) (fun _ => ?_))) | refine Then.next ?_ | refine InBlock.next ?_ | refine Done.ret (.one (by first | exact .c rfl | exact .own rfl | exact .als rfl rfl | exact .ptr rfl rfl | exact .part rfl rfl rfl) .nil) (.sh (.sh .nil)) ?_ rfl)
  all_goals try (exfalso; omega)
  all_goals exact ⟨(L ++ [[x / y, y]], y, x % y, f', _), ⟨hy, ⟨hm, by simp only; omega⟩, by simp only; omega, by simp; omega, by rw [← hT2]; simp⟩, ⟨rfl, rfl, by exact own_LL rfl, trivial⟩, by simp only; omega⟩
 ·have e : y = 0 := by omega
  subst e
  rw [stp_zero, List.append_nil] at hT2
  subst hT2
  repeat' (first | (guard_target =~ WpA _ _ _ _ _ _; first | refine WpA.seq ?_ | refine WpA.drawU ?_ | refine WpA.regionU ?_ | refine WpA.block ?_ | refine WpA.ret ?_ | refine WpA.skip ?_ | refine WpA.exit ?_ | refine WpA.cond_true rfl ?_ | refine WpA.cond_false rfl ?_ | refine WpA.cond_ntrue rfl ?_ | refine WpA.cond_dec rfl (fun _ => ?_) (fun _ => ?_) | refine WpA.cond_not rfl (fun _ => ?_) (fun _ => ?_) | refine WpA.cond rfl (fun _ => ?_) (fun _ => ?_)) | (guard_target =~ RunU _ _ _ _ [] _ _ _ _; first | refine RunU.nilL ?_ | refine RunU.nilD (by kernel_rfl) ?_) | (guard_target =~ RunU _ _ _ _ (Oper.mk _ _ _ _ _ none :: _) _ _ _ _; refine RunU.cons step_any ?_) | (guard_target =~ RunU _ _ _ _ (Oper.mk _ _ _ _ _ (some _) :: _) _ _ _ _; first | refine RunU.pass rfl rfl rfl rfl ?_ | refine RunU.pass_undef rfl rfl rfl ?_ | refine RunU.doit rfl rfl step_any ?_ | ((fail_if_success (refine RunU.doit (rd := []) (up := []) rfl rfl ?_ ?_)); first | refine RunU.guard_dec rfl rfl (fun _ => ?_) (fun _ => ?_) | refine RunU.guard_not rfl rfl (fun _ => ?_) (fun _ => ?_) | refine RunU.guard rfl rfl (fun _ => ?_) (fun _ => ?_))) | refine Then.next ?_ | refine InBlock.next ?_ | refine Done.ret (.one (by first | exact .c rfl | exact .own rfl | exact .als rfl rfl | exact .ptr rfl rfl | exact .part rfl rfl rfl) .nil) (.sh (.sh .nil)) ?_ rfl)
  all_goals first | rfl | (exfalso; omega)
theorem divTo_one {l : List Int} (h : 0 ≤ l.getD 0 0) : divTo l 1 = l.getD 0 0 := by
 simp only [divTo]
 have := Int.gcd_zero_left (a := l.getD 0 0)
 omega
theorem divs_last' (l : List Int) (j : Nat) : (divs l (j + 1)).getD j 0 = divTo l (j + 1) := by
 rw [divs, List.getD_eq_getElem?_getD, List.getElem?_append_right (by rw [divs_len]; exact Nat.le_refl _), divs_len, Nat.sub_self]
 rfl
theorem l03Divisors_c (l : List Int) (h : Tms l) : CallA Tryd.prog 73 [aBr1 l] [rL (divs l l.length)] [] := by
 obtain ⟨hl1, hl2⟩ := h.len
 have h0 := h.pos
 have hb := h.bnd
 have hdt := divTo_bound (l := l) (fun i => by have := hb i; omega)
 have e1 : [l.getD (0 * 1) 0] = divs l 1 := by
  rw [divs, divs, divTo_one (by omega)]; rfl
 refine cA_ _ Tryd.func73 rfl Tryd.ntmps73 (by first | exact ⟨rfl, rfl⟩ | (simp only [List.all_cons, List.all_nil, V.solid, D.solid, D.solids, solids_ints, solids_bools, solids_LL, Bool.and_self, Bool.and_true, and_self]; done) | simp [V.solid, D.solid, D.solids, solids_lits, solids_ints, solids_bools, solids_LL]) ?_
 repeat' (first | (guard_target =~ WpA _ _ _ _ _ _; first | refine WpA.seq ?_ | refine WpA.drawU ?_ | refine WpA.regionU ?_ | refine WpA.block ?_ | refine WpA.ret ?_ | refine WpA.skip ?_ | refine WpA.exit ?_ | refine WpA.cond_true rfl ?_ | refine WpA.cond_false rfl ?_ | refine WpA.cond_ntrue rfl ?_ | refine WpA.cond_dec rfl (fun _ => ?_) (fun _ => ?_) | refine WpA.cond_not rfl (fun _ => ?_) (fun _ => ?_) | refine WpA.cond rfl (fun _ => ?_) (fun _ => ?_)) | (guard_target =~ RunU _ _ _ _ [] _ _ _ _; first | refine RunU.nilL ?_ | refine RunU.nilD (by kernel_rfl) ?_) | (guard_target =~ RunU _ _ _ _ (Oper.mk _ _ _ _ _ none :: _) _ _ _ _; refine RunU.cons step_any ?_) | (guard_target =~ RunU _ _ _ _ (Oper.mk _ _ _ _ _ (some _) :: _) _ _ _ _; first | refine RunU.pass rfl rfl rfl rfl ?_ | refine RunU.pass_undef rfl rfl rfl ?_ | refine RunU.doit rfl rfl step_any ?_ | ((fail_if_success (refine RunU.doit (rd := []) (up := []) rfl rfl ?_ ?_)); first | refine RunU.guard_dec rfl rfl (fun _ => ?_) (fun _ => ?_) | refine RunU.guard_not rfl rfl (fun _ => ?_) (fun _ => ?_) | refine RunU.guard rfl rfl (fun _ => ?_) (fun _ => ?_))) | refine Then.next ?_ | refine InBlock.next ?_ | refine Done.ret (.one (by first | exact .c rfl | exact .own rfl | exact .als rfl rfl | exact .ptr rfl rfl | exact .part rfl rfl rfl) .nil) (.sh .nil) ?_ rfl)
 all_goals try (exfalso; omega)
 refine WpA.loop_slots2 (fun j i3 => [(1, .own 1 (.pt true [.sl false 1 (ints l)])), (3, .own i3 (.sl true 1 (ints (divs l (j + 1))))), (4, vAb ((j + 1 : Nat) : Int))]) (fun j => j + 1 ≤ l.length) (fun j => l.length - j) 0 _ (by omega) ⟨rfl, by exact own_ints e1, rfl, trivial⟩ ?_
 intro j i3 s nx hj
 have hdl := divs_len l (j + 1)
 by_cases hlt : j + 1 < l.length
 ·have ej : ((((j + 1 : Nat) : Int) - 1).toNat) * 1 = j := by omega
  have hla := divs_last' l j
  rw [← ej] at hla
  rw [show (divs l (((((j + 1 : Nat) : Int) - 1).toNat) * 1 + 1)) = divs l (j + 1) by rw [ej]] at hla
  have hd1 := hdt (((((j + 1 : Nat) : Int) - 1).toNat) * 1 + 1)
  have hb1 := hb ((j + 1) * 1)
  rw [← hla] at hd1
  have hG := gcd_c ((divs l (j + 1)).getD (((((j + 1 : Nat) : Int) - 1).toNat) * 1) 0) (l.getD ((j + 1) * 1) 0) (by omega) (by omega)
  have e2 : divs l (j + 1) ++ [(((divs l (j + 1)).getD (((((j + 1 : Nat) : Int) - 1).toNat) * 1) 0).gcd (l.getD ((j + 1) * 1) 0) : Int)] = divs l (j + 1 + 1) := by
   rw [hla, ej, Nat.mul_one]; rfl
  clear hdt e1
  repeat' (first | (guard_target =~ WpA _ _ _ _ _ _; first | refine WpA.seq ?_ | refine WpA.drawU ?_ | refine WpA.regionU ?_ | refine WpA.block ?_ | refine WpA.ret ?_ | refine WpA.skip ?_ | refine WpA.exit ?_ | refine WpA.cond_true rfl ?_ | refine WpA.cond_false rfl ?_ | refine WpA.cond_ntrue rfl ?_ | refine WpA.cond_dec rfl (fun _ => ?_) (fun _ => ?_) | refine WpA.cond_not rfl (fun _ => ?_) (fun _ => ?_) | refine WpA.cond rfl (fun _ => ?_) (fun _ => ?_)) | (guard_target =~ RunU _ _ _ _ [] _ _ _ _; first | refine RunU.nilL ?_ | refine RunU.nilD (by kernel_rfl) ?_) | (guard_target =~ RunU _ _ _ _ (Oper.mk _ (Op.call ⟨Callee.value _, _, _⟩) _ _ _ none :: _) _ _ _ _; first | refine RunU.cons (sC_ (hG) (.sh (.sh .nil)) (.sh wS_ (.sh wS_ .nil)) rfl) ?_) | (guard_target =~ RunU _ _ _ _ (Oper.mk _ _ _ _ _ none :: _) _ _ _ _; refine RunU.cons step_any ?_) | (guard_target =~ RunU _ _ _ _ (Oper.mk _ _ _ _ _ (some _) :: _) _ _ _ _; first | refine RunU.pass rfl rfl rfl rfl ?_ | refine RunU.pass_undef rfl rfl rfl ?_ | (guard_target =~ RunU _ _ _ _ (Oper.mk _ (Op.call ⟨Callee.value _, _, _⟩) _ _ _ _ :: _) _ _ _ _; first | refine RunU.doit rfl rfl (sC_ (hG) (.sh (.sh .nil)) (.sh wS_ (.sh wS_ .nil)) rfl) ?_) | refine RunU.doit rfl rfl step_any ?_ | ((fail_if_success (refine RunU.doit (rd := []) (up := []) rfl rfl ?_ ?_)); first | refine RunU.guard_dec rfl rfl (fun _ => ?_) (fun _ => ?_) | refine RunU.guard_not rfl rfl (fun _ => ?_) (fun _ => ?_) | refine RunU.guard rfl rfl (fun _ => ?_) (fun _ => ?_))) | refine Then.next ?_ | refine InBlock.next ?_ | refine Done.ret (.one (by first | exact .c rfl | exact .own rfl | exact .als rfl rfl | exact .ptr rfl rfl | exact .part rfl rfl rfl) .nil) (.sh .nil) ?_ rfl)
  all_goals try (exfalso; omega)
  all_goals exact ⟨j + 1, by omega, ⟨_, rfl, by exact own_ints e2, int_eq (by omega), trivial⟩, by omega⟩
 ·have ej : j + 1 = l.length := by omega
  rw [ej]
  clear hdt e1
  repeat' (first | (guard_target =~ WpA _ _ _ _ _ _; first | refine WpA.seq ?_ | refine WpA.drawU ?_ | refine WpA.regionU ?_ | refine WpA.block ?_ | refine WpA.ret ?_ | refine WpA.skip ?_ | refine WpA.exit ?_ | refine WpA.cond_true rfl ?_ | refine WpA.cond_false rfl ?_ | refine WpA.cond_ntrue rfl ?_ | refine WpA.cond_dec rfl (fun _ => ?_) (fun _ => ?_) | refine WpA.cond_not rfl (fun _ => ?_) (fun _ => ?_) | refine WpA.cond rfl (fun _ => ?_) (fun _ => ?_)) | (guard_target =~ RunU _ _ _ _ [] _ _ _ _; first | refine RunU.nilL ?_ | refine RunU.nilD (by kernel_rfl) ?_) | (guard_target =~ RunU _ _ _ _ (Oper.mk _ _ _ _ _ none :: _) _ _ _ _; refine RunU.cons step_any ?_) | (guard_target =~ RunU _ _ _ _ (Oper.mk _ _ _ _ _ (some _) :: _) _ _ _ _; first | refine RunU.pass rfl rfl rfl rfl ?_ | refine RunU.pass_undef rfl rfl rfl ?_ | refine RunU.doit rfl rfl step_any ?_ | ((fail_if_success (refine RunU.doit (rd := []) (up := []) rfl rfl ?_ ?_)); first | refine RunU.guard_dec rfl rfl (fun _ => ?_) (fun _ => ?_) | refine RunU.guard_not rfl rfl (fun _ => ?_) (fun _ => ?_) | refine RunU.guard rfl rfl (fun _ => ?_) (fun _ => ?_))) | refine Then.next ?_ | refine InBlock.next ?_ | refine Done.ret (.one (by first | exact .c rfl | exact .own rfl | exact .als rfl rfl | exact .ptr rfl rfl | exact .part rfl rfl rfl) .nil) (.sh .nil) ?_ rfl)
  all_goals first | rfl | (exfalso; omega)
def runsL (l : List Int) : Nat → List (List Int)
 | 0 => []
 | j + 1 => runsL l j ++ stp ((divs l l.length).getD j 0).toNat (runK l j) ((divs l l.length).getD j 0)
theorem runsL_len {l : List Int} (h : Tms l) : ∀ j, (runsL l j).length ≤ 2000 * j
 | 0 => by simp [runsL]
 | j + 1 => by
  have ih := runsL_len h j
  have hd := divs_bnd h j
  have h4 := stp_len ((divs l l.length).getD j 0).toNat (runK l j) ((divs l l.length).getD j 0)
  rw [runsL, List.length_append]; omega
theorem runsL_mem {l : List Int} (h : Tms l) : ∀ j, j + 1 ≤ l.length → ∀ s ∈ runsL l j, s.length = 2 ∧ (0 ≤ s.getD 0 0 ∧ s.getD 0 0 ≤ 4000) ∧ 0 < s.getD 1 0 ∧ s.getD 1 0 ≤ 4000
 | 0, _, s, hs => by simp [runsL] at hs
 | j + 1, hj, s, hs => by
  rw [runsL] at hs
  rcases List.mem_append.1 hs with hs | hs
  ·exact runsL_mem h j (by omega) s hs
  ·have hd := divs_bnd h j
   have hk := runK_bnd h (j := j) (by omega)
   obtain ⟨q1, q2, q3⟩ := stp_two _ _ _ hk.1 hd.1 s hs
   exact ⟨q1, by omega, by omega⟩
theorem own_LLapp {id : Nat} {A B C : List (List Int)} (e : A ++ B = C) : AV.own id (.sl true 1 (LL A ++ LL B)) = AV.own id (.sl true 1 (LL C)) := by rw [← e]; simp
theorem l04Runs_c (l : List Int) (h : Tms l) : CallA Tryd.prog 62 [aBr1 l] [rLL (runsL l (l.length - 1))] [] := by
 obtain ⟨hl1, hl2⟩ := h.len
 have hD := l03Divisors_c l h
 have hdl := divs_len l l.length
 have hdb := divs_bnd h
 have hsl := runsL_len h
 have hkb : ∀ j, j + 1 < l.length → 0 ≤ runK l j ∧ runK l j ≤ 2000 := fun j hj => runK_bnd h hj
 have hstep : ∀ j, runsL l (j + 1) = runsL l j ++ stp ((divs l l.length).getD j 0).toNat (runK l j) ((divs l l.length).getD j 0) := fun j => rfl
 generalize divs l l.length = dv at *
 refine cA_ _ Tryd.func62 rfl Tryd.ntmps62 (by first | exact ⟨rfl, rfl⟩ | (simp only [List.all_cons, List.all_nil, V.solid, D.solid, D.solids, solids_ints, solids_bools, solids_LL, Bool.and_self, Bool.and_true, and_self]; done) | simp [V.solid, D.solid, D.solids, solids_lits, solids_ints, solids_bools, solids_LL]) ?_
 repeat' (first | (guard_target =~ WpA _ _ _ _ _ _; first | refine WpA.seq ?_ | refine WpA.drawU ?_ | refine WpA.regionU ?_ | refine WpA.block ?_ | refine WpA.ret ?_ | refine WpA.skip ?_ | refine WpA.exit ?_ | refine WpA.cond_true rfl ?_ | refine WpA.cond_false rfl ?_ | refine WpA.cond_ntrue rfl ?_ | refine WpA.cond_dec rfl (fun _ => ?_) (fun _ => ?_) | refine WpA.cond_not rfl (fun _ => ?_) (fun _ => ?_) | refine WpA.cond rfl (fun _ => ?_) (fun _ => ?_)) | (guard_target =~ RunU _ _ _ _ [] _ _ _ _; first | refine RunU.nilL ?_ | refine RunU.nilD (by kernel_rfl) ?_) | (guard_target =~ RunU _ _ _ _ (Oper.mk _ (Op.call ⟨Callee.value _, _, _⟩) _ _ _ none :: _) _ _ _ _; first | refine RunU.cons (sC_ (hD) (.sh .nil) (.shAgg rfl gA_ .nil) rfl) ?_) | (guard_target =~ RunU _ _ _ _ (Oper.mk _ _ _ _ _ none :: _) _ _ _ _; refine RunU.cons step_any ?_) | (guard_target =~ RunU _ _ _ _ (Oper.mk _ _ _ _ _ (some _) :: _) _ _ _ _; first | refine RunU.pass rfl rfl rfl rfl ?_ | refine RunU.pass_undef rfl rfl rfl ?_ | (guard_target =~ RunU _ _ _ _ (Oper.mk _ (Op.call ⟨Callee.value _, _, _⟩) _ _ _ _ :: _) _ _ _ _; first | refine RunU.doit rfl rfl (sC_ (hD) (.sh .nil) (.shAgg rfl gA_ .nil) rfl) ?_) | refine RunU.doit rfl rfl step_any ?_ | ((fail_if_success (refine RunU.doit (rd := []) (up := []) rfl rfl ?_ ?_)); first | refine RunU.guard_dec rfl rfl (fun _ => ?_) (fun _ => ?_) | refine RunU.guard_not rfl rfl (fun _ => ?_) (fun _ => ?_) | refine RunU.guard rfl rfl (fun _ => ?_) (fun _ => ?_))) | refine Then.next ?_ | refine InBlock.next ?_ | refine Done.ret (.one (by first | exact .c rfl | exact .own rfl | exact .als rfl rfl | exact .ptr rfl rfl | exact .part rfl rfl rfl) .nil) (.sh .nil) ?_ rfl)
 all_goals try (exfalso; omega)
 refine WpA.loop_ids2 (fun j i3 i4 => [(1, .own 1 (.pt true [.sl false 1 (ints l)])), (3, .own i3 (.sl true 1 (ints dv))), (4, .own i4 (.sl true 1 (LL (runsL l j)))), (5, vAb ((j + 1 : Nat) : Int))]) (fun j => j + 1 ≤ l.length) (fun j => l.length - j) 0 _ _ (by omega) ⟨rfl, xR_, xR_, rfl, trivial⟩ ?_
 intro j i3 i4 s nx hj
 have hsj := hsl j
 by_cases hlt : j + 1 < l.length
 ·have hk := hkb j hlt
  have hdj := hdb (((((j + 1 : Nat) : Int) - 1).toNat) * 1)
  have ej : ((((j + 1 : Nat) : Int) - 1).toNat) * 1 = j := by omega
  have hst := hstep j
  rw [show dv.getD j 0 = dv.getD (((((j + 1 : Nat) : Int) - 1).toNat) * 1) 0 by rw [ej]] at hst
  have hb1 := h.bnd ((j + 1) * 1)
  have hb2 := h.bnd (((((j + 1 : Nat) : Int) - 1).toNat) * 1)
  by_cases hj0 : j = 0
  ·subst hj0
   have e2 : runK l 0 = l.getD ((0 + 1) * 1) 0 := by unfold runK; rw [if_pos rfl]; simp
   rw [e2] at hk hst
   have hR := l01Steps_c (l.getD ((0 + 1) * 1) 0) (dv.getD (((((0 + 1 : Nat) : Int) - 1).toNat) * 1) 0) (by omega) (by omega)
   have hRl := stp_len (dv.getD (((((0 + 1 : Nat) : Int) - 1).toNat) * 1) 0).toNat (l.getD ((0 + 1) * 1) 0) (dv.getD (((((0 + 1 : Nat) : Int) - 1).toNat) * 1) 0)
   clear hD hdb hsl hkb hstep
   generalize stp (dv.getD (((((0 + 1 : Nat) : Int) - 1).toNat) * 1) 0).toNat (l.getD ((0 + 1) * 1) 0) (dv.getD (((((0 + 1 : Nat) : Int) - 1).toNat) * 1) 0) = R at *
   repeat' (first | (guard_target =~ WpA _ _ _ _ _ _; first | refine WpA.seq ?_ | refine WpA.drawU ?_ | refine WpA.regionU ?_ | refine WpA.block ?_ | refine WpA.ret ?_ | refine WpA.skip ?_ | refine WpA.exit ?_ | refine WpA.cond_true rfl ?_ | refine WpA.cond_false rfl ?_ | refine WpA.cond_ntrue rfl ?_ | refine WpA.cond_dec rfl (fun _ => ?_) (fun _ => ?_) | refine WpA.cond_not rfl (fun _ => ?_) (fun _ => ?_) | refine WpA.cond rfl (fun _ => ?_) (fun _ => ?_)) | (guard_target =~ RunU _ _ _ _ [] _ _ _ _; first | refine RunU.nilL ?_ | refine RunU.nilD (by kernel_rfl) ?_) | (guard_target =~ RunU _ _ _ _ (Oper.mk _ (Op.call ⟨Callee.value _, _, _⟩) _ _ _ none :: _) _ _ _ _; first | refine RunU.cons (sC_ (hR) (.sh (.sh .nil)) (.sh wS_ (.sh wS_ .nil)) rfl) ?_) | (guard_target =~ RunU _ _ _ _ (Oper.mk _ _ _ _ _ none :: _) _ _ _ _; first | refine RunU.cons (step_append_give (.als rfl rfl) (.own rfl) (by simp; omega) rfl) ?_) | (guard_target =~ RunU _ _ _ _ (Oper.mk _ _ _ _ _ none :: _) _ _ _ _; refine RunU.cons step_any ?_) | (guard_target =~ RunU _ _ _ _ (Oper.mk _ _ _ _ _ (some _) :: _) _ _ _ _; first | refine RunU.pass rfl rfl rfl rfl ?_ | refine RunU.pass_undef rfl rfl rfl ?_ | (guard_target =~ RunU _ _ _ _ (Oper.mk _ (Op.call ⟨Callee.value _, _, _⟩) _ _ _ _ :: _) _ _ _ _; first | refine RunU.doit rfl rfl (sC_ (hR) (.sh (.sh .nil)) (.sh wS_ (.sh wS_ .nil)) rfl) ?_) | refine RunU.doit rfl rfl step_any ?_ | ((fail_if_success (refine RunU.doit (rd := []) (up := []) rfl rfl ?_ ?_)); first | refine RunU.guard_dec rfl rfl (fun _ => ?_) (fun _ => ?_) | refine RunU.guard_not rfl rfl (fun _ => ?_) (fun _ => ?_) | refine RunU.guard rfl rfl (fun _ => ?_) (fun _ => ?_))) | refine Then.next ?_ | refine InBlock.next ?_ | refine Done.ret (.one (by first | exact .c rfl | exact .own rfl | exact .als rfl rfl | exact .ptr rfl rfl | exact .part rfl rfl rfl) .nil) (.sh .nil) ?_ rfl)
   all_goals try (exfalso; omega)
   all_goals exact ⟨0 + 1, by omega, ⟨_, _, rfl, rfl, by exact own_LLapp hst.symm, int_eq (by omega), trivial⟩, by omega⟩
  ·have e2 : runK l j = l.getD ((j + 1) * 1) 0 - l.getD (((((j + 1 : Nat) : Int) - 1).toNat) * 1) 0 := by unfold runK; rw [if_neg hj0, ej, Nat.mul_one]
   rw [e2] at hk hst
   have hR := l01Steps_c (l.getD ((j + 1) * 1) 0 - l.getD (((((j + 1 : Nat) : Int) - 1).toNat) * 1) 0) (dv.getD (((((j + 1 : Nat) : Int) - 1).toNat) * 1) 0) (by omega) (by omega)
   have hRl := stp_len (dv.getD (((((j + 1 : Nat) : Int) - 1).toNat) * 1) 0).toNat (l.getD ((j + 1) * 1) 0 - l.getD (((((j + 1 : Nat) : Int) - 1).toNat) * 1) 0) (dv.getD (((((j + 1 : Nat) : Int) - 1).toNat) * 1) 0)
   clear hD hdb hsl hkb hstep
   generalize stp (dv.getD (((((j + 1 : Nat) : Int) - 1).toNat) * 1) 0).toNat (l.getD ((j + 1) * 1) 0 - l.getD (((((j + 1 : Nat) : Int) - 1).toNat) * 1) 0) (dv.getD (((((j + 1 : Nat) : Int) - 1).toNat) * 1) 0) = R at *
   repeat' (first | (guard_target =~ WpA _ _ _ _ _ _; first | refine WpA.seq ?_ | refine WpA.drawU ?_ | refine WpA.regionU ?_ | refine WpA.block ?_ | refine WpA.ret ?_ | refine WpA.skip ?_ | refine WpA.exit ?_ | refine WpA.cond_true rfl ?_ | refine WpA.cond_false rfl ?_ | refine WpA.cond_ntrue rfl ?_ | refine WpA.cond_dec rfl (fun _ => ?_) (fun _ => ?_) | refine WpA.cond_not rfl (fun _ => ?_) (fun _ => ?_) | refine WpA.cond rfl (fun _ => ?_) (fun _ => ?_)) | (guard_target =~ RunU _ _ _ _ [] _ _ _ _; first | refine RunU.nilL ?_ | refine RunU.nilD (by kernel_rfl) ?_) | (guard_target =~ RunU _ _ _ _ (Oper.mk _ (Op.call ⟨Callee.value _, _, _⟩) _ _ _ none :: _) _ _ _ _; first | refine RunU.cons (sC_ (hR) (.sh (.sh .nil)) (.sh wS_ (.sh wS_ .nil)) rfl) ?_) | (guard_target =~ RunU _ _ _ _ (Oper.mk _ _ _ _ _ none :: _) _ _ _ _; first | refine RunU.cons (step_append_give (.als rfl rfl) (.own rfl) (by simp; omega) rfl) ?_) | (guard_target =~ RunU _ _ _ _ (Oper.mk _ _ _ _ _ none :: _) _ _ _ _; refine RunU.cons step_any ?_) | (guard_target =~ RunU _ _ _ _ (Oper.mk _ _ _ _ _ (some _) :: _) _ _ _ _; first | refine RunU.pass rfl rfl rfl rfl ?_ | refine RunU.pass_undef rfl rfl rfl ?_ | (guard_target =~ RunU _ _ _ _ (Oper.mk _ (Op.call ⟨Callee.value _, _, _⟩) _ _ _ _ :: _) _ _ _ _; first | refine RunU.doit rfl rfl (sC_ (hR) (.sh (.sh .nil)) (.sh wS_ (.sh wS_ .nil)) rfl) ?_) | refine RunU.doit rfl rfl step_any ?_ | ((fail_if_success (refine RunU.doit (rd := []) (up := []) rfl rfl ?_ ?_)); first | refine RunU.guard_dec rfl rfl (fun _ => ?_) (fun _ => ?_) | refine RunU.guard_not rfl rfl (fun _ => ?_) (fun _ => ?_) | refine RunU.guard rfl rfl (fun _ => ?_) (fun _ => ?_))) | refine Then.next ?_ | refine InBlock.next ?_ | refine Done.ret (.one (by first | exact .c rfl | exact .own rfl | exact .als rfl rfl | exact .ptr rfl rfl | exact .part rfl rfl rfl) .nil) (.sh .nil) ?_ rfl)
   all_goals try (exfalso; omega)
   all_goals exact ⟨j + 1, by omega, ⟨_, _, rfl, rfl, by exact own_LLapp hst.symm, int_eq (by omega), trivial⟩, by omega⟩
 ·have ej : j = l.length - 1 := by omega
  subst ej
  clear hD hdb hsl hkb hstep
  repeat' (first | (guard_target =~ WpA _ _ _ _ _ _; first | refine WpA.seq ?_ | refine WpA.drawU ?_ | refine WpA.regionU ?_ | refine WpA.block ?_ | refine WpA.ret ?_ | refine WpA.skip ?_ | refine WpA.exit ?_ | refine WpA.cond_true rfl ?_ | refine WpA.cond_false rfl ?_ | refine WpA.cond_ntrue rfl ?_ | refine WpA.cond_dec rfl (fun _ => ?_) (fun _ => ?_) | refine WpA.cond_not rfl (fun _ => ?_) (fun _ => ?_) | refine WpA.cond rfl (fun _ => ?_) (fun _ => ?_)) | (guard_target =~ RunU _ _ _ _ [] _ _ _ _; first | refine RunU.nilL ?_ | refine RunU.nilD (by kernel_rfl) ?_) | (guard_target =~ RunU _ _ _ _ (Oper.mk _ _ _ _ _ none :: _) _ _ _ _; refine RunU.cons step_any ?_) | (guard_target =~ RunU _ _ _ _ (Oper.mk _ _ _ _ _ (some _) :: _) _ _ _ _; first | refine RunU.pass rfl rfl rfl rfl ?_ | refine RunU.pass_undef rfl rfl rfl ?_ | refine RunU.doit rfl rfl step_any ?_ | ((fail_if_success (refine RunU.doit (rd := []) (up := []) rfl rfl ?_ ?_)); first | refine RunU.guard_dec rfl rfl (fun _ => ?_) (fun _ => ?_) | refine RunU.guard_not rfl rfl (fun _ => ?_) (fun _ => ?_) | refine RunU.guard rfl rfl (fun _ => ?_) (fun _ => ?_))) | refine Then.next ?_ | refine InBlock.next ?_ | refine Done.ret (.one (by first | exact .c rfl | exact .own rfl | exact .als rfl rfl | exact .ptr rfl rfl | exact .part rfl rfl rfl) .nil) (.sh .nil) ?_ rfl)
  all_goals first | rfl | (exfalso; omega)
theorem seqL_runs (l : List Int) : ∀ j, seqL l j = runL (runsL l j)
 | 0 => rfl
 | j + 1 => by
  rw [seqL, runsL, seqL_runs l j]
  simp [runL]
def sumI : List Int → Int
 | [] => 0
 | x :: l => x + sumI l
theorem sumI_app (a b : List Int) : sumI (a ++ b) = sumI a + sumI b := by
 induction a with
 | nil => simp [sumI]
 | cons x a ih => simp only [List.cons_append, sumI, ih]; omega
theorem sumI_pos {l : List Int} (h : ∀ x ∈ l, 0 < x) : 0 ≤ sumI l := by
 induction l with
 | nil => simp [sumI]
 | cons x l ih =>
  have h1 := h x (by simp)
  have h2 := ih fun y hy => h y (by simp [hy])
  simp only [sumI]; omega
theorem sumI_take {l : List Int} (h : ∀ x ∈ l, 0 < x) {a b : Nat} (hab : a ≤ b) : sumI (l.take a) ≤ sumI (l.take b) := by
 have e : l.take b = l.take a ++ (l.take b).drop a := by
  have := (List.take_append_drop a (l.take b)).symm
  rwa [List.take_take, Nat.min_eq_left hab] at this
 rw [e, sumI_app]
 have := sumI_pos (l := (l.take b).drop a) fun x hx => h x (List.mem_of_mem_take (List.mem_of_mem_drop hx))
 omega
def Dn (p : Int) (rest : List Int) : Prop := ∀ X p' c d Y, rest = X ++ p' :: c :: d :: Y → c < p' → p < sumI X + p' + c + d
def UN : List Int → Prop
 | [] => True
 | p :: rest => (Dn p rest ∧ (∀ x, rest.head? = some x → x ≤ p)) ∧ UN rest
theorem dn_of {p : Int} {rest : List Int} (hp : ∀ x ∈ rest, 0 < x) (q : Nat) (hc : ∀ x y, x < q → y < q → x < rest.length → y < rest.length → rest.getD x 0 = rest.getD y 0) (hs : p ≤ sumI (rest.take (q + 1))) : Dn p rest := by
 intro X p' c d Y e hlt
 have hq : q ≤ X.length + 1 := by
  refine Nat.le_of_not_lt fun h => ?_
  have := hc X.length (X.length + 1) (by omega) h (by rw [e]; simp) (by rw [e]; simp)
  rw [e] at this
  have e1 : (X ++ p' :: c :: d :: Y).getD X.length 0 = p' := by simp
  have e2 : (X ++ p' :: c :: d :: Y).getD (X.length + 1) 0 = c := by simp [List.getD_eq_getElem?_getD, List.getElem?_append_right]
  omega
 have h1 := sumI_take hp (a := q + 1) (b := X.length + 2) (by omega)
 have e3 : rest.take (X.length + 2) = X ++ [p', c] := by
  rw [e, List.take_append, List.take_of_length_le (by omega), show X.length + 2 - X.length = 2 by omega]
  rfl
 rw [e3, sumI_app] at h1
 have hd := hp d (by rw [e]; simp)
 simp only [sumI] at h1
 omega
theorem dn_ones (p : Int) (n : Nat) : Dn p (List.replicate n 1) := by
 intro X p' c d Y e hlt
 have h1 : p' ∈ List.replicate n (1 : Int) := by rw [e]; simp
 have h2 : c ∈ List.replicate n (1 : Int) := by rw [e]; simp
 have := List.eq_of_mem_replicate h1
 have := List.eq_of_mem_replicate h2
 omega
theorem un_ones : ∀ n : Nat, UN (List.replicate n 1)
 | 0 => trivial
 | n + 1 => by
  rw [List.replicate_succ]
  refine ⟨⟨dn_ones 1 n, fun x hx => ?_⟩, un_ones n⟩
  have := List.eq_of_mem_replicate (List.mem_of_mem_head? hx)
  omega
theorem dn_same {p : Int} {rest : List Int} (hp : ∀ x ∈ rest, 0 < x) {q : Int} (hq : p ≤ q) : Dn p (q :: rest) := by
 intro X p' c d Y e hlt
 have hc : 0 < c ∧ 0 < d ∨ X = [] ∧ rest = c :: d :: Y := by
  cases X with
  | nil => exact .inr ⟨rfl, by simpa using (List.cons.inj e).2⟩
  | cons y X =>
   have e2 := (List.cons.inj e).2
   exact .inl ⟨hp c (by rw [e2]; simp), hp d (by rw [e2]; simp)⟩
 cases X with
 | nil =>
  obtain ⟨e1, e2⟩ := List.cons.inj e
  have h1 := hp c (by rw [e2]; simp)
  have h2 := hp d (by rw [e2]; simp)
  simp only [sumI]
  omega
 | cons y X =>
  obtain ⟨e1, e2⟩ := List.cons.inj e
  have h1 := hp c (by rw [e2]; simp)
  have h2 := hp d (by rw [e2]; simp)
  have h3 := hp p' (by rw [e2]; simp)
  have h4 := sumI_pos (l := X) fun z hz => hp z (by rw [e2]; simp [hz])
  simp only [sumI]
  omega
theorem un_run {b : Int} {T : List Int} (hb : 0 < b) (hp : ∀ x ∈ T, 0 < x) (hT : UN T) (h1 : Dn b T ∧ (∀ x, T.head? = some x → x ≤ b)) : ∀ n : Nat, UN (List.replicate n b ++ T)
 | 0 => by simpa using hT
 | n + 1 => by
  rw [List.replicate_succ, List.cons_append]
  refine ⟨?_, un_run hb hp hT h1 n⟩
  cases n with
  | zero => simpa using h1
  | succ n =>
   rw [List.replicate_succ, List.cons_append]
   refine ⟨dn_same (fun x hx => ?_) (Int.le_refl _), fun x hx => ?_⟩
   ·rcases List.mem_append.1 hx with h | h
    ·have := List.eq_of_mem_replicate h
     omega
    ·exact hp x h
   ·have : b = x := by simpa using hx
    omega
theorem runL_cons (q b : Int) (R : List (List Int)) : runL ([q, b] :: R) = List.replicate q.toNat b ++ runL R := by simp [runL]
theorem rep_sum (n : Nat) (b : Int) : sumI (List.replicate n b) = n * b := by
 induction n with
 | zero => simp [sumI]
 | succ n ih =>
  rw [List.replicate_succ, sumI, ih]
  have : ((n + 1 : Nat) : Int) * b = n * b + b := by rw [Int.natCast_add, Int.add_mul]; simp
  omega
theorem un_steps {T : List Int} (hp : ∀ x ∈ T, 0 < x) (hT : UN T) : ∀ (f : Nat) (a b : Int), 0 < b → b ≤ a → b ≤ f →
  (Dn (Int.gcd a b) T ∧ (∀ x, T.head? = some x → x ≤ (Int.gcd a b : Int))) →
  UN (runL (stp f a b) ++ T) ∧ Dn a (runL (stp f a b) ++ T) ∧ (runL (stp f a b) ++ T).head? = some b ∧ ∀ x ∈ runL (stp f a b) ++ T, 0 < x
 | 0, a, b, h0, _, h2, _ => by simp at h2; omega
 | f + 1, a, b, h0, h1, h2, hg => by
  have hm := Int.emod_nonneg a (show b ≠ 0 by omega)
  have hl := Int.emod_lt_of_pos a h0
  have hd := Int.mul_ediv_add_emod a b
  have hq : 1 ≤ a / b := (Int.le_ediv_iff_mul_le h0).2 (by omega)
  rw [stp, if_pos h0, runL_cons, List.append_assoc]
  obtain ⟨n, hn⟩ : ∃ n : Nat, (a / b).toNat = n + 1 := ⟨(a / b).toNat - 1, by omega⟩
  have hnq : ((n + 1 : Nat) : Int) = a / b := by omega
  -- what stands behind the run
  have tail : ∃ U, U = runL (stp f b (a % b)) ++ T ∧ UN U ∧ (Dn b U ∧ (∀ x, U.head? = some x → x ≤ b)) ∧ (∀ x ∈ U, 0 < x) ∧ (a % b = 0 ∨ U.head? = some (a % b)) := by
   by_cases hr : a % b = 0
   ·refine ⟨T, ?_, hT, ?_, hp, .inl hr⟩
    ·rw [hr, stp_zero]; simp [runL]
    ·have e : (Int.gcd a b : Int) = b := by
      have := Int.gcd_eq_natAbs_right (Int.dvd_of_emod_eq_zero hr)
      omega
     rwa [e] at hg
   ·have e : (Int.gcd b (a % b) : Int) = (Int.gcd a b : Int) := by
     have : a % b = a - b * (a / b) := by omega
     rw [Int.gcd_comm b, this, Int.gcd_sub_right_left_of_dvd a ⟨a / b, rfl⟩]
    obtain ⟨k1, k2, k3, k4⟩ := un_steps hp hT f b (a % b) (by omega) (by omega) (by omega) (by rw [e]; exact hg)
    exact ⟨_, rfl, k1, ⟨k2, fun x hx => by rw [k3] at hx; injection hx; omega⟩, k4, .inr k3⟩
  obtain ⟨U, eU, hU, hbU, hpU, hh⟩ := tail
  rw [← eU]
  have hpos : ∀ x ∈ List.replicate (a / b).toNat b ++ U, 0 < x := fun x hx => by
   rcases List.mem_append.1 hx with h | h
   ·have := List.eq_of_mem_replicate h
    omega
   ·exact hpU x h
  refine ⟨un_run h0 hpU hU hbU _, ?_, by rw [hn, List.replicate_succ]; rfl, hpos⟩
  refine dn_of hpos (a / b).toNat (fun x y hx hy _ _ => ?_) ?_
  ·have key : ∀ z, z < (a / b).toNat → (List.replicate (a / b).toNat b ++ U).getD z 0 = b := fun z hz => by
    rw [List.getD_eq_getElem?_getD, List.getElem?_append_left (by simpa using hz)]
    simp [hz]
   rw [key x hx, key y hy]
  ·have e4 : sumI ((List.replicate (a / b).toNat b ++ U).take ((a / b).toNat + 1)) = b * (a / b) + sumI (U.take 1) := by
    rw [List.take_append, List.length_replicate, List.take_of_length_le (by simp), show (a / b).toNat + 1 - (a / b).toNat = 1 by omega, sumI_app, rep_sum, Int.mul_comm b]
    congr 2
    omega
   rw [e4]
   rcases hh with h | h
   ·have := sumI_pos (l := U.take 1) fun x hx => hpU x (List.mem_of_mem_take hx)
    omega
   ·cases U with
    | nil => simp at h
    | cons u U =>
     have : u = a % b := by simpa using h
     simp only [List.take_succ_cons, List.take_zero, sumI]
     omega
theorem divTo_nn (l : List Int) : ∀ j, 0 ≤ divTo l j
 | 0 => Int.le_refl _
 | j + 1 => by rw [divTo]; omega
theorem run_nn {l : List Int} (h : IsBr l) {j : Nat} (hj : j + 1 < l.length) : 1 ≤ runK l j := by
 have h1 := h.2.2.1 (j + 1) hj (by omega)
 have h2 := h.2.2.2.1 (j + 1) hj
 rw [Nat.add_sub_cancel] at h1
 unfold runK
 split <;> omega
theorem falls_two {l : List Int} (h : IsBr l) {j : Nat} (hj : j + 1 < l.length) : 2 ≤ divTo l (j + 1) := by
 have h1 : divTo l (j + 2) < divTo l (j + 1) := h.2.2.2.2.1 (j + 1) hj (by omega)
 have h2 : 1 ≤ divTo l (j + 2) := by
  have h3 := divTo_nn l (j + 2)
  rcases Int.lt_or_le 0 (divTo l (j + 2)) with h4 | h4
  ·omega
  ·exfalso
   have h5 : divTo l (j + 2) = 0 := by omega
   have h6 : l.getD (j + 1) 0 = 0 := by
    have : (Int.gcd (divTo l (j + 1)) (l.getD (j + 1) 0) : Int) = 0 := h5
    have := Int.gcd_eq_zero_iff.1 (by omega : Int.gcd (divTo l (j + 1)) (l.getD (j + 1) 0) = 0)
    exact this.2
   have := h.2.2.2.1 (j + 1) hj
   omega
 omega
theorem un_tail {l : List Int} (h : IsBr l) (n : Nat) : ∀ m j, m + j + 1 = l.length → ∃ T, seqL l (l.length - 1) = seqL l j ++ T ∧ UN (T ++ List.replicate n 1) ∧ (∀ x ∈ T ++ List.replicate n (1 : Int), 0 < x) ∧ Dn (divTo l (j + 1)) (T ++ List.replicate n 1) ∧ (∀ x, (T ++ List.replicate n (1 : Int)).head? = some x → x ≤ divTo l (j + 1))
 | 0, j, hm => by
  have hj : j = l.length - 1 := by omega
  refine ⟨[], by rw [hj]; simp, by simpa using un_ones n, fun x hx => ?_, by simpa using dn_ones _ n, fun x hx => ?_⟩
  ·have := List.eq_of_mem_replicate (by simpa using hx : x ∈ List.replicate n (1 : Int))
   omega
  ·have h1 := List.eq_of_mem_replicate (List.mem_of_mem_head? (by simpa using hx : (List.replicate n (1 : Int)).head? = some x))
   have h2 := h.2.2.2.2.2
   rw [show j + 1 = l.length by omega, h2]
   omega
 | m + 1, j, hm => by
  obtain ⟨T, e1, k1, k2, k3, k4⟩ := un_tail h n m (j + 1) (by omega)
  have hj : j + 1 < l.length := by omega
  have hr := run_nn h hj
  have hd := falls_two h hj
  have e0 : (divs l l.length).getD j 0 = divTo l (j + 1) := divs_at l l.length j (by omega)
  have hg : (Int.gcd (runK l j) (divTo l (j + 1)) : Int) = divTo l (j + 1 + 1) := by
   show _ = (Int.gcd (divTo l (j + 1)) (l.getD (j + 1) 0) : Int)
   rw [Int.gcd_comm (divTo l (j + 1))]
   unfold runK
   by_cases h0 : j = 0
   ·rw [if_pos h0, Int.sub_zero]
   ·rw [if_neg h0, Int.gcd_sub_right_left_of_dvd]
    rw [divTo]
    exact Int.gcd_dvd_right ..
  have es : seqL l (j + 1) = seqL l j ++ runL (stp (divTo l (j + 1)).toNat (runK l j) (divTo l (j + 1))) := by rw [seqL, e0]
  rw [es, List.append_assoc] at e1
  refine ⟨_, e1, ?_⟩
  rw [← hg] at k3 k4
  rw [List.append_assoc]
  generalize divTo l (j + 1) = e at *
  generalize runK l j = k at *
  by_cases hk : e ≤ k
  ·obtain ⟨q1, q2, q3, q4⟩ := un_steps k2 k1 e.toNat k e (by omega) hk (by omega) ⟨k3, k4⟩
   refine ⟨q1, q4, ?_, fun x hx => by rw [q3] at hx; injection hx; omega⟩
   generalize runL (stp e.toNat k e) ++ (T ++ List.replicate n 1) = L at *
   cases L with
   | nil => simp at q3
   | cons y L =>
    have : y = e := by simpa using q3
    exact dn_same (fun x hx => q4 x (by simp [hx])) (by omega)
  ·have e2 : runL (stp e.toNat k e) = runL (stp (e.toNat - 1) e k) := by
    obtain ⟨f, hf⟩ : ∃ f, e.toNat = f + 1 := ⟨e.toNat - 1, by omega⟩
    rw [hf, stp, if_pos (by omega), runL_cons, Int.ediv_eq_zero_of_lt (by omega) (by omega), Int.emod_eq_of_lt (by omega) (by omega)]
    rfl
   rw [Int.gcd_comm] at k3 k4
   obtain ⟨q1, q2, q3, q4⟩ := un_steps k2 k1 (e.toNat - 1) e k (by omega) (by omega) (by omega) ⟨k3, k4⟩
   rw [e2]
   exact ⟨q1, q4, q2, fun x hx => by rw [q3] at hx; injection hx; omega⟩
theorem un_seq {l : List Int} (h : IsBr l) (n : Nat) : UN (seqI l ++ List.replicate n 1) ∧ ∀ x ∈ seqI l ++ List.replicate n (1 : Int), 0 < x := by
 unfold seqI
 split
 ·refine ⟨un_ones (n + 1), fun x hx => ?_⟩
  have := List.eq_of_mem_replicate (show x ∈ List.replicate (n + 1) (1 : Int) from hx)
  omega
 ·obtain ⟨T, e1, k1, k2, _⟩ := un_tail h n (l.length - 1) 0 (by have := h.1; omega)
  rw [show seqL l 0 = [] from rfl, List.nil_append] at e1
  rw [e1]
  exact ⟨k1, k2⟩
theorem UN.pre : ∀ {A B : List Int}, UN (A ++ B) → UN A
 | [], _, _ => trivial
 | p :: A, B, h => by
  obtain ⟨⟨h1, h2⟩, h3⟩ := h
  refine ⟨⟨fun X p' c d Y e hlt => h1 X p' c d (Y ++ B) (by rw [e]; simp) hlt, fun x hx => h2 x ?_⟩, UN.pre h3⟩
  cases A with
  | nil => simp at hx
  | cons y A => simpa using hx
theorem UN.at : ∀ {A : List Int} {p : Int} {R : List Int}, UN (A ++ p :: R) → Dn p R ∧ ∀ x, R.head? = some x → x ≤ p
 | [], _, _, h => h.1
 | _ :: A, _, _, h => UN.at (A := A) h.2
def mulK (l : List Int) (k : Nat) : List Int := (seqI l ++ List.replicate k 1).take k
theorem mulK_len (l : List Int) (k : Nat) : (mulK l k).length = k := by unfold mulK; simp
theorem mulK_un {l : List Int} (h : IsBr l) (k : Nat) : UN (mulK l k) ∧ ∀ x ∈ mulK l k, 0 < x := by
 obtain ⟨h1, h2⟩ := un_seq h k
 unfold mulK
 exact ⟨UN.pre (by rw [List.take_append_drop]; exact h1), fun x hx => h2 x (List.mem_of_mem_take hx)⟩
def sumB (m : List Int) (i j : Nat) : Int := sumI ((m.drop (i + 1)).take (j - i))
theorem sumB_step (m : List Int) {i j : Nat} (h : i ≤ j) (hj : j + 1 < m.length) : sumB m i (j + 1) = sumB m i j + m.getD (j + 1) 0 := by
 unfold sumB
 rw [show j + 1 - i = (j - i) + 1 by omega, List.take_add_one, sumI_app]
 have : (m.drop (i + 1))[j - i]? = some (m.getD (j + 1) 0) := by
  rw [List.getElem?_drop, show i + 1 + (j - i) = j + 1 by omega, List.getElem?_eq_getElem hj]
  simp [List.getD, hj]
 rw [this]
 simp [sumI]
theorem sumB_self (m : List Int) (i : Nat) : sumB m i i = 0 := by unfold sumB; simp [sumI]
theorem sumB_mono {m : List Int} (hp : ∀ x ∈ m, 0 < x) {i j k : Nat} (h : j ≤ k) : sumB m i j ≤ sumB m i k := sumI_take (fun x hx => hp x (List.mem_of_mem_drop hx)) (by omega)
def prxB (m : List Int) (i j : Nat) : Bool := decide (i < j ∧ sumB m i j ≤ m.getD i 0)
theorem split_at {m : List Int} {i : Nat} (h : i < m.length) : m = m.take i ++ m.getD i 0 :: m.drop (i + 1) := by
 have e : m.getD i 0 = m[i] := by simp [List.getD, h]
 rw [e]
 simp
theorem getD_pos {m : List Int} (hp : ∀ x ∈ m, 0 < x) {i : Nat} (h : i < m.length) : 0 < m.getD i 0 := by
 have e : m.getD i 0 = m[i] := by simp [List.getD, h]
 rw [e]
 exact hp _ (List.getElem_mem h)
theorem prx_near {m : List Int} (hu : UN m) {j : Nat} (hj : j + 1 < m.length) : prxB m j (j + 1) = true := by
 refine decide_eq_true ⟨by omega, ?_⟩
 rw [sumB_step m (Nat.le_refl _) hj, sumB_self, Int.zero_add]
 rw [split_at (show j < m.length by omega)] at hu
 refine (UN.at hu).2 _ ?_
 rw [List.head?_drop, List.getElem?_eq_getElem hj]
 simp [List.getD, hj]
theorem prx_one {m : List Int} (hu : UN m) (hp : ∀ x ∈ m, 0 < x) {i k j : Nat} (hik : i < k) (hkj : k + 1 < j) (hj : j < m.length) (h1 : prxB m i j = true) : prxB m k j = false := by
 refine Classical.byContradiction fun hne => ?_
 have h2 : prxB m k j = true := by
  cases h : prxB m k j
  ·exact absurd h hne
  ·rfl
 have h1 := (of_decide_eq_true h1).2
 have h2 := (of_decide_eq_true h2).2
 have s1 := sumB_step m (i := k) (j := k) (Nat.le_refl _) (by omega)
 have s2 := sumB_step m (i := k) (j := k + 1) (by omega) (by omega)
 rw [sumB_self] at s1
 have m2 := sumB_mono hp (i := k) (show k + 1 + 1 ≤ j by omega)
 have g2 := getD_pos hp (show k + 1 + 1 < m.length by omega)
 have hlt : m.getD (k + 1) 0 < m.getD k 0 := by omega
 rw [split_at (show i < m.length by omega)] at hu
 have hD := (UN.at hu).1
 have e : m.drop (i + 1) = (m.drop (i + 1)).take (k - i - 1) ++ m.getD k 0 :: m.getD (k + 1) 0 :: m.getD (k + 1 + 1) 0 :: m.drop (k + 1 + 1 + 1) := by
  have e1 : m.drop k = m.getD k 0 :: m.getD (k + 1) 0 :: m.getD (k + 1 + 1) 0 :: m.drop (k + 1 + 1 + 1) := by
   rw [List.drop_eq_getElem_cons (show k < m.length by omega), List.drop_eq_getElem_cons (show k + 1 < m.length by omega), List.drop_eq_getElem_cons (show k + 1 + 1 < m.length by omega)]
   simp [List.getD, show k < m.length by omega, show k + 1 < m.length by omega, show k + 1 + 1 < m.length by omega]
  rw [← e1]
  have e2 : m.drop k = (m.drop (i + 1)).drop (k - i - 1) := by rw [List.drop_drop, show i + 1 + (k - i - 1) = k by omega]
  rw [e2, List.take_append_drop]
 have h3 := hD _ _ _ _ _ e hlt
 have e3 : sumB m i (k + 1 + 1) = sumI ((m.drop (i + 1)).take (k - i - 1)) + m.getD k 0 + m.getD (k + 1) 0 + m.getD (k + 1 + 1) 0 := by
  have t1 := sumB_step m (i := i) (j := k - 1) (by omega) (by omega)
  have t2 := sumB_step m (i := i) (j := k) (by omega) (by omega)
  have t3 := sumB_step m (i := i) (j := k + 1) (by omega) (by omega)
  rw [show k - 1 + 1 = k by omega] at t1
  have t0 : sumB m i (k - 1) = sumI ((m.drop (i + 1)).take (k - i - 1)) := by unfold sumB; rw [show k - 1 - i = k - i - 1 by omega]
  omega
 have m3 := sumB_mono hp (i := i) (show k + 1 + 1 ≤ j by omega)
 omega
def codT (m : List Int) (j : Nat) : Nat → Int
 | 0 => 0
 | n + 1 => if n + 1 < j ∧ prxB m n j = true then (j : Int) - n else codT m j n
def prxT (m : List Int) (j n : Nat) : List Int := ((List.range n).filter fun i => prxB m i j).map fun i : Nat => (i : Int)
theorem prxT_succ (m : List Int) (j n : Nat) : prxT m j (n + 1) = if prxB m n j then prxT m j n ++ [(n : Int)] else prxT m j n := by
 unfold prxT
 rw [List.range_succ, List.filter_append, List.map_append]
 by_cases h : prxB m n j
 ·rw [if_pos h]; simp [h]
 ·rw [if_neg h]; simp [h]
theorem prxT_late {m : List Int} {j : Nat} : ∀ {n : Nat}, j ≤ n → prxT m j n = prxT m j j
 | 0, h => by
  have : j = 0 := by omega
  subst this; rfl
 | n + 1, h => by
  by_cases e : j = n + 1
  ·subst e; rfl
  ·rw [prxT_succ, if_neg (by unfold prxB; simp; omega)]
   exact prxT_late (by omega)
theorem codT_late {m : List Int} {j : Nat} : ∀ {n : Nat}, j ≤ n + 1 → codT m j n = codT m j (j - 1)
 | 0, h => by
  have : j - 1 = 0 := by omega
  rw [this]
 | n + 1, h => by
  by_cases e : j = n + 2
  ·subst e; rfl
  ·rw [codT, if_neg (by omega)]
   exact codT_late (by omega)
theorem cod_cases {m : List Int} (hu : UN m) (hp : ∀ x ∈ m, 0 < x) {j : Nat} (hj : j < m.length) : ∀ n, n + 1 ≤ j → (codT m j n = 0 ∧ prxT m j n = []) ∨ (∃ i : Nat, i < n ∧ prxB m i j = true ∧ codT m j n = (j : Int) - i ∧ prxT m j n = [(i : Int)])
 | 0, _ => .inl ⟨rfl, rfl⟩
 | n + 1, hn => by
  rw [codT, prxT_succ]
  rcases cod_cases hu hp hj n (by omega) with ⟨h1, h2⟩ | ⟨i, h1, h2, h3, h4⟩
  ·by_cases hx : prxB m n j = true
   ·refine .inr ⟨n, by omega, hx, ?_, ?_⟩
    ·rw [if_pos ⟨by omega, hx⟩]
    ·rw [if_pos hx, h2]; rfl
   ·refine .inl ⟨?_, ?_⟩
    ·rw [if_neg (fun h => hx h.2), h1]
    ·rw [if_neg hx, h2]
  ·have hx := prx_one hu hp h1 (show n + 1 < j by omega) hj h2
   refine .inr ⟨i, by omega, h2, ?_, ?_⟩
   ·rw [if_neg (by rw [hx]; simp), h3]
   ·rw [hx]; simpa using h4
theorem cod_eq {m : List Int} (hu : UN m) (hp : ∀ x ∈ m, 0 < x) {j : Nat} (h1 : 1 ≤ j) (hj : j < m.length) : codT m j j = if 1 < (prxT m j j).length then (j : Int) - (prxT m j j).getD 0 0 else 0 := by
 obtain ⟨n, rfl⟩ : ∃ n, j = n + 1 := ⟨j - 1, by omega⟩
 rw [codT, if_neg (by omega), prxT_succ, if_pos (prx_near hu hj)]
 rcases cod_cases hu hp hj n (Nat.le_refl _) with ⟨k1, k2⟩ | ⟨i, k1, k2, k3, k4⟩
 ·rw [k1, k2]; simp
 ·rw [k3, k4]; simp
def prxM (m : List Int) (i : Nat) : List (List Int) := (List.range m.length).map fun x => prxT m x i
def prxN (m : List Int) (i j : Nat) : List (List Int) := (List.range m.length).map fun x => if x < j then prxT m x (i + 1) else prxT m x i
theorem prxM_len (m : List Int) (i : Nat) : (prxM m i).length = m.length := by simp [prxM]
theorem prxN_len (m : List Int) (i j : Nat) : (prxN m i j).length = m.length := by simp [prxN]
theorem prxM_at (m : List Int) (i : Nat) {x : Nat} (h : x < m.length) : (prxM m i).getD x [] = prxT m x i := by simp [prxM, List.getD_eq_getElem?_getD, h]
theorem prxN_at (m : List Int) (i j : Nat) {x : Nat} (h : x < m.length) : (prxN m i j).getD x [] = if x < j then prxT m x (i + 1) else prxT m x i := by simp [prxN, List.getD_eq_getElem?_getD, h]
theorem prxT_low {m : List Int} {x i : Nat} (h : x ≤ i) : prxT m x (i + 1) = prxT m x i := by
 rw [prxT_late (show x ≤ i + 1 by omega), prxT_late h]
theorem prxN_start (m : List Int) (i : Nat) : prxN m i (i + 1) = prxM m i := by
 refine List.map_congr_left fun x _ => ?_
 by_cases h : x < i + 1
 ·rw [if_pos h, prxT_low (by omega)]
 ·rw [if_neg h]
theorem prxN_end (m : List Int) (i : Nat) {j : Nat} (h : ∀ x, j ≤ x → x < m.length → prxB m i x = false) : prxN m i j = prxM m (i + 1) := by
 refine List.map_congr_left fun x hx => ?_
 by_cases hj : x < j
 ·rw [if_pos hj]
 ·rw [if_neg hj, prxT_succ, h x (by omega) (by simpa using hx)]
  rfl
theorem prxN_step {m : List Int} {i j : Nat} (hj : j < m.length) (h : prxB m i j = true) : (prxN m i j).set j ((prxN m i j).getD j [] ++ [(i : Int)]) = prxN m i (j + 1) := by
 refine List.ext_getElem (by simp [prxN_len]) fun k h1 h2 => ?_
 have hk : k < m.length := by rw [List.length_set, prxN_len] at h1; exact h1
 have a1 : (prxN m i j)[k]'(by rw [prxN_len]; exact hk) = (prxN m i j).getD k [] := by simp [List.getD, prxN_len, hk]
 have a2 : (prxN m i (j + 1))[k]'h2 = (prxN m i (j + 1)).getD k [] := by simp [List.getD, prxN_len, hk]
 rw [List.getElem_set, a2, a1, prxN_at _ _ _ hk, prxN_at _ _ _ hk, prxN_at _ _ _ hj, if_neg (Nat.lt_irrefl j)]
 by_cases e : j = k
 ·subst e
  rw [if_pos rfl, if_pos (by omega), prxT_succ, h]
  rfl
 ·rw [if_neg e]
  by_cases h3 : k < j
  ·rw [if_pos h3, if_pos (by omega)]
  ·rw [if_neg h3, if_neg (by omega)]
theorem prxM_zero (m : List Int) : prxM m 0 = List.replicate m.length [] := by
 unfold prxM
 rw [show List.replicate m.length ([] : List Int) = (List.range m.length).map fun _ => [] by simp [List.map_const']]
 exact List.map_congr_left fun _ _ => rfl
theorem prxM_last (m : List Int) {x : Nat} (h : x < m.length) : (prxM m m.length).getD x [] = prxT m x x := by
 rw [prxM_at _ _ h, prxT_late (by omega)]
theorem prxT_len (m : List Int) (x n : Nat) : (prxT m x n).length ≤ n := by
 unfold prxT
 rw [List.length_map]
 have := List.length_filter_le (fun i => prxB m i x) (List.range n)
 simpa using this
theorem prx_over {m : List Int} (hp : ∀ x ∈ m, 0 < x) {i j : Nat} (h : m.getD i 0 < sumB m i j) : ∀ x, j ≤ x → x < m.length → prxB m i x = false := fun x hx _ => by
 have := sumB_mono hp (i := i) hx
 exact decide_eq_false fun q => by omega
def cdR (R : List (List Int)) : List Int := (List.range (R.length - 1)).map fun t : Nat => if 1 < (R.getD (t + 1) []).length then ((t + 1 : Nat) : Int) - (R.getD (t + 1) []).getD 0 0 else 0
def cdL (m : List Int) : List Int := (List.range (m.length - 1)).map fun t : Nat => codT m (t + 1) (t + 1)
theorem cdL_len (m : List Int) : (cdL m).length = m.length - 1 := by simp [cdL]
theorem cd_eq {m : List Int} (hu : UN m) (hp : ∀ x ∈ m, 0 < x) : cdR (prxM m m.length) = cdL m := by
 unfold cdR cdL
 rw [prxM_len]
 refine List.map_congr_left fun t ht => ?_
 have ht : t < m.length - 1 := by simpa using ht
 rw [prxM_last m (by omega), cod_eq hu hp (by omega) (by omega)]
def cdN (m : List Int) (i j : Nat) : List Int := (List.range (m.length - 1)).map fun t : Nat => if t + 1 < j then codT m (t + 1) (i + 1) else codT m (t + 1) i
def cdM (m : List Int) (i : Nat) : List Int := (List.range (m.length - 1)).map fun t : Nat => codT m (t + 1) i
theorem cdN_len (m : List Int) (i j : Nat) : (cdN m i j).length = m.length - 1 := by simp [cdN]
theorem cdM_len (m : List Int) (i : Nat) : (cdM m i).length = m.length - 1 := by simp [cdM]
theorem cdM_zero (m : List Int) : cdM m 0 = List.replicate (m.length - 1) 0 := by
 unfold cdM
 rw [show List.replicate (m.length - 1) (0 : Int) = (List.range (m.length - 1)).map fun _ => 0 by simp [List.map_const']]
 exact List.map_congr_left fun _ _ => rfl
theorem cdM_last (m : List Int) : cdM m m.length = cdL m := by
 refine List.map_congr_left fun t ht => ?_
 have ht : t < m.length - 1 := by simpa using ht
 rw [codT_late (n := m.length) (by omega), codT_late (n := t + 1) (by omega)]
theorem cdN_start (m : List Int) (i : Nat) : cdN m i (i + 2) = cdM m i := by
 refine List.map_congr_left fun t _ => ?_
 by_cases h : t + 1 < i + 2
 ·rw [if_pos h, codT, if_neg (by omega)]
 ·rw [if_neg h]
theorem cdN_start1 (m : List Int) (i : Nat) : cdN m i (i + 1) = cdM m i := by
 refine List.map_congr_left fun t _ => ?_
 by_cases h : t + 1 < i + 1
 ·rw [if_pos h, codT, if_neg (by omega)]
 ·rw [if_neg h]
theorem cdN_end (m : List Int) (i : Nat) {j : Nat} (h : ∀ x, j ≤ x → x < m.length → prxB m i x = false) : cdN m i j = cdM m (i + 1) := by
 refine List.map_congr_left fun t ht => ?_
 have ht : t < m.length - 1 := by simpa using ht
 by_cases hj : t + 1 < j
 ·rw [if_pos hj]
 ·rw [if_neg hj, codT, if_neg (by rw [h (t + 1) (by omega) (by omega)]; simp)]
theorem cdN_step {m : List Int} {i j : Nat} (hi : i + 1 < j) (hj : j < m.length) (h : prxB m i j = true) : (cdN m i j).set (j - 1) ((j : Int) - i) = cdN m i (j + 1) := by
 refine List.ext_getElem (by simp [cdN_len]) fun k h1 h2 => ?_
 have hk : k < m.length - 1 := by rw [List.length_set, cdN_len] at h1; exact h1
 rw [List.getElem_set]
 simp only [cdN, List.getElem_map, List.getElem_range]
 by_cases e : j - 1 = k
 ·subst e
  rw [if_pos rfl, if_pos (by omega), codT, show j - 1 + 1 = j by omega, if_pos ⟨hi, h⟩]
 ·rw [if_neg e]
  by_cases h3 : k + 1 < j
  ·rw [if_pos h3, if_pos (by omega)]
  ·rw [if_neg h3, if_neg (by omega)]
theorem cdN_near (m : List Int) (i : Nat) : cdN m i (i + 1 + 1) = cdN m i (i + 1) := by rw [cdN_start, cdN_start1]
def codB (l : List Int) : List Int := cdL (mulK l 201)
theorem codB_len (l : List Int) : (codB l).length = 200 := by unfold codB; rw [cdL_len, mulK_len]
def Shr (a b : List Int) (c : Int) : Prop := a.take (c.toNat - 1) = b.take (c.toNat - 1) ∧ (a.getD (c.toNat - 1) 0 ≠ b.getD (c.toNat - 1) 0 ∨ a.getD (c.toNat - 1) 0 = 0)
instance decShr (a b : List Int) (c : Int) : Decidable (Shr a b c) := by unfold Shr; infer_instance
def OffT (C : List (List Int)) (n : Nat) : Prop := ∀ i, i < n → ∀ k, k < n → i ≠ k → 1 ≤ (C.getD i []).getD k 0 ∧ (C.getD i []).getD k 0 ≤ 200
instance decOffT (C : List (List Int)) (n : Nat) : Decidable (OffT C n) := by unfold OffT; infer_instance
def SymT (C : List (List Int)) (n : Nat) : Prop := ∀ i, i < n → ∀ k, k < n → (C.getD i []).getD k 0 = (C.getD k []).getD i 0
instance decSymT (C : List (List Int)) (n : Nat) : Decidable (SymT C n) := by unfold SymT; infer_instance
def DiaT (C : List (List Int)) (n : Nat) : Prop := ∀ i, i < n → (C.getD i []).getD i 0 = 0
instance decDiaT (C : List (List Int)) (n : Nat) : Decidable (DiaT C n) := by unfold DiaT; infer_instance
def RowT (C : List (List Int)) (n : Nat) : Prop := ∀ i, i < n → (C.getD i []).length = n
instance decRowT (C : List (List Int)) (n : Nat) : Decidable (RowT C n) := by unfold RowT; infer_instance
def IsTab (C : List (List Int)) (n : Nat) : Prop := C.length = n ∧ RowT C n ∧ DiaT C n ∧ OffT C n ∧ SymT C n
instance decIsTab (C : List (List Int)) (n : Nat) : Decidable (IsTab C n) := by unfold IsTab; infer_instance
def BrsT (B : List (List Int)) : Prop := ∀ i, i < B.length → IsBr (B.getD i [])
instance decBrsT (B : List (List Int)) : Decidable (BrsT B) := by unfold BrsT; infer_instance
def ShrT (B C : List (List Int)) : Prop := ∀ i, i < B.length → ∀ k, k < B.length → i ≠ k → Shr (codB (B.getD i [])) (codB (B.getD k [])) ((C.getD i []).getD k 0)
instance decShrT (B C : List (List Int)) : Decidable (ShrT B C) := by unfold ShrT; infer_instance
def Ult (C : List (List Int)) (i k j : Nat) : Prop := i ≠ k → j ≠ i → j ≠ k → min ((C.getD i []).getD j 0) ((C.getD j []).getD k 0) ≤ (C.getD i []).getD k 0
instance decUlt (C : List (List Int)) (i k j : Nat) : Decidable (Ult C i k j) := by unfold Ult; infer_instance
def UltT (C : List (List Int)) (n : Nat) : Prop := ∀ i, i < n → ∀ k, k < n → ∀ j, j < n → Ult C i k j
instance decUltT (C : List (List Int)) (n : Nat) : Decidable (UltT C n) := by unfold UltT; infer_instance
def IsCu (B C : List (List Int)) : Prop := (1 ≤ B.length ∧ B.length ≤ 6) ∧ IsTab C B.length ∧ BrsT B ∧ ShrT B C ∧ UltT C B.length
instance decIsCu (B C : List (List Int)) : Decidable (IsCu B C) := by unfold IsCu; infer_instance
end Go.Proofs.YtpeioofkihpldaaDoor
namespace Go.Pv
open Go.RowKit
section
variable {P : Program} {n : NN} {nid nx : Nat} {st : Nat → AV} {f : Fr} {X : Nat → Prop} {a : Act} {w : World} {ρ : Nat → Rho} {L : Nat → List Nat}
theorem run_slice_head3 {T : TypeId} {sz : Nat} [hT : SliceTy P T sz] (w : World) (b : Option Addr) (len cap h : Nat) (k k' : IntKind)
  (h2 : h ≤ len) (h3 : len ≤ cap) : (Instr.sliceAt T (.slice b len cap) none (some (.int k (h : Int))) (some (.int k' (h : Int)))).run P w = .ok (.slice (if h = 0 then b else b.map (·.add 0)) h h) w := by
 obtain ⟨e, i, z, t1, t2, t3, _⟩ := hT.out
 have q1 : (0 : Int) ≤ (h : Int) := by omega
 have q2 : (h : Int) ≤ (cap : Int) := by omega
 have q3 : (len : Int) ≤ (cap : Int) := by omega
 simp [Instr.sliceAt, Instr.slice, run_underlying t1, Instr.sliceBounds, Instr.sliceBound, asIntOf, sizeOf, typeInfo, t2, t3, *]
 intro hh
 omega
theorem Row.head {v : Value} {us : List Value} {L0 : List Nat} (h : Row w v 1 us L0) {l : Nat} (hl : l ≤ us.length) :
  ∃ b cap, v = .slice b us.length cap ∧ us.length ≤ cap ∧ Row w (.slice (if l = 0 then b else b.map (·.add 0)) l l) 1 (us.take l) L0 := by
 rcases h with ⟨rfl, rfl, rfl⟩ | ⟨g, o, n0, cap, cur, e, rfl, k2, k3, k4, k5, k6, k7, rfl⟩
 ·have hl0 : l = 0 := by simpa using hl
  subst hl0
  exact ⟨none, 0, rfl, Nat.le_refl _, .inl ⟨by simp, by simp, rfl⟩⟩
 ·have hn : n0 = us.length := by omega
  subst hn
  refine ⟨_, cap, rfl, k4, ?_⟩
  have e0 : (if l = 0 then some (⟨g, o, none⟩ : Addr) else (some (⟨g, o, none⟩ : Addr)).map (·.add 0)) = some ⟨g, o, none⟩ := by
   simp only [Option.map_some, addr_off, Nat.add_zero, ite_self]
  rw [e0]
  refine .inr ⟨g, o, l, l, cur, e, rfl, k2, by simp; omega, Nat.le_refl _, by omega, by omega, ?_, rfl⟩
  rw [← k7, List.take_take, Nat.mul_one, Nat.mul_one, Nat.min_eq_left hl]
theorem step_head3 {d l : Nat} {j j' : Int} {k k' : IntKind} {s xhi xmx : Operand} {T : TypeId} {li : List Int} {rd : List Nat} {up : List (Nat × AV)} {ty pos aft g} [hT : SliceTy P T 1] (h : Give st s rd (.sl true 1 (ints li)) up) (hhi : Lit st xhi (.int k j)) (hmx : Lit st xmx (.int k' j')) (hj : j = (l : Int)) (hj' : j' = (l : Int)) (hl : l ≤ li.length) (hd : n d = true) :
  Step P n ⟨some d, .slice T s none (some xhi) (some xmx), ty, pos, aft, g⟩ nid st (rd ++ (rdOf xhi ++ rdOf xmx)) (up ++ [(d, .own nid (.sl true 1 (ints (li.take l))))]) := by
 intro X st' hs hX f a w hn hrep K Q hK
 obtain ⟨ρ, L, hr⟩ := hrep
 subst hn
 have ek := Lit.eval hr (hhi.agree fun s hs' => hs s (by simp [hs']))
 have ek' := Lit.eval hr (hmx.agree fun s hs' => hs s (by simp [hs']))
 obtain ⟨r, L', M1, hm, hv1⟩ := hr.toM.give (h.agree fun s hs' => hs s (by simp [hs']))
 rw [puts_append] at hK
 rw [List.nil_append] at hm
 simp only [RD] at hv1
 obtain ⟨e0, us, L0, L3, rfl, h1, h5⟩ := hv1
 obtain ⟨rfl, rfl⟩ := (rds_ints li _ _ _ _).1 h5
 have hlen : (iv li).length = li.length := by simp
 obtain ⟨b, cap, ev, hcap, hrow⟩ := h1.head (l := l) (by rw [hlen]; exact hl)
 rw [hlen] at ev hcap
 have hrun := run_slice_head3 (P := P) (T := T) w b li.length cap l k k' hl hcap
 refine wV_ (u := .slice (if l = 0 then b else b.map (·.add 0)) l l) (w' := w) ?_ (hm.put_root hK hd hX _ w [] (by simp) (Keep.refl w) (fun _ => .slice (if l = 0 then b else b.map (·.add 0)) l l) L0 ?_ ?_ (fun g hg => ⟨(hm.bound g (by simp [hg])).1, .inl (by simp [hg])⟩))
 ·simp only [execOp, ev, Option.map_some, Option.map_none, Sem.run_bind, ek, ek', hj, hj', hrun, Result.andThen_ok, Sem.run_pure]
 ·simp only [RD]
  exact ⟨trivial, _, L0, [], by simp, hrow, (rds_ints _ _ _ _ _).2 ⟨by simp [List.map_take], rfl⟩⟩
 ·have := hm.nd
  simpa using this
end
end Go.Pv
