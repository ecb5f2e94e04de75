/- The program's test of branches. No condition. -/
import Derived.Test.YtohhkbbjdjibgaaFPwN
import Derived.Test.YtohhkbbjdjibgaaFDrD
set_option linter.unusedVariables false
set_option linter.unusedSimpArgs false
namespace Go.Proofs.Ytohhkbbjdjibgaa
set_option maxHeartbeats 20000000
open Go.Pv
open Go.ChangeShapes Go.WideShapes Go.ChangeAt Go.RowKit
attribute [local irreducible] RunU WpA Step CallG CallNG Done DoneN
instance fnOk7 : FnOk Try.prog 7 := ⟨_, Try.func7, rfl, by decide⟩
instance fnOk6 : FnOk Try.prog 6 := ⟨_, Try.func6, rfl, by decide⟩
theorem multiple_c (a b : Int) (ha : 0 < a ∧ a ≤ 1000000) (hb : 0 < b ∧ b ≤ 1000000) : CallA Try.prog 24 [aI a, aI b] [rI (a / (Int.gcd a b : Int) * b)] [] := by
 refine cA_ _ Try.func24 rfl Try.ntmps24 (by first | exact ⟨rfl, rfl⟩ | (simp only [List.all_cons, List.all_nil, V.solid, D.solid, D.solids, solids_ints, solids_bools, solids_LL, Bool.and_self, Bool.and_true, and_self]; done) | simp [V.solid, D.solid, D.solids, solids_lits, solids_ints, solids_bools, solids_LL]) ?_
 have hg := Int.gcd_pos_of_ne_zero_left b (show a ≠ 0 by omega)
 have hq : 0 ≤ a / (Int.gcd a b : Int) ∧ a / (Int.gcd a b : Int) ≤ a := ⟨Int.ediv_nonneg (by omega) (by omega), Int.ediv_le_self _ (by omega)⟩
 have hm : 0 ≤ a / (Int.gcd a b : Int) * b ∧ a / (Int.gcd a b : Int) * b ≤ 1000000000000 := by
  refine ⟨Int.mul_nonneg hq.1 (by omega), ?_⟩
  have := Int.mul_le_mul (show a / (Int.gcd a b : Int) ≤ 1000000 by omega) hb.2 (by omega) (by omega)
  omega
 repeat' (first | (guard_target =~ WpA _ _ _ _ _ _; first | refine WpA.seq ?_ | refine WpA.drawU ?_ | refine WpA.regionU ?_ | refine WpA.block ?_ | refine WpA.ret ?_ | refine WpA.skip ?_ | refine WpA.exit ?_ | refine WpA.cond_true rfl ?_ | refine WpA.cond_false rfl ?_ | refine WpA.cond_ntrue rfl ?_ | refine WpA.cond_dec rfl (fun _ => ?_) (fun _ => ?_) | refine WpA.cond_not rfl (fun _ => ?_) (fun _ => ?_) | refine WpA.cond rfl (fun _ => ?_) (fun _ => ?_)) | (guard_target =~ RunU _ _ _ _ [] _ _ _ _; first | refine RunU.nilL ?_ | refine RunU.nilD (by kernel_rfl) ?_) | (guard_target =~ RunU _ _ _ _ (Oper.mk _ (Op.call ⟨Callee.value _, _, _⟩) _ _ _ none :: _) _ _ _ _; first | refine RunU.cons (sC_ (divisor_c a b (by omega) (by omega)) (.sh (.sh .nil)) (.sh wS_ (.sh wS_ .nil)) rfl) ?_) | (guard_target =~ RunU _ _ _ _ (Oper.mk _ _ _ _ _ none :: _) _ _ _ _; refine RunU.cons step_any ?_) | refine Then.next ?_ | refine InBlock.next ?_ | refine Done.ret (.one (by first | exact .c rfl | exact .own rfl | exact .als rfl rfl | exact .ptr rfl rfl | exact .part rfl rfl rfl) .nil) (.sh (.sh .nil)) ?_ rfl)
 rfl
def cmn (a b : Int) : Int := if a / (Int.gcd a b : Int) > 1000000 / b then 1000001 else a / (Int.gcd a b : Int) * b
theorem common_c (a b : Int) (ha : 0 < a ∧ a ≤ 1000000) (hb : 0 < b ∧ b ≤ 1000000) : CallA Try.prog 27 [aI a, aI b] [rI (cmn a b)] [] := by
 refine cA_ _ Try.func27 rfl Try.ntmps27 (by first | exact ⟨rfl, rfl⟩ | (simp only [List.all_cons, List.all_nil, V.solid, D.solid, D.solids, solids_ints, solids_bools, solids_LL, Bool.and_self, Bool.and_true, and_self]; done) | simp [V.solid, D.solid, D.solids, solids_lits, solids_ints, solids_bools, solids_LL]) ?_
 have hg := Int.gcd_pos_of_ne_zero_left b (show a ≠ 0 by omega)
 have hq : 0 ≤ a / (Int.gcd a b : Int) ∧ a / (Int.gcd a b : Int) ≤ a := ⟨Int.ediv_nonneg (by omega) (by omega), Int.ediv_le_self _ (by omega)⟩
 have hm : 0 ≤ a / (Int.gcd a b : Int) * b ∧ a / (Int.gcd a b : Int) * b ≤ 1000000000000 := by
  refine ⟨Int.mul_nonneg hq.1 (by omega), ?_⟩
  have := Int.mul_le_mul (show a / (Int.gcd a b : Int) ≤ 1000000 by omega) hb.2 (by omega) (by omega)
  omega
 repeat' (first | (guard_target =~ WpA _ _ _ _ _ _; first | refine WpA.seq ?_ | refine WpA.drawU ?_ | refine WpA.regionU ?_ | refine WpA.block ?_ | refine WpA.ret ?_ | refine WpA.skip ?_ | refine WpA.exit ?_ | refine WpA.cond_true rfl ?_ | refine WpA.cond_false rfl ?_ | refine WpA.cond_ntrue rfl ?_ | refine WpA.cond_dec rfl (fun _ => ?_) (fun _ => ?_) | refine WpA.cond_not rfl (fun _ => ?_) (fun _ => ?_) | refine WpA.cond rfl (fun _ => ?_) (fun _ => ?_)) | (guard_target =~ RunU _ _ _ _ [] _ _ _ _; first | refine RunU.nilL ?_ | refine RunU.nilD (by kernel_rfl) ?_) | (guard_target =~ RunU _ _ _ _ (Oper.mk _ (Op.call ⟨Callee.value _, _, _⟩) _ _ _ none :: _) _ _ _ _; first | refine RunU.cons (sC_ (gcd_c a b (by omega) (by omega)) (.sh (.sh .nil)) (.sh wS_ (.sh wS_ .nil)) rfl) ?_) | (guard_target =~ RunU _ _ _ _ (Oper.mk _ _ _ _ _ none :: _) _ _ _ _; refine RunU.cons step_any ?_) | refine Then.next ?_ | refine InBlock.next ?_ | refine Done.ret (.one (by first | exact .c rfl | exact .own rfl | exact .als rfl rfl | exact .ptr rfl rfl | exact .part rfl rfl rfl) .nil) (.sh (.sh .nil)) ?_ rfl)
 case refine_1 h => simp only [cmn, if_pos h]
 case refine_2 h => simp only [cmn, if_neg h]
theorem cmn_eq {a b : Int} (ha : 0 < a) (hb : 0 < b) : cmn a b = if a / (Int.gcd a b : Int) * b > 1000000 then 1000001 else a / (Int.gcd a b : Int) * b := by
 unfold cmn
 have : a / (Int.gcd a b : Int) > 1000000 / b ↔ a / (Int.gcd a b : Int) * b > 1000000 := by
  rw [gt_iff_lt, gt_iff_lt, Int.ediv_lt_iff_lt_mul hb]
 simp only [this]
theorem mul_bnd {x y : Int} (hx : 0 ≤ x) (hx' : x ≤ 2000000) (hy : 0 ≤ y) (hy' : y ≤ 1000000) : 0 ≤ x * y ∧ x * y ≤ 2000000000000 := by
 refine ⟨Int.mul_nonneg hx hy, ?_⟩
 have := Int.mul_le_mul hx' hy' hy (by omega)
 omega
theorem pos_of_mul {g p : Int} (hg : 0 < g) (h : 0 < g * p) : 0 < p := by
 rcases Int.lt_or_le 0 p with h1 | h1
 ·exact h1
 ·have := Int.mul_le_mul_of_nonneg_left h1 (Int.le_of_lt hg)
  omega
def pcell (u v : Int) (m j q : Nat) : List Int := ((List.range j).flatMap fun i : Nat => (List.range m).map fun k : Nat => ((i : Int) + 1) * u + ((k : Int) + 1) * v) ++ (List.range q).map fun k : Nat => ((j : Int) + 1) * u + ((k : Int) + 1) * v
theorem pcell_step (u v : Int) (m j q : Nat) : pcell u v m j (q + 1) = pcell u v m j q ++ [((j : Int) + 1) * u + ((q : Int) + 1) * v] := by
 simp [pcell, List.range_succ]
theorem pcell_row (u v : Int) (m j : Nat) : pcell u v m (j + 1) 0 = pcell u v m j m := by
 simp [pcell, List.range_succ]
theorem pcell_len (u v : Int) (m : Nat) : ∀ (j q : Nat), (pcell u v m j q).length = j * m + q
 | 0, 0 => by simp [pcell]
 | j + 1, 0 => by rw [pcell_row, pcell_len u v m j m, Nat.add_mul]; omega
 | j, q + 1 => by rw [pcell_step, List.length_append, pcell_len u v m j q]; simp; omega
theorem pcell_mem (u v : Int) (m j q : Nat) (hu : 0 ≤ u ∧ u ≤ 1000000) (hv : 0 ≤ v ∧ v ≤ 1000000) (hm : m ≤ 1000000) (hj : j ≤ 1000000) (hq : q ≤ 1000000) : ∀ x ∈ pcell u v m j q, 0 ≤ x ∧ x ≤ 4000000000000 := by
 intro x hx
 have h1 : ∀ i k : Nat, i ≤ 1000000 → k ≤ 1000000 → 0 ≤ ((i : Int) + 1) * u + ((k : Int) + 1) * v ∧ ((i : Int) + 1) * u + ((k : Int) + 1) * v ≤ 4000000000000 := fun i k hi hk => by
  have e1 := mul_bnd (x := (i : Int) + 1) (y := u) (by omega) (by omega) hu.1 hu.2
  have e2 := mul_bnd (x := (k : Int) + 1) (y := v) (by omega) (by omega) hv.1 hv.2
  omega
 simp only [pcell, List.mem_append, List.mem_flatMap, List.mem_map, List.mem_range] at hx
 rcases hx with ⟨i, hi, k, hk, rfl⟩ | ⟨k, hk, rfl⟩
 ·exact h1 i k (by omega) (by omega)
 ·exact h1 j k (by omega) (by omega)
theorem tops_of {l : List Int} (h : ∀ x ∈ l, 0 ≤ x ∧ x ≤ 4000000000000) : Tops l := by
 intro i
 by_cases hi : i < l.length
 ·have := h l[i] (List.getElem_mem hi)
  simpa [List.getD, hi] using this
 ·rw [List.getD_eq_getElem?_getD, List.getElem?_eq_none (by omega)]; simp
def cmu (a b : Int) : Int := a / (Int.gcd a b : Int) * b
theorem cmu_facts {a b : Int} (ha : 0 < a) (hb : 0 < b) : cmu a b = a * (b / (Int.gcd a b : Int)) ∧ cmu a b = b * (a / (Int.gcd a b : Int)) ∧ 0 < b / (Int.gcd a b : Int) ∧ b / (Int.gcd a b : Int) ≤ b ∧ 0 < a / (Int.gcd a b : Int) ∧ a / (Int.gcd a b : Int) ≤ a := by
 have hg := Int.gcd_pos_of_ne_zero_left b (show a ≠ 0 by omega)
 have h1 : (Int.gcd a b : Int) ∣ a := Int.gcd_dvd_left ..
 have h2 : (Int.gcd a b : Int) ∣ b := Int.gcd_dvd_right ..
 obtain ⟨p, hp⟩ := h1
 obtain ⟨q, hq⟩ := h2
 have hgp : (0 : Int) < (Int.gcd a b : Int) := by omega
 have e1 : a / (Int.gcd a b : Int) = p := Int.ediv_eq_of_eq_mul_right (by omega) hp
 have e2 : b / (Int.gcd a b : Int) = q := Int.ediv_eq_of_eq_mul_right (by omega) hq
 have hp0 : 0 < p := pos_of_mul hgp (by rw [← hp]; exact ha)
 have hq0 : 0 < q := pos_of_mul hgp (by rw [← hq]; exact hb)
 refine ⟨?_, ?_, by omega, Int.ediv_le_self _ (by omega), by omega, Int.ediv_le_self _ (by omega)⟩
 ·rw [cmu, e1, e2]
  conv => lhs; rw [hq]
  conv => rhs; rw [hp]
  rw [Int.mul_left_comm, ← Int.mul_assoc, Int.mul_assoc]
 ·rw [cmu, Int.mul_comm]
def pwIn (a b : Int) : Prop := (1 ≤ a ∧ a ≤ 100) ∧ (1 ≤ b ∧ b ≤ 100)
instance (a b : Int) : Decidable (pwIn a b) := by unfold pwIn; infer_instance
def pwL (a b : Int) : List Int := pcell (b / (Int.gcd a b : Int)) (a / (Int.gcd a b : Int)) (b - 1).toNat (a - 1).toNat 0
def pwB (a b : Int) : Int := if pwIn a b then mkB (cmu a b) (pwL a b) else 0
def pwS (a b : Int) : List Int := if pwIn a b then mkS (cmu a b) (pwL a b) else []
def pwC (a b : Int) : Int := if pwIn a b then mkC (cmu a b) (pwL a b) else 2
theorem pwL_len {a b : Int} (h : pwIn a b) : ((pwL a b).length : Int) = (a - 1) * (b - 1) := by
 unfold pwIn at h
 rw [pwL, pcell_len, Nat.add_zero, Int.natCast_mul, Int.toNat_of_nonneg (by omega), Int.toNat_of_nonneg (by omega)]
theorem pwL_tops {a b : Int} (h : pwIn a b) : Tops (pwL a b) := by
 unfold pwIn at h
 have hc := cmu_facts (a := a) (b := b) (by omega) (by omega)
 exact tops_of (pcell_mem _ _ _ _ _ (by omega) (by omega) (by omega) (by omega) (by omega))
theorem specPower_c (a b : Int) : CallA Try.prog 7 [aI a, aI b] [rSp (pwB a b) (pwS a b), rI (pwC a b)] [] := by
 refine cA_ _ Try.func7 rfl Try.ntmps7 (by first | exact ⟨rfl, rfl⟩ | (simp only [List.all_cons, List.all_nil, V.solid, D.solid, D.solids, solids_ints, solids_bools, solids_LL, Bool.and_self, Bool.and_true, and_self]; done) | simp [V.solid, D.solid, D.solids, solids_lits, solids_ints, solids_bools, solids_LL]) ?_
 by_cases hk : pwIn a b
 ·have hk' := hk
  unfold pwIn at hk'
  have hlen := pwL_len hk
  have htops := pwL_tops hk
  obtain ⟨f1, f2, f3, f4, f5, f6⟩ := cmu_facts (a := a) (b := b) (by omega) (by omega)
  have hcb := mul_bnd (x := a) (y := b / (Int.gcd a b : Int)) (by omega) (by omega) (by omega) (by omega)
  have hc100 : cmu a b ≤ 10000 := by
   have := Int.mul_le_mul (show a ≤ 100 by omega) (show b / (Int.gcd a b : Int) ≤ 100 by omega) (by omega) (by omega)
   omega
  have hcp : 0 < cmu a b := by
   rw [f1]; exact Int.mul_pos (by omega) f3
  have hcmd : cmu a b = a / (Int.gcd a b : Int) * b := rfl
  have hcmn : cmn a b = cmu a b := by
   rw [cmn_eq (by omega) (by omega), ← hcmd, if_neg (by omega)]
  have hab : 0 ≤ (a - 1) * (b - 1) ∧ (a - 1) * (b - 1) ≤ 9801 := by
   refine ⟨Int.mul_nonneg (by omega) (by omega), ?_⟩
   have := Int.mul_le_mul (show a - 1 ≤ 99 by omega) (show b - 1 ≤ 99 by omega) (by omega) (by omega)
   omega
  have d1 : cmu a b / a = b / (Int.gcd a b : Int) := Int.ediv_eq_of_eq_mul_right (by omega) f1
  have d2 : cmu a b / b = a / (Int.gcd a b : Int) := Int.ediv_eq_of_eq_mul_right (by omega) f2
  have hmake := l18Make_c (cmu a b) (pwL a b) hcp (by omega) (by omega) htops
  have hcom := common_c a b (by omega) (by omega)
  rw [hcmn] at hcom
  clear hcmd hcmn
  generalize hu : b / (Int.gcd a b : Int) = u at *
  generalize hv : a / (Int.gcd a b : Int) = v at *
  have hL : pwL a b = pcell u v (b - 1).toNat (a - 1).toNat 0 := by rw [pwL, hu, hv]
  generalize hc : cmu a b = c at *
  repeat' (first | (guard_target =~ WpA _ _ _ _ _ _; first | refine WpA.seq ?_ | refine WpA.drawU ?_ | refine WpA.regionU ?_ | refine WpA.block ?_ | refine WpA.ret ?_ | refine WpA.skip ?_ | refine WpA.exit ?_ | refine WpA.cond_true rfl ?_ | refine WpA.cond_false rfl ?_ | refine WpA.cond_ntrue rfl ?_ | refine WpA.cond_dec rfl (fun _ => ?_) (fun _ => ?_) | refine WpA.cond_not rfl (fun _ => ?_) (fun _ => ?_) | refine WpA.cond rfl (fun _ => ?_) (fun _ => ?_)) | (guard_target =~ RunU _ _ _ _ [] _ _ _ _; first | refine RunU.nilL ?_ | refine RunU.nilD (by kernel_rfl) ?_) | (guard_target =~ RunU _ _ _ _ (Oper.mk _ (Op.call ⟨Callee.value _, _, _⟩) _ _ _ none :: _) _ _ _ _; first | refine RunU.cons (sC_ (l01In_c _ _ _) (.sh (.sh (.sh .nil))) (.sh wS_ (.sh wS_ (.sh wS_ .nil))) rfl) ?_ | refine RunU.cons (sC_ (hcom) (.sh (.sh .nil)) (.sh wS_ (.sh wS_ .nil)) rfl) ?_) | (guard_target =~ RunU _ _ _ _ (Oper.mk _ _ _ _ _ none :: _) _ _ _ _; refine RunU.cons step_any ?_) | (guard_target =~ RunU _ _ _ _ (Oper.mk _ _ _ _ _ (some _) :: _) _ _ _ _; first | refine RunU.pass rfl rfl rfl rfl ?_ | refine RunU.pass_undef rfl rfl rfl ?_ | (guard_target =~ RunU _ _ _ _ (Oper.mk _ (Op.call ⟨Callee.value _, _, _⟩) _ _ _ _ :: _) _ _ _ _; first | refine RunU.doit rfl rfl (sC_ (l01In_c _ _ _) (.sh (.sh (.sh .nil))) (.sh wS_ (.sh wS_ (.sh wS_ .nil))) rfl) ?_ | refine RunU.doit rfl rfl (sC_ (hcom) (.sh (.sh .nil)) (.sh wS_ (.sh wS_ .nil)) rfl) ?_) | refine RunU.doit rfl rfl step_any ?_ | ((fail_if_success (refine RunU.doit (rd := []) (up := []) rfl rfl ?_ ?_)); first | refine RunU.guard_dec rfl rfl (fun _ => ?_) (fun _ => ?_) | refine RunU.guard_not rfl rfl (fun _ => ?_) (fun _ => ?_) | refine RunU.guard rfl rfl (fun _ => ?_) (fun _ => ?_))) | refine Then.next ?_ | refine InBlock.next ?_ | refine Done.ret (.cell inferInstance rfl rfl (.one (by first | exact .c rfl | exact .own rfl | exact .als rfl rfl | exact .ptr rfl rfl | exact .part rfl rfl rfl) .nil)) (.sh (.sh .nil)) ?_ rfl)
  all_goals try (exfalso; omega)
  case refine_2.refine_2.refine_1 h1 h2 h3 =>
   simp only [pwB, pwS, pwC, if_pos hk, mkB, mkS, mkC, hc, if_pos (show c > 1000000 ∨ (pwL a b).length > 400 by omega)]
   rfl
  case refine_2.refine_2.refine_2 h1 h2 h3 =>
   refine WpA.loop_slots2 (fun j id => [(0, vI a), (1, vI b), (4, .own 2 (.pt true [dI 0, dL []])), (5, vI 0), (6, vI c), (7, .own id (.sl true 1 (ints (pcell u v (b - 1).toNat j 0)))), (8, vI ((j : Int) + 1))]) (fun j => j ≤ (a - 1).toNat) (fun j => (a - 1).toNat - j) 0 _ (by omega) ⟨rfl, rfl, rfl, rfl, rfl, by exact own_ints (l := []) rfl, rfl, trivial⟩ ?_
   intro j id s nx hj
   by_cases hlt : j < (a - 1).toNat
   ·repeat' (first | (guard_target =~ WpA _ _ _ _ _ _; first | refine WpA.seq ?_ | refine WpA.drawU ?_ | refine WpA.regionU ?_ | refine WpA.block ?_ | refine WpA.ret ?_ | refine WpA.skip ?_ | refine WpA.exit ?_ | refine WpA.cond_true rfl ?_ | refine WpA.cond_false rfl ?_ | refine WpA.cond_ntrue rfl ?_ | refine WpA.cond_dec rfl (fun _ => ?_) (fun _ => ?_) | refine WpA.cond_not rfl (fun _ => ?_) (fun _ => ?_) | refine WpA.cond rfl (fun _ => ?_) (fun _ => ?_)) | (guard_target =~ RunU _ _ _ _ [] _ _ _ _; first | refine RunU.nilL ?_ | refine RunU.nilD (by kernel_rfl) ?_) | (guard_target =~ RunU _ _ _ _ (Oper.mk _ _ _ _ _ none :: _) _ _ _ _; refine RunU.cons step_any ?_) | (guard_target =~ RunU _ _ _ _ (Oper.mk _ _ _ _ _ (some _) :: _) _ _ _ _; first | refine RunU.pass rfl rfl rfl rfl ?_ | refine RunU.pass_undef rfl rfl rfl ?_ | refine RunU.doit rfl rfl step_any ?_ | ((fail_if_success (refine RunU.doit (rd := []) (up := []) rfl rfl ?_ ?_)); first | refine RunU.guard_dec rfl rfl (fun _ => ?_) (fun _ => ?_) | refine RunU.guard_not rfl rfl (fun _ => ?_) (fun _ => ?_) | refine RunU.guard rfl rfl (fun _ => ?_) (fun _ => ?_))) | refine Then.next ?_ | refine InBlock.next ?_ | refine Done.ret (.cell inferInstance rfl rfl (.one (by first | exact .c rfl | exact .own rfl | exact .als rfl rfl | exact .ptr rfl rfl | exact .part rfl rfl rfl) .nil)) (.sh (.sh .nil)) ?_ rfl)
    all_goals try (exfalso; omega)
    refine WpA.loop_slots2 (fun q id => [(0, vI a), (1, vI b), (4, .own 2 (.pt true [dI 0, dL []])), (5, vI 0), (6, vI c), (7, .own id (.sl true 1 (ints (pcell u v (b - 1).toNat j q)))), (8, vI ((j : Int) + 1)), (9, vI ((q : Int) + 1))]) (fun q => q ≤ (b - 1).toNat) (fun q => (b - 1).toNat - q) 0 _ (by omega) ⟨rfl, rfl, rfl, rfl, rfl, xR_, rfl, rfl, trivial⟩ ?_
    intro q id s nx hq
    have hpl := pcell_len u v (b - 1).toNat j q
    have e1 := mul_bnd (x := (j : Int) + 1) (y := u) (by omega) (by omega) (by omega) (by omega)
    have e2 := mul_bnd (x := (q : Int) + 1) (y := v) (by omega) (by omega) (by omega) (by omega)
    have hps : pcell u v (b - 1).toNat j q ++ [((j : Int) + 1) * (c / a) + ((q : Int) + 1) * (c / b)] = pcell u v (b - 1).toNat j (q + 1) := by rw [pcell_step, d1, d2]
    have hjm : j * (b - 1).toNat ≤ 99 * 99 := Nat.mul_le_mul (by omega) (by omega)
    rw [← d1] at e1
    rw [← d2] at e2
    repeat' (first | (guard_target =~ WpA _ _ _ _ _ _; first | refine WpA.seq ?_ | refine WpA.drawU ?_ | refine WpA.regionU ?_ | refine WpA.block ?_ | refine WpA.ret ?_ | refine WpA.skip ?_ | refine WpA.exit ?_ | refine WpA.cond_true rfl ?_ | refine WpA.cond_false rfl ?_ | refine WpA.cond_ntrue rfl ?_ | refine WpA.cond_dec rfl (fun _ => ?_) (fun _ => ?_) | refine WpA.cond_not rfl (fun _ => ?_) (fun _ => ?_) | refine WpA.cond rfl (fun _ => ?_) (fun _ => ?_)) | (guard_target =~ RunU _ _ _ _ [] _ _ _ _; first | refine RunU.nilL ?_ | refine RunU.nilD (by kernel_rfl) ?_) | (guard_target =~ RunU _ _ _ _ (Oper.mk _ _ _ _ _ none :: _) _ _ _ _; refine RunU.cons step_any ?_) | (guard_target =~ RunU _ _ _ _ (Oper.mk _ _ _ _ _ (some _) :: _) _ _ _ _; first | refine RunU.pass rfl rfl rfl rfl ?_ | refine RunU.pass_undef rfl rfl rfl ?_ | refine RunU.doit rfl rfl step_any ?_ | ((fail_if_success (refine RunU.doit (rd := []) (up := []) rfl rfl ?_ ?_)); first | refine RunU.guard_dec rfl rfl (fun _ => ?_) (fun _ => ?_) | refine RunU.guard_not rfl rfl (fun _ => ?_) (fun _ => ?_) | refine RunU.guard rfl rfl (fun _ => ?_) (fun _ => ?_))) | refine Then.next ?_ | refine InBlock.next ?_ | refine Done.ret (.cell inferInstance rfl rfl (.one (by first | exact .c rfl | exact .own rfl | exact .als rfl rfl | exact .ptr rfl rfl | exact .part rfl rfl rfl) .nil)) (.sh (.sh .nil)) ?_ rfl)
    case refine_1.refine_1 h6 h7 => exact ⟨q + 1, by omega, ⟨_, rfl, rfl, rfl, rfl, rfl, by exact own_ints hps, rfl, int_eq (by omega), trivial⟩, by omega⟩
    case refine_1.refine_2 h6 h7 =>
     have e : q = (b - 1).toNat := by omega
     subst e
     exact ⟨j + 1, by omega, ⟨_, rfl, rfl, rfl, rfl, rfl, by exact own_ints (pcell_row u v _ j).symm, int_eq (by omega), trivial⟩, by omega⟩
   ·have e : j = (a - 1).toNat := by omega
    subst e
    rw [hL] at hmake
    repeat' (first | (guard_target =~ WpA _ _ _ _ _ _; first | refine WpA.seq ?_ | refine WpA.drawU ?_ | refine WpA.regionU ?_ | refine WpA.block ?_ | refine WpA.ret ?_ | refine WpA.skip ?_ | refine WpA.exit ?_ | refine WpA.cond_true rfl ?_ | refine WpA.cond_false rfl ?_ | refine WpA.cond_ntrue rfl ?_ | refine WpA.cond_dec rfl (fun _ => ?_) (fun _ => ?_) | refine WpA.cond_not rfl (fun _ => ?_) (fun _ => ?_) | refine WpA.cond rfl (fun _ => ?_) (fun _ => ?_)) | (guard_target =~ RunU _ _ _ _ [] _ _ _ _; first | refine RunU.nilL ?_ | refine RunU.nilD (by kernel_rfl) ?_) | (guard_target =~ RunU _ _ _ _ (Oper.mk _ (Op.call ⟨Callee.value _, _, _⟩) _ _ _ none :: _) _ _ _ _; first | refine RunU.cons (sC_ (hmake) (.sh (.sh .nil)) (.sh wS_ (.sh wS_ .nil)) rfl) ?_) | (guard_target =~ RunU _ _ _ _ (Oper.mk _ _ _ _ _ none :: _) _ _ _ _; refine RunU.cons step_any ?_) | (guard_target =~ RunU _ _ _ _ (Oper.mk _ _ _ _ _ (some _) :: _) _ _ _ _; first | refine RunU.pass rfl rfl rfl rfl ?_ | refine RunU.pass_undef rfl rfl rfl ?_ | (guard_target =~ RunU _ _ _ _ (Oper.mk _ (Op.call ⟨Callee.value _, _, _⟩) _ _ _ _ :: _) _ _ _ _; first | refine RunU.doit rfl rfl (sC_ (hmake) (.sh (.sh .nil)) (.sh wS_ (.sh wS_ .nil)) rfl) ?_) | refine RunU.doit rfl rfl step_any ?_ | ((fail_if_success (refine RunU.doit (rd := []) (up := []) rfl rfl ?_ ?_)); first | refine RunU.guard_dec rfl rfl (fun _ => ?_) (fun _ => ?_) | refine RunU.guard_not rfl rfl (fun _ => ?_) (fun _ => ?_) | refine RunU.guard rfl rfl (fun _ => ?_) (fun _ => ?_))) | refine Then.next ?_ | refine InBlock.next ?_ | refine Done.ret (.cell inferInstance rfl rfl (.one (by first | exact .c rfl | exact .own rfl | exact .als rfl rfl | exact .ptr rfl rfl | exact .part rfl rfl rfl) .nil)) (.sh (.sh .nil)) ?_ rfl)
    all_goals try (exfalso; omega)
    simp only [pwB, pwS, pwC, if_pos hk, hc, hL]
    rfl
 ·have hk' := hk
  unfold pwIn at hk'
  repeat' (first | (guard_target =~ WpA _ _ _ _ _ _; first | refine WpA.seq ?_ | refine WpA.drawU ?_ | refine WpA.regionU ?_ | refine WpA.block ?_ | refine WpA.ret ?_ | refine WpA.skip ?_ | refine WpA.exit ?_ | refine WpA.cond_true rfl ?_ | refine WpA.cond_false rfl ?_ | refine WpA.cond_ntrue rfl ?_ | refine WpA.cond_dec rfl (fun _ => ?_) (fun _ => ?_) | refine WpA.cond_not rfl (fun _ => ?_) (fun _ => ?_) | refine WpA.cond rfl (fun _ => ?_) (fun _ => ?_)) | (guard_target =~ RunU _ _ _ _ [] _ _ _ _; first | refine RunU.nilL ?_ | refine RunU.nilD (by kernel_rfl) ?_) | (guard_target =~ RunU _ _ _ _ (Oper.mk _ (Op.call ⟨Callee.value _, _, _⟩) _ _ _ none :: _) _ _ _ _; first | refine RunU.cons (sC_ (l01In_c _ _ _) (.sh (.sh (.sh .nil))) (.sh wS_ (.sh wS_ (.sh wS_ .nil))) rfl) ?_) | (guard_target =~ RunU _ _ _ _ (Oper.mk _ _ _ _ _ none :: _) _ _ _ _; refine RunU.cons step_any ?_) | (guard_target =~ RunU _ _ _ _ (Oper.mk _ _ _ _ _ (some _) :: _) _ _ _ _; first | refine RunU.pass rfl rfl rfl rfl ?_ | refine RunU.pass_undef rfl rfl rfl ?_ | (guard_target =~ RunU _ _ _ _ (Oper.mk _ (Op.call ⟨Callee.value _, _, _⟩) _ _ _ _ :: _) _ _ _ _; first | refine RunU.doit rfl rfl (sC_ (l01In_c _ _ _) (.sh (.sh (.sh .nil))) (.sh wS_ (.sh wS_ (.sh wS_ .nil))) rfl) ?_) | refine RunU.doit rfl rfl step_any ?_ | ((fail_if_success (refine RunU.doit (rd := []) (up := []) rfl rfl ?_ ?_)); first | refine RunU.guard_dec rfl rfl (fun _ => ?_) (fun _ => ?_) | refine RunU.guard_not rfl rfl (fun _ => ?_) (fun _ => ?_) | refine RunU.guard rfl rfl (fun _ => ?_) (fun _ => ?_))) | refine Then.next ?_ | refine InBlock.next ?_ | refine Done.ret (.cell inferInstance rfl rfl (.one (by first | exact .c rfl | exact .own rfl | exact .als rfl rfl | exact .ptr rfl rfl | exact .part rfl rfl rfl) .nil)) (.sh (.sh .nil)) ?_ rfl)
  all_goals try (exfalso; omega)
  all_goals simp only [pwB, pwS, pwC, if_neg hk]
  all_goals rfl
theorem IsBr.dvd {l : List Int} (h : IsBr l) (i : Nat) : nN l (i + 1) * eE l (i + 1) = eE l i := by
 have h2 := h.e (i + 1)
 have h3 : eE l (i + 1) ∣ eE l i := by
  unfold eE
  conv => lhs; rw [divTo]
  exact Int.gcd_dvd_left ..
 exact Int.ediv_mul_cancel h3
def bB (l : List Int) (i : Nat) : Int := wW l i * eE l i
theorem IsBr.cbound {l : List Int} (h : IsBr l) {i : Nat} (hi : i + 1 < l.length) : 0 ≤ cC l (i + 1) ∧ cC l (i + 1) ≤ 2000 := by
 have ht := h.term hi
 unfold cC
 split
 ·have := h.2.2.1 (i + 1) hi (by omega)
  have ht2 := h.term (i := i + 1 - 1) (by omega)
  omega
 ·omega
theorem IsBr.gen {l : List Int} (h : IsBr l) {i : Nat} (hi : i + 1 < l.length) : bB l (i + 1) ≤ nN l i * bB l i + 2000 ∧ 0 ≤ bB l (i + 1) := by
 have hc := h.cbound hi
 have he := h.e (i + 1)
 have hw := h.w (i + 1) hi
 have hd := h.dvd i
 refine ⟨?_, Int.mul_nonneg hw.1 (by omega)⟩
 have h1 : cC l (i + 1) / eE l (i + 1) * eE l (i + 1) ≤ cC l (i + 1) := Int.ediv_mul_le _ (by omega)
 have h2 : bB l (i + 1) = wW l i * nN l i * (nN l (i + 1) * eE l (i + 1)) + cC l (i + 1) / eE l (i + 1) * eE l (i + 1) := by
  rw [bB, wW, Int.add_mul, Int.mul_assoc (wW l i * nN l i)]
 have h3 : wW l i * nN l i * eE l i = nN l i * bB l i := by
  rw [bB, Int.mul_comm (wW l i), Int.mul_assoc]
 rw [h2, hd, h3]
 omega
theorem IsBr.le_e {l : List Int} (h : IsBr l) (i : Nat) : nN l (i + 1) ≤ eE l i := by
 have h1 := h.dvd i
 have h2 := h.e (i + 1)
 have h3 := h.n (i + 1)
 have := Int.mul_le_mul_of_nonneg_left (show 1 ≤ eE l (i + 1) by omega) h3.1
 omega
theorem IsBr.small {l : List Int} (h : IsBr l) : ∀ i, i + 1 < l.length → bB l (i + 1) * eE l i + 4000 * eE l (i + 1) ≤ 256000
 | 0, hi => by
  have h1 := h.gen hi
  have h2 := h.e 0
  have h3 := h.half hi
  have h4 : bB l 0 = 0 := by simp [bB, wW]
  rw [h4, Int.mul_zero] at h1
  have := Int.mul_le_mul_of_nonneg_right (show bB l (0 + 1) ≤ 2000 by omega) (show 0 ≤ eE l 0 by omega)
  omega
 | i + 1, hi => by
  have ih := h.small i (by omega)
  have h1 := h.gen hi
  have h2 := h.e (i + 1)
  have h3 := h.half hi
  have h4 := h.dvd i
  have h5 := Int.mul_le_mul_of_nonneg_right h1.1 (show 0 ≤ eE l (i + 1) by omega)
  have h6 : (nN l (i + 1) * bB l (i + 1) + 2000) * eE l (i + 1) = bB l (i + 1) * eE l i + 2000 * eE l (i + 1) := by
   rw [Int.add_mul, Int.mul_comm (nN l (i + 1)), Int.mul_assoc, h4]
  omega
theorem IsBr.npos {l : List Int} (h : IsBr l) (i : Nat) : 1 ≤ nN l (i + 1) := by
 have h1 := h.dvd i
 have h2 := h.e i
 have h3 := h.n (i + 1)
 rcases Int.lt_or_le 0 (nN l (i + 1)) with h4 | h4
 ·omega
 ·have : nN l (i + 1) = 0 := by omega
  rw [this, Int.zero_mul] at h1
  omega
theorem IsBr.wpos {l : List Int} (h : IsBr l) : ∀ i, i + 1 < l.length → 1 ≤ wW l (i + 1)
 | 0, hi => by
  have h1 := h.term hi
  have h2 : 0 < eE l (0 + 1) := (h.e (0 + 1)).1
  have h3 : eE l (0 + 1) ≤ l.getD (0 + 1) 0 := by
   unfold eE
   rw [divTo]
   have := Int.gcd_le_right (a := divTo l 1) (show 0 < l.getD (0 + 1) 0 by omega)
   exact this
  have h4 : 1 ≤ cC l (0 + 1) / eE l (0 + 1) := by
   rw [cC, if_neg (by omega)]
   exact (Int.le_ediv_iff_mul_le h2).2 (by omega)
  rw [wW, wW, Int.zero_mul, Int.zero_mul, Int.zero_add]
  exact h4
 | i + 1, hi => by
  have ih := h.wpos i (by omega)
  have h1 := h.npos i
  have h2 := h.npos (i + 1)
  have h3 := h.c hi
  have h4 := Int.mul_le_mul ih h1 (by omega) (by omega)
  have h5 := Int.mul_le_mul h4 h2 (by omega) (by omega)
  rw [wW]
  omega
theorem IsBr.nwr {l : List Int} (h : IsBr l) {i : Nat} (hi : i + 1 < l.length) : 1 ≤ nN l (i + 1) * wW l (i + 1) * eE l (i + 1) ∧ nN l (i + 1) * wW l (i + 1) * eE l (i + 1) ≤ 256000 ∧ 1 ≤ nN l (i + 1) * wW l (i + 1) ∧ nN l (i + 1) * wW l (i + 1) ≤ 256000 ∧ wW l (i + 1) ≤ 256000 := by
 have h1 := h.small i hi
 have h2 := h.le_e i
 have h3 := h.npos i
 have h4 := h.wpos i hi
 have h5 := h.e (i + 1)
 have h6 := h.gen hi
 have h7 := Int.mul_le_mul_of_nonneg_left h2 h6.2
 have e1 : nN l (i + 1) * wW l (i + 1) * eE l (i + 1) = bB l (i + 1) * nN l (i + 1) := by rw [bB, Int.mul_assoc, Int.mul_comm]
 have h8 := Int.mul_le_mul h3 h4 (by omega) (by omega)
 have h9 := Int.mul_le_mul h8 (show 1 ≤ eE l (i + 1) by omega) (by omega) (by omega)
 have h10 := Int.mul_le_mul_of_nonneg_left (show 1 ≤ eE l (i + 1) by omega) (show 0 ≤ nN l (i + 1) * wW l (i + 1) by omega)
 have h11 := Int.mul_le_mul_of_nonneg_right h3 (show 0 ≤ wW l (i + 1) by omega)
 omega
theorem IsBr.w2 {l : List Int} (h : IsBr l) {i : Nat} (hi : i < l.length) : 0 ≤ wW l i ∧ wW l i ≤ 256000 := by
 cases i with
 | zero => simp [wW]
 | succ i =>
  have := h.nwr hi
  have := h.wpos i hi
  omega
theorem IsBr.wn {l : List Int} (h : IsBr l) {i : Nat} (hi : i < l.length) : (0 ≤ wW l i * nN l i ∧ wW l i * nN l i ≤ 17000000) ∧ (0 ≤ wW l i * nN l i * nN l (i + 1) ∧ wW l i * nN l i * nN l (i + 1) ≤ 1100000000) := by
 have h1 := h.w2 hi
 have h2 := h.n i
 have h3 := h.n (i + 1)
 have a1 := Int.mul_le_mul h1.2 h2.2 h2.1 (by omega)
 have a2 := Int.mul_nonneg h1.1 h2.1
 have a3 := Int.mul_le_mul (show wW l i * nN l i ≤ 17000000 by omega) h3.2 h3.1 (by omega)
 have a4 := Int.mul_nonneg a2 h3.1
 omega
theorem uptoL_two (g : Nat → List Int) {j i : Nat} (h : i < j) (k : Nat) : ((uptoL g j).getD i []).getD k 0 = (g i).getD k 0 := by rw [uptoL_at g h]
theorem zetaNumbers_c (l : List Int) (h : IsBr l) : CallA Try.prog 36 [.sh (.agg [.sl false 1 (ints l)])] [rL (upto (wW l) l.length)] [] := by
 have h7 := h.short
 have h0 := h.1
 refine cA_ _ Try.func36 rfl Try.ntmps36 (by first | exact ⟨rfl, rfl⟩ | (simp only [List.all_cons, List.all_nil, V.solid, D.solid, D.solids, solids_ints, solids_bools, solids_LL, Bool.and_self, Bool.and_true, and_self]; done) | simp [V.solid, D.solid, D.solids, solids_lits, solids_ints, solids_bools, solids_LL]) ?_
 have hll := uptoL_len (nP l) (l.length - 1)
 repeat' (first | (guard_target =~ WpA _ _ _ _ _ _; first | refine WpA.seq ?_ | refine WpA.drawU ?_ | refine WpA.regionU ?_ | refine WpA.block ?_ | refine WpA.ret ?_ | refine WpA.skip ?_ | refine WpA.exit ?_ | refine WpA.cond_true rfl ?_ | refine WpA.cond_false rfl ?_ | refine WpA.cond_ntrue rfl ?_ | refine WpA.cond_dec rfl (fun _ => ?_) (fun _ => ?_) | refine WpA.cond_not rfl (fun _ => ?_) (fun _ => ?_) | refine WpA.cond rfl (fun _ => ?_) (fun _ => ?_)) | (guard_target =~ RunU _ _ _ _ [] _ _ _ _; first | refine RunU.nilL ?_ | refine RunU.nilD (by kernel_rfl) ?_) | (guard_target =~ RunU _ _ _ _ (Oper.mk _ (Op.call ⟨Callee.value _, _, _⟩) _ _ _ none :: _) _ _ _ _; first | refine RunU.cons (sC_ (newton_c l h) (.sh .nil) (.shAgg rfl gA_ .nil) rfl) ?_) | (guard_target =~ RunU _ _ _ _ (Oper.mk _ _ _ _ _ none :: _) _ _ _ _; refine RunU.cons step_any ?_) | refine Then.next ?_ | refine InBlock.next ?_ | refine Done.ret (.one (by first | exact .c rfl | exact .own rfl | exact .als rfl rfl | exact .ptr rfl rfl | exact .part rfl rfl rfl) .nil) (.sh .nil) ?_ rfl)
 refine WpA.loop_ids2 (fun j i3 i4 => [(3, .own i3 (.sl true 1 (ints (upto (wW l) (j + 1))))), (4, .own i4 (.sl true 1 (LL (uptoL (nP l) (l.length - 1))))), (11, .als 4 i4 []), (12, vI ((l.length : Int) - 1)), (13, vI j)]) (fun j => j + 1 ≤ l.length) (fun j => l.length - j) 0 _ _ (by omega) ⟨xR_, xR_, rfl, int_eq (by omega), rfl, trivial⟩ ?_
 intro j i3 i4 s nx hj
 have hul := upto_len (wW l) (j + 1)
 by_cases hlt : j + 1 < l.length
 ·have d1 : (upto (wW l) (j + 1)).getD (j * 1) 0 = wW l j := by rw [Nat.mul_one]; exact upto_at _ (by omega)
  have d2 : ((uptoL (nP l) (l.length - 1)).getD (j * 1) []).getD (1 * 1) 0 = nN l (j + 1) := by rw [Nat.mul_one, uptoL_two _ (by omega)]; rfl
  have d3 : ((uptoL (nP l) (l.length - 1)).getD (j * 1) []).getD (0 * 1) 0 = cC l (j + 1) / eE l (j + 1) := by rw [Nat.mul_one, uptoL_two _ (by omega)]; rfl
  have l1 : ((uptoL (nP l) (l.length - 1)).getD (j * 1) []).length = 2 := by rw [Nat.mul_one, uptoL_at _ (by omega)]; rfl
  have l2 : 0 < j → ((uptoL (nP l) (l.length - 1)).getD (((j : Int) - 1).toNat * 1) []).length = 2 := fun q => by rw [Nat.mul_one, uptoL_at _ (by omega)]; rfl
  have d4 : 0 < j → ((uptoL (nP l) (l.length - 1)).getD (((j : Int) - 1).toNat * 1) []).getD (1 * 1) 0 = nN l j := fun q => by
   obtain ⟨k, rfl⟩ : ∃ k, j = k + 1 := ⟨j - 1, by omega⟩
   rw [Nat.mul_one, uptoL_two _ (by omega), show ((((k + 1 : Nat) : Int) - 1).toNat) = k by omega]; rfl
  have m1 := h.wn (i := j) (by omega)
  have m2 := h.c hlt
  by_cases q : 0 < j
  ·have m3 : (0 ≤ (upto (wW l) (j + 1)).getD (j * 1) 0 * ((uptoL (nP l) (l.length - 1)).getD (((j : Int) - 1).toNat * 1) []).getD (1 * 1) 0 ∧ (upto (wW l) (j + 1)).getD (j * 1) 0 * ((uptoL (nP l) (l.length - 1)).getD (((j : Int) - 1).toNat * 1) []).getD (1 * 1) 0 ≤ 17000000) ∧ (0 ≤ (upto (wW l) (j + 1)).getD (j * 1) 0 * ((uptoL (nP l) (l.length - 1)).getD (((j : Int) - 1).toNat * 1) []).getD (1 * 1) 0 * ((uptoL (nP l) (l.length - 1)).getD (j * 1) []).getD (1 * 1) 0 ∧ (upto (wW l) (j + 1)).getD (j * 1) 0 * ((uptoL (nP l) (l.length - 1)).getD (((j : Int) - 1).toNat * 1) []).getD (1 * 1) 0 * ((uptoL (nP l) (l.length - 1)).getD (j * 1) []).getD (1 * 1) 0 ≤ 1100000000) := by
    rw [d1, d2, d4 q]; exact m1
   have l3 := l2 q
   repeat' (first | (guard_target =~ WpA _ _ _ _ _ _; first | refine WpA.seq ?_ | refine WpA.drawU ?_ | refine WpA.regionU ?_ | refine WpA.block ?_ | refine WpA.ret ?_ | refine WpA.skip ?_ | refine WpA.exit ?_ | refine WpA.cond_true rfl ?_ | refine WpA.cond_false rfl ?_ | refine WpA.cond_ntrue rfl ?_ | refine WpA.cond_dec rfl (fun _ => ?_) (fun _ => ?_) | refine WpA.cond_not rfl (fun _ => ?_) (fun _ => ?_) | refine WpA.cond rfl (fun _ => ?_) (fun _ => ?_)) | (guard_target =~ RunU _ _ _ _ [] _ _ _ _; first | refine RunU.nilL ?_ | refine RunU.nilD (by kernel_rfl) ?_) | (guard_target =~ RunU _ _ _ _ (Oper.mk _ _ _ _ _ none :: _) _ _ _ _; refine RunU.cons step_any ?_) | refine Then.next ?_ | refine InBlock.next ?_ | refine Done.ret (.one (by first | exact .c rfl | exact .own rfl | exact .als rfl rfl | exact .ptr rfl rfl | exact .part rfl rfl rfl) .nil) (.sh .nil) ?_ rfl)
   all_goals try (exfalso; omega)
   have e3 : upto (wW l) (j + 1) ++ [((uptoL (nP l) (l.length - 1)).getD (j * 1) []).getD (0 * 1) 0 + (upto (wW l) (j + 1)).getD (j * 1) 0 * ((uptoL (nP l) (l.length - 1)).getD (((j : Int) - 1).toNat * 1) []).getD (1 * 1) 0 * ((uptoL (nP l) (l.length - 1)).getD (j * 1) []).getD (1 * 1) 0] = upto (wW l) (j + 1 + 1) := by
    rw [upto_step _ (j + 1), d1, d2, d3, d4 q, Int.add_comm]; rfl
   exact ⟨j + 1, by omega, ⟨_, _, by exact own_ints e3, rfl, rfl, rfl, int_eq (by omega), trivial⟩, by omega⟩
  ·obtain rfl : j = 0 := by omega
   repeat' (first | (guard_target =~ WpA _ _ _ _ _ _; first | refine WpA.seq ?_ | refine WpA.drawU ?_ | refine WpA.regionU ?_ | refine WpA.block ?_ | refine WpA.ret ?_ | refine WpA.skip ?_ | refine WpA.exit ?_ | refine WpA.cond_true rfl ?_ | refine WpA.cond_false rfl ?_ | refine WpA.cond_ntrue rfl ?_ | refine WpA.cond_dec rfl (fun _ => ?_) (fun _ => ?_) | refine WpA.cond_not rfl (fun _ => ?_) (fun _ => ?_) | refine WpA.cond rfl (fun _ => ?_) (fun _ => ?_)) | (guard_target =~ RunU _ _ _ _ [] _ _ _ _; first | refine RunU.nilL ?_ | refine RunU.nilD (by kernel_rfl) ?_) | (guard_target =~ RunU _ _ _ _ (Oper.mk _ _ _ _ _ none :: _) _ _ _ _; refine RunU.cons step_any ?_) | refine Then.next ?_ | refine InBlock.next ?_ | refine Done.ret (.one (by first | exact .c rfl | exact .own rfl | exact .als rfl rfl | exact .ptr rfl rfl | exact .part rfl rfl rfl) .nil) (.sh .nil) ?_ rfl)
   all_goals try (exfalso; omega)
   have e3 : upto (wW l) (0 + 1) ++ [((uptoL (nP l) (l.length - 1)).getD (0 * 1) []).getD (0 * 1) 0] = upto (wW l) (0 + 1 + 1) := by
    rw [upto_step _ (0 + 1), d3, wW, wW, Int.zero_mul, Int.zero_mul, Int.zero_add]
   exact ⟨0 + 1, by omega, ⟨_, _, by exact own_ints e3, rfl, rfl, rfl, int_eq (by omega), trivial⟩, by omega⟩
 ·have e0 : j + 1 = l.length := by omega
  repeat' (first | (guard_target =~ WpA _ _ _ _ _ _; first | refine WpA.seq ?_ | refine WpA.drawU ?_ | refine WpA.regionU ?_ | refine WpA.block ?_ | refine WpA.ret ?_ | refine WpA.skip ?_ | refine WpA.exit ?_ | refine WpA.cond_true rfl ?_ | refine WpA.cond_false rfl ?_ | refine WpA.cond_ntrue rfl ?_ | refine WpA.cond_dec rfl (fun _ => ?_) (fun _ => ?_) | refine WpA.cond_not rfl (fun _ => ?_) (fun _ => ?_) | refine WpA.cond rfl (fun _ => ?_) (fun _ => ?_)) | (guard_target =~ RunU _ _ _ _ [] _ _ _ _; first | refine RunU.nilL ?_ | refine RunU.nilD (by kernel_rfl) ?_) | (guard_target =~ RunU _ _ _ _ (Oper.mk _ _ _ _ _ none :: _) _ _ _ _; refine RunU.cons step_any ?_) | refine Then.next ?_ | refine InBlock.next ?_ | refine Done.ret (.one (by first | exact .c rfl | exact .own rfl | exact .als rfl rfl | exact .ptr rfl rfl | exact .part rfl rfl rfl) .nil) (.sh .nil) ?_ rfl)
  all_goals try (exfalso; omega)
  rw [e0]
attribute [local irreducible] decStrict decFalls decIsBr decWithin Strict Falls IsBr Within divTo divs
instance fnOk33 : FnOk Try.prog 33 := ⟨_, Try.func33, rfl, by decide⟩
theorem implIsBr_c (l : List Int) (hl : l.length ≤ 1000000000) : CallA Try.prog 33 [.sh (.agg [.sl false 1 (ints l)])] [rB (decide (IsBr l))] [] := by
 refine cA_ _ Try.func33 rfl Try.ntmps33 (by first | exact ⟨rfl, rfl⟩ | (simp only [List.all_cons, List.all_nil, V.solid, D.solid, D.solids, solids_ints, solids_bools, solids_LL, Bool.and_self, Bool.and_true, and_self]; done) | simp [V.solid, D.solid, D.solids, solids_lits, solids_ints, solids_bools, solids_LL]) ?_
 by_cases h0 : 0 < l.length
 ·by_cases hw : Within l 1 2000
  ·have hf := falls_c l hl h0 (within_bound hw (by omega) (by omega))
   repeat' (first | (guard_target =~ WpA _ _ _ _ _ _; first | refine WpA.seq ?_ | refine WpA.drawU ?_ | refine WpA.regionU ?_ | refine WpA.block ?_ | refine WpA.ret ?_ | refine WpA.skip ?_ | refine WpA.exit ?_ | refine WpA.cond_true rfl ?_ | refine WpA.cond_false rfl ?_ | refine WpA.cond_ntrue rfl ?_ | refine WpA.cond_dec rfl (fun _ => ?_) (fun _ => ?_) | refine WpA.cond_not rfl (fun _ => ?_) (fun _ => ?_) | refine WpA.cond rfl (fun _ => ?_) (fun _ => ?_)) | (guard_target =~ RunU _ _ _ _ [] _ _ _ _; first | refine RunU.nilL ?_ | refine RunU.nilD (by kernel_rfl) ?_) | (guard_target =~ RunU _ _ _ _ (Oper.mk _ (Op.call ⟨Callee.value _, _, _⟩) _ _ _ none :: _) _ _ _ _; first | refine RunU.cons (sC_ (inRange_c _ _ _) (.sh (.sh (.sh .nil))) (.sh wS_ (.sh wS_ (.sh wS_ .nil))) rfl) ?_ | refine RunU.cons (sC_ (ascends_c l hl) (.sh .nil) (.sh wS_ .nil) rfl) ?_ | refine RunU.cons (sC_ (within_c l 1 2000 (by omega)) (.sh (.sh (.sh .nil))) (.sh wS_ (.sh wS_ (.sh wS_ .nil))) rfl) ?_ | refine RunU.cons (sC_ (hf) (.sh .nil) (.sh wS_ .nil) rfl) ?_) | (guard_target =~ RunU _ _ _ _ (Oper.mk _ _ _ _ _ none :: _) _ _ _ _; refine RunU.cons step_any ?_) | (guard_target =~ RunU _ _ _ _ (Oper.mk _ _ _ _ _ (some _) :: _) _ _ _ _; first | refine RunU.pass rfl rfl rfl rfl ?_ | refine RunU.pass_undef rfl rfl rfl ?_ | (guard_target =~ RunU _ _ _ _ (Oper.mk _ (Op.call ⟨Callee.value _, _, _⟩) _ _ _ _ :: _) _ _ _ _; first | refine RunU.doit rfl rfl (sC_ (inRange_c _ _ _) (.sh (.sh (.sh .nil))) (.sh wS_ (.sh wS_ (.sh wS_ .nil))) rfl) ?_ | refine RunU.doit rfl rfl (sC_ (ascends_c l hl) (.sh .nil) (.sh wS_ .nil) rfl) ?_ | refine RunU.doit rfl rfl (sC_ (within_c l 1 2000 (by omega)) (.sh (.sh (.sh .nil))) (.sh wS_ (.sh wS_ (.sh wS_ .nil))) rfl) ?_ | refine RunU.doit rfl rfl (sC_ (hf) (.sh .nil) (.sh wS_ .nil) rfl) ?_) | refine RunU.doit rfl rfl step_any ?_ | ((fail_if_success (refine RunU.doit (rd := []) (up := []) rfl rfl ?_ ?_)); first | refine RunU.guard_dec rfl rfl (fun _ => ?_) (fun _ => ?_) | refine RunU.guard_not rfl rfl (fun _ => ?_) (fun _ => ?_) | refine RunU.guard rfl rfl (fun _ => ?_) (fun _ => ?_))) | refine Then.next ?_ | refine InBlock.next ?_ | refine Done.ret (.one (by first | exact .c rfl | exact .own rfl | exact .als rfl rfl | exact .ptr rfl rfl | exact .part rfl rfl rfl) .nil) (.sh .nil) ?_ rfl)
   all_goals try (exfalso; omega)
   all_goals try (exact absurd hw ‹_›)
   case refine_1.refine_1.refine_1.refine_1 h1 h2 h3 h4 =>
    have hb : Falls l ↔ IsBr l := by
     rw [isBr_def]
     exact ⟨fun q => ⟨h0, h2, h3, hw, q⟩, fun q => q.2.2.2.2⟩
    exact congrArg (fun b => [rB b]) (decide_eq_decide.2 hb)
   case refine_1.refine_1.refine_2 h1 h2 h3 =>
    have hn : ¬ IsBr l := by rw [isBr_def]; exact fun hb => h3 hb.2.2.1
    simp [hn]
   case refine_1.refine_2 h1 h2 =>
    have hn : ¬ IsBr l := by rw [isBr_def]; exact fun hb => h2 hb.2.1
    simp [hn]
  ·have hn : ¬ IsBr l := by rw [isBr_def]; exact fun hb => hw hb.2.2.2.1
   repeat' (first | (guard_target =~ WpA _ _ _ _ _ _; first | refine WpA.seq ?_ | refine WpA.drawU ?_ | refine WpA.regionU ?_ | refine WpA.block ?_ | refine WpA.ret ?_ | refine WpA.skip ?_ | refine WpA.exit ?_ | refine WpA.cond_true rfl ?_ | refine WpA.cond_false rfl ?_ | refine WpA.cond_ntrue rfl ?_ | refine WpA.cond_dec rfl (fun _ => ?_) (fun _ => ?_) | refine WpA.cond_not rfl (fun _ => ?_) (fun _ => ?_) | refine WpA.cond rfl (fun _ => ?_) (fun _ => ?_)) | (guard_target =~ RunU _ _ _ _ [] _ _ _ _; first | refine RunU.nilL ?_ | refine RunU.nilD (by kernel_rfl) ?_) | (guard_target =~ RunU _ _ _ _ (Oper.mk _ (Op.call ⟨Callee.value _, _, _⟩) _ _ _ none :: _) _ _ _ _; first | refine RunU.cons (sC_ (inRange_c _ _ _) (.sh (.sh (.sh .nil))) (.sh wS_ (.sh wS_ (.sh wS_ .nil))) rfl) ?_ | refine RunU.cons (sC_ (ascends_c l hl) (.sh .nil) (.sh wS_ .nil) rfl) ?_ | refine RunU.cons (sC_ (within_c l 1 2000 (by omega)) (.sh (.sh (.sh .nil))) (.sh wS_ (.sh wS_ (.sh wS_ .nil))) rfl) ?_) | (guard_target =~ RunU _ _ _ _ (Oper.mk _ _ _ _ _ none :: _) _ _ _ _; refine RunU.cons step_any ?_) | (guard_target =~ RunU _ _ _ _ (Oper.mk _ _ _ _ _ (some _) :: _) _ _ _ _; first | refine RunU.pass rfl rfl rfl rfl ?_ | refine RunU.pass_undef rfl rfl rfl ?_ | (guard_target =~ RunU _ _ _ _ (Oper.mk _ (Op.call ⟨Callee.value _, _, _⟩) _ _ _ _ :: _) _ _ _ _; first | refine RunU.doit rfl rfl (sC_ (inRange_c _ _ _) (.sh (.sh (.sh .nil))) (.sh wS_ (.sh wS_ (.sh wS_ .nil))) rfl) ?_ | refine RunU.doit rfl rfl (sC_ (ascends_c l hl) (.sh .nil) (.sh wS_ .nil) rfl) ?_ | refine RunU.doit rfl rfl (sC_ (within_c l 1 2000 (by omega)) (.sh (.sh (.sh .nil))) (.sh wS_ (.sh wS_ (.sh wS_ .nil))) rfl) ?_) | refine RunU.doit rfl rfl step_any ?_ | ((fail_if_success (refine RunU.doit (rd := []) (up := []) rfl rfl ?_ ?_)); first | refine RunU.guard_dec rfl rfl (fun _ => ?_) (fun _ => ?_) | refine RunU.guard_not rfl rfl (fun _ => ?_) (fun _ => ?_) | refine RunU.guard rfl rfl (fun _ => ?_) (fun _ => ?_))) | refine Then.next ?_ | refine InBlock.next ?_ | refine Done.ret (.one (by first | exact .c rfl | exact .own rfl | exact .als rfl rfl | exact .ptr rfl rfl | exact .part rfl rfl rfl) .nil) (.sh .nil) ?_ rfl)
   all_goals try (exfalso; omega)
   all_goals try (exact absurd ‹_› hw)
   all_goals simp [hn]
 ·have hn : ¬ IsBr l := by rw [isBr_def]; exact fun hb => h0 hb.1
  repeat' (first | (guard_target =~ WpA _ _ _ _ _ _; first | refine WpA.seq ?_ | refine WpA.drawU ?_ | refine WpA.regionU ?_ | refine WpA.block ?_ | refine WpA.ret ?_ | refine WpA.skip ?_ | refine WpA.exit ?_ | refine WpA.cond_true rfl ?_ | refine WpA.cond_false rfl ?_ | refine WpA.cond_ntrue rfl ?_ | refine WpA.cond_dec rfl (fun _ => ?_) (fun _ => ?_) | refine WpA.cond_not rfl (fun _ => ?_) (fun _ => ?_) | refine WpA.cond rfl (fun _ => ?_) (fun _ => ?_)) | (guard_target =~ RunU _ _ _ _ [] _ _ _ _; first | refine RunU.nilL ?_ | refine RunU.nilD (by kernel_rfl) ?_) | (guard_target =~ RunU _ _ _ _ (Oper.mk _ _ _ _ _ none :: _) _ _ _ _; refine RunU.cons step_any ?_) | (guard_target =~ RunU _ _ _ _ (Oper.mk _ _ _ _ _ (some _) :: _) _ _ _ _; first | refine RunU.pass rfl rfl rfl rfl ?_ | refine RunU.pass_undef rfl rfl rfl ?_ | refine RunU.doit rfl rfl step_any ?_ | ((fail_if_success (refine RunU.doit (rd := []) (up := []) rfl rfl ?_ ?_)); first | refine RunU.guard_dec rfl rfl (fun _ => ?_) (fun _ => ?_) | refine RunU.guard_not rfl rfl (fun _ => ?_) (fun _ => ?_) | refine RunU.guard rfl rfl (fun _ => ?_) (fun _ => ?_))) | refine Then.next ?_ | refine InBlock.next ?_ | refine Done.ret (.one (by first | exact .c rfl | exact .own rfl | exact .als rfl rfl | exact .ptr rfl rfl | exact .part rfl rfl rfl) .nil) (.sh .nil) ?_ rfl)
  all_goals try (exfalso; omega)
  all_goals simp [hn]
end Go.Proofs.Ytohhkbbjdjibgaa
