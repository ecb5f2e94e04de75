/- The spectra of powers: the program and its reference make the same. No condition. -/
import Derived.Test.YtljhfjfccbpddaaRSoB
import Derived.Test.YtljhfjfccbpddaaRSqA
namespace Go.Proofs.Ytljhfjfccbpddaa
set_option maxHeartbeats 20000000
set_option linter.unusedVariables false
set_option linter.unusedSimpArgs false
open Go.Pv
open Go.ChangeShapes Go.WideShapes Go.ChangeAt Go.RowKit
attribute [local irreducible] RunU WpA Step CallG CallNG Done DoneN
instance fnOk71 : FnOk Try.prog 71 := ⟨_, Try.func71, rfl, by decide⟩
theorem multiple_c (a b : Int) (ha : 0 < a ∧ a ≤ 1000000) (hb : 0 < b ∧ b ≤ 1000000) : CallA Try.prog 54 [aI a, aI b] [rI (a / (Int.gcd a b : Int) * b)] [] := by
  refine callA_of _ Try.func54 rfl Try.ntmps54 (by first | exact ⟨rfl, rfl⟩ | (simp only [List.all_cons, List.all_nil, V.solid, D.solid, D.solids, solids_ints, solids_bools, solids_LL, Bool.and_self, Bool.and_true, and_self]; done) | simp [V.solid, D.solid, D.solids, solids_lits, solids_ints, solids_bools, solids_LL]) ?_
  have hg := Int.gcd_pos_of_ne_zero_left b (show a ≠ 0 by omega)
  have hq : 0 ≤ a / (Int.gcd a b : Int) ∧ a / (Int.gcd a b : Int) ≤ a := ⟨Int.ediv_nonneg (by omega) (by omega), Int.ediv_le_self _ (by omega)⟩
  have hm : 0 ≤ a / (Int.gcd a b : Int) * b ∧ a / (Int.gcd a b : Int) * b ≤ 1000000000000 := by
    refine ⟨Int.mul_nonneg hq.1 (by omega), ?_⟩
    have := Int.mul_le_mul (show a / (Int.gcd a b : Int) ≤ 1000000 by omega) hb.2 (by omega) (by omega)
    omega
  repeat' (first | (guard_target =~ WpA _ _ _ _ _ _; first | refine WpA.seq ?_ | refine WpA.drawU ?_ | refine WpA.regionU ?_ | refine WpA.block ?_ | refine WpA.ret ?_ | refine WpA.skip ?_ | refine WpA.exit ?_ | refine WpA.cond_true rfl ?_ | refine WpA.cond_false rfl ?_ | refine WpA.cond_ntrue rfl ?_ | refine WpA.cond_dec rfl (fun _ => ?_) (fun _ => ?_) | refine WpA.cond_not rfl (fun _ => ?_) (fun _ => ?_) | refine WpA.cond rfl (fun _ => ?_) (fun _ => ?_)) | (guard_target =~ RunU _ _ _ _ [] _ _ _ _; first | refine RunU.nilL ?_ | refine RunU.nilD (by kernel_rfl) ?_) | (guard_target =~ RunU _ _ _ _ (Oper.mk _ (Op.call ⟨Callee.value _, _, _⟩) _ _ _ none :: _) _ _ _ _; first | refine RunU.cons (step_call (divisor_c a b (by omega) (by omega)) (.sh (.sh .nil)) (.sh shows_any (.sh shows_any .nil)) rfl) ?_) | (guard_target =~ RunU _ _ _ _ (Oper.mk _ _ _ _ _ none :: _) _ _ _ _; refine RunU.cons step_any ?_) | refine Then.next ?_ | refine InBlock.next ?_ | refine Done.ret (.one (by first | exact .c rfl | exact .own rfl | exact .als rfl rfl | exact .ptr rfl rfl | exact .part rfl rfl rfl) .nil) (.sh (.sh .nil)) ?_ rfl)
  rfl
def cmn (a b : Int) : Int := if a / (Int.gcd a b : Int) > 1000000 / b then 1000001 else a / (Int.gcd a b : Int) * b
theorem common_c (a b : Int) (ha : 0 < a ∧ a ≤ 1000000) (hb : 0 < b ∧ b ≤ 1000000) : CallA Try.prog 56 [aI a, aI b] [rI (cmn a b)] [] := by
  refine callA_of _ Try.func56 rfl Try.ntmps56 (by first | exact ⟨rfl, rfl⟩ | (simp only [List.all_cons, List.all_nil, V.solid, D.solid, D.solids, solids_ints, solids_bools, solids_LL, Bool.and_self, Bool.and_true, and_self]; done) | simp [V.solid, D.solid, D.solids, solids_lits, solids_ints, solids_bools, solids_LL]) ?_
  have hg := Int.gcd_pos_of_ne_zero_left b (show a ≠ 0 by omega)
  have hq : 0 ≤ a / (Int.gcd a b : Int) ∧ a / (Int.gcd a b : Int) ≤ a := ⟨Int.ediv_nonneg (by omega) (by omega), Int.ediv_le_self _ (by omega)⟩
  have hm : 0 ≤ a / (Int.gcd a b : Int) * b ∧ a / (Int.gcd a b : Int) * b ≤ 1000000000000 := by
    refine ⟨Int.mul_nonneg hq.1 (by omega), ?_⟩
    have := Int.mul_le_mul (show a / (Int.gcd a b : Int) ≤ 1000000 by omega) hb.2 (by omega) (by omega)
    omega
  repeat' (first | (guard_target =~ WpA _ _ _ _ _ _; first | refine WpA.seq ?_ | refine WpA.drawU ?_ | refine WpA.regionU ?_ | refine WpA.block ?_ | refine WpA.ret ?_ | refine WpA.skip ?_ | refine WpA.exit ?_ | refine WpA.cond_true rfl ?_ | refine WpA.cond_false rfl ?_ | refine WpA.cond_ntrue rfl ?_ | refine WpA.cond_dec rfl (fun _ => ?_) (fun _ => ?_) | refine WpA.cond_not rfl (fun _ => ?_) (fun _ => ?_) | refine WpA.cond rfl (fun _ => ?_) (fun _ => ?_)) | (guard_target =~ RunU _ _ _ _ [] _ _ _ _; first | refine RunU.nilL ?_ | refine RunU.nilD (by kernel_rfl) ?_) | (guard_target =~ RunU _ _ _ _ (Oper.mk _ (Op.call ⟨Callee.value _, _, _⟩) _ _ _ none :: _) _ _ _ _; first | refine RunU.cons (step_call (gcd_c a b (by omega) (by omega)) (.sh (.sh .nil)) (.sh shows_any (.sh shows_any .nil)) rfl) ?_) | (guard_target =~ RunU _ _ _ _ (Oper.mk _ _ _ _ _ none :: _) _ _ _ _; refine RunU.cons step_any ?_) | refine Then.next ?_ | refine InBlock.next ?_ | refine Done.ret (.one (by first | exact .c rfl | exact .own rfl | exact .als rfl rfl | exact .ptr rfl rfl | exact .part rfl rfl rfl) .nil) (.sh (.sh .nil)) ?_ rfl)
  case refine_1 h => simp only [cmn, if_pos h]
  case refine_2 h => simp only [cmn, if_neg h]
theorem cmn_eq {a b : Int} (ha : 0 < a) (hb : 0 < b) : cmn a b = if a / (Int.gcd a b : Int) * b > 1000000 then 1000001 else a / (Int.gcd a b : Int) * b := by
  unfold cmn
  have : a / (Int.gcd a b : Int) > 1000000 / b ↔ a / (Int.gcd a b : Int) * b > 1000000 := by
    rw [gt_iff_lt, gt_iff_lt, Int.ediv_lt_iff_lt_mul hb]
  simp only [this]
theorem mul_bnd {x y : Int} (hx : 0 ≤ x) (hx' : x ≤ 2000000) (hy : 0 ≤ y) (hy' : y ≤ 1000000) : 0 ≤ x * y ∧ x * y ≤ 2000000000000 := by
  refine ⟨Int.mul_nonneg hx hy, ?_⟩
  have := Int.mul_le_mul hx' hy' hy (by omega)
  omega
theorem pos_of_mul {g p : Int} (hg : 0 < g) (h : 0 < g * p) : 0 < p := by
  rcases Int.lt_or_le 0 p with h1 | h1
  · exact h1
  · have := Int.mul_le_mul_of_nonneg_left h1 (Int.le_of_lt hg)
    omega
def pcell (u v : Int) (m j q : Nat) : List Int := ((List.range j).flatMap fun i : Nat => (List.range m).map fun k : Nat => ((i : Int) + 1) * u + ((k : Int) + 1) * v) ++ (List.range q).map fun k : Nat => ((j : Int) + 1) * u + ((k : Int) + 1) * v
theorem pcell_step (u v : Int) (m j q : Nat) : pcell u v m j (q + 1) = pcell u v m j q ++ [((j : Int) + 1) * u + ((q : Int) + 1) * v] := by
  simp [pcell, List.range_succ]
theorem pcell_row (u v : Int) (m j : Nat) : pcell u v m (j + 1) 0 = pcell u v m j m := by
  simp [pcell, List.range_succ]
theorem pcell_len (u v : Int) (m : Nat) : ∀ (j q : Nat), (pcell u v m j q).length = j * m + q
  | 0, 0 => by simp [pcell]
  | j + 1, 0 => by rw [pcell_row, pcell_len u v m j m, Nat.add_mul]; omega
  | j, q + 1 => by rw [pcell_step, List.length_append, pcell_len u v m j q]; simp; omega
theorem pcell_mem (u v : Int) (m j q : Nat) (hu : 0 ≤ u ∧ u ≤ 1000000) (hv : 0 ≤ v ∧ v ≤ 1000000) (hm : m ≤ 1000000) (hj : j ≤ 1000000) (hq : q ≤ 1000000) : ∀ x ∈ pcell u v m j q, 0 ≤ x ∧ x ≤ 4000000000000 := by
  intro x hx
  have h1 : ∀ i k : Nat, i ≤ 1000000 → k ≤ 1000000 → 0 ≤ ((i : Int) + 1) * u + ((k : Int) + 1) * v ∧ ((i : Int) + 1) * u + ((k : Int) + 1) * v ≤ 4000000000000 := fun i k hi hk => by
    have e1 := mul_bnd (x := (i : Int) + 1) (y := u) (by omega) (by omega) hu.1 hu.2
    have e2 := mul_bnd (x := (k : Int) + 1) (y := v) (by omega) (by omega) hv.1 hv.2
    omega
  simp only [pcell, List.mem_append, List.mem_flatMap, List.mem_map, List.mem_range] at hx
  rcases hx with ⟨i, hi, k, hk, rfl⟩ | ⟨k, hk, rfl⟩
  · exact h1 i k (by omega) (by omega)
  · exact h1 j k (by omega) (by omega)
theorem tops_of {l : List Int} (h : ∀ x ∈ l, 0 ≤ x ∧ x ≤ 4000000000000) : Tops l := by
  intro i
  by_cases hi : i < l.length
  · have := h l[i] (List.getElem_mem hi)
    simpa [List.getD, hi] using this
  · rw [List.getD_eq_getElem?_getD, List.getElem?_eq_none (by omega)]; simp
def cmu (a b : Int) : Int := a / (Int.gcd a b : Int) * b
theorem cmu_facts {a b : Int} (ha : 0 < a) (hb : 0 < b) : cmu a b = a * (b / (Int.gcd a b : Int)) ∧ cmu a b = b * (a / (Int.gcd a b : Int)) ∧ 0 < b / (Int.gcd a b : Int) ∧ b / (Int.gcd a b : Int) ≤ b ∧ 0 < a / (Int.gcd a b : Int) ∧ a / (Int.gcd a b : Int) ≤ a := by
  have hg := Int.gcd_pos_of_ne_zero_left b (show a ≠ 0 by omega)
  have h1 : (Int.gcd a b : Int) ∣ a := Int.gcd_dvd_left ..
  have h2 : (Int.gcd a b : Int) ∣ b := Int.gcd_dvd_right ..
  obtain ⟨p, hp⟩ := h1
  obtain ⟨q, hq⟩ := h2
  have hgp : (0 : Int) < (Int.gcd a b : Int) := by omega
  have e1 : a / (Int.gcd a b : Int) = p := Int.ediv_eq_of_eq_mul_right (by omega) hp
  have e2 : b / (Int.gcd a b : Int) = q := Int.ediv_eq_of_eq_mul_right (by omega) hq
  have hp0 : 0 < p := pos_of_mul hgp (by rw [← hp]; exact ha)
  have hq0 : 0 < q := pos_of_mul hgp (by rw [← hq]; exact hb)
  refine ⟨?_, ?_, by omega, Int.ediv_le_self _ (by omega), by omega, Int.ediv_le_self _ (by omega)⟩
  · rw [cmu, e1, e2]
    conv => lhs; rw [hq]
    conv => rhs; rw [hp]
    rw [Int.mul_left_comm, ← Int.mul_assoc, Int.mul_assoc]
  · rw [cmu, Int.mul_comm]
def pwIn (a b : Int) : Prop := (1 ≤ a ∧ a ≤ 100) ∧ (1 ≤ b ∧ b ≤ 100)
instance (a b : Int) : Decidable (pwIn a b) := by unfold pwIn; infer_instance
def pwL (a b : Int) : List Int := pcell (b / (Int.gcd a b : Int)) (a / (Int.gcd a b : Int)) (b - 1).toNat (a - 1).toNat 0
def pwB (a b : Int) : Int := if pwIn a b then mkB (cmu a b) (pwL a b) else 0
def pwS (a b : Int) : List Int := if pwIn a b then mkS (cmu a b) (pwL a b) else []
def pwC (a b : Int) : Int := if pwIn a b then mkC (cmu a b) (pwL a b) else 2
theorem pwL_len {a b : Int} (h : pwIn a b) : ((pwL a b).length : Int) = (a - 1) * (b - 1) := by
  unfold pwIn at h
  rw [pwL, pcell_len, Nat.add_zero, Int.natCast_mul, Int.toNat_of_nonneg (by omega), Int.toNat_of_nonneg (by omega)]
theorem pwL_tops {a b : Int} (h : pwIn a b) : Tops (pwL a b) := by
  unfold pwIn at h
  have hc := cmu_facts (a := a) (b := b) (by omega) (by omega)
  exact tops_of (pcell_mem _ _ _ _ _ (by omega) (by omega) (by omega) (by omega) (by omega))
theorem specPower_c (a b : Int) : CallA Try.prog 71 [aI a, aI b] [rSp (pwB a b) (pwS a b), rI (pwC a b)] [] := by
  refine callA_of _ Try.func71 rfl Try.ntmps71 (by first | exact ⟨rfl, rfl⟩ | (simp only [List.all_cons, List.all_nil, V.solid, D.solid, D.solids, solids_ints, solids_bools, solids_LL, Bool.and_self, Bool.and_true, and_self]; done) | simp [V.solid, D.solid, D.solids, solids_lits, solids_ints, solids_bools, solids_LL]) ?_
  by_cases hk : pwIn a b
  · have hk' := hk
    unfold pwIn at hk'
    have hlen := pwL_len hk
    have htops := pwL_tops hk
    obtain ⟨f1, f2, f3, f4, f5, f6⟩ := cmu_facts (a := a) (b := b) (by omega) (by omega)
    have hcb := mul_bnd (x := a) (y := b / (Int.gcd a b : Int)) (by omega) (by omega) (by omega) (by omega)
    have hc100 : cmu a b ≤ 10000 := by
      have := Int.mul_le_mul (show a ≤ 100 by omega) (show b / (Int.gcd a b : Int) ≤ 100 by omega) (by omega) (by omega)
      omega
    have hcp : 0 < cmu a b := by
      rw [f1]; exact Int.mul_pos (by omega) f3
    have hcmd : cmu a b = a / (Int.gcd a b : Int) * b := rfl
    have hcmn : cmn a b = cmu a b := by
      rw [cmn_eq (by omega) (by omega), ← hcmd, if_neg (by omega)]
    have hab : 0 ≤ (a - 1) * (b - 1) ∧ (a - 1) * (b - 1) ≤ 9801 := by
      refine ⟨Int.mul_nonneg (by omega) (by omega), ?_⟩
      have := Int.mul_le_mul (show a - 1 ≤ 99 by omega) (show b - 1 ≤ 99 by omega) (by omega) (by omega)
      omega
    have d1 : cmu a b / a = b / (Int.gcd a b : Int) := Int.ediv_eq_of_eq_mul_right (by omega) f1
    have d2 : cmu a b / b = a / (Int.gcd a b : Int) := Int.ediv_eq_of_eq_mul_right (by omega) f2
    have hmake := l18Make_c (cmu a b) (pwL a b) hcp (by omega) (by omega) htops
    have hcom := common_c a b (by omega) (by omega)
    rw [hcmn] at hcom
    clear hcmd hcmn
    generalize hu : b / (Int.gcd a b : Int) = u at *
    generalize hv : a / (Int.gcd a b : Int) = v at *
    have hL : pwL a b = pcell u v (b - 1).toNat (a - 1).toNat 0 := by rw [pwL, hu, hv]
    generalize hc : cmu a b = c at *
    repeat' (first | (guard_target =~ WpA _ _ _ _ _ _; first | refine WpA.seq ?_ | refine WpA.drawU ?_ | refine WpA.regionU ?_ | refine WpA.block ?_ | refine WpA.ret ?_ | refine WpA.skip ?_ | refine WpA.exit ?_ | refine WpA.cond_true rfl ?_ | refine WpA.cond_false rfl ?_ | refine WpA.cond_ntrue rfl ?_ | refine WpA.cond_dec rfl (fun _ => ?_) (fun _ => ?_) | refine WpA.cond_not rfl (fun _ => ?_) (fun _ => ?_) | refine WpA.cond rfl (fun _ => ?_) (fun _ => ?_)) | (guard_target =~ RunU _ _ _ _ [] _ _ _ _; first | refine RunU.nilL ?_ | refine RunU.nilD (by kernel_rfl) ?_) | (guard_target =~ RunU _ _ _ _ (Oper.mk _ (Op.call ⟨Callee.value _, _, _⟩) _ _ _ none :: _) _ _ _ _; first | refine RunU.cons (step_call (l01In_c _ _ _) (.sh (.sh (.sh .nil))) (.sh shows_any (.sh shows_any (.sh shows_any .nil))) rfl) ?_ | refine RunU.cons (step_call (hcom) (.sh (.sh .nil)) (.sh shows_any (.sh shows_any .nil)) rfl) ?_) | (guard_target =~ RunU _ _ _ _ (Oper.mk _ _ _ _ _ none :: _) _ _ _ _; refine RunU.cons step_any ?_) | (guard_target =~ RunU _ _ _ _ (Oper.mk _ _ _ _ _ (some _) :: _) _ _ _ _; first | refine RunU.pass rfl rfl rfl rfl ?_ | refine RunU.pass_undef rfl rfl rfl ?_ | (guard_target =~ RunU _ _ _ _ (Oper.mk _ (Op.call ⟨Callee.value _, _, _⟩) _ _ _ _ :: _) _ _ _ _; first | refine RunU.doit rfl rfl (step_call (l01In_c _ _ _) (.sh (.sh (.sh .nil))) (.sh shows_any (.sh shows_any (.sh shows_any .nil))) rfl) ?_ | refine RunU.doit rfl rfl (step_call (hcom) (.sh (.sh .nil)) (.sh shows_any (.sh shows_any .nil)) rfl) ?_) | refine RunU.doit rfl rfl step_any ?_ | ((fail_if_success (refine RunU.doit (rd := []) (up := []) rfl rfl ?_ ?_)); first | refine RunU.guard_dec rfl rfl (fun _ => ?_) (fun _ => ?_) | refine RunU.guard_not rfl rfl (fun _ => ?_) (fun _ => ?_) | refine RunU.guard rfl rfl (fun _ => ?_) (fun _ => ?_))) | refine Then.next ?_ | refine InBlock.next ?_ | refine Done.ret (.cell inferInstance rfl rfl (.one (by first | exact .c rfl | exact .own rfl | exact .als rfl rfl | exact .ptr rfl rfl | exact .part rfl rfl rfl) .nil)) (.sh (.sh .nil)) ?_ rfl)
    all_goals try (exfalso; omega)
    case refine_2.refine_2.refine_1 h1 h2 h3 =>
      simp only [pwB, pwS, pwC, if_pos hk, mkB, mkS, mkC, hc, if_pos (show c > 1000000 ∨ (pwL a b).length > 400 by omega)]
      rfl
    case refine_2.refine_2.refine_2 h1 h2 h3 =>
      refine WpA.loop_slots2 (fun j id => [(0, vI a), (1, vI b), (4, .own 2 (.pt true [dI 0, dL []])), (5, vI 0), (6, vI c), (7, .own id (.sl true 1 (ints (pcell u v (b - 1).toNat j 0)))), (8, vI ((j : Int) + 1))]) (fun j => j ≤ (a - 1).toNat) (fun j => (a - 1).toNat - j) 0 _ (by omega) ⟨rfl, rfl, rfl, rfl, rfl, by exact own_ints (l := []) rfl, rfl, trivial⟩ ?_
      intro j id s nx hj
      by_cases hlt : j < (a - 1).toNat
      · repeat' (first | (guard_target =~ WpA _ _ _ _ _ _; first | refine WpA.seq ?_ | refine WpA.drawU ?_ | refine WpA.regionU ?_ | refine WpA.block ?_ | refine WpA.ret ?_ | refine WpA.skip ?_ | refine WpA.exit ?_ | refine WpA.cond_true rfl ?_ | refine WpA.cond_false rfl ?_ | refine WpA.cond_ntrue rfl ?_ | refine WpA.cond_dec rfl (fun _ => ?_) (fun _ => ?_) | refine WpA.cond_not rfl (fun _ => ?_) (fun _ => ?_) | refine WpA.cond rfl (fun _ => ?_) (fun _ => ?_)) | (guard_target =~ RunU _ _ _ _ [] _ _ _ _; first | refine RunU.nilL ?_ | refine RunU.nilD (by kernel_rfl) ?_) | (guard_target =~ RunU _ _ _ _ (Oper.mk _ _ _ _ _ none :: _) _ _ _ _; refine RunU.cons step_any ?_) | (guard_target =~ RunU _ _ _ _ (Oper.mk _ _ _ _ _ (some _) :: _) _ _ _ _; first | refine RunU.pass rfl rfl rfl rfl ?_ | refine RunU.pass_undef rfl rfl rfl ?_ | refine RunU.doit rfl rfl step_any ?_ | ((fail_if_success (refine RunU.doit (rd := []) (up := []) rfl rfl ?_ ?_)); first | refine RunU.guard_dec rfl rfl (fun _ => ?_) (fun _ => ?_) | refine RunU.guard_not rfl rfl (fun _ => ?_) (fun _ => ?_) | refine RunU.guard rfl rfl (fun _ => ?_) (fun _ => ?_))) | refine Then.next ?_ | refine InBlock.next ?_ | refine Done.ret (.cell inferInstance rfl rfl (.one (by first | exact .c rfl | exact .own rfl | exact .als rfl rfl | exact .ptr rfl rfl | exact .part rfl rfl rfl) .nil)) (.sh (.sh .nil)) ?_ rfl)
        all_goals try (exfalso; omega)
        refine WpA.loop_slots2 (fun q id => [(0, vI a), (1, vI b), (4, .own 2 (.pt true [dI 0, dL []])), (5, vI 0), (6, vI c), (7, .own id (.sl true 1 (ints (pcell u v (b - 1).toNat j q)))), (8, vI ((j : Int) + 1)), (9, vI ((q : Int) + 1))]) (fun q => q ≤ (b - 1).toNat) (fun q => (b - 1).toNat - q) 0 _ (by omega) ⟨rfl, rfl, rfl, rfl, rfl, by exact rfl, rfl, rfl, trivial⟩ ?_
        intro q id s nx hq
        have hpl := pcell_len u v (b - 1).toNat j q
        have e1 := mul_bnd (x := (j : Int) + 1) (y := u) (by omega) (by omega) (by omega) (by omega)
        have e2 := mul_bnd (x := (q : Int) + 1) (y := v) (by omega) (by omega) (by omega) (by omega)
        have hps : pcell u v (b - 1).toNat j q ++ [((j : Int) + 1) * (c / a) + ((q : Int) + 1) * (c / b)] = pcell u v (b - 1).toNat j (q + 1) := by rw [pcell_step, d1, d2]
        have hjm : j * (b - 1).toNat ≤ 99 * 99 := Nat.mul_le_mul (by omega) (by omega)
        rw [← d1] at e1
        rw [← d2] at e2
        repeat' (first | (guard_target =~ WpA _ _ _ _ _ _; first | refine WpA.seq ?_ | refine WpA.drawU ?_ | refine WpA.regionU ?_ | refine WpA.block ?_ | refine WpA.ret ?_ | refine WpA.skip ?_ | refine WpA.exit ?_ | refine WpA.cond_true rfl ?_ | refine WpA.cond_false rfl ?_ | refine WpA.cond_ntrue rfl ?_ | refine WpA.cond_dec rfl (fun _ => ?_) (fun _ => ?_) | refine WpA.cond_not rfl (fun _ => ?_) (fun _ => ?_) | refine WpA.cond rfl (fun _ => ?_) (fun _ => ?_)) | (guard_target =~ RunU _ _ _ _ [] _ _ _ _; first | refine RunU.nilL ?_ | refine RunU.nilD (by kernel_rfl) ?_) | (guard_target =~ RunU _ _ _ _ (Oper.mk _ _ _ _ _ none :: _) _ _ _ _; refine RunU.cons step_any ?_) | (guard_target =~ RunU _ _ _ _ (Oper.mk _ _ _ _ _ (some _) :: _) _ _ _ _; first | refine RunU.pass rfl rfl rfl rfl ?_ | refine RunU.pass_undef rfl rfl rfl ?_ | refine RunU.doit rfl rfl step_any ?_ | ((fail_if_success (refine RunU.doit (rd := []) (up := []) rfl rfl ?_ ?_)); first | refine RunU.guard_dec rfl rfl (fun _ => ?_) (fun _ => ?_) | refine RunU.guard_not rfl rfl (fun _ => ?_) (fun _ => ?_) | refine RunU.guard rfl rfl (fun _ => ?_) (fun _ => ?_))) | refine Then.next ?_ | refine InBlock.next ?_ | refine Done.ret (.cell inferInstance rfl rfl (.one (by first | exact .c rfl | exact .own rfl | exact .als rfl rfl | exact .ptr rfl rfl | exact .part rfl rfl rfl) .nil)) (.sh (.sh .nil)) ?_ rfl)
        case refine_1.refine_1 h6 h7 => exact ⟨q + 1, by omega, ⟨_, rfl, rfl, rfl, rfl, rfl, by exact own_ints hps, rfl, int_eq (by omega), trivial⟩, by omega⟩
        case refine_1.refine_2 h6 h7 =>
          have e : q = (b - 1).toNat := by omega
          subst e
          exact ⟨j + 1, by omega, ⟨_, rfl, rfl, rfl, rfl, rfl, by exact own_ints (pcell_row u v _ j).symm, int_eq (by omega), trivial⟩, by omega⟩
      · have e : j = (a - 1).toNat := by omega
        subst e
        rw [hL] at hmake
        repeat' (first | (guard_target =~ WpA _ _ _ _ _ _; first | refine WpA.seq ?_ | refine WpA.drawU ?_ | refine WpA.regionU ?_ | refine WpA.block ?_ | refine WpA.ret ?_ | refine WpA.skip ?_ | refine WpA.exit ?_ | refine WpA.cond_true rfl ?_ | refine WpA.cond_false rfl ?_ | refine WpA.cond_ntrue rfl ?_ | refine WpA.cond_dec rfl (fun _ => ?_) (fun _ => ?_) | refine WpA.cond_not rfl (fun _ => ?_) (fun _ => ?_) | refine WpA.cond rfl (fun _ => ?_) (fun _ => ?_)) | (guard_target =~ RunU _ _ _ _ [] _ _ _ _; first | refine RunU.nilL ?_ | refine RunU.nilD (by kernel_rfl) ?_) | (guard_target =~ RunU _ _ _ _ (Oper.mk _ (Op.call ⟨Callee.value _, _, _⟩) _ _ _ none :: _) _ _ _ _; first | refine RunU.cons (step_call (hmake) (.sh (.sh .nil)) (.sh shows_any (.sh shows_any .nil)) rfl) ?_) | (guard_target =~ RunU _ _ _ _ (Oper.mk _ _ _ _ _ none :: _) _ _ _ _; refine RunU.cons step_any ?_) | (guard_target =~ RunU _ _ _ _ (Oper.mk _ _ _ _ _ (some _) :: _) _ _ _ _; first | refine RunU.pass rfl rfl rfl rfl ?_ | refine RunU.pass_undef rfl rfl rfl ?_ | (guard_target =~ RunU _ _ _ _ (Oper.mk _ (Op.call ⟨Callee.value _, _, _⟩) _ _ _ _ :: _) _ _ _ _; first | refine RunU.doit rfl rfl (step_call (hmake) (.sh (.sh .nil)) (.sh shows_any (.sh shows_any .nil)) rfl) ?_) | refine RunU.doit rfl rfl step_any ?_ | ((fail_if_success (refine RunU.doit (rd := []) (up := []) rfl rfl ?_ ?_)); first | refine RunU.guard_dec rfl rfl (fun _ => ?_) (fun _ => ?_) | refine RunU.guard_not rfl rfl (fun _ => ?_) (fun _ => ?_) | refine RunU.guard rfl rfl (fun _ => ?_) (fun _ => ?_))) | refine Then.next ?_ | refine InBlock.next ?_ | refine Done.ret (.cell inferInstance rfl rfl (.one (by first | exact .c rfl | exact .own rfl | exact .als rfl rfl | exact .ptr rfl rfl | exact .part rfl rfl rfl) .nil)) (.sh (.sh .nil)) ?_ rfl)
        all_goals try (exfalso; omega)
        simp only [pwB, pwS, pwC, if_pos hk, hc, hL]
        rfl
  · have hk' := hk
    unfold pwIn at hk'
    repeat' (first | (guard_target =~ WpA _ _ _ _ _ _; first | refine WpA.seq ?_ | refine WpA.drawU ?_ | refine WpA.regionU ?_ | refine WpA.block ?_ | refine WpA.ret ?_ | refine WpA.skip ?_ | refine WpA.exit ?_ | refine WpA.cond_true rfl ?_ | refine WpA.cond_false rfl ?_ | refine WpA.cond_ntrue rfl ?_ | refine WpA.cond_dec rfl (fun _ => ?_) (fun _ => ?_) | refine WpA.cond_not rfl (fun _ => ?_) (fun _ => ?_) | refine WpA.cond rfl (fun _ => ?_) (fun _ => ?_)) | (guard_target =~ RunU _ _ _ _ [] _ _ _ _; first | refine RunU.nilL ?_ | refine RunU.nilD (by kernel_rfl) ?_) | (guard_target =~ RunU _ _ _ _ (Oper.mk _ (Op.call ⟨Callee.value _, _, _⟩) _ _ _ none :: _) _ _ _ _; first | refine RunU.cons (step_call (l01In_c _ _ _) (.sh (.sh (.sh .nil))) (.sh shows_any (.sh shows_any (.sh shows_any .nil))) rfl) ?_) | (guard_target =~ RunU _ _ _ _ (Oper.mk _ _ _ _ _ none :: _) _ _ _ _; refine RunU.cons step_any ?_) | (guard_target =~ RunU _ _ _ _ (Oper.mk _ _ _ _ _ (some _) :: _) _ _ _ _; first | refine RunU.pass rfl rfl rfl rfl ?_ | refine RunU.pass_undef rfl rfl rfl ?_ | (guard_target =~ RunU _ _ _ _ (Oper.mk _ (Op.call ⟨Callee.value _, _, _⟩) _ _ _ _ :: _) _ _ _ _; first | refine RunU.doit rfl rfl (step_call (l01In_c _ _ _) (.sh (.sh (.sh .nil))) (.sh shows_any (.sh shows_any (.sh shows_any .nil))) rfl) ?_) | refine RunU.doit rfl rfl step_any ?_ | ((fail_if_success (refine RunU.doit (rd := []) (up := []) rfl rfl ?_ ?_)); first | refine RunU.guard_dec rfl rfl (fun _ => ?_) (fun _ => ?_) | refine RunU.guard_not rfl rfl (fun _ => ?_) (fun _ => ?_) | refine RunU.guard rfl rfl (fun _ => ?_) (fun _ => ?_))) | refine Then.next ?_ | refine InBlock.next ?_ | refine Done.ret (.cell inferInstance rfl rfl (.one (by first | exact .c rfl | exact .own rfl | exact .als rfl rfl | exact .ptr rfl rfl | exact .part rfl rfl rfl) .nil)) (.sh (.sh .nil)) ?_ rfl)
    all_goals try (exfalso; omega)
    all_goals simp only [pwB, pwS, pwC, if_neg hk]
    all_goals rfl
end Go.Proofs.Ytljhfjfccbpddaa
