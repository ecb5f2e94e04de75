/- Parts of graphs and their determinants, by the program. No condition. -/
import Derived.Test.YthfdelcopmmblaaRGrY
import Derived.Test.YthfdelcopmmblaaRGrV
namespace Go.Proofs.Ythfdelcopmmblaa
set_option maxHeartbeats 20000000
set_option linter.unusedVariables false
set_option linter.unusedSimpArgs false
open Go.Pv
open Go.ChangeShapes Go.WideShapes Go.ChangeAt Go.RowKit
attribute [local irreducible] RunU WpA Step CallG CallNG Done DoneN
instance fnOk81 : FnOk Try.prog 81 := ⟨_, Try.func81, rfl, by decide⟩
instance fnOk70 : FnOk Try.prog 70 := ⟨_, Try.func70, rfl, by decide⟩
def atL (K : List Bool) (n j : Nat) : List Int := (List.range n).map fun v => if v < j ∧ kp K v = true then (cnt (kp K) v : Int) else 0
theorem atL_len (K : List Bool) (n j : Nat) : (atL K n j).length = n := by simp [atL]
theorem atL_at {K : List Bool} {n j v : Nat} (h : v < n) : (atL K n j).getD v 0 = if v < j ∧ kp K v = true then (cnt (kp K) v : Int) else 0 := by simp [atL, List.getD, h]
theorem atL_zero (K : List Bool) (n : Nat) : List.replicate n 0 = atL K n 0 := by
  refine ext_I (by simp [atL]) fun k hk => ?_
  rw [List.length_replicate] at hk
  rw [atL_at hk, if_neg (by omega)]
  simp [List.getD, hk]
theorem atL_set {K : List Bool} {n j : Nat} (h : j < n) (hk : kp K j = true) : (atL K n j).set j (cnt (kp K) j) = atL K n (j + 1) := by
  refine ext_I (by simp [atL]) fun k hk2 => ?_
  rw [List.length_set, atL_len] at hk2
  rw [getD_setI (by rw [atL_len]; exact h), atL_at hk2, atL_at hk2]
  by_cases e : j = k
  · subst e; rw [if_pos rfl, if_pos ⟨by omega, hk⟩]
  · rw [if_neg e]
    by_cases h1 : k < j ∧ kp K k = true
    · rw [if_pos h1, if_pos ⟨by omega, h1.2⟩]
    · rw [if_neg h1, if_neg (fun h2 => h1 ⟨by omega, h2.2⟩)]
theorem atL_skip {K : List Bool} {n j : Nat} (hk : ¬ kp K j = true) : atL K n j = atL K n (j + 1) := by
  refine ext_I (by simp [atL]) fun k hk2 => ?_
  rw [atL_len] at hk2
  rw [atL_at hk2, atL_at hk2]
  by_cases h1 : k < j ∧ kp K k = true
  · rw [if_pos h1, if_pos ⟨by omega, h1.2⟩]
  · rw [if_neg h1, if_neg (fun h2 => h1 ⟨by
      by_cases e : k = j
      · rw [e] at h2; exact absurd h2.2 hk
      · omega, h2.2⟩)]
theorem subgraph_c (w : List Int) (E : List (List Int)) (K : List Bool) (hg : IsGr w E) (hK : K.length = w.length) : CallA Try.prog 81 [aGr w E, aBs K] [.agg [.sl true 1 (ints (kW w K w.length)), .sl true 1 (LL (kE E K E.length))]] [] := by
  have hlen := hg.1
  refine callA_of _ Try.func81 rfl Try.ntmps81 (by first | exact ⟨rfl, rfl⟩ | (simp only [List.all_cons, List.all_nil, V.solid, D.solid, D.solids, solids_ints, solids_bools, solids_LL, Bool.and_self, Bool.and_true, and_self]; done) | simp [V.solid, D.solid, D.solids, solids_lits, solids_ints, solids_bools, solids_LL]) ?_
  repeat' (first | (guard_target =~ WpA _ _ _ _ _ _; first | refine WpA.seq ?_ | refine WpA.drawU ?_ | refine WpA.regionU ?_ | refine WpA.block ?_ | refine WpA.ret ?_ | refine WpA.skip ?_ | refine WpA.exit ?_ | refine WpA.cond_true rfl ?_ | refine WpA.cond_false rfl ?_ | refine WpA.cond_ntrue rfl ?_ | refine WpA.cond_dec rfl (fun _ => ?_) (fun _ => ?_) | refine WpA.cond_not rfl (fun _ => ?_) (fun _ => ?_) | refine WpA.cond rfl (fun _ => ?_) (fun _ => ?_)) | (guard_target =~ RunU _ _ _ _ [] _ _ _ _; first | refine RunU.nilL ?_ | refine RunU.nilD (by kernel_rfl) ?_) | (guard_target =~ RunU _ _ _ _ (Oper.mk _ _ _ _ _ none :: _) _ _ _ _; refine RunU.cons step_any ?_) | (guard_target =~ RunU _ _ _ _ (Oper.mk _ _ _ _ _ (some _) :: _) _ _ _ _; first | refine RunU.pass rfl rfl rfl rfl ?_ | refine RunU.pass_undef rfl rfl rfl ?_ | refine RunU.doit rfl rfl step_any ?_ | ((fail_if_success (refine RunU.doit (rd := []) (up := []) rfl rfl ?_ ?_)); first | refine RunU.guard_dec rfl rfl (fun _ => ?_) (fun _ => ?_) | refine RunU.guard_not rfl rfl (fun _ => ?_) (fun _ => ?_) | refine RunU.guard rfl rfl (fun _ => ?_) (fun _ => ?_))) | refine Then.next ?_ | refine InBlock.next ?_ | refine Done.ret (.cell inferInstance rfl rfl .nil) (.sh (.sh .nil)) ?_ rfl)
  refine WpA.loop_ids3 (fun j i4 i5 i6 => [(1, .c (.sl false 1 (bools K))), (2, .own 2 (.pt true [.sl false 1 (ints w), .sl false 1 (LLs E)])), (4, .own i4 (.pt true [.sl true 1 [], .sl true 1 []])), (5, .own i5 (.sl true 1 (ints (atL K w.length j)))), (6, .own i6 (.pt true [.sl true 1 (ints (kW w K j)), .sl true 1 (LL [])])), (17, .c (.sl false 1 (bools K))), (18, vGI w.length), (19, vGI j)]) (fun j => j ≤ w.length) (fun j => w.length - j) 0 _ _ _ (by omega) ⟨rfl, rfl, by exact rfl, by exact own_ints (by rw [← atL_zero, hK]; rfl), by exact rfl, rfl, int_eq (by rw [hK]), rfl, trivial⟩ ?_
  intro j i4 i5 i6 s nx hj
  have hal := atL_len K w.length j
  have hwl := kW_len w K j
  have hcl := cnt_le (kp K) j
  by_cases hlt : j < w.length
  · cases hk : K.getD (j * 1) false with
    | true =>
      have hk2 : kp K j = true := by rw [Nat.mul_one] at hk; exact hk
      have e1 : (atL K w.length j).set (j * 1) (((kW w K j).length : Nat) : Int) = atL K w.length (j + 1) := by rw [Nat.mul_one, hwl]; exact atL_set hlt hk2
      have e2 : kW w K (j + 1) = kW w K j ++ [w.getD (j * 1) 0] := by rw [kW, if_pos hk2, Nat.mul_one]
      generalize kW w K j = W at *
      repeat' (first | (guard_target =~ WpA _ _ _ _ _ _; first | refine WpA.seq ?_ | refine WpA.drawU ?_ | refine WpA.regionU ?_ | refine WpA.block ?_ | refine WpA.ret ?_ | refine WpA.skip ?_ | refine WpA.exit ?_ | refine WpA.cond_true rfl ?_ | refine WpA.cond_false rfl ?_ | refine WpA.cond_ntrue rfl ?_ | refine WpA.cond_dec rfl (fun _ => ?_) (fun _ => ?_) | refine WpA.cond_not rfl (fun _ => ?_) (fun _ => ?_) | refine WpA.cond rfl (fun _ => ?_) (fun _ => ?_)) | (guard_target =~ RunU _ _ _ _ [] _ _ _ _; first | refine RunU.nilL ?_ | refine RunU.nilD (by kernel_rfl) ?_) | (guard_target =~ RunU _ _ _ _ (Oper.mk _ _ _ _ _ none :: _) _ _ _ _; refine RunU.cons step_any ?_) | (guard_target =~ RunU _ _ _ _ (Oper.mk _ _ _ _ _ (some _) :: _) _ _ _ _; first | refine RunU.pass rfl rfl rfl rfl ?_ | refine RunU.pass_undef rfl rfl rfl ?_ | refine RunU.doit rfl rfl step_any ?_ | ((fail_if_success (refine RunU.doit (rd := []) (up := []) rfl rfl ?_ ?_)); first | refine RunU.guard_dec rfl rfl (fun _ => ?_) (fun _ => ?_) | refine RunU.guard_not rfl rfl (fun _ => ?_) (fun _ => ?_) | refine RunU.guard rfl rfl (fun _ => ?_) (fun _ => ?_))) | refine Then.next ?_ | refine InBlock.next ?_ | refine Done.ret (.cell inferInstance rfl rfl .nil) (.sh (.sh .nil)) ?_ rfl)
      all_goals try (exfalso; simp_all; done)
      all_goals try (exfalso; omega)
      exact ⟨j + 1, by omega, ⟨_, _, _, rfl, rfl, rfl, by exact own_ints e1, by rw [e2]; rfl, rfl, rfl, int_eq (by omega), trivial⟩, by omega⟩
    | false =>
      have hk2 : ¬ kp K j = true := by rw [Nat.mul_one] at hk; unfold kp; rw [hk]; decide
      have e1 := atL_skip (n := w.length) hk2
      have e2 : kW w K (j + 1) = kW w K j := by rw [kW, if_neg hk2]
      repeat' (first | (guard_target =~ WpA _ _ _ _ _ _; first | refine WpA.seq ?_ | refine WpA.drawU ?_ | refine WpA.regionU ?_ | refine WpA.block ?_ | refine WpA.ret ?_ | refine WpA.skip ?_ | refine WpA.exit ?_ | refine WpA.cond_true rfl ?_ | refine WpA.cond_false rfl ?_ | refine WpA.cond_ntrue rfl ?_ | refine WpA.cond_dec rfl (fun _ => ?_) (fun _ => ?_) | refine WpA.cond_not rfl (fun _ => ?_) (fun _ => ?_) | refine WpA.cond rfl (fun _ => ?_) (fun _ => ?_)) | (guard_target =~ RunU _ _ _ _ [] _ _ _ _; first | refine RunU.nilL ?_ | refine RunU.nilD (by kernel_rfl) ?_) | (guard_target =~ RunU _ _ _ _ (Oper.mk _ _ _ _ _ none :: _) _ _ _ _; refine RunU.cons step_any ?_) | (guard_target =~ RunU _ _ _ _ (Oper.mk _ _ _ _ _ (some _) :: _) _ _ _ _; first | refine RunU.pass rfl rfl rfl rfl ?_ | refine RunU.pass_undef rfl rfl rfl ?_ | refine RunU.doit rfl rfl step_any ?_ | ((fail_if_success (refine RunU.doit (rd := []) (up := []) rfl rfl ?_ ?_)); first | refine RunU.guard_dec rfl rfl (fun _ => ?_) (fun _ => ?_) | refine RunU.guard_not rfl rfl (fun _ => ?_) (fun _ => ?_) | refine RunU.guard rfl rfl (fun _ => ?_) (fun _ => ?_))) | refine Then.next ?_ | refine InBlock.next ?_ | refine Done.ret (.cell inferInstance rfl rfl .nil) (.sh (.sh .nil)) ?_ rfl)
      all_goals try (exfalso; simp_all; done)
      all_goals try (exfalso; omega)
      exact ⟨j + 1, by omega, ⟨_, _, _, rfl, rfl, rfl, by exact own_ints e1, by rw [e2]; rfl, rfl, rfl, int_eq (by omega), trivial⟩, by omega⟩
  · have ej : j = w.length := by omega
    subst ej
    generalize kW w K w.length = W at *
    have hfew := hg.few
    repeat' (first | (guard_target =~ WpA _ _ _ _ _ _; first | refine WpA.seq ?_ | refine WpA.drawU ?_ | refine WpA.regionU ?_ | refine WpA.block ?_ | refine WpA.ret ?_ | refine WpA.skip ?_ | refine WpA.exit ?_ | refine WpA.cond_true rfl ?_ | refine WpA.cond_false rfl ?_ | refine WpA.cond_ntrue rfl ?_ | refine WpA.cond_dec rfl (fun _ => ?_) (fun _ => ?_) | refine WpA.cond_not rfl (fun _ => ?_) (fun _ => ?_) | refine WpA.cond rfl (fun _ => ?_) (fun _ => ?_)) | (guard_target =~ RunU _ _ _ _ [] _ _ _ _; first | refine RunU.nilL ?_ | refine RunU.nilD (by kernel_rfl) ?_) | (guard_target =~ RunU _ _ _ _ (Oper.mk _ _ _ _ _ none :: _) _ _ _ _; refine RunU.cons step_any ?_) | (guard_target =~ RunU _ _ _ _ (Oper.mk _ _ _ _ _ (some _) :: _) _ _ _ _; first | refine RunU.pass rfl rfl rfl rfl ?_ | refine RunU.pass_undef rfl rfl rfl ?_ | refine RunU.doit rfl rfl step_any ?_ | ((fail_if_success (refine RunU.doit (rd := []) (up := []) rfl rfl ?_ ?_)); first | refine RunU.guard_dec rfl rfl (fun _ => ?_) (fun _ => ?_) | refine RunU.guard_not rfl rfl (fun _ => ?_) (fun _ => ?_) | refine RunU.guard rfl rfl (fun _ => ?_) (fun _ => ?_))) | refine Then.next ?_ | refine InBlock.next ?_ | refine Done.ret (.cell inferInstance rfl rfl .nil) (.sh (.sh .nil)) ?_ rfl)
    all_goals try (exfalso; omega)
    refine WpA.loop_slots2 (fun j i6 => [(1, .c (.sl false 1 (bools K))), (4, .own i4 (.pt true [.sl true 1 [], .sl true 1 []])), (5, .own i5 (.sl true 1 (ints (atL K w.length w.length)))), (6, .own i6 (.pt true [.sl true 1 (ints W), .sl true 1 (LL (kE E K j))])), (43, .c (.sl false 1 (LLs E))), (44, vGI E.length), (45, vGI j)]) (fun j => j ≤ E.length) (fun j => E.length - j) 0 _ (by omega) ⟨rfl, rfl, rfl, by exact rfl, rfl, rfl, rfl, trivial⟩ ?_
    intro j i6 s nx hj
    have hkl := kE_len E K j
    by_cases hlt : j < E.length
    · have g := hg.2.2.1 j hlt
      have r0 : (E.getD (j * 1) []).getD (0 * 1) 0 = ea E j := by rw [Nat.mul_one]; rfl
      have r1 : (E.getD (j * 1) []).getD (1 * 1) 0 = eb E j := by rw [Nat.mul_one]; rfl
      have r2 : (E.getD (j * 1) []).length = 2 := by rw [Nat.mul_one]; exact g.1
      have g1 := g.2.1
      have n0 : ∀ a : Int, 0 ≤ a → a < w.length → kp K a.toNat = true → (atL K w.length w.length).getD (a.toNat * 1) 0 = num K a := fun a h1 h2 h3 => by
        rw [Nat.mul_one, atL_at (by omega), if_pos ⟨by omega, h3⟩]; rfl
      have e3 : kE E K (j + 1) = if kp K (ea E j).toNat && kp K (eb E j).toNat then kE E K j ++ [[num K (ea E j), num K (eb E j)]] else kE E K j := rfl
      have n1 := n0 (ea E j) (by omega) (by omega)
      have n2 := n0 (eb E j) (by omega) (by omega)
      have kp0 : kp K (ea E j).toNat = K.getD ((ea E j).toNat * 1) false := by rw [Nat.mul_one]; rfl
      have kp1 : kp K (eb E j).toNat = K.getD ((eb E j).toNat * 1) false := by rw [Nat.mul_one]; rfl
      rw [← r0, ← r1] at g1 e3
      rw [← r0] at n1 kp0
      rw [← r1] at n2 kp1
      rw [kp0] at n1 e3
      rw [kp1] at n2 e3
      clear n0 kp0 kp1 r0 r1 g
      generalize atL K w.length w.length = A at *
      generalize hkE : kE E K j = B at *
      cases hk0 : K.getD (((E.getD (j * 1) []).getD (0 * 1) 0).toNat * 1) false with
      | false =>
        rw [hk0] at e3
        simp only [Bool.false_and, Bool.false_eq_true, if_false] at e3
        clear n1 n2
        repeat' (first | (guard_target =~ WpA _ _ _ _ _ _; first | refine WpA.seq ?_ | refine WpA.drawU ?_ | refine WpA.regionU ?_ | refine WpA.block ?_ | refine WpA.ret ?_ | refine WpA.skip ?_ | refine WpA.exit ?_ | refine WpA.cond_true rfl ?_ | refine WpA.cond_false rfl ?_ | refine WpA.cond_ntrue rfl ?_ | refine WpA.cond_dec rfl (fun _ => ?_) (fun _ => ?_) | refine WpA.cond_not rfl (fun _ => ?_) (fun _ => ?_) | refine WpA.cond rfl (fun _ => ?_) (fun _ => ?_)) | (guard_target =~ RunU _ _ _ _ [] _ _ _ _; first | refine RunU.nilL ?_ | refine RunU.nilD (by kernel_rfl) ?_) | (guard_target =~ RunU _ _ _ _ (Oper.mk _ _ _ _ _ none :: _) _ _ _ _; refine RunU.cons step_any ?_) | (guard_target =~ RunU _ _ _ _ (Oper.mk _ _ _ _ _ (some _) :: _) _ _ _ _; first | refine RunU.pass rfl rfl rfl rfl ?_ | refine RunU.pass_undef rfl rfl rfl ?_ | refine RunU.doit rfl rfl step_any ?_ | ((fail_if_success (refine RunU.doit (rd := []) (up := []) rfl rfl ?_ ?_)); first | refine RunU.guard_dec rfl rfl (fun _ => ?_) (fun _ => ?_) | refine RunU.guard_not rfl rfl (fun _ => ?_) (fun _ => ?_) | refine RunU.guard rfl rfl (fun _ => ?_) (fun _ => ?_))) | refine Then.next ?_ | refine InBlock.next ?_ | refine Done.ret (.cell inferInstance rfl rfl .nil) (.sh (.sh .nil)) ?_ rfl)
        all_goals try (exfalso; simp_all; done)
        all_goals try (exfalso; omega)
        exact ⟨j + 1, by omega, ⟨_, rfl, rfl, rfl, by rw [e3]; rfl, rfl, rfl, int_eq (by omega), trivial⟩, by omega⟩
      | true =>
        have n1' := n1 hk0
        cases hk1 : K.getD (((E.getD (j * 1) []).getD (1 * 1) 0).toNat * 1) false with
        | false =>
          rw [hk0, hk1] at e3
          simp only [Bool.and_false, Bool.false_eq_true, if_false] at e3
          clear n1 n2 n1'
          repeat' (first | (guard_target =~ WpA _ _ _ _ _ _; first | refine WpA.seq ?_ | refine WpA.drawU ?_ | refine WpA.regionU ?_ | refine WpA.block ?_ | refine WpA.ret ?_ | refine WpA.skip ?_ | refine WpA.exit ?_ | refine WpA.cond_true rfl ?_ | refine WpA.cond_false rfl ?_ | refine WpA.cond_ntrue rfl ?_ | refine WpA.cond_dec rfl (fun _ => ?_) (fun _ => ?_) | refine WpA.cond_not rfl (fun _ => ?_) (fun _ => ?_) | refine WpA.cond rfl (fun _ => ?_) (fun _ => ?_)) | (guard_target =~ RunU _ _ _ _ [] _ _ _ _; first | refine RunU.nilL ?_ | refine RunU.nilD (by kernel_rfl) ?_) | (guard_target =~ RunU _ _ _ _ (Oper.mk _ _ _ _ _ none :: _) _ _ _ _; refine RunU.cons step_any ?_) | (guard_target =~ RunU _ _ _ _ (Oper.mk _ _ _ _ _ (some _) :: _) _ _ _ _; first | refine RunU.pass rfl rfl rfl rfl ?_ | refine RunU.pass_undef rfl rfl rfl ?_ | refine RunU.doit rfl rfl step_any ?_ | ((fail_if_success (refine RunU.doit (rd := []) (up := []) rfl rfl ?_ ?_)); first | refine RunU.guard_dec rfl rfl (fun _ => ?_) (fun _ => ?_) | refine RunU.guard_not rfl rfl (fun _ => ?_) (fun _ => ?_) | refine RunU.guard rfl rfl (fun _ => ?_) (fun _ => ?_))) | refine Then.next ?_ | refine InBlock.next ?_ | refine Done.ret (.cell inferInstance rfl rfl .nil) (.sh (.sh .nil)) ?_ rfl)
          all_goals try (exfalso; simp_all; done)
          all_goals try (exfalso; omega)
          exact ⟨j + 1, by omega, ⟨_, rfl, rfl, rfl, by rw [e3]; rfl, rfl, rfl, int_eq (by omega), trivial⟩, by omega⟩
        | true =>
          have n2' := n2 hk1
          rw [hk0, hk1] at e3
          simp only [Bool.and_self, if_true] at e3
          rw [← n1', ← n2'] at e3
          clear n1 n2 n1' n2'
          repeat' (first | (guard_target =~ WpA _ _ _ _ _ _; first | refine WpA.seq ?_ | refine WpA.drawU ?_ | refine WpA.regionU ?_ | refine WpA.block ?_ | refine WpA.ret ?_ | refine WpA.skip ?_ | refine WpA.exit ?_ | refine WpA.cond_true rfl ?_ | refine WpA.cond_false rfl ?_ | refine WpA.cond_ntrue rfl ?_ | refine WpA.cond_dec rfl (fun _ => ?_) (fun _ => ?_) | refine WpA.cond_not rfl (fun _ => ?_) (fun _ => ?_) | refine WpA.cond rfl (fun _ => ?_) (fun _ => ?_)) | (guard_target =~ RunU _ _ _ _ [] _ _ _ _; first | refine RunU.nilL ?_ | refine RunU.nilD (by kernel_rfl) ?_) | (guard_target =~ RunU _ _ _ _ (Oper.mk _ _ _ _ _ none :: _) _ _ _ _; refine RunU.cons step_any ?_) | (guard_target =~ RunU _ _ _ _ (Oper.mk _ _ _ _ _ (some _) :: _) _ _ _ _; first | refine RunU.pass rfl rfl rfl rfl ?_ | refine RunU.pass_undef rfl rfl rfl ?_ | refine RunU.doit rfl rfl step_any ?_ | ((fail_if_success (refine RunU.doit (rd := []) (up := []) rfl rfl ?_ ?_)); first | refine RunU.guard_dec rfl rfl (fun _ => ?_) (fun _ => ?_) | refine RunU.guard_not rfl rfl (fun _ => ?_) (fun _ => ?_) | refine RunU.guard rfl rfl (fun _ => ?_) (fun _ => ?_))) | refine Then.next ?_ | refine InBlock.next ?_ | refine Done.ret (.cell inferInstance rfl rfl .nil) (.sh (.sh .nil)) ?_ rfl)
          all_goals try (exfalso; simp_all; done)
          all_goals try (exfalso; omega)
          exact ⟨j + 1, by omega, ⟨_, rfl, rfl, rfl, by rw [e3]; rfl, rfl, rfl, int_eq (by omega), trivial⟩, by omega⟩
    · have ej : j = E.length := by omega
      subst ej
      repeat' (first | (guard_target =~ WpA _ _ _ _ _ _; first | refine WpA.seq ?_ | refine WpA.drawU ?_ | refine WpA.regionU ?_ | refine WpA.block ?_ | refine WpA.ret ?_ | refine WpA.skip ?_ | refine WpA.exit ?_ | refine WpA.cond_true rfl ?_ | refine WpA.cond_false rfl ?_ | refine WpA.cond_ntrue rfl ?_ | refine WpA.cond_dec rfl (fun _ => ?_) (fun _ => ?_) | refine WpA.cond_not rfl (fun _ => ?_) (fun _ => ?_) | refine WpA.cond rfl (fun _ => ?_) (fun _ => ?_)) | (guard_target =~ RunU _ _ _ _ [] _ _ _ _; first | refine RunU.nilL ?_ | refine RunU.nilD (by kernel_rfl) ?_) | (guard_target =~ RunU _ _ _ _ (Oper.mk _ _ _ _ _ none :: _) _ _ _ _; refine RunU.cons step_any ?_) | (guard_target =~ RunU _ _ _ _ (Oper.mk _ _ _ _ _ (some _) :: _) _ _ _ _; first | refine RunU.pass rfl rfl rfl rfl ?_ | refine RunU.pass_undef rfl rfl rfl ?_ | refine RunU.doit rfl rfl step_any ?_ | ((fail_if_success (refine RunU.doit (rd := []) (up := []) rfl rfl ?_ ?_)); first | refine RunU.guard_dec rfl rfl (fun _ => ?_) (fun _ => ?_) | refine RunU.guard_not rfl rfl (fun _ => ?_) (fun _ => ?_) | refine RunU.guard rfl rfl (fun _ => ?_) (fun _ => ?_))) | refine Then.next ?_ | refine InBlock.next ?_ | refine Done.ret (.cell inferInstance rfl rfl .nil) (.sh (.sh .nil)) ?_ rfl)
      all_goals try (exfalso; omega)
      all_goals rfl
theorem setDet_c (w : List Int) (E : List (List Int)) (K : List Bool) (hg : IsGr w E) (hK : K.length = w.length) : CallA Try.prog 70 [aGr w E, aBs K] [rI (if kW w K w.length = [] then 1 else (detI (kW w K w.length) (kE E K E.length)).1), rB (if kW w K w.length = [] then true else (detI (kW w K w.length) (kE E K E.length)).2)] [] := by
  have hlen := hg.1
  have hS := subgraph_c w E K hg hK
  have hgr := sub_gr (K := K) hg
  generalize kW w K w.length = W at *
  generalize kE E K E.length = F at *
  by_cases h0 : W = []
  · rw [if_pos h0, if_pos h0]
    subst h0
    refine callA_of _ Try.func70 rfl Try.ntmps70 (by first | exact ⟨rfl, rfl⟩ | (simp only [List.all_cons, List.all_nil, V.solid, D.solid, D.solids, solids_ints, solids_bools, solids_LL, Bool.and_self, Bool.and_true, and_self]; done) | simp [V.solid, D.solid, D.solids, solids_lits, solids_ints, solids_bools, solids_LL]) ?_
    repeat' (first | (guard_target =~ WpA _ _ _ _ _ _; first | refine WpA.seq ?_ | refine WpA.drawU ?_ | refine WpA.regionU ?_ | refine WpA.block ?_ | refine WpA.ret ?_ | refine WpA.skip ?_ | refine WpA.exit ?_ | refine WpA.cond_true rfl ?_ | refine WpA.cond_false rfl ?_ | refine WpA.cond_ntrue rfl ?_ | refine WpA.cond_dec rfl (fun _ => ?_) (fun _ => ?_) | refine WpA.cond_not rfl (fun _ => ?_) (fun _ => ?_) | refine WpA.cond rfl (fun _ => ?_) (fun _ => ?_)) | (guard_target =~ RunU _ _ _ _ [] _ _ _ _; first | refine RunU.nilL ?_ | refine RunU.nilD (by kernel_rfl) ?_) | (guard_target =~ RunU _ _ _ _ (Oper.mk _ (Op.call ⟨Callee.value _, _, _⟩) _ _ _ none :: _) _ _ _ _; first | refine RunU.cons (step_call (hS) (.sh (.sh .nil)) (.shAgg rfl aggs_any (.sh shows_any .nil)) rfl) ?_) | (guard_target =~ RunU _ _ _ _ (Oper.mk _ _ _ _ _ none :: _) _ _ _ _; refine RunU.cons step_any ?_) | refine Then.next ?_ | refine InBlock.next ?_ | refine Done.ret (.one (by first | exact .c rfl | exact .own rfl | exact .als rfl rfl | exact .ptr rfl rfl | exact .part rfl rfl rfl) (.one (by first | exact .c rfl | exact .own rfl | exact .als rfl rfl | exact .ptr rfl rfl | exact .part rfl rfl rfl) .nil)) (.sh (.sh .nil)) ?_ rfl)
    all_goals first | rfl | (exfalso; simp_all; done) | (exfalso; omega)
  · have hl : 0 < W.length := List.length_pos_iff.2 h0
    rw [if_neg h0, if_neg h0]
    have hD := determinant_c W F (hgr h0)
    refine callA_of _ Try.func70 rfl Try.ntmps70 (by first | exact ⟨rfl, rfl⟩ | (simp only [List.all_cons, List.all_nil, V.solid, D.solid, D.solids, solids_ints, solids_bools, solids_LL, Bool.and_self, Bool.and_true, and_self]; done) | simp [V.solid, D.solid, D.solids, solids_lits, solids_ints, solids_bools, solids_LL]) ?_
    repeat' (first | (guard_target =~ WpA _ _ _ _ _ _; first | refine WpA.seq ?_ | refine WpA.drawU ?_ | refine WpA.regionU ?_ | refine WpA.block ?_ | refine WpA.ret ?_ | refine WpA.skip ?_ | refine WpA.exit ?_ | refine WpA.cond_true rfl ?_ | refine WpA.cond_false rfl ?_ | refine WpA.cond_ntrue rfl ?_ | refine WpA.cond_dec rfl (fun _ => ?_) (fun _ => ?_) | refine WpA.cond_not rfl (fun _ => ?_) (fun _ => ?_) | refine WpA.cond rfl (fun _ => ?_) (fun _ => ?_)) | (guard_target =~ RunU _ _ _ _ [] _ _ _ _; first | refine RunU.nilL ?_ | refine RunU.nilD (by kernel_rfl) ?_) | (guard_target =~ RunU _ _ _ _ (Oper.mk _ (Op.call ⟨Callee.value _, _, _⟩) _ _ _ none :: _) _ _ _ _; first | refine RunU.cons (step_call (hS) (.sh (.sh .nil)) (.shAgg rfl aggs_any (.sh shows_any .nil)) rfl) ?_ | refine RunU.cons (step_call (hD) (.sh .nil) (.shAgg rfl aggs_any .nil) rfl) ?_) | (guard_target =~ RunU _ _ _ _ (Oper.mk _ _ _ _ _ none :: _) _ _ _ _; refine RunU.cons step_any ?_) | refine Then.next ?_ | refine InBlock.next ?_ | refine Done.ret (.one (by first | exact .c rfl | exact .own rfl | exact .als rfl rfl | exact .ptr rfl rfl | exact .part rfl rfl rfl) (.one (by first | exact .c rfl | exact .own rfl | exact .als rfl rfl | exact .ptr rfl rfl | exact .part rfl rfl rfl) .nil)) (.sh (.sh .nil)) ?_ rfl)
    all_goals first | rfl | (exfalso; omega)
end Go.Proofs.Ythfdelcopmmblaa
