/- The law on the spectra of powers: the program answers as its reference does, for every input. No condition. -/
import Derived.Test.YtnkdoilpofboeaaSqB
import Derived.Test.YtnkdoilpofboeaaRows
namespace Go.Proofs.Ytnkdoilpofboeaa
set_option maxHeartbeats 2000000
set_option linter.unusedVariables false
set_option linter.unusedSimpArgs false
open Go.Pv
open Go.ChangeShapes Go.WideShapes Go.ChangeAt Go.RowKit
attribute [local irreducible] RunU WpA Step CallG Done
theorem own : ownKnob Try.prog.godebug = none := by kernel_rfl
theorem laidOut : laidOutB Try.prog = true := by kernel_rfl
theorem implPower_c (a b : Int) : CallA Try.prog 54 [aI a, aI b] [rSp (pwB a b) (pwS a b), rI (pwC a b)] [] := by
  refine callA_of _ Try.func54 rfl Try.ntmps54 (by first | exact ⟨rfl, rfl⟩ | (simp only [List.all_cons, List.all_nil, V.solid, D.solid, D.solids, solids_ints, solids_LL, Bool.and_self, Bool.and_true, and_self]; done) | simp [V.solid, D.solid, D.solids, solids_lits, solids_ints, solids_LL]) ?_
  by_cases hk : pwIn a b
  · have hk' := hk
    unfold pwIn at hk'
    have hlen := pwL_len hk
    have htops := pwL_tops hk
    obtain ⟨f1, f2, f3, f4, f5, f6⟩ := cmu_facts (a := a) (b := b) (by omega) (by omega)
    have hcb := mul_bnd (x := a) (y := b / (Int.gcd a b : Int)) (by omega) (by omega) (by omega) (by omega)
    have hc100 : cmu a b ≤ 10000 := by
      have := Int.mul_le_mul (show a ≤ 100 by omega) (show b / (Int.gcd a b : Int) ≤ 100 by omega) (by omega) (by omega)
      omega
    have hcp : 0 < cmu a b := by
      rw [f1]; exact Int.mul_pos (by omega) f3
    have hab : 0 ≤ (a - 1) * (b - 1) ∧ (a - 1) * (b - 1) ≤ 9801 := by
      refine ⟨Int.mul_nonneg (by omega) (by omega), ?_⟩
      have := Int.mul_le_mul (show a - 1 ≤ 99 by omega) (show b - 1 ≤ 99 by omega) (by omega) (by omega)
      omega
    have d1 : ∀ i : Int, i * cmu a b / a = i * (b / (Int.gcd a b : Int)) := fun i => Int.ediv_eq_of_eq_mul_right (by omega) (by rw [f1, Int.mul_left_comm])
    have d2 : ∀ i : Int, i * cmu a b / b = i * (a / (Int.gcd a b : Int)) := fun i => Int.ediv_eq_of_eq_mul_right (by omega) (by rw [f2, Int.mul_left_comm])
    have hmake := limited_c (cmu a b) (pwL a b) hcp (by omega) (by omega) htops
    rw [(make_eq (cmu a b) (pwL a b)).1, (make_eq (cmu a b) (pwL a b)).2] at hmake
    have hcom := multiple_c a b (by omega) (by omega)
    rw [show a / (Int.gcd a b : Int) * b = cmu a b from rfl] at hcom
    generalize hu : b / (Int.gcd a b : Int) = u at *
    generalize hv : a / (Int.gcd a b : Int) = v at *
    have hL : pwL a b = pcell u v (b - 1).toNat (a - 1).toNat 0 := by rw [pwL, hu, hv]
    generalize hc : cmu a b = c at *
    repeat' (first
        | (guard_target =~ WpA _ _ _ _ _ _; first
          | refine WpA.seq ?_
          | refine WpA.drawU ?_
          | refine WpA.regionU ?_
          | refine WpA.block ?_
          | refine WpA.ret ?_
          | refine WpA.skip ?_
          | refine WpA.exit ?_
          | refine WpA.cond_true rfl ?_
          | refine WpA.cond_false rfl ?_
          | refine WpA.cond_ntrue rfl ?_
          | refine WpA.cond_dec rfl (fun _ => ?_) (fun _ => ?_)
          | refine WpA.cond_not rfl (fun _ => ?_) (fun _ => ?_)
          | refine WpA.cond rfl (fun _ => ?_) (fun _ => ?_)
          )
        | (guard_target =~ RunU _ _ _ _ [] _ _ _ _; first
          | refine RunU.nilL ?_
          | refine RunU.nilD (by kernel_rfl) ?_
          )
        | (guard_target =~ RunU _ _ _ _ (Oper.mk _ _ _ _ _ none :: _) _ _ _ _; first
          | refine RunU.cons (step_call (inRange_c _ _ _) (.sh (.sh (.sh .nil))) (.sh shows_any (.sh shows_any (.sh shows_any .nil))) rfl) ?_
          | refine RunU.cons (step_call (hcom) (.sh (.sh .nil)) (.sh shows_any (.sh shows_any .nil)) rfl) ?_
          | refine RunU.cons step_any ?_
          )
        | (guard_target =~ RunU _ _ _ _ (Oper.mk _ _ _ _ _ (some _) :: _) _ _ _ _; first
          | refine RunU.pass rfl rfl rfl rfl ?_
          | refine RunU.pass_undef rfl rfl rfl ?_
          | refine RunU.doit rfl rfl (step_call (inRange_c _ _ _) (.sh (.sh (.sh .nil))) (.sh shows_any (.sh shows_any (.sh shows_any .nil))) rfl) ?_
          | refine RunU.doit rfl rfl (step_call (hcom) (.sh (.sh .nil)) (.sh shows_any (.sh shows_any .nil)) rfl) ?_
          | refine RunU.doit rfl rfl step_any ?_
          | refine RunU.guard_dec rfl rfl (fun _ => ?_) (fun _ => ?_)
          | refine RunU.guard_not rfl rfl (fun _ => ?_) (fun _ => ?_)
          | refine RunU.guard rfl rfl (fun _ => ?_) (fun _ => ?_)
          )
        | refine Then.next ?_
        | refine InBlock.next ?_
        | refine Done.ret (.cell inferInstance rfl rfl (.one (by first | exact .c rfl | exact .own rfl | exact .als rfl rfl | exact .ptr rfl rfl | exact .part rfl rfl rfl) .nil)) (.sh (.sh .nil)) ?_ rfl
        | refine Done.normal (.cell inferInstance rfl rfl (.one (by first | exact .c rfl | exact .own rfl | exact .als rfl rfl | exact .ptr rfl rfl | exact .part rfl rfl rfl) .nil)) (.sh (.sh .nil)) ?_ rfl)
    all_goals try (exfalso; omega)
    case refine_2.refine_2 h1 h2 =>
      refine WpA.loop_slots2 (fun j id => [(0, vI a), (1, vI b), (4, .own 2 (.pt true [dI 0, dL []])), (5, vI 0), (6, vI c), (7, .own id (.sl true 1 (ints (pcell u v (b - 1).toNat j 0)))), (8, vI ((j : Int) + 1))]) (fun j => j ≤ (a - 1).toNat) (fun j => (a - 1).toNat - j) 0 _ (by omega) ⟨rfl, rfl, rfl, rfl, rfl, by exact own_ints (l := []) rfl, rfl, trivial⟩ ?_
      intro j id s nx hj
      by_cases hlt : j < (a - 1).toNat
      · repeat' (first
            | (guard_target =~ WpA _ _ _ _ _ _; first
              | refine WpA.seq ?_
              | refine WpA.drawU ?_
              | refine WpA.regionU ?_
              | refine WpA.block ?_
              | refine WpA.ret ?_
              | refine WpA.skip ?_
              | refine WpA.exit ?_
              | refine WpA.cond_true rfl ?_
              | refine WpA.cond_false rfl ?_
              | refine WpA.cond_ntrue rfl ?_
              | refine WpA.cond_dec rfl (fun _ => ?_) (fun _ => ?_)
              | refine WpA.cond_not rfl (fun _ => ?_) (fun _ => ?_)
              | refine WpA.cond rfl (fun _ => ?_) (fun _ => ?_)
              )
            | (guard_target =~ RunU _ _ _ _ [] _ _ _ _; first
              | refine RunU.nilL ?_
              | refine RunU.nilD (by kernel_rfl) ?_
              )
            | (guard_target =~ RunU _ _ _ _ (Oper.mk _ _ _ _ _ none :: _) _ _ _ _; first
              | refine RunU.cons step_any ?_
              )
            | (guard_target =~ RunU _ _ _ _ (Oper.mk _ _ _ _ _ (some _) :: _) _ _ _ _; first
              | refine RunU.pass rfl rfl rfl rfl ?_
              | refine RunU.pass_undef rfl rfl rfl ?_
              | refine RunU.doit rfl rfl step_any ?_
              | refine RunU.guard_dec rfl rfl (fun _ => ?_) (fun _ => ?_)
              | refine RunU.guard_not rfl rfl (fun _ => ?_) (fun _ => ?_)
              | refine RunU.guard rfl rfl (fun _ => ?_) (fun _ => ?_)
              )
            | refine Then.next ?_
            | refine InBlock.next ?_
            | refine Done.ret (.cell inferInstance rfl rfl (.one (by first | exact .c rfl | exact .own rfl | exact .als rfl rfl | exact .ptr rfl rfl | exact .part rfl rfl rfl) .nil)) (.sh (.sh .nil)) ?_ rfl
            | refine Done.normal (.cell inferInstance rfl rfl (.one (by first | exact .c rfl | exact .own rfl | exact .als rfl rfl | exact .ptr rfl rfl | exact .part rfl rfl rfl) .nil)) (.sh (.sh .nil)) ?_ rfl)
        all_goals try (exfalso; omega)
        refine WpA.loop_slots2 (fun q id => [(0, vI a), (1, vI b), (4, .own 2 (.pt true [dI 0, dL []])), (5, vI 0), (6, vI c), (7, .own id (.sl true 1 (ints (pcell u v (b - 1).toNat j q)))), (8, vI ((j : Int) + 1)), (9, vI ((q : Int) + 1))]) (fun q => q ≤ (b - 1).toNat) (fun q => (b - 1).toNat - q) 0 _ (by omega) ⟨rfl, rfl, rfl, rfl, rfl, by exact rfl, rfl, rfl, trivial⟩ ?_
        intro q id s nx hq
        have hpl := pcell_len u v (b - 1).toNat j q
        have e1 := mul_bnd (x := (j : Int) + 1) (y := u) (by omega) (by omega) (by omega) (by omega)
        have e2 := mul_bnd (x := (q : Int) + 1) (y := v) (by omega) (by omega) (by omega) (by omega)
        have e3 := mul_bnd (x := (j : Int) + 1) (y := c) (by omega) (by omega) (by omega) (by omega)
        have e4 := mul_bnd (x := (q : Int) + 1) (y := c) (by omega) (by omega) (by omega) (by omega)
        have hps : pcell u v (b - 1).toNat j q ++ [((j : Int) + 1) * c / a + ((q : Int) + 1) * c / b] = pcell u v (b - 1).toNat j (q + 1) := by rw [pcell_step, d1, d2]
        have hjm : j * (b - 1).toNat ≤ 99 * 99 := Nat.mul_le_mul (by omega) (by omega)
        rw [← d1] at e1
        rw [← d2] at e2
        repeat' (first
            | (guard_target =~ WpA _ _ _ _ _ _; first
              | refine WpA.seq ?_
              | refine WpA.drawU ?_
              | refine WpA.regionU ?_
              | refine WpA.block ?_
              | refine WpA.ret ?_
              | refine WpA.skip ?_
              | refine WpA.exit ?_
              | refine WpA.cond_true rfl ?_
              | refine WpA.cond_false rfl ?_
              | refine WpA.cond_ntrue rfl ?_
              | refine WpA.cond_dec rfl (fun _ => ?_) (fun _ => ?_)
              | refine WpA.cond_not rfl (fun _ => ?_) (fun _ => ?_)
              | refine WpA.cond rfl (fun _ => ?_) (fun _ => ?_)
              )
            | (guard_target =~ RunU _ _ _ _ [] _ _ _ _; first
              | refine RunU.nilL ?_
              | refine RunU.nilD (by kernel_rfl) ?_
              )
            | (guard_target =~ RunU _ _ _ _ (Oper.mk _ _ _ _ _ none :: _) _ _ _ _; first
              | refine RunU.cons step_any ?_
              )
            | (guard_target =~ RunU _ _ _ _ (Oper.mk _ _ _ _ _ (some _) :: _) _ _ _ _; first
              | refine RunU.pass rfl rfl rfl rfl ?_
              | refine RunU.pass_undef rfl rfl rfl ?_
              | refine RunU.doit rfl rfl step_any ?_
              | refine RunU.guard_dec rfl rfl (fun _ => ?_) (fun _ => ?_)
              | refine RunU.guard_not rfl rfl (fun _ => ?_) (fun _ => ?_)
              | refine RunU.guard rfl rfl (fun _ => ?_) (fun _ => ?_)
              )
            | refine Then.next ?_
            | refine InBlock.next ?_
            | refine Done.ret (.cell inferInstance rfl rfl (.one (by first | exact .c rfl | exact .own rfl | exact .als rfl rfl | exact .ptr rfl rfl | exact .part rfl rfl rfl) .nil)) (.sh (.sh .nil)) ?_ rfl
            | refine Done.normal (.cell inferInstance rfl rfl (.one (by first | exact .c rfl | exact .own rfl | exact .als rfl rfl | exact .ptr rfl rfl | exact .part rfl rfl rfl) .nil)) (.sh (.sh .nil)) ?_ rfl)
        case refine_1.refine_1 h6 h7 => exact ⟨q + 1, by omega, ⟨_, rfl, rfl, rfl, rfl, rfl, by exact own_ints hps, rfl, int_eq (by omega), trivial⟩, by omega⟩
        case refine_1.refine_2 h6 h7 =>
          have e : q = (b - 1).toNat := by omega
          subst e
          exact ⟨j + 1, by omega, ⟨_, rfl, rfl, rfl, rfl, rfl, by exact own_ints (pcell_row u v _ j).symm, int_eq (by omega), trivial⟩, by omega⟩
      · have e : j = (a - 1).toNat := by omega
        subst e
        rw [hL] at hmake
        repeat' (first
            | (guard_target =~ WpA _ _ _ _ _ _; first
              | refine WpA.seq ?_
              | refine WpA.drawU ?_
              | refine WpA.regionU ?_
              | refine WpA.block ?_
              | refine WpA.ret ?_
              | refine WpA.skip ?_
              | refine WpA.exit ?_
              | refine WpA.cond_true rfl ?_
              | refine WpA.cond_false rfl ?_
              | refine WpA.cond_ntrue rfl ?_
              | refine WpA.cond_dec rfl (fun _ => ?_) (fun _ => ?_)
              | refine WpA.cond_not rfl (fun _ => ?_) (fun _ => ?_)
              | refine WpA.cond rfl (fun _ => ?_) (fun _ => ?_)
              )
            | (guard_target =~ RunU _ _ _ _ [] _ _ _ _; first
              | refine RunU.nilL ?_
              | refine RunU.nilD (by kernel_rfl) ?_
              )
            | (guard_target =~ RunU _ _ _ _ (Oper.mk _ _ _ _ _ none :: _) _ _ _ _; first
              | refine RunU.cons (step_call (hmake) (.sh (.sh .nil)) (.sh shows_any (.sh shows_any .nil)) rfl) ?_
              | refine RunU.cons step_any ?_
              )
            | (guard_target =~ RunU _ _ _ _ (Oper.mk _ _ _ _ _ (some _) :: _) _ _ _ _; first
              | refine RunU.pass rfl rfl rfl rfl ?_
              | refine RunU.pass_undef rfl rfl rfl ?_
              | refine RunU.doit rfl rfl (step_call (hmake) (.sh (.sh .nil)) (.sh shows_any (.sh shows_any .nil)) rfl) ?_
              | refine RunU.doit rfl rfl step_any ?_
              | refine RunU.guard_dec rfl rfl (fun _ => ?_) (fun _ => ?_)
              | refine RunU.guard_not rfl rfl (fun _ => ?_) (fun _ => ?_)
              | refine RunU.guard rfl rfl (fun _ => ?_) (fun _ => ?_)
              )
            | refine Then.next ?_
            | refine InBlock.next ?_
            | refine Done.ret (.cell inferInstance rfl rfl (.one (by first | exact .c rfl | exact .own rfl | exact .als rfl rfl | exact .ptr rfl rfl | exact .part rfl rfl rfl) .nil)) (.sh (.sh .nil)) ?_ rfl
            | refine Done.normal (.cell inferInstance rfl rfl (.one (by first | exact .c rfl | exact .own rfl | exact .als rfl rfl | exact .ptr rfl rfl | exact .part rfl rfl rfl) .nil)) (.sh (.sh .nil)) ?_ rfl)
        all_goals try (exfalso; omega)
        simp only [pwB, pwS, pwC, if_pos hk, hc, hL]
        rfl
  · have hk' := hk
    unfold pwIn at hk'
    repeat' (first
        | (guard_target =~ WpA _ _ _ _ _ _; first
          | refine WpA.seq ?_
          | refine WpA.drawU ?_
          | refine WpA.regionU ?_
          | refine WpA.block ?_
          | refine WpA.ret ?_
          | refine WpA.skip ?_
          | refine WpA.exit ?_
          | refine WpA.cond_true rfl ?_
          | refine WpA.cond_false rfl ?_
          | refine WpA.cond_ntrue rfl ?_
          | refine WpA.cond_dec rfl (fun _ => ?_) (fun _ => ?_)
          | refine WpA.cond_not rfl (fun _ => ?_) (fun _ => ?_)
          | refine WpA.cond rfl (fun _ => ?_) (fun _ => ?_)
          )
        | (guard_target =~ RunU _ _ _ _ [] _ _ _ _; first
          | refine RunU.nilL ?_
          | refine RunU.nilD (by kernel_rfl) ?_
          )
        | (guard_target =~ RunU _ _ _ _ (Oper.mk _ _ _ _ _ none :: _) _ _ _ _; first
          | refine RunU.cons (step_call (inRange_c _ _ _) (.sh (.sh (.sh .nil))) (.sh shows_any (.sh shows_any (.sh shows_any .nil))) rfl) ?_
          | refine RunU.cons step_any ?_
          )
        | (guard_target =~ RunU _ _ _ _ (Oper.mk _ _ _ _ _ (some _) :: _) _ _ _ _; first
          | refine RunU.pass rfl rfl rfl rfl ?_
          | refine RunU.pass_undef rfl rfl rfl ?_
          | refine RunU.doit rfl rfl (step_call (inRange_c _ _ _) (.sh (.sh (.sh .nil))) (.sh shows_any (.sh shows_any (.sh shows_any .nil))) rfl) ?_
          | refine RunU.doit rfl rfl step_any ?_
          | refine RunU.guard_dec rfl rfl (fun _ => ?_) (fun _ => ?_)
          | refine RunU.guard_not rfl rfl (fun _ => ?_) (fun _ => ?_)
          | refine RunU.guard rfl rfl (fun _ => ?_) (fun _ => ?_)
          )
        | refine Then.next ?_
        | refine InBlock.next ?_
        | refine Done.ret (.cell inferInstance rfl rfl (.one (by first | exact .c rfl | exact .own rfl | exact .als rfl rfl | exact .ptr rfl rfl | exact .part rfl rfl rfl) .nil)) (.sh (.sh .nil)) ?_ rfl
        | refine Done.normal (.cell inferInstance rfl rfl (.one (by first | exact .c rfl | exact .own rfl | exact .als rfl rfl | exact .ptr rfl rfl | exact .part rfl rfl rfl) .nil)) (.sh (.sh .nil)) ?_ rfl)
    all_goals try (exfalso; omega)
    all_goals simp only [pwB, pwS, pwC, if_neg hk]
    all_goals rfl
theorem mkS_len (b : Int) (l : List Int) : (mkS b l).length ≤ 400 := by
  unfold mkS
  split
  · simp
  · rw [insTo_len]; omega
theorem pwS_len (a b : Int) : (pwS a b).length ≤ 400 := by
  unfold pwS
  split
  · exact mkS_len _ _
  · simp
instance fnOk14 : FnOk Try.prog 14 := ⟨_, Try.func14, rfl, by decide⟩
theorem lawPower_c (a b : Int) : CallA Try.prog 14 [aI a, aI b] [rB true] [] := by
  refine callA_of _ Try.func14 rfl Try.ntmps14 (by first | exact ⟨rfl, rfl⟩ | (simp only [List.all_cons, List.all_nil, V.solid, D.solid, D.solids, solids_ints, solids_LL, Bool.and_self, Bool.and_true, and_self]; done) | simp [V.solid, D.solid, D.solids, solids_lits, solids_ints, solids_LL]) ?_
  have hl := pwS_len a b
  have hml := marks_len 1 (pwS a b).length
  have hh := heldSpectrum_c (pwB a b) (marks 1 (pwS a b).length) 1 (by rw [hml]) (by omega) (by omega)
  rw [hml] at hh
  repeat' (first
      | (guard_target =~ WpA _ _ _ _ _ _; first
        | refine WpA.seq ?_
        | refine WpA.drawU ?_
        | refine WpA.regionU ?_
        | refine WpA.block ?_
        | refine WpA.ret ?_
        | refine WpA.skip ?_
        | refine WpA.exit ?_
        | refine WpA.cond_true rfl ?_
        | refine WpA.cond_false rfl ?_
        | refine WpA.cond_ntrue rfl ?_
        | refine WpA.cond_dec rfl (fun _ => ?_) (fun _ => ?_)
        | refine WpA.cond_not rfl (fun _ => ?_) (fun _ => ?_)
        | refine WpA.cond rfl (fun _ => ?_) (fun _ => ?_)
        )
      | (guard_target =~ RunU _ _ _ _ [] _ _ _ _; first
        | refine RunU.nilL ?_
        | refine RunU.nilD (by kernel_rfl) ?_
        )
      | (guard_target =~ RunU _ _ _ _ (Oper.mk _ _ _ _ _ none :: _) _ _ _ _; first
        | refine RunU.cons (step_call (specPower_c a b) (.sh (.sh .nil)) (.sh shows_any (.sh shows_any .nil)) rfl) ?_
        | refine RunU.cons (step_call (implPower_c a b) (.sh (.sh .nil)) (.sh shows_any (.sh shows_any .nil)) rfl) ?_
        | refine RunU.cons (step_call (eqSpectrum_c (pwB a b) (pwB a b) (pwS a b) (pwS a b) (by omega) (by omega)) (.sh (.sh .nil)) (.shAgg rfl aggs_any (.shAgg rfl aggs_any .nil)) rfl) ?_
        | refine RunU.cons (step_call_ia (markSpectrum_ia (pwB a b) (pwS a b) 1 (by omega) (by omega)) (by exact rfl) (by exact rfl) (by exact rfl) (by first | exact .nil | exact .cons rfl .nil) (by exact rfl) rfl) ?_
        | refine RunU.cons (step_call (hh) (.sh (.sh .nil)) (.shAgg rfl aggs_any (.sh shows_any .nil)) rfl) ?_
        | refine RunU.cons step_any ?_
        )
      | (guard_target =~ RunU _ _ _ _ (Oper.mk _ _ _ _ _ (some _) :: _) _ _ _ _; first
        | refine RunU.pass rfl rfl rfl rfl ?_
        | refine RunU.pass_undef rfl rfl rfl ?_
        | refine RunU.doit rfl rfl (step_call (specPower_c a b) (.sh (.sh .nil)) (.sh shows_any (.sh shows_any .nil)) rfl) ?_
        | refine RunU.doit rfl rfl (step_call (implPower_c a b) (.sh (.sh .nil)) (.sh shows_any (.sh shows_any .nil)) rfl) ?_
        | refine RunU.doit rfl rfl (step_call (eqSpectrum_c (pwB a b) (pwB a b) (pwS a b) (pwS a b) (by omega) (by omega)) (.sh (.sh .nil)) (.shAgg rfl aggs_any (.shAgg rfl aggs_any .nil)) rfl) ?_
        | refine RunU.doit rfl rfl (step_call_ia (markSpectrum_ia (pwB a b) (pwS a b) 1 (by omega) (by omega)) (by exact rfl) (by exact rfl) (by exact rfl) (by first | exact .nil | exact .cons rfl .nil) (by exact rfl) rfl) ?_
        | refine RunU.doit rfl rfl (step_call (hh) (.sh (.sh .nil)) (.shAgg rfl aggs_any (.sh shows_any .nil)) rfl) ?_
        | refine RunU.doit rfl rfl step_any ?_
        | refine RunU.guard_dec rfl rfl (fun _ => ?_) (fun _ => ?_)
        | refine RunU.guard_not rfl rfl (fun _ => ?_) (fun _ => ?_)
        | refine RunU.guard rfl rfl (fun _ => ?_) (fun _ => ?_)
        )
      | refine Then.next ?_
      | refine InBlock.next ?_
      | refine Done.ret (.one (by first | exact .c rfl | exact .own rfl | exact .als rfl rfl | exact .ptr rfl rfl | exact .part rfl rfl rfl) .nil) (.sh (.sh .nil)) ?_ rfl
      | refine Done.normal (.one (by first | exact .c rfl | exact .own rfl | exact .als rfl rfl | exact .ptr rfl rfl | exact .part rfl rfl rfl) .nil) (.sh (.sh .nil)) ?_ rfl)
  all_goals first | rfl | exact absurd rfl ‹_› | omega | (simp_all; done)
theorem sees_FnExactPowerSpectrum (xs : List Arg) (has : Sees Try.prog Try.f14.params.toList xs) : CallA Try.prog 14 xs [.one (.lit (.bool true))] [] := by
  rw [Try.params14] at has
  obtain ⟨a, xs, rfl, _, h⟩ := sees_int Try.underlying2 has
  obtain ⟨b, xs, rfl, _, h⟩ := sees_int Try.underlying2 h
  obtain rfl := sees_nil h
  exact lawPower_c a b
set_option maxRecDepth 100000 in
theorem lifted_FnExactPowerSpectrum (os : Os) (started : os.Started) (H : Type) (enc : TypeId × Value → H) :
    ReturnsInHanded {} Try.checked os 14 .any (Rows.fnExactPowerSpectrumSpec.pre6 enc Try.prog Try.f14 Rows.fnExactPowerSpectrumRow.domain false) (Rows.fnExactPowerSpectrumSpec.post enc Try.prog Try.f14 false true false false) := by
  refine returnsInHanded_of_change (C := Try.checked) own started (by kernel_rfl) Try.func14
    (ChangeSpec.witness6 (enc := enc) (C := Try.checked) false ⟨#[], #[.int .i64 0, .int .i64 0], []⟩ 8 (by kernel_rfl) (by kernel_rfl) (by kernel_rfl) (by kernel_rfl)) ?_
  intro W base args ds gs before hval hW _ _
  refine law_contract (P := Try.prog) laidOut (by kernel_rfl) rfl (by kernel_rfl) Try.underlying4 (fun ds h => ?_) sees_FnExactPowerSpectrum W base args ds gs before hval hW
  rw [Try.params14] at h
  match ds, h with
  | [_, _], _ => exact ⟨rfl, rfl, rfl⟩
/-- The law holds for every input. -/
theorem said_FnExactPowerSpectrum : Rows.FnExactPowerSpectrumSaid :=
  OpenClaim.holds_of_wide 14 Try.f14 rfl rfl rfl rfl rfl rfl rfl ⟨rfl, rfl, rfl, rfl, rfl⟩ rfl rfl rfl rfl rfl (by kernel_rfl) Try.func14 (by kernel_rfl)
    (of_decide_eq_true (by kernel_rfl)) (by unfold Func.isWrapper; first | (rw [if_pos (by decide +kernel)]; kernel_rfl) | (rw [if_neg (by decide +kernel)]; exact ⟨rfl, rfl⟩))
    (fun os started H enc _ => lifted_FnExactPowerSpectrum os started H enc)
end Go.Proofs.Ytnkdoilpofboeaa
