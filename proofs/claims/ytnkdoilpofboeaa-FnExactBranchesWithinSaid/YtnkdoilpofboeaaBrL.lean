/- The lists of branches within bounds: the program and its reference make the same list. No condition. -/
import Derived.Test.YtnkdoilpofboeaaBrD
import Derived.Test.YtnkdoilpofboeaaRows
namespace Go.Proofs.Ytnkdoilpofboeaa
open Go.Pv
open Go.ChangeShapes Go.WideShapes Go.ChangeAt Go.RowKit
attribute [local irreducible] RunU WpA Step CallG Done
theorem own : ownKnob Try.prog.godebug = none := by kernel_rfl
theorem laidOut : laidOutB Try.prog = true := by kernel_rfl
def brsIn (n t : Int) : List (List Int) := if (1 ≤ n ∧ n ≤ 8) ∧ (1 ≤ t ∧ t ≤ 20) then within 4 [n] n t else []
def brsCode (n t : Int) : Int := if (1 ≤ n ∧ n ≤ 8) ∧ (1 ≤ t ∧ t ≤ 20) then 0 else 2
theorem within_none {n t : Int} (h : t < n) (h1 : n ≠ 1) : within 4 [n] n t = [] := by
  have : (rng (lastOf [n] + 1) t).length = 0 := by rw [rng_len]; simp [lastOf]; omega
  rw [List.length_eq_zero_iff] at this
  simp only [within, if_neg h1, this, List.flatMap_nil]
theorem specWithin_c (n t : Int) : CallA Try.prog 35 [aI n, aI t] [rLL (brsIn n t), rI (brsCode n t)] [] := by
  refine callA_of _ Try.func35 rfl Try.ntmps35 (by first | exact ⟨rfl, rfl⟩ | (simp only [List.all_cons, List.all_nil, V.solid, D.solid, D.solids, solids_ints, solids_LL, Bool.and_self, Bool.and_true, and_self]; done) | simp [V.solid, D.solid, D.solids, solids_lits, solids_ints, solids_LL]) ?_
  by_cases hk : (1 ≤ n ∧ n ≤ 8) ∧ (1 ≤ t ∧ t ≤ 20)
  · by_cases hnt : n ≤ t
    · have hc := l19Within_c 4 [n] n t [] (by omega) (by omega) (by omega) (by omega) (by omega) (by simp [lastOf]; omega) (by simp [lastOf]; omega) (by simp) (by simp) (by simp)
      repeat' (first
          | (guard_target =~ WpA _ _ _ _ _ _; first
            | refine WpA.seq ?_
            | refine WpA.drawU ?_
            | refine WpA.regionU ?_
            | refine WpA.block ?_
            | refine WpA.ret ?_
            | refine WpA.skip ?_
            | refine WpA.exit ?_
            | refine WpA.cond_true rfl ?_
            | refine WpA.cond_false rfl ?_
            | refine WpA.cond_ntrue rfl ?_
            | refine WpA.cond_dec rfl (fun _ => ?_) (fun _ => ?_)
            | refine WpA.cond_not rfl (fun _ => ?_) (fun _ => ?_)
            | refine WpA.cond rfl (fun _ => ?_) (fun _ => ?_)
            )
          | (guard_target =~ RunU _ _ _ _ [] _ _ _ _; first
            | refine RunU.nilL ?_
            | refine RunU.nilD (by kernel_rfl) ?_
            )
          | (guard_target =~ RunU _ _ _ _ (Oper.mk _ _ _ _ _ none :: _) _ _ _ _; first
            | refine RunU.cons (step_call (l01In_c _ _ _) (.sh (.sh (.sh .nil))) (.sh shows_any (.sh shows_any (.sh shows_any .nil))) rfl) ?_
            | refine RunU.cons (step_call (hc) (.sh (.sh (.sh (.mv give_any .nil)))) (.sh shows_any (.sh shows_any (.sh shows_any (.mv .nil)))) rfl) ?_
            | refine RunU.cons step_any ?_
            )
          | (guard_target =~ RunU _ _ _ _ (Oper.mk _ _ _ _ _ (some _) :: _) _ _ _ _; first
            | refine RunU.pass rfl rfl rfl rfl ?_
            | refine RunU.pass_undef rfl rfl rfl ?_
            | refine RunU.doit rfl rfl (step_call (l01In_c _ _ _) (.sh (.sh (.sh .nil))) (.sh shows_any (.sh shows_any (.sh shows_any .nil))) rfl) ?_
            | refine RunU.doit rfl rfl (step_call (hc) (.sh (.sh (.sh (.mv give_any .nil)))) (.sh shows_any (.sh shows_any (.sh shows_any (.mv .nil)))) rfl) ?_
            | refine RunU.doit rfl rfl step_any ?_
            | refine RunU.guard_dec rfl rfl (fun _ => ?_) (fun _ => ?_)
            | refine RunU.guard_not rfl rfl (fun _ => ?_) (fun _ => ?_)
            | refine RunU.guard rfl rfl (fun _ => ?_) (fun _ => ?_)
            )
          | refine Then.next ?_
          | refine InBlock.next ?_
          | refine Done.ret (.one (by first | exact .c rfl | exact .own rfl | exact .als rfl rfl | exact .ptr rfl rfl | exact .part rfl rfl rfl) (.one (by first | exact .c rfl | exact .own rfl | exact .als rfl rfl | exact .ptr rfl rfl | exact .part rfl rfl rfl) .nil)) (.sh (.sh .nil)) ?_ rfl
          | refine Done.normal (.one (by first | exact .c rfl | exact .own rfl | exact .als rfl rfl | exact .ptr rfl rfl | exact .part rfl rfl rfl) (.one (by first | exact .c rfl | exact .own rfl | exact .als rfl rfl | exact .ptr rfl rfl | exact .part rfl rfl rfl) .nil)) (.sh (.sh .nil)) ?_ rfl)
      all_goals first | (exfalso; omega) | simp [brsIn, brsCode, hk]
    · have h1 := within_none (n := n) (t := t) (by omega) (by omega)
      repeat' (first
          | (guard_target =~ WpA _ _ _ _ _ _; first
            | refine WpA.seq ?_
            | refine WpA.drawU ?_
            | refine WpA.regionU ?_
            | refine WpA.block ?_
            | refine WpA.ret ?_
            | refine WpA.skip ?_
            | refine WpA.exit ?_
            | refine WpA.cond_true rfl ?_
            | refine WpA.cond_false rfl ?_
            | refine WpA.cond_ntrue rfl ?_
            | refine WpA.cond_dec rfl (fun _ => ?_) (fun _ => ?_)
            | refine WpA.cond_not rfl (fun _ => ?_) (fun _ => ?_)
            | refine WpA.cond rfl (fun _ => ?_) (fun _ => ?_)
            )
          | (guard_target =~ RunU _ _ _ _ [] _ _ _ _; first
            | refine RunU.nilL ?_
            | refine RunU.nilD (by kernel_rfl) ?_
            )
          | (guard_target =~ RunU _ _ _ _ (Oper.mk _ _ _ _ _ none :: _) _ _ _ _; first
            | refine RunU.cons (step_call (l01In_c _ _ _) (.sh (.sh (.sh .nil))) (.sh shows_any (.sh shows_any (.sh shows_any .nil))) rfl) ?_
            | refine RunU.cons step_any ?_
            )
          | (guard_target =~ RunU _ _ _ _ (Oper.mk _ _ _ _ _ (some _) :: _) _ _ _ _; first
            | refine RunU.pass rfl rfl rfl rfl ?_
            | refine RunU.pass_undef rfl rfl rfl ?_
            | refine RunU.doit rfl rfl (step_call (l01In_c _ _ _) (.sh (.sh (.sh .nil))) (.sh shows_any (.sh shows_any (.sh shows_any .nil))) rfl) ?_
            | refine RunU.doit rfl rfl step_any ?_
            | refine RunU.guard_dec rfl rfl (fun _ => ?_) (fun _ => ?_)
            | refine RunU.guard_not rfl rfl (fun _ => ?_) (fun _ => ?_)
            | refine RunU.guard rfl rfl (fun _ => ?_) (fun _ => ?_)
            )
          | refine Then.next ?_
          | refine InBlock.next ?_
          | refine Done.ret (.one (by first | exact .c rfl | exact .own rfl | exact .als rfl rfl | exact .ptr rfl rfl | exact .part rfl rfl rfl) (.one (by first | exact .c rfl | exact .own rfl | exact .als rfl rfl | exact .ptr rfl rfl | exact .part rfl rfl rfl) .nil)) (.sh (.sh .nil)) ?_ rfl
          | refine Done.normal (.one (by first | exact .c rfl | exact .own rfl | exact .als rfl rfl | exact .ptr rfl rfl | exact .part rfl rfl rfl) (.one (by first | exact .c rfl | exact .own rfl | exact .als rfl rfl | exact .ptr rfl rfl | exact .part rfl rfl rfl) .nil)) (.sh (.sh .nil)) ?_ rfl)
      all_goals first | (exfalso; omega) | simp [brsIn, brsCode, hk, h1]
  · repeat' (first
        | (guard_target =~ WpA _ _ _ _ _ _; first
          | refine WpA.seq ?_
          | refine WpA.drawU ?_
          | refine WpA.regionU ?_
          | refine WpA.block ?_
          | refine WpA.ret ?_
          | refine WpA.skip ?_
          | refine WpA.exit ?_
          | refine WpA.cond_true rfl ?_
          | refine WpA.cond_false rfl ?_
          | refine WpA.cond_ntrue rfl ?_
          | refine WpA.cond_dec rfl (fun _ => ?_) (fun _ => ?_)
          | refine WpA.cond_not rfl (fun _ => ?_) (fun _ => ?_)
          | refine WpA.cond rfl (fun _ => ?_) (fun _ => ?_)
          )
        | (guard_target =~ RunU _ _ _ _ [] _ _ _ _; first
          | refine RunU.nilL ?_
          | refine RunU.nilD (by kernel_rfl) ?_
          )
        | (guard_target =~ RunU _ _ _ _ (Oper.mk _ _ _ _ _ none :: _) _ _ _ _; first
          | refine RunU.cons (step_call (l01In_c _ _ _) (.sh (.sh (.sh .nil))) (.sh shows_any (.sh shows_any (.sh shows_any .nil))) rfl) ?_
          | refine RunU.cons step_any ?_
          )
        | (guard_target =~ RunU _ _ _ _ (Oper.mk _ _ _ _ _ (some _) :: _) _ _ _ _; first
          | refine RunU.pass rfl rfl rfl rfl ?_
          | refine RunU.pass_undef rfl rfl rfl ?_
          | refine RunU.doit rfl rfl (step_call (l01In_c _ _ _) (.sh (.sh (.sh .nil))) (.sh shows_any (.sh shows_any (.sh shows_any .nil))) rfl) ?_
          | refine RunU.doit rfl rfl step_any ?_
          | refine RunU.guard_dec rfl rfl (fun _ => ?_) (fun _ => ?_)
          | refine RunU.guard_not rfl rfl (fun _ => ?_) (fun _ => ?_)
          | refine RunU.guard rfl rfl (fun _ => ?_) (fun _ => ?_)
          )
        | refine Then.next ?_
        | refine InBlock.next ?_
        | refine Done.ret (.one (by first | exact .c rfl | exact .own rfl | exact .als rfl rfl | exact .ptr rfl rfl | exact .part rfl rfl rfl) (.one (by first | exact .c rfl | exact .own rfl | exact .als rfl rfl | exact .ptr rfl rfl | exact .part rfl rfl rfl) .nil)) (.sh (.sh .nil)) ?_ rfl
        | refine Done.normal (.one (by first | exact .c rfl | exact .own rfl | exact .als rfl rfl | exact .ptr rfl rfl | exact .part rfl rfl rfl) (.one (by first | exact .c rfl | exact .own rfl | exact .als rfl rfl | exact .ptr rfl rfl | exact .part rfl rfl rfl) .nil)) (.sh (.sh .nil)) ?_ rfl)
    all_goals first | (exfalso; omega) | (simp only [brsIn, brsCode, if_neg hk]; rfl)
theorem implWithin_c (n t : Int) : CallA Try.prog 36 [aI n, aI t] [rLL (brsIn n t), rI (brsCode n t)] [] := by
  refine callA_of _ Try.func36 rfl Try.ntmps36 (by first | exact ⟨rfl, rfl⟩ | (simp only [List.all_cons, List.all_nil, V.solid, D.solid, D.solids, solids_ints, solids_LL, Bool.and_self, Bool.and_true, and_self]; done) | simp [V.solid, D.solid, D.solids, solids_lits, solids_ints, solids_LL]) ?_
  have hdt : divTo [n] [n].length = (Int.gcd 0 n : Int) := rfl
  by_cases hk : (1 ≤ n ∧ n ≤ 8) ∧ (1 ≤ t ∧ t ≤ 20)
  · have hg : (Int.gcd 0 n : Int) = n := by rw [Int.gcd_zero_left]; omega
    have hc := bfrom_c 4 [n] t [] ⟨by simp, fun i => by cases i <;> simp <;> omega, fun i hi => by
      have : i = 0 := by simpa using hi
      subst this; simp; omega⟩ (by omega) (by omega) (by omega) (by simp [lastOf]; omega) (by simp) (by simp)
    rw [hdt, hg] at hc
    repeat' (first
        | (guard_target =~ WpA _ _ _ _ _ _; first
          | refine WpA.seq ?_
          | refine WpA.drawU ?_
          | refine WpA.regionU ?_
          | refine WpA.block ?_
          | refine WpA.ret ?_
          | refine WpA.skip ?_
          | refine WpA.exit ?_
          | refine WpA.cond_true rfl ?_
          | refine WpA.cond_false rfl ?_
          | refine WpA.cond_ntrue rfl ?_
          | refine WpA.cond_dec rfl (fun _ => ?_) (fun _ => ?_)
          | refine WpA.cond_not rfl (fun _ => ?_) (fun _ => ?_)
          | refine WpA.cond rfl (fun _ => ?_) (fun _ => ?_)
          )
        | (guard_target =~ RunU _ _ _ _ [] _ _ _ _; first
          | refine RunU.nilL ?_
          | refine RunU.nilD (by kernel_rfl) ?_
          )
        | (guard_target =~ RunU _ _ _ _ (Oper.mk _ _ _ _ _ none :: _) _ _ _ _; first
          | refine RunU.cons (step_call (inRange_c _ _ _) (.sh (.sh (.sh .nil))) (.sh shows_any (.sh shows_any (.sh shows_any .nil))) rfl) ?_
          | refine RunU.cons (step_call (hc) (.mv give_any (.sh (.sh .nil))) (.mv (.sh shows_any (.sh shows_any .nil))) rfl) ?_
          | refine RunU.cons step_any ?_
          )
        | (guard_target =~ RunU _ _ _ _ (Oper.mk _ _ _ _ _ (some _) :: _) _ _ _ _; first
          | refine RunU.pass rfl rfl rfl rfl ?_
          | refine RunU.pass_undef rfl rfl rfl ?_
          | refine RunU.doit rfl rfl (step_call (inRange_c _ _ _) (.sh (.sh (.sh .nil))) (.sh shows_any (.sh shows_any (.sh shows_any .nil))) rfl) ?_
          | refine RunU.doit rfl rfl (step_call (hc) (.mv give_any (.sh (.sh .nil))) (.mv (.sh shows_any (.sh shows_any .nil))) rfl) ?_
          | refine RunU.doit rfl rfl step_any ?_
          | refine RunU.guard_dec rfl rfl (fun _ => ?_) (fun _ => ?_)
          | refine RunU.guard_not rfl rfl (fun _ => ?_) (fun _ => ?_)
          | refine RunU.guard rfl rfl (fun _ => ?_) (fun _ => ?_)
          )
        | refine Then.next ?_
        | refine InBlock.next ?_
        | refine Done.ret (.one (by first | exact .c rfl | exact .own rfl | exact .als rfl rfl | exact .ptr rfl rfl | exact .part rfl rfl rfl) (.one (by first | exact .c rfl | exact .own rfl | exact .als rfl rfl | exact .ptr rfl rfl | exact .part rfl rfl rfl) .nil)) (.sh (.sh .nil)) ?_ rfl
        | refine Done.normal (.one (by first | exact .c rfl | exact .own rfl | exact .als rfl rfl | exact .ptr rfl rfl | exact .part rfl rfl rfl) (.one (by first | exact .c rfl | exact .own rfl | exact .als rfl rfl | exact .ptr rfl rfl | exact .part rfl rfl rfl) .nil)) (.sh (.sh .nil)) ?_ rfl)
    all_goals first | (exfalso; omega) | simp [brsIn, brsCode, hk]
  · repeat' (first
        | (guard_target =~ WpA _ _ _ _ _ _; first
          | refine WpA.seq ?_
          | refine WpA.drawU ?_
          | refine WpA.regionU ?_
          | refine WpA.block ?_
          | refine WpA.ret ?_
          | refine WpA.skip ?_
          | refine WpA.exit ?_
          | refine WpA.cond_true rfl ?_
          | refine WpA.cond_false rfl ?_
          | refine WpA.cond_ntrue rfl ?_
          | refine WpA.cond_dec rfl (fun _ => ?_) (fun _ => ?_)
          | refine WpA.cond_not rfl (fun _ => ?_) (fun _ => ?_)
          | refine WpA.cond rfl (fun _ => ?_) (fun _ => ?_)
          )
        | (guard_target =~ RunU _ _ _ _ [] _ _ _ _; first
          | refine RunU.nilL ?_
          | refine RunU.nilD (by kernel_rfl) ?_
          )
        | (guard_target =~ RunU _ _ _ _ (Oper.mk _ _ _ _ _ none :: _) _ _ _ _; first
          | refine RunU.cons (step_call (inRange_c _ _ _) (.sh (.sh (.sh .nil))) (.sh shows_any (.sh shows_any (.sh shows_any .nil))) rfl) ?_
          | refine RunU.cons step_any ?_
          )
        | (guard_target =~ RunU _ _ _ _ (Oper.mk _ _ _ _ _ (some _) :: _) _ _ _ _; first
          | refine RunU.pass rfl rfl rfl rfl ?_
          | refine RunU.pass_undef rfl rfl rfl ?_
          | refine RunU.doit rfl rfl (step_call (inRange_c _ _ _) (.sh (.sh (.sh .nil))) (.sh shows_any (.sh shows_any (.sh shows_any .nil))) rfl) ?_
          | refine RunU.doit rfl rfl step_any ?_
          | refine RunU.guard_dec rfl rfl (fun _ => ?_) (fun _ => ?_)
          | refine RunU.guard_not rfl rfl (fun _ => ?_) (fun _ => ?_)
          | refine RunU.guard rfl rfl (fun _ => ?_) (fun _ => ?_)
          )
        | refine Then.next ?_
        | refine InBlock.next ?_
        | refine Done.ret (.one (by first | exact .c rfl | exact .own rfl | exact .als rfl rfl | exact .ptr rfl rfl | exact .part rfl rfl rfl) (.one (by first | exact .c rfl | exact .own rfl | exact .als rfl rfl | exact .ptr rfl rfl | exact .part rfl rfl rfl) .nil)) (.sh (.sh .nil)) ?_ rfl
        | refine Done.normal (.one (by first | exact .c rfl | exact .own rfl | exact .als rfl rfl | exact .ptr rfl rfl | exact .part rfl rfl rfl) (.one (by first | exact .c rfl | exact .own rfl | exact .als rfl rfl | exact .ptr rfl rfl | exact .part rfl rfl rfl) .nil)) (.sh (.sh .nil)) ?_ rfl)
    all_goals first | (exfalso; omega) | (simp only [brsIn, brsCode, if_neg hk]; rfl)
theorem brsIn_len (n t : Int) : (brsIn n t).length ≤ 8000 := by
  unfold brsIn
  split
  · have := within_len 4 [n] n t (by omega) (by omega) (by simp [lastOf]; omega) (by omega)
    omega
  · simp
theorem brsIn_row (n t : Int) (i : Nat) : ((brsIn n t).getD i []).length ≤ 1000 := by
  by_cases hi : i < (brsIn n t).length
  · have hm : (brsIn n t)[i] ∈ brsIn n t := List.getElem_mem hi
    rw [List.getD_eq_getElem?_getD, List.getElem?_eq_getElem hi, Option.getD_some]
    generalize (brsIn n t)[i] = x at hm
    unfold brsIn at hm
    split at hm
    · have := within_row 4 _ _ _ x hm
      simp at this; omega
    · simp at hm
  · rw [List.getD_eq_getElem?_getD, List.getElem?_eq_none (by omega)]
    simp
set_option maxHeartbeats 8000000 in
theorem lawWithin_c (n t : Int) : CallA Try.prog 10 [aI n, aI t] [rB true] [] := by
  refine callA_of _ Try.func10 rfl Try.ntmps10 (by first | exact ⟨rfl, rfl⟩ | (simp only [List.all_cons, List.all_nil, V.solid, D.solid, D.solids, solids_ints, solids_LL, Bool.and_self, Bool.and_true, and_self]; done) | simp [V.solid, D.solid, D.solids, solids_lits, solids_ints, solids_LL]) ?_
  have h1 := brsIn_len n t
  have h2 := brsIn_row n t
  have h3 := held_marks 1 (brsIn n t) (brsIn n t).length
  have h4 := marksTo_len 1 (brsIn n t) (brsIn n t).length
  have h5 : ∀ i, ((marksTo 1 (brsIn n t) (brsIn n t).length).getD i []).length ≤ 1000 := fun i => by
    by_cases hi : i < (brsIn n t).length
    · rw [marksTo_at 1 _ _ _ hi, marks_len]; exact h2 i
    · rw [List.getD_eq_getElem?_getD, List.getElem?_eq_none (by omega)]; simp
  have h6 := marksTo_tot 1 (brsIn n t) (brsIn n t).length _ (Nat.le_refl _)
  have h7 := tot_le h2 (brsIn n t).length
  have hh := heldBranchS_c (marksTo 1 (brsIn n t) (brsIn n t).length) 1 h3 (by omega) h5 (by omega)
  rw [h4, h6] at hh
  repeat' (first
      | (guard_target =~ WpA _ _ _ _ _ _; first
        | refine WpA.seq ?_
        | refine WpA.drawU ?_
        | refine WpA.regionU ?_
        | refine WpA.block ?_
        | refine WpA.ret ?_
        | refine WpA.skip ?_
        | refine WpA.exit ?_
        | refine WpA.cond_true rfl ?_
        | refine WpA.cond_false rfl ?_
        | refine WpA.cond_ntrue rfl ?_
        | refine WpA.cond_dec rfl (fun _ => ?_) (fun _ => ?_)
        | refine WpA.cond_not rfl (fun _ => ?_) (fun _ => ?_)
        | refine WpA.cond rfl (fun _ => ?_) (fun _ => ?_)
        )
      | (guard_target =~ RunU _ _ _ _ [] _ _ _ _; first
        | refine RunU.nilL ?_
        | refine RunU.nilD (by kernel_rfl) ?_
        )
      | (guard_target =~ RunU _ _ _ _ (Oper.mk _ _ _ _ _ none :: _) _ _ _ _; first
        | refine RunU.cons (step_call (specWithin_c n t) (.sh (.sh .nil)) (.sh shows_any (.sh shows_any .nil)) rfl) ?_
        | refine RunU.cons (step_call (implWithin_c n t) (.sh (.sh .nil)) (.sh shows_any (.sh shows_any .nil)) rfl) ?_
        | refine RunU.cons (step_call (eqBranchS_c (brsIn n t) (brsIn n t) (by omega) (by omega) h2 h2) (.sh (.sh .nil)) (.sh shows_any (.sh shows_any .nil)) rfl) ?_
        | refine RunU.cons (step_call_io1 (markBranchS_c (brsIn n t) 1 (by omega) h2 (by omega)) io_any (.sh .nil) (.sh shows_any .nil) (by exact rfl) (by exact rfl) rfl) ?_
        | refine RunU.cons (step_call (hh) (.sh (.sh .nil)) (.sh shows_any (.sh shows_any .nil)) rfl) ?_
        | refine RunU.cons step_any ?_
        )
      | (guard_target =~ RunU _ _ _ _ (Oper.mk _ _ _ _ _ (some _) :: _) _ _ _ _; first
        | refine RunU.pass rfl rfl rfl rfl ?_
        | refine RunU.pass_undef rfl rfl rfl ?_
        | refine RunU.doit rfl rfl (step_call (specWithin_c n t) (.sh (.sh .nil)) (.sh shows_any (.sh shows_any .nil)) rfl) ?_
        | refine RunU.doit rfl rfl (step_call (implWithin_c n t) (.sh (.sh .nil)) (.sh shows_any (.sh shows_any .nil)) rfl) ?_
        | refine RunU.doit rfl rfl (step_call (eqBranchS_c (brsIn n t) (brsIn n t) (by omega) (by omega) h2 h2) (.sh (.sh .nil)) (.sh shows_any (.sh shows_any .nil)) rfl) ?_
        | refine RunU.doit rfl rfl (step_call_io1 (markBranchS_c (brsIn n t) 1 (by omega) h2 (by omega)) io_any (.sh .nil) (.sh shows_any .nil) (by exact rfl) (by exact rfl) rfl) ?_
        | refine RunU.doit rfl rfl (step_call (hh) (.sh (.sh .nil)) (.sh shows_any (.sh shows_any .nil)) rfl) ?_
        | refine RunU.doit rfl rfl step_any ?_
        | refine RunU.guard_dec rfl rfl (fun _ => ?_) (fun _ => ?_)
        | refine RunU.guard_not rfl rfl (fun _ => ?_) (fun _ => ?_)
        | refine RunU.guard rfl rfl (fun _ => ?_) (fun _ => ?_)
        )
      | refine Then.next ?_
      | refine InBlock.next ?_
      | refine Done.ret (.one (by first | exact .c rfl | exact .own rfl | exact .als rfl rfl | exact .ptr rfl rfl | exact .part rfl rfl rfl) .nil) (.sh (.sh .nil)) ?_ rfl
      | refine Done.normal (.one (by first | exact .c rfl | exact .own rfl | exact .als rfl rfl | exact .ptr rfl rfl | exact .part rfl rfl rfl) .nil) (.sh (.sh .nil)) ?_ rfl)
  all_goals first | rfl | exact absurd rfl ‹_› | omega
theorem sees_FnExactBranchesWithin (xs : List Arg) (has : Sees Try.prog Try.f10.params.toList xs) : CallA Try.prog 10 xs [.one (.lit (.bool true))] [] := by
  rw [Try.params10] at has
  obtain ⟨n, xs, rfl, _, h⟩ := sees_int Try.underlying2 has
  obtain ⟨t, xs, rfl, _, h⟩ := sees_int Try.underlying2 h
  obtain rfl := sees_nil h
  exact lawWithin_c n t
set_option maxRecDepth 100000 in
theorem lifted_FnExactBranchesWithin (os : Os) (started : os.Started) (H : Type) (enc : TypeId × Value → H) :
    ReturnsInHanded {} Try.checked os 10 .any (Rows.fnExactBranchesWithinSpec.pre6 enc Try.prog Try.f10 Rows.fnExactBranchesWithinRow.domain false) (Rows.fnExactBranchesWithinSpec.post enc Try.prog Try.f10 false true false false) := by
  refine returnsInHanded_of_change (C := Try.checked) own started (by kernel_rfl) Try.func10
    (ChangeSpec.witness6 (enc := enc) (C := Try.checked) false ⟨#[], #[.int .i64 0, .int .i64 0], []⟩ 8 (by kernel_rfl) (by kernel_rfl) (by kernel_rfl) (by kernel_rfl)) ?_
  intro W base args ds gs before hval hW _ _
  refine law_contract (P := Try.prog) laidOut (by kernel_rfl) rfl (by kernel_rfl) Try.underlying4 (fun ds h => ?_) sees_FnExactBranchesWithin W base args ds gs before hval hW
  rw [Try.params10] at h
  match ds, h with
  | [_, _], _ => exact ⟨rfl, rfl, rfl⟩
/-- The law holds for every input. -/
theorem said_FnExactBranchesWithin : Rows.FnExactBranchesWithinSaid :=
  OpenClaim.holds_of_wide 10 Try.f10 rfl rfl rfl rfl rfl rfl rfl ⟨rfl, rfl, rfl, rfl, rfl⟩ rfl rfl rfl rfl rfl (by kernel_rfl) Try.func10 (by kernel_rfl)
    (of_decide_eq_true (by kernel_rfl)) (by unfold Func.isWrapper; first | (rw [if_pos (by decide +kernel)]; kernel_rfl) | (rw [if_neg (by decide +kernel)]; exact ⟨rfl, rfl⟩))
    (fun os started H enc _ => lifted_FnExactBranchesWithin os started H enc)
end Go.Proofs.Ytnkdoilpofboeaa
