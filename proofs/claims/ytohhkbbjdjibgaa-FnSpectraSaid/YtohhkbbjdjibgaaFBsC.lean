/- The reference's test of branches. No condition. -/
import Derived.Test.YtohhkbbjdjibgaaFPwN
set_option linter.unusedVariables false
set_option linter.unusedSimpArgs false
namespace Go.Proofs.Ytohhkbbjdjibgaa
set_option maxHeartbeats 20000000
open Go.Pv
open Go.ChangeShapes Go.WideShapes Go.ChangeAt Go.RowKit
attribute [local irreducible] RunU WpA Step CallG CallNG Done DoneN
attribute [local irreducible] decStrict decFalls decIsBr decWithin Strict Falls IsBr Within
instance fnOk37 : FnOk Try.prog 37 := ⟨_, Try.func37, rfl, by decide⟩
theorem specIsBr_c (l : List Int) (hl : l.length ≤ 1000000000) : CallA Try.prog 37 [.sh (.agg [.sl false 1 (ints l)])] [rB (decide (IsBr l))] [] := by
 have hiff := isBr_iff l
 refine cA_ _ Try.func37 rfl Try.ntmps37 (by first | exact ⟨rfl, rfl⟩ | (simp only [List.all_cons, List.all_nil, V.solid, D.solid, D.solids, solids_ints, solids_bools, solids_LL, Bool.and_self, Bool.and_true, and_self]; done) | simp [V.solid, D.solid, D.solids, solids_lits, solids_ints, solids_bools, solids_LL]) ?_
 by_cases h0 : 0 < l.length
 ·by_cases h1 : 1 ≤ l.getD 0 0 ∧ l.getD 0 0 ≤ 64
  ·have hd1 : l.getD 0 0 = divTo l 1 := by
    simp only [divTo, Int.gcd_zero_left]
    omega
   have hge := divTo_ge (l := l) (by omega)
   have hle : ∀ j, divTo l (j + 1) ≤ 64 := by
    intro j
    induction j with
    | zero => show divTo l 1 ≤ 64; omega
    | succ j ih =>
     have := divTo_down (l := l) (by omega) j
     omega
   repeat' (first | (guard_target =~ WpA _ _ _ _ _ _; first | refine WpA.seq ?_ | refine WpA.drawU ?_ | refine WpA.regionU ?_ | refine WpA.block ?_ | refine WpA.ret ?_ | refine WpA.skip ?_ | refine WpA.exit ?_ | refine WpA.cond_true rfl ?_ | refine WpA.cond_false rfl ?_ | refine WpA.cond_ntrue rfl ?_ | refine WpA.cond_dec rfl (fun _ => ?_) (fun _ => ?_) | refine WpA.cond_not rfl (fun _ => ?_) (fun _ => ?_) | refine WpA.cond rfl (fun _ => ?_) (fun _ => ?_)) | (guard_target =~ RunU _ _ _ _ [] _ _ _ _; first | refine RunU.nilL ?_ | refine RunU.nilD (by kernel_rfl) ?_) | (guard_target =~ RunU _ _ _ _ (Oper.mk _ (Op.call ⟨Callee.value _, _, _⟩) _ _ _ none :: _) _ _ _ _; first | refine RunU.cons (sC_ (l01In_c _ _ _) (.sh (.sh (.sh .nil))) (.sh wS_ (.sh wS_ (.sh wS_ .nil))) rfl) ?_) | (guard_target =~ RunU _ _ _ _ (Oper.mk _ _ _ _ _ none :: _) _ _ _ _; refine RunU.cons step_any ?_) | (guard_target =~ RunU _ _ _ _ (Oper.mk _ _ _ _ _ (some _) :: _) _ _ _ _; first | refine RunU.pass rfl rfl rfl rfl ?_ | refine RunU.pass_undef rfl rfl rfl ?_ | (guard_target =~ RunU _ _ _ _ (Oper.mk _ (Op.call ⟨Callee.value _, _, _⟩) _ _ _ _ :: _) _ _ _ _; first | refine RunU.doit rfl rfl (sC_ (l01In_c _ _ _) (.sh (.sh (.sh .nil))) (.sh wS_ (.sh wS_ (.sh wS_ .nil))) rfl) ?_) | refine RunU.doit rfl rfl step_any ?_ | ((fail_if_success (refine RunU.doit (rd := []) (up := []) rfl rfl ?_ ?_)); first | refine RunU.guard_dec rfl rfl (fun _ => ?_) (fun _ => ?_) | refine RunU.guard_not rfl rfl (fun _ => ?_) (fun _ => ?_) | refine RunU.guard rfl rfl (fun _ => ?_) (fun _ => ?_))) | refine Then.next ?_ | refine InBlock.next ?_ | refine Done.ret (.one (by first | exact .c rfl | exact .own rfl | exact .als rfl rfl | exact .ptr rfl rfl | exact .part rfl rfl rfl) .nil) (.sh .nil) ?_ rfl)
   all_goals try (exfalso; omega)
   all_goals try (exact absurd h1 ‹_›)
   refine WpA.loop_slots (ι := Nat) (fun j => [(3, vL l), (4, vI (divTo l (j + 1))), (5, vI ((j : Int) + 1))]) (fun j => j + 1 ≤ l.length ∧ (1 ≤ l.getD j 0 ∧ l.getD j 0 ≤ 2000) ∧ ∀ i, i < j + 1 → 0 < i → (l.getD (i - 1) 0 + 1 ≤ l.getD i 0 ∧ l.getD i 0 ≤ 2000) ∧ divTo l (i + 1) ≠ divTo l i) (fun j => l.length - j) 0 ⟨by omega, by omega, fun i h1 h2 => absurd h1 (by omega)⟩ ⟨rfl, int_eq hd1, rfl, trivial⟩ ?_
   intro j s nx hj
   have e1 : (j + 1) * 1 = j + 1 := by omega
   have e2 : ((j : Int) + 1 - 1).toNat * 1 = j := by omega
   have hj2 := hj.2.1
   have hgj := hge j
   have hlj := hle j
   by_cases hlt : j + 1 < l.length
   ·rw [← e2] at hj2
    repeat' (first | (guard_target =~ WpA _ _ _ _ _ _; first | refine WpA.seq ?_ | refine WpA.drawU ?_ | refine WpA.regionU ?_ | refine WpA.block ?_ | refine WpA.ret ?_ | refine WpA.skip ?_ | refine WpA.exit ?_ | refine WpA.cond_true rfl ?_ | refine WpA.cond_false rfl ?_ | refine WpA.cond_ntrue rfl ?_ | refine WpA.cond_dec rfl (fun _ => ?_) (fun _ => ?_) | refine WpA.cond_not rfl (fun _ => ?_) (fun _ => ?_) | refine WpA.cond rfl (fun _ => ?_) (fun _ => ?_)) | (guard_target =~ RunU _ _ _ _ [] _ _ _ _; first | refine RunU.nilL ?_ | refine RunU.nilD (by kernel_rfl) ?_) | (guard_target =~ RunU _ _ _ _ (Oper.mk _ (Op.call ⟨Callee.value _, _, _⟩) _ _ _ none :: _) _ _ _ _; first | refine RunU.cons (sC_ (l01In_c _ _ _) (.sh (.sh (.sh .nil))) (.sh wS_ (.sh wS_ (.sh wS_ .nil))) rfl) ?_ | refine RunU.cons (sC_ (gcd_c (divTo l (j + 1)) (l.getD ((j + 1) * 1) 0) (by omega) (by omega)) (.sh (.sh .nil)) (.sh wS_ (.sh wS_ .nil)) rfl) ?_) | (guard_target =~ RunU _ _ _ _ (Oper.mk _ _ _ _ _ none :: _) _ _ _ _; refine RunU.cons step_any ?_) | (guard_target =~ RunU _ _ _ _ (Oper.mk _ _ _ _ _ (some _) :: _) _ _ _ _; first | refine RunU.pass rfl rfl rfl rfl ?_ | refine RunU.pass_undef rfl rfl rfl ?_ | (guard_target =~ RunU _ _ _ _ (Oper.mk _ (Op.call ⟨Callee.value _, _, _⟩) _ _ _ _ :: _) _ _ _ _; first | refine RunU.doit rfl rfl (sC_ (l01In_c _ _ _) (.sh (.sh (.sh .nil))) (.sh wS_ (.sh wS_ (.sh wS_ .nil))) rfl) ?_ | refine RunU.doit rfl rfl (sC_ (gcd_c (divTo l (j + 1)) (l.getD ((j + 1) * 1) 0) (by omega) (by omega)) (.sh (.sh .nil)) (.sh wS_ (.sh wS_ .nil)) rfl) ?_) | refine RunU.doit rfl rfl step_any ?_ | ((fail_if_success (refine RunU.doit (rd := []) (up := []) rfl rfl ?_ ?_)); first | refine RunU.guard_dec rfl rfl (fun _ => ?_) (fun _ => ?_) | refine RunU.guard_not rfl rfl (fun _ => ?_) (fun _ => ?_) | refine RunU.guard rfl rfl (fun _ => ?_) (fun _ => ?_))) | refine Then.next ?_ | refine InBlock.next ?_ | refine Done.ret (.one (by first | exact .c rfl | exact .own rfl | exact .als rfl rfl | exact .ptr rfl rfl | exact .part rfl rfl rfl) .nil) (.sh .nil) ?_ rfl)
    all_goals try (exfalso; omega)
    case refine_1.refine_1 h3 h4 =>
     rw [e1, e2] at h4
     have : ¬ IsBr l := fun hb => by
      have := ((hiff.1 hb).2.2.1 (j + 1) hlt (by omega)).1
      simp only [Nat.add_sub_cancel] at this
      exact h4 this
     simp [this]
    case refine_1.refine_2.refine_1 h3 h4 h5 =>
     rw [e1] at h5
     have : ¬ IsBr l := fun hb => ((hiff.1 hb).2.2.1 (j + 1) hlt (by omega)).2 h5
     simp [this]
    case refine_1.refine_2.refine_2 h3 h4 h5 =>
     rw [e1, e2] at h4
     rw [e1] at h5
     rw [e2] at hj2
     refine ⟨j + 1, ⟨by omega, by omega, fun i hi h0' => ?_⟩, ⟨rfl, int_eq (by rw [e1]; rfl), int_eq (by omega), trivial⟩, by omega⟩
     by_cases e : i = j + 1
     ·subst e; simp only [Nat.add_sub_cancel]; exact ⟨h4, h5⟩
     ·exact hj.2.2 i (by omega) h0'
   ·have hl1 : j + 1 = l.length := by omega
    have hb : IsBr l ↔ divTo l (j + 1) = 1 := by
     rw [hiff, hl1]
     exact ⟨fun q => q.2.2.2, fun q => ⟨h0, h1, fun i hi h0' => hj.2.2 i (by omega) h0', q⟩⟩
    repeat' (first | (guard_target =~ WpA _ _ _ _ _ _; first | refine WpA.seq ?_ | refine WpA.drawU ?_ | refine WpA.regionU ?_ | refine WpA.block ?_ | refine WpA.ret ?_ | refine WpA.skip ?_ | refine WpA.exit ?_ | refine WpA.cond_true rfl ?_ | refine WpA.cond_false rfl ?_ | refine WpA.cond_ntrue rfl ?_ | refine WpA.cond_dec rfl (fun _ => ?_) (fun _ => ?_) | refine WpA.cond_not rfl (fun _ => ?_) (fun _ => ?_) | refine WpA.cond rfl (fun _ => ?_) (fun _ => ?_)) | (guard_target =~ RunU _ _ _ _ [] _ _ _ _; first | refine RunU.nilL ?_ | refine RunU.nilD (by kernel_rfl) ?_) | (guard_target =~ RunU _ _ _ _ (Oper.mk _ _ _ _ _ none :: _) _ _ _ _; refine RunU.cons step_any ?_) | (guard_target =~ RunU _ _ _ _ (Oper.mk _ _ _ _ _ (some _) :: _) _ _ _ _; first | refine RunU.pass rfl rfl rfl rfl ?_ | refine RunU.pass_undef rfl rfl rfl ?_ | refine RunU.doit rfl rfl step_any ?_ | ((fail_if_success (refine RunU.doit (rd := []) (up := []) rfl rfl ?_ ?_)); first | refine RunU.guard_dec rfl rfl (fun _ => ?_) (fun _ => ?_) | refine RunU.guard_not rfl rfl (fun _ => ?_) (fun _ => ?_) | refine RunU.guard rfl rfl (fun _ => ?_) (fun _ => ?_))) | refine Then.next ?_ | refine InBlock.next ?_ | refine Done.ret (.one (by first | exact .c rfl | exact .own rfl | exact .als rfl rfl | exact .ptr rfl rfl | exact .part rfl rfl rfl) .nil) (.sh .nil) ?_ rfl)
    all_goals try (exfalso; omega)
    simp [hb]
  ·have hn : ¬ IsBr l := fun hb => h1 (hiff.1 hb).2.1
   repeat' (first | (guard_target =~ WpA _ _ _ _ _ _; first | refine WpA.seq ?_ | refine WpA.drawU ?_ | refine WpA.regionU ?_ | refine WpA.block ?_ | refine WpA.ret ?_ | refine WpA.skip ?_ | refine WpA.exit ?_ | refine WpA.cond_true rfl ?_ | refine WpA.cond_false rfl ?_ | refine WpA.cond_ntrue rfl ?_ | refine WpA.cond_dec rfl (fun _ => ?_) (fun _ => ?_) | refine WpA.cond_not rfl (fun _ => ?_) (fun _ => ?_) | refine WpA.cond rfl (fun _ => ?_) (fun _ => ?_)) | (guard_target =~ RunU _ _ _ _ [] _ _ _ _; first | refine RunU.nilL ?_ | refine RunU.nilD (by kernel_rfl) ?_) | (guard_target =~ RunU _ _ _ _ (Oper.mk _ (Op.call ⟨Callee.value _, _, _⟩) _ _ _ none :: _) _ _ _ _; first | refine RunU.cons (sC_ (l01In_c _ _ _) (.sh (.sh (.sh .nil))) (.sh wS_ (.sh wS_ (.sh wS_ .nil))) rfl) ?_) | (guard_target =~ RunU _ _ _ _ (Oper.mk _ _ _ _ _ none :: _) _ _ _ _; refine RunU.cons step_any ?_) | (guard_target =~ RunU _ _ _ _ (Oper.mk _ _ _ _ _ (some _) :: _) _ _ _ _; first | refine RunU.pass rfl rfl rfl rfl ?_ | refine RunU.pass_undef rfl rfl rfl ?_ | (guard_target =~ RunU _ _ _ _ (Oper.mk _ (Op.call ⟨Callee.value _, _, _⟩) _ _ _ _ :: _) _ _ _ _; first | refine RunU.doit rfl rfl (sC_ (l01In_c _ _ _) (.sh (.sh (.sh .nil))) (.sh wS_ (.sh wS_ (.sh wS_ .nil))) rfl) ?_) | refine RunU.doit rfl rfl step_any ?_ | ((fail_if_success (refine RunU.doit (rd := []) (up := []) rfl rfl ?_ ?_)); first | refine RunU.guard_dec rfl rfl (fun _ => ?_) (fun _ => ?_) | refine RunU.guard_not rfl rfl (fun _ => ?_) (fun _ => ?_) | refine RunU.guard rfl rfl (fun _ => ?_) (fun _ => ?_))) | refine Then.next ?_ | refine InBlock.next ?_ | refine Done.ret (.one (by first | exact .c rfl | exact .own rfl | exact .als rfl rfl | exact .ptr rfl rfl | exact .part rfl rfl rfl) .nil) (.sh .nil) ?_ rfl)
   all_goals try (exfalso; omega)
   all_goals try (exact absurd ‹_› h1)
   all_goals simp [hn]
 ·have hn : ¬ IsBr l := fun hb => h0 (hiff.1 hb).1
  repeat' (first | (guard_target =~ WpA _ _ _ _ _ _; first | refine WpA.seq ?_ | refine WpA.drawU ?_ | refine WpA.regionU ?_ | refine WpA.block ?_ | refine WpA.ret ?_ | refine WpA.skip ?_ | refine WpA.exit ?_ | refine WpA.cond_true rfl ?_ | refine WpA.cond_false rfl ?_ | refine WpA.cond_ntrue rfl ?_ | refine WpA.cond_dec rfl (fun _ => ?_) (fun _ => ?_) | refine WpA.cond_not rfl (fun _ => ?_) (fun _ => ?_) | refine WpA.cond rfl (fun _ => ?_) (fun _ => ?_)) | (guard_target =~ RunU _ _ _ _ [] _ _ _ _; first | refine RunU.nilL ?_ | refine RunU.nilD (by kernel_rfl) ?_) | (guard_target =~ RunU _ _ _ _ (Oper.mk _ _ _ _ _ none :: _) _ _ _ _; refine RunU.cons step_any ?_) | (guard_target =~ RunU _ _ _ _ (Oper.mk _ _ _ _ _ (some _) :: _) _ _ _ _; first | refine RunU.pass rfl rfl rfl rfl ?_ | refine RunU.pass_undef rfl rfl rfl ?_ | refine RunU.doit rfl rfl step_any ?_ | ((fail_if_success (refine RunU.doit (rd := []) (up := []) rfl rfl ?_ ?_)); first | refine RunU.guard_dec rfl rfl (fun _ => ?_) (fun _ => ?_) | refine RunU.guard_not rfl rfl (fun _ => ?_) (fun _ => ?_) | refine RunU.guard rfl rfl (fun _ => ?_) (fun _ => ?_))) | refine Then.next ?_ | refine InBlock.next ?_ | refine Done.ret (.one (by first | exact .c rfl | exact .own rfl | exact .als rfl rfl | exact .ptr rfl rfl | exact .part rfl rfl rfl) .nil) (.sh .nil) ?_ rfl)
  all_goals try (exfalso; omega)
  all_goals simp [hn]
end Go.Proofs.Ytohhkbbjdjibgaa
