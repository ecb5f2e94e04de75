/- test -/
import Derived.Test.YtnkdoilpofboeaaPvR
import Derived.Test.YtnkdoilpofboeaaRows
open Go.ChangeShapes Go.WideShapes Go.ChangeAt Go.RowKit
namespace Go.Proofs.Ytnkdoilpofboeaa
open Go.Pv
attribute [local irreducible] RunL WpA Step CallG Done
instance : FnOk Try.prog 57 := ⟨_, Try.func57, rfl, by decide⟩
instance : FnOk Try.prog 56 := ⟨_, Try.func56, rfl, by decide⟩
instance : FnOk Try.prog 15 := ⟨_, Try.func15, rfl, by decide⟩
instance : FnOk Try.prog 16 := ⟨_, Try.func16, rfl, by decide⟩
abbrev aI (x : Int) : Arg := .sh (.one (.lit (.int .i64 x)))
abbrev rI (x : Int) : V := .one (.lit (.int .i64 x))
abbrev rB (x : Bool) : V := .one (.lit (.bool x))

theorem inRange_c (x lo hi : Int) : CallA Try.prog 57 [aI x, aI lo, aI hi] [rB (decide (lo ≤ x ∧ x ≤ hi))] [] := by
  refine callA_of _ Try.func57 rfl Try.ntmps57 (by first | exact ⟨rfl, rfl⟩ | simp [V.solid, D.solid, D.solids, solids_lits]) ?_
  repeat' (first
      | refine WpA.seq ?_
      | refine WpA.region ?_
      | refine RunL.nil ?_
      | refine WpA.block ?_
      | refine WpA.ret ?_
      | refine WpA.skip ?_
      | refine WpA.exit ?_
      | refine RunL.cons (step_const rfl rfl) ?_
      | refine RunL.cons (step_move_const rfl rfl) ?_
      | refine RunL.cons (step_assign_nil rfl) ?_
      | refine RunL.cons (step_move_c rfl rfl) ?_
      | refine RunL.cons (step_assign_c rfl rfl) ?_
      | refine RunL.cons (step_move_own rfl rfl) ?_
      | refine RunL.cons (step_move_als rfl rfl) ?_
      | refine RunL.cons (step_move_ptr rfl rfl) ?_
      | refine RunL.cons (step_move_sptr rfl rfl) ?_
      | refine RunL.cons (step_move_pt rfl rfl) ?_
      | refine RunL.cons (step_move_sub rfl rfl) ?_
      | refine RunL.cons (step_move_tup rfl rfl (by decide)) ?_
      | refine RunL.cons (step_extract_c rfl rfl rfl) ?_
      | refine RunL.cons (step_extract_own rfl rfl rfl) ?_
      | refine RunL.cons (step_extract_agg rfl rfl rfl) ?_
      | refine RunL.cons (step_assign_own rfl rfl (by decide)) ?_
      | refine RunL.cons (step_assign_agg rfl rfl (by decide)) ?_
      | refine RunL.cons (step_assign_sub rfl rfl) ?_
      | refine RunL.cons (step_eql rfl rfl rfl) ?_
      | refine RunL.cons (step_neq rfl rfl rfl) ?_
      | refine RunL.cons (step_lss rfl rfl rfl) ?_
      | refine RunL.cons (step_leq rfl rfl rfl) ?_
      | refine RunL.cons (step_gtr rfl rfl rfl) ?_
      | refine RunL.cons (step_geq rfl rfl rfl) ?_
      | refine RunL.cons (step_add_in rfl rfl (by unfold fits; omega) rfl) ?_
      | refine RunL.cons (step_sub_in rfl rfl (by unfold fits; omega) rfl) ?_
      | refine RunL.cons (step_mul_in rfl rfl (by unfold fits; omega) rfl) ?_
      | refine RunL.cons (step_quo_in rfl rfl (by omega) (by omega) (by omega) rfl) ?_
      | refine RunL.cons (step_rem_in rfl rfl (by omega) (by omega) rfl) ?_
      | refine RunL.cons (step_convert_in rfl (by unfold fits; omega) rfl) ?_
      | refine RunL.cons (step_neg_in rfl (by unfold fits; omega) rfl) ?_
      | refine RunL.cons (step_not rfl rfl) ?_
      | refine RunL.cons (step_pick_true rfl rfl rfl rfl) ?_
      | refine RunL.cons (step_pick_false rfl rfl rfl rfl) ?_
      | refine RunL.cons (step_len (by first | exact .als rfl rfl rfl | exact .root rfl | exact .sh rfl | exact .sub rfl rfl rfl | exact .nil) _ (Nat.mul_one _).symm (by decide) rfl) ?_
      | refine RunL.cons (step_index_als rfl rfl rfl rfl (by first | rfl | omega) (by omega) rfl) ?_
      | refine RunL.cons (step_index_root rfl rfl (by first | rfl | omega) (by omega) rfl) ?_
      | refine RunL.cons (step_index_sh rfl rfl (by first | rfl | omega) (by omega) rfl) ?_
      | refine RunL.cons (step_index_sub rfl rfl rfl rfl (by first | rfl | omega) (by omega) rfl) ?_
      | refine RunL.pass rfl rfl rfl rfl ?_
      | refine RunL.pass_undef rfl rfl rfl ?_
      | refine RunL.doit rfl rfl (step_move_c rfl rfl) ?_
      | refine RunL.doit rfl rfl (step_move_own rfl rfl) ?_
      | refine RunL.doit rfl rfl (step_move_als rfl rfl) ?_
      | refine RunL.doit rfl rfl (step_move_ptr rfl rfl) ?_
      | refine RunL.doit rfl rfl (step_move_sptr rfl rfl) ?_
      | refine RunL.doit rfl rfl (step_move_pt rfl rfl) ?_
      | refine RunL.doit rfl rfl (step_move_sub rfl rfl) ?_
      | refine RunL.doit rfl rfl (step_eql rfl rfl rfl) ?_
      | refine RunL.doit rfl rfl (step_neq rfl rfl rfl) ?_
      | refine RunL.doit rfl rfl (step_lss rfl rfl rfl) ?_
      | refine RunL.doit rfl rfl (step_leq rfl rfl rfl) ?_
      | refine RunL.doit rfl rfl (step_gtr rfl rfl rfl) ?_
      | refine RunL.doit rfl rfl (step_geq rfl rfl rfl) ?_
      | refine RunL.doit rfl rfl (step_add_in rfl rfl (by unfold fits; omega) rfl) ?_
      | refine RunL.doit rfl rfl (step_sub_in rfl rfl (by unfold fits; omega) rfl) ?_
      | refine RunL.doit rfl rfl (step_mul_in rfl rfl (by unfold fits; omega) rfl) ?_
      | refine RunL.doit rfl rfl (step_quo_in rfl rfl (by omega) (by omega) (by omega) rfl) ?_
      | refine RunL.doit rfl rfl (step_rem_in rfl rfl (by omega) (by omega) rfl) ?_
      | refine RunL.doit rfl rfl (step_convert_in rfl (by unfold fits; omega) rfl) ?_
      | refine RunL.doit rfl rfl (step_neg_in rfl (by unfold fits; omega) rfl) ?_
      | refine RunL.doit rfl rfl (step_not rfl rfl) ?_
      | refine RunL.doit rfl rfl (step_pick_true rfl rfl rfl rfl) ?_
      | refine RunL.doit rfl rfl (step_pick_false rfl rfl rfl rfl) ?_
      | refine RunL.doit rfl rfl (step_len (by first | exact .als rfl rfl rfl | exact .root rfl | exact .sh rfl | exact .sub rfl rfl rfl | exact .nil) _ (Nat.mul_one _).symm (by decide) rfl) ?_
      | refine RunL.doit rfl rfl (step_index_als rfl rfl rfl rfl (by first | rfl | omega) (by omega) rfl) ?_
      | refine RunL.doit rfl rfl (step_index_root rfl rfl (by first | rfl | omega) (by omega) rfl) ?_
      | refine RunL.doit rfl rfl (step_index_sh rfl rfl (by first | rfl | omega) (by omega) rfl) ?_
      | refine RunL.doit rfl rfl (step_index_sub rfl rfl rfl rfl (by first | rfl | omega) (by omega) rfl) ?_
      | refine RunL.guard_dec rfl rfl (fun _ => ?_) (fun _ => ?_)
      | refine RunL.guard_not rfl rfl (fun _ => ?_) (fun _ => ?_)
      | refine RunL.guard rfl rfl (fun _ => ?_) (fun _ => ?_)
      | refine WpA.cond_true rfl ?_
      | refine WpA.cond_false rfl ?_
      | refine WpA.cond_ntrue rfl ?_
      | refine WpA.cond_dec rfl (fun _ => ?_) (fun _ => ?_)
      | refine WpA.cond_not rfl (fun _ => ?_) (fun _ => ?_)
      | refine WpA.cond rfl (fun _ => ?_) (fun _ => ?_)
      | refine Done.ret (.one (by first | exact .c rfl | exact .own rfl | exact .als rfl rfl | exact .ptr rfl rfl | exact .part rfl rfl rfl) .nil) (.sh (.sh (.sh .nil))) ?_ rfl
      | refine Done.normal (.one (by first | exact .c rfl | exact .own rfl | exact .als rfl rfl | exact .ptr rfl rfl | exact .part rfl rfl rfl) .nil) (.sh (.sh (.sh .nil))) ?_ rfl)
  all_goals simp [*]
theorem l01In_c (x lo hi : Int) : CallA Try.prog 56 [aI x, aI lo, aI hi] [rB (decide (lo ≤ x ∧ x ≤ hi))] [] := by
  refine callA_of _ Try.func56 rfl Try.ntmps56 (by first | exact ⟨rfl, rfl⟩ | simp [V.solid, D.solid, D.solids, solids_lits]) ?_
  repeat' (first
      | refine WpA.seq ?_
      | refine WpA.region ?_
      | refine RunL.nil ?_
      | refine WpA.block ?_
      | refine WpA.ret ?_
      | refine WpA.skip ?_
      | refine WpA.exit ?_
      | refine RunL.cons (step_const rfl rfl) ?_
      | refine RunL.cons (step_move_const rfl rfl) ?_
      | refine RunL.cons (step_assign_nil rfl) ?_
      | refine RunL.cons (step_move_c rfl rfl) ?_
      | refine RunL.cons (step_assign_c rfl rfl) ?_
      | refine RunL.cons (step_move_own rfl rfl) ?_
      | refine RunL.cons (step_move_als rfl rfl) ?_
      | refine RunL.cons (step_move_ptr rfl rfl) ?_
      | refine RunL.cons (step_move_sptr rfl rfl) ?_
      | refine RunL.cons (step_move_pt rfl rfl) ?_
      | refine RunL.cons (step_move_sub rfl rfl) ?_
      | refine RunL.cons (step_move_tup rfl rfl (by decide)) ?_
      | refine RunL.cons (step_extract_c rfl rfl rfl) ?_
      | refine RunL.cons (step_extract_own rfl rfl rfl) ?_
      | refine RunL.cons (step_extract_agg rfl rfl rfl) ?_
      | refine RunL.cons (step_assign_own rfl rfl (by decide)) ?_
      | refine RunL.cons (step_assign_agg rfl rfl (by decide)) ?_
      | refine RunL.cons (step_assign_sub rfl rfl) ?_
      | refine RunL.cons (step_eql rfl rfl rfl) ?_
      | refine RunL.cons (step_neq rfl rfl rfl) ?_
      | refine RunL.cons (step_lss rfl rfl rfl) ?_
      | refine RunL.cons (step_leq rfl rfl rfl) ?_
      | refine RunL.cons (step_gtr rfl rfl rfl) ?_
      | refine RunL.cons (step_geq rfl rfl rfl) ?_
      | refine RunL.cons (step_add_in rfl rfl (by unfold fits; omega) rfl) ?_
      | refine RunL.cons (step_sub_in rfl rfl (by unfold fits; omega) rfl) ?_
      | refine RunL.cons (step_mul_in rfl rfl (by unfold fits; omega) rfl) ?_
      | refine RunL.cons (step_quo_in rfl rfl (by omega) (by omega) (by omega) rfl) ?_
      | refine RunL.cons (step_rem_in rfl rfl (by omega) (by omega) rfl) ?_
      | refine RunL.cons (step_convert_in rfl (by unfold fits; omega) rfl) ?_
      | refine RunL.cons (step_neg_in rfl (by unfold fits; omega) rfl) ?_
      | refine RunL.cons (step_not rfl rfl) ?_
      | refine RunL.cons (step_pick_true rfl rfl rfl rfl) ?_
      | refine RunL.cons (step_pick_false rfl rfl rfl rfl) ?_
      | refine RunL.cons (step_len (by first | exact .als rfl rfl rfl | exact .root rfl | exact .sh rfl | exact .sub rfl rfl rfl | exact .nil) _ (Nat.mul_one _).symm (by decide) rfl) ?_
      | refine RunL.cons (step_index_als rfl rfl rfl rfl (by first | rfl | omega) (by omega) rfl) ?_
      | refine RunL.cons (step_index_root rfl rfl (by first | rfl | omega) (by omega) rfl) ?_
      | refine RunL.cons (step_index_sh rfl rfl (by first | rfl | omega) (by omega) rfl) ?_
      | refine RunL.cons (step_index_sub rfl rfl rfl rfl (by first | rfl | omega) (by omega) rfl) ?_
      | refine RunL.pass rfl rfl rfl rfl ?_
      | refine RunL.pass_undef rfl rfl rfl ?_
      | refine RunL.doit rfl rfl (step_move_c rfl rfl) ?_
      | refine RunL.doit rfl rfl (step_move_own rfl rfl) ?_
      | refine RunL.doit rfl rfl (step_move_als rfl rfl) ?_
      | refine RunL.doit rfl rfl (step_move_ptr rfl rfl) ?_
      | refine RunL.doit rfl rfl (step_move_sptr rfl rfl) ?_
      | refine RunL.doit rfl rfl (step_move_pt rfl rfl) ?_
      | refine RunL.doit rfl rfl (step_move_sub rfl rfl) ?_
      | refine RunL.doit rfl rfl (step_eql rfl rfl rfl) ?_
      | refine RunL.doit rfl rfl (step_neq rfl rfl rfl) ?_
      | refine RunL.doit rfl rfl (step_lss rfl rfl rfl) ?_
      | refine RunL.doit rfl rfl (step_leq rfl rfl rfl) ?_
      | refine RunL.doit rfl rfl (step_gtr rfl rfl rfl) ?_
      | refine RunL.doit rfl rfl (step_geq rfl rfl rfl) ?_
      | refine RunL.doit rfl rfl (step_add_in rfl rfl (by unfold fits; omega) rfl) ?_
      | refine RunL.doit rfl rfl (step_sub_in rfl rfl (by unfold fits; omega) rfl) ?_
      | refine RunL.doit rfl rfl (step_mul_in rfl rfl (by unfold fits; omega) rfl) ?_
      | refine RunL.doit rfl rfl (step_quo_in rfl rfl (by omega) (by omega) (by omega) rfl) ?_
      | refine RunL.doit rfl rfl (step_rem_in rfl rfl (by omega) (by omega) rfl) ?_
      | refine RunL.doit rfl rfl (step_convert_in rfl (by unfold fits; omega) rfl) ?_
      | refine RunL.doit rfl rfl (step_neg_in rfl (by unfold fits; omega) rfl) ?_
      | refine RunL.doit rfl rfl (step_not rfl rfl) ?_
      | refine RunL.doit rfl rfl (step_pick_true rfl rfl rfl rfl) ?_
      | refine RunL.doit rfl rfl (step_pick_false rfl rfl rfl rfl) ?_
      | refine RunL.doit rfl rfl (step_len (by first | exact .als rfl rfl rfl | exact .root rfl | exact .sh rfl | exact .sub rfl rfl rfl | exact .nil) _ (Nat.mul_one _).symm (by decide) rfl) ?_
      | refine RunL.doit rfl rfl (step_index_als rfl rfl rfl rfl (by first | rfl | omega) (by omega) rfl) ?_
      | refine RunL.doit rfl rfl (step_index_root rfl rfl (by first | rfl | omega) (by omega) rfl) ?_
      | refine RunL.doit rfl rfl (step_index_sh rfl rfl (by first | rfl | omega) (by omega) rfl) ?_
      | refine RunL.doit rfl rfl (step_index_sub rfl rfl rfl rfl (by first | rfl | omega) (by omega) rfl) ?_
      | refine RunL.guard_dec rfl rfl (fun _ => ?_) (fun _ => ?_)
      | refine RunL.guard_not rfl rfl (fun _ => ?_) (fun _ => ?_)
      | refine RunL.guard rfl rfl (fun _ => ?_) (fun _ => ?_)
      | refine WpA.cond_true rfl ?_
      | refine WpA.cond_false rfl ?_
      | refine WpA.cond_ntrue rfl ?_
      | refine WpA.cond_dec rfl (fun _ => ?_) (fun _ => ?_)
      | refine WpA.cond_not rfl (fun _ => ?_) (fun _ => ?_)
      | refine WpA.cond rfl (fun _ => ?_) (fun _ => ?_)
      | refine Done.ret (.one (by first | exact .c rfl | exact .own rfl | exact .als rfl rfl | exact .ptr rfl rfl | exact .part rfl rfl rfl) .nil) (.sh (.sh (.sh .nil))) ?_ rfl
      | refine Done.normal (.one (by first | exact .c rfl | exact .own rfl | exact .als rfl rfl | exact .ptr rfl rfl | exact .part rfl rfl rfl) .nil) (.sh (.sh (.sh .nil))) ?_ rfl)
  all_goals simp [*]

/-- The numbers of codes by their ends. -/
def codes2 : Nat → Int × Int
  | 0 => (1, 0)
  | k + 1 => ((codes2 k).1 + (codes2 k).2, (codes2 k).1 + 2 * (codes2 k).2)
theorem codes2_fits : ∀ j, j < 41 → (0 ≤ (codes2 j).1 ∧ (codes2 j).1 ≤ 1000000000000000000) ∧ 0 ≤ (codes2 j).2 ∧ (codes2 j).2 ≤ 1000000000000000000 := by
  decide +kernel
def countC (k : Int) : Int := if k < 0 ∨ 40 < k then 0 else if k = 0 then 1 else (codes2 (k.toNat - 1)).1 + (codes2 (k.toNat - 1)).2
def codeC (k : Int) : Int := if k < 0 ∨ 40 < k then 2 else 0

set_option maxHeartbeats 1000000 in
theorem specCountCodes_c (k : Int) : CallA Try.prog 15 [aI k] [rI (countC k), rI (codeC k)] [] := by
  refine callA_of _ Try.func15 rfl Try.ntmps15 (by first | exact ⟨rfl, rfl⟩ | simp [V.solid, D.solid, D.solids, solids_lits]) ?_
  repeat' (first
      | refine WpA.seq ?_
      | refine WpA.region ?_
      | refine RunL.nil ?_
      | refine WpA.block ?_
      | refine WpA.ret ?_
      | refine WpA.skip ?_
      | refine WpA.exit ?_
      | refine RunL.cons (step_call (l01In_c _ _ _) (.sh (.sh (.sh .nil))) (.sh (by first | exact .lit rfl rfl | exact .c rfl | exact .view (.als rfl rfl rfl) (by first | rfl | exact erases_lits _ | simp [D.erases, D.erase, erases_lits]) | exact .view (.root rfl) (by first | rfl | exact erases_lits _ | simp [D.erases, D.erase, erases_lits]) | exact .view (.sub rfl rfl rfl) (by first | rfl | exact erases_lits _ | simp [D.erases, D.erase, erases_lits]) | exact .view .nil (by first | rfl | exact erases_lits _ | simp [D.erases, D.erase, erases_lits]) | exact .ptr rfl rfl (by first | rfl | exact erases_lits _ | simp [D.erases, D.erase, erases_lits]) | exact .root rfl (by first | rfl | exact erases_lits _ | simp [D.erases, D.erase, erases_lits]) | exact .sptr rfl) (.sh (by first | exact .lit rfl rfl | exact .c rfl | exact .view (.als rfl rfl rfl) (by first | rfl | exact erases_lits _ | simp [D.erases, D.erase, erases_lits]) | exact .view (.root rfl) (by first | rfl | exact erases_lits _ | simp [D.erases, D.erase, erases_lits]) | exact .view (.sub rfl rfl rfl) (by first | rfl | exact erases_lits _ | simp [D.erases, D.erase, erases_lits]) | exact .view .nil (by first | rfl | exact erases_lits _ | simp [D.erases, D.erase, erases_lits]) | exact .ptr rfl rfl (by first | rfl | exact erases_lits _ | simp [D.erases, D.erase, erases_lits]) | exact .root rfl (by first | rfl | exact erases_lits _ | simp [D.erases, D.erase, erases_lits]) | exact .sptr rfl) (.sh (by first | exact .lit rfl rfl | exact .c rfl | exact .view (.als rfl rfl rfl) (by first | rfl | exact erases_lits _ | simp [D.erases, D.erase, erases_lits]) | exact .view (.root rfl) (by first | rfl | exact erases_lits _ | simp [D.erases, D.erase, erases_lits]) | exact .view (.sub rfl rfl rfl) (by first | rfl | exact erases_lits _ | simp [D.erases, D.erase, erases_lits]) | exact .view .nil (by first | rfl | exact erases_lits _ | simp [D.erases, D.erase, erases_lits]) | exact .ptr rfl rfl (by first | rfl | exact erases_lits _ | simp [D.erases, D.erase, erases_lits]) | exact .root rfl (by first | rfl | exact erases_lits _ | simp [D.erases, D.erase, erases_lits]) | exact .sptr rfl) .nil))) rfl) ?_
      | refine RunL.cons (step_const rfl rfl) ?_
      | refine RunL.cons (step_move_const rfl rfl) ?_
      | refine RunL.cons (step_assign_nil rfl) ?_
      | refine RunL.cons (step_move_c rfl rfl) ?_
      | refine RunL.cons (step_assign_c rfl rfl) ?_
      | refine RunL.cons (step_move_own rfl rfl) ?_
      | refine RunL.cons (step_move_als rfl rfl) ?_
      | refine RunL.cons (step_move_ptr rfl rfl) ?_
      | refine RunL.cons (step_move_sptr rfl rfl) ?_
      | refine RunL.cons (step_move_pt rfl rfl) ?_
      | refine RunL.cons (step_move_sub rfl rfl) ?_
      | refine RunL.cons (step_move_tup rfl rfl (by decide)) ?_
      | refine RunL.cons (step_extract_c rfl rfl rfl) ?_
      | refine RunL.cons (step_extract_own rfl rfl rfl) ?_
      | refine RunL.cons (step_extract_agg rfl rfl rfl) ?_
      | refine RunL.cons (step_assign_own rfl rfl (by decide)) ?_
      | refine RunL.cons (step_assign_agg rfl rfl (by decide)) ?_
      | refine RunL.cons (step_assign_sub rfl rfl) ?_
      | refine RunL.cons (step_eql rfl rfl rfl) ?_
      | refine RunL.cons (step_neq rfl rfl rfl) ?_
      | refine RunL.cons (step_lss rfl rfl rfl) ?_
      | refine RunL.cons (step_leq rfl rfl rfl) ?_
      | refine RunL.cons (step_gtr rfl rfl rfl) ?_
      | refine RunL.cons (step_geq rfl rfl rfl) ?_
      | refine RunL.cons (step_add_in rfl rfl (by unfold fits; omega) rfl) ?_
      | refine RunL.cons (step_sub_in rfl rfl (by unfold fits; omega) rfl) ?_
      | refine RunL.cons (step_mul_in rfl rfl (by unfold fits; omega) rfl) ?_
      | refine RunL.cons (step_quo_in rfl rfl (by omega) (by omega) (by omega) rfl) ?_
      | refine RunL.cons (step_rem_in rfl rfl (by omega) (by omega) rfl) ?_
      | refine RunL.cons (step_convert_in rfl (by unfold fits; omega) rfl) ?_
      | refine RunL.cons (step_neg_in rfl (by unfold fits; omega) rfl) ?_
      | refine RunL.cons (step_not rfl rfl) ?_
      | refine RunL.cons (step_pick_true rfl rfl rfl rfl) ?_
      | refine RunL.cons (step_pick_false rfl rfl rfl rfl) ?_
      | refine RunL.cons (step_len (by first | exact .als rfl rfl rfl | exact .root rfl | exact .sh rfl | exact .sub rfl rfl rfl | exact .nil) _ (Nat.mul_one _).symm (by decide) rfl) ?_
      | refine RunL.cons (step_index_als rfl rfl rfl rfl (by first | rfl | omega) (by omega) rfl) ?_
      | refine RunL.cons (step_index_root rfl rfl (by first | rfl | omega) (by omega) rfl) ?_
      | refine RunL.cons (step_index_sh rfl rfl (by first | rfl | omega) (by omega) rfl) ?_
      | refine RunL.cons (step_index_sub rfl rfl rfl rfl (by first | rfl | omega) (by omega) rfl) ?_
      | refine RunL.pass rfl rfl rfl rfl ?_
      | refine RunL.pass_undef rfl rfl rfl ?_
      | refine RunL.doit rfl rfl (step_move_c rfl rfl) ?_
      | refine RunL.doit rfl rfl (step_move_own rfl rfl) ?_
      | refine RunL.doit rfl rfl (step_move_als rfl rfl) ?_
      | refine RunL.doit rfl rfl (step_move_ptr rfl rfl) ?_
      | refine RunL.doit rfl rfl (step_move_sptr rfl rfl) ?_
      | refine RunL.doit rfl rfl (step_move_pt rfl rfl) ?_
      | refine RunL.doit rfl rfl (step_move_sub rfl rfl) ?_
      | refine RunL.doit rfl rfl (step_eql rfl rfl rfl) ?_
      | refine RunL.doit rfl rfl (step_neq rfl rfl rfl) ?_
      | refine RunL.doit rfl rfl (step_lss rfl rfl rfl) ?_
      | refine RunL.doit rfl rfl (step_leq rfl rfl rfl) ?_
      | refine RunL.doit rfl rfl (step_gtr rfl rfl rfl) ?_
      | refine RunL.doit rfl rfl (step_geq rfl rfl rfl) ?_
      | refine RunL.doit rfl rfl (step_add_in rfl rfl (by unfold fits; omega) rfl) ?_
      | refine RunL.doit rfl rfl (step_sub_in rfl rfl (by unfold fits; omega) rfl) ?_
      | refine RunL.doit rfl rfl (step_mul_in rfl rfl (by unfold fits; omega) rfl) ?_
      | refine RunL.doit rfl rfl (step_quo_in rfl rfl (by omega) (by omega) (by omega) rfl) ?_
      | refine RunL.doit rfl rfl (step_rem_in rfl rfl (by omega) (by omega) rfl) ?_
      | refine RunL.doit rfl rfl (step_convert_in rfl (by unfold fits; omega) rfl) ?_
      | refine RunL.doit rfl rfl (step_neg_in rfl (by unfold fits; omega) rfl) ?_
      | refine RunL.doit rfl rfl (step_not rfl rfl) ?_
      | refine RunL.doit rfl rfl (step_pick_true rfl rfl rfl rfl) ?_
      | refine RunL.doit rfl rfl (step_pick_false rfl rfl rfl rfl) ?_
      | refine RunL.doit rfl rfl (step_len (by first | exact .als rfl rfl rfl | exact .root rfl | exact .sh rfl | exact .sub rfl rfl rfl | exact .nil) _ (Nat.mul_one _).symm (by decide) rfl) ?_
      | refine RunL.doit rfl rfl (step_index_als rfl rfl rfl rfl (by first | rfl | omega) (by omega) rfl) ?_
      | refine RunL.doit rfl rfl (step_index_root rfl rfl (by first | rfl | omega) (by omega) rfl) ?_
      | refine RunL.doit rfl rfl (step_index_sh rfl rfl (by first | rfl | omega) (by omega) rfl) ?_
      | refine RunL.doit rfl rfl (step_index_sub rfl rfl rfl rfl (by first | rfl | omega) (by omega) rfl) ?_
      | refine RunL.doit rfl rfl (step_call (l01In_c _ _ _) (.sh (.sh (.sh .nil))) (.sh (by first | exact .lit rfl rfl | exact .c rfl | exact .view (.als rfl rfl rfl) (by first | rfl | exact erases_lits _ | simp [D.erases, D.erase, erases_lits]) | exact .view (.root rfl) (by first | rfl | exact erases_lits _ | simp [D.erases, D.erase, erases_lits]) | exact .view (.sub rfl rfl rfl) (by first | rfl | exact erases_lits _ | simp [D.erases, D.erase, erases_lits]) | exact .view .nil (by first | rfl | exact erases_lits _ | simp [D.erases, D.erase, erases_lits]) | exact .ptr rfl rfl (by first | rfl | exact erases_lits _ | simp [D.erases, D.erase, erases_lits]) | exact .root rfl (by first | rfl | exact erases_lits _ | simp [D.erases, D.erase, erases_lits]) | exact .sptr rfl) (.sh (by first | exact .lit rfl rfl | exact .c rfl | exact .view (.als rfl rfl rfl) (by first | rfl | exact erases_lits _ | simp [D.erases, D.erase, erases_lits]) | exact .view (.root rfl) (by first | rfl | exact erases_lits _ | simp [D.erases, D.erase, erases_lits]) | exact .view (.sub rfl rfl rfl) (by first | rfl | exact erases_lits _ | simp [D.erases, D.erase, erases_lits]) | exact .view .nil (by first | rfl | exact erases_lits _ | simp [D.erases, D.erase, erases_lits]) | exact .ptr rfl rfl (by first | rfl | exact erases_lits _ | simp [D.erases, D.erase, erases_lits]) | exact .root rfl (by first | rfl | exact erases_lits _ | simp [D.erases, D.erase, erases_lits]) | exact .sptr rfl) (.sh (by first | exact .lit rfl rfl | exact .c rfl | exact .view (.als rfl rfl rfl) (by first | rfl | exact erases_lits _ | simp [D.erases, D.erase, erases_lits]) | exact .view (.root rfl) (by first | rfl | exact erases_lits _ | simp [D.erases, D.erase, erases_lits]) | exact .view (.sub rfl rfl rfl) (by first | rfl | exact erases_lits _ | simp [D.erases, D.erase, erases_lits]) | exact .view .nil (by first | rfl | exact erases_lits _ | simp [D.erases, D.erase, erases_lits]) | exact .ptr rfl rfl (by first | rfl | exact erases_lits _ | simp [D.erases, D.erase, erases_lits]) | exact .root rfl (by first | rfl | exact erases_lits _ | simp [D.erases, D.erase, erases_lits]) | exact .sptr rfl) .nil))) rfl) ?_
      | refine RunL.guard_dec rfl rfl (fun _ => ?_) (fun _ => ?_)
      | refine RunL.guard_not rfl rfl (fun _ => ?_) (fun _ => ?_)
      | refine RunL.guard rfl rfl (fun _ => ?_) (fun _ => ?_)
      | refine WpA.cond_true rfl ?_
      | refine WpA.cond_false rfl ?_
      | refine WpA.cond_ntrue rfl ?_
      | refine WpA.cond_dec rfl (fun _ => ?_) (fun _ => ?_)
      | refine WpA.cond_not rfl (fun _ => ?_) (fun _ => ?_)
      | refine WpA.cond rfl (fun _ => ?_) (fun _ => ?_)
      | refine Done.ret (.one (by first | exact .c rfl | exact .own rfl | exact .als rfl rfl | exact .ptr rfl rfl | exact .part rfl rfl rfl) (.one (by first | exact .c rfl | exact .own rfl | exact .als rfl rfl | exact .ptr rfl rfl | exact .part rfl rfl rfl) .nil)) (.sh .nil) ?_ rfl
      | refine Done.normal (.one (by first | exact .c rfl | exact .own rfl | exact .als rfl rfl | exact .ptr rfl rfl | exact .part rfl rfl rfl) (.one (by first | exact .c rfl | exact .own rfl | exact .als rfl rfl | exact .ptr rfl rfl | exact .part rfl rfl rfl) .nil)) (.sh .nil) ?_ rfl)
  case refine_1 h => simp [countC, codeC]; omega
  case refine_2.refine_1 h1 h2 => simp [countC, codeC, h2]
  case refine_2.refine_2 h1 h2 =>
    refine WpA.loop_slots (ι := Nat) (fun j => [(0, .c (.lit (.int .i64 (k - j)))), (4, .c (.lit (.int .i64 (codes2 j).1))), (5, .c (.lit (.int .i64 (codes2 j).2)))]) (fun j => (j : Int) + 1 ≤ k) (fun j => k.toNat - j) 0 (by omega) ⟨by simp; rfl, rfl, rfl, trivial⟩ ?_
    intro j s nx hj
    have hb := codes2_fits j (by omega)
    have hb1 := codes2_fits (j + 1) (by omega)
    rw [codes2] at hb1
    repeat' (first
        | refine WpA.seq ?_
        | refine WpA.region ?_
        | refine RunL.nil ?_
        | refine WpA.block ?_
        | refine WpA.ret ?_
        | refine WpA.skip ?_
        | refine WpA.exit ?_
        | refine RunL.cons (step_const rfl rfl) ?_
        | refine RunL.cons (step_move_const rfl rfl) ?_
        | refine RunL.cons (step_assign_nil rfl) ?_
        | refine RunL.cons (step_move_c rfl rfl) ?_
        | refine RunL.cons (step_assign_c rfl rfl) ?_
        | refine RunL.cons (step_move_own rfl rfl) ?_
        | refine RunL.cons (step_move_als rfl rfl) ?_
        | refine RunL.cons (step_move_ptr rfl rfl) ?_
        | refine RunL.cons (step_move_sptr rfl rfl) ?_
        | refine RunL.cons (step_move_pt rfl rfl) ?_
        | refine RunL.cons (step_move_sub rfl rfl) ?_
        | refine RunL.cons (step_move_tup rfl rfl (by decide)) ?_
        | refine RunL.cons (step_extract_c rfl rfl rfl) ?_
        | refine RunL.cons (step_extract_own rfl rfl rfl) ?_
        | refine RunL.cons (step_extract_agg rfl rfl rfl) ?_
        | refine RunL.cons (step_assign_own rfl rfl (by decide)) ?_
        | refine RunL.cons (step_assign_agg rfl rfl (by decide)) ?_
        | refine RunL.cons (step_assign_sub rfl rfl) ?_
        | refine RunL.cons (step_eql rfl rfl rfl) ?_
        | refine RunL.cons (step_neq rfl rfl rfl) ?_
        | refine RunL.cons (step_lss rfl rfl rfl) ?_
        | refine RunL.cons (step_leq rfl rfl rfl) ?_
        | refine RunL.cons (step_gtr rfl rfl rfl) ?_
        | refine RunL.cons (step_geq rfl rfl rfl) ?_
        | refine RunL.cons (step_add_in rfl rfl (by unfold fits; omega) rfl) ?_
        | refine RunL.cons (step_sub_in rfl rfl (by unfold fits; omega) rfl) ?_
        | refine RunL.cons (step_mul_in rfl rfl (by unfold fits; omega) rfl) ?_
        | refine RunL.cons (step_quo_in rfl rfl (by omega) (by omega) (by omega) rfl) ?_
        | refine RunL.cons (step_rem_in rfl rfl (by omega) (by omega) rfl) ?_
        | refine RunL.cons (step_convert_in rfl (by unfold fits; omega) rfl) ?_
        | refine RunL.cons (step_neg_in rfl (by unfold fits; omega) rfl) ?_
        | refine RunL.cons (step_not rfl rfl) ?_
        | refine RunL.cons (step_pick_true rfl rfl rfl rfl) ?_
        | refine RunL.cons (step_pick_false rfl rfl rfl rfl) ?_
        | refine RunL.cons (step_len (by first | exact .als rfl rfl rfl | exact .root rfl | exact .sh rfl | exact .sub rfl rfl rfl | exact .nil) _ (Nat.mul_one _).symm (by decide) rfl) ?_
        | refine RunL.cons (step_index_als rfl rfl rfl rfl (by first | rfl | omega) (by omega) rfl) ?_
        | refine RunL.cons (step_index_root rfl rfl (by first | rfl | omega) (by omega) rfl) ?_
        | refine RunL.cons (step_index_sh rfl rfl (by first | rfl | omega) (by omega) rfl) ?_
        | refine RunL.cons (step_index_sub rfl rfl rfl rfl (by first | rfl | omega) (by omega) rfl) ?_
        | refine RunL.pass rfl rfl rfl rfl ?_
        | refine RunL.pass_undef rfl rfl rfl ?_
        | refine RunL.doit rfl rfl (step_move_c rfl rfl) ?_
        | refine RunL.doit rfl rfl (step_move_own rfl rfl) ?_
        | refine RunL.doit rfl rfl (step_move_als rfl rfl) ?_
        | refine RunL.doit rfl rfl (step_move_ptr rfl rfl) ?_
        | refine RunL.doit rfl rfl (step_move_sptr rfl rfl) ?_
        | refine RunL.doit rfl rfl (step_move_pt rfl rfl) ?_
        | refine RunL.doit rfl rfl (step_move_sub rfl rfl) ?_
        | refine RunL.doit rfl rfl (step_eql rfl rfl rfl) ?_
        | refine RunL.doit rfl rfl (step_neq rfl rfl rfl) ?_
        | refine RunL.doit rfl rfl (step_lss rfl rfl rfl) ?_
        | refine RunL.doit rfl rfl (step_leq rfl rfl rfl) ?_
        | refine RunL.doit rfl rfl (step_gtr rfl rfl rfl) ?_
        | refine RunL.doit rfl rfl (step_geq rfl rfl rfl) ?_
        | refine RunL.doit rfl rfl (step_add_in rfl rfl (by unfold fits; omega) rfl) ?_
        | refine RunL.doit rfl rfl (step_sub_in rfl rfl (by unfold fits; omega) rfl) ?_
        | refine RunL.doit rfl rfl (step_mul_in rfl rfl (by unfold fits; omega) rfl) ?_
        | refine RunL.doit rfl rfl (step_quo_in rfl rfl (by omega) (by omega) (by omega) rfl) ?_
        | refine RunL.doit rfl rfl (step_rem_in rfl rfl (by omega) (by omega) rfl) ?_
        | refine RunL.doit rfl rfl (step_convert_in rfl (by unfold fits; omega) rfl) ?_
        | refine RunL.doit rfl rfl (step_neg_in rfl (by unfold fits; omega) rfl) ?_
        | refine RunL.doit rfl rfl (step_not rfl rfl) ?_
        | refine RunL.doit rfl rfl (step_pick_true rfl rfl rfl rfl) ?_
        | refine RunL.doit rfl rfl (step_pick_false rfl rfl rfl rfl) ?_
        | refine RunL.doit rfl rfl (step_len (by first | exact .als rfl rfl rfl | exact .root rfl | exact .sh rfl | exact .sub rfl rfl rfl | exact .nil) _ (Nat.mul_one _).symm (by decide) rfl) ?_
        | refine RunL.doit rfl rfl (step_index_als rfl rfl rfl rfl (by first | rfl | omega) (by omega) rfl) ?_
        | refine RunL.doit rfl rfl (step_index_root rfl rfl (by first | rfl | omega) (by omega) rfl) ?_
        | refine RunL.doit rfl rfl (step_index_sh rfl rfl (by first | rfl | omega) (by omega) rfl) ?_
        | refine RunL.doit rfl rfl (step_index_sub rfl rfl rfl rfl (by first | rfl | omega) (by omega) rfl) ?_
        | refine RunL.guard_dec rfl rfl (fun _ => ?_) (fun _ => ?_)
        | refine RunL.guard_not rfl rfl (fun _ => ?_) (fun _ => ?_)
        | refine RunL.guard rfl rfl (fun _ => ?_) (fun _ => ?_)
        | refine WpA.cond_true rfl ?_
        | refine WpA.cond_false rfl ?_
        | refine WpA.cond_ntrue rfl ?_
        | refine WpA.cond_dec rfl (fun _ => ?_) (fun _ => ?_)
        | refine WpA.cond_not rfl (fun _ => ?_) (fun _ => ?_)
        | refine WpA.cond rfl (fun _ => ?_) (fun _ => ?_)
        | refine Done.ret (.one (by first | exact .c rfl | exact .own rfl | exact .als rfl rfl | exact .ptr rfl rfl | exact .part rfl rfl rfl) (.one (by first | exact .c rfl | exact .own rfl | exact .als rfl rfl | exact .ptr rfl rfl | exact .part rfl rfl rfl) .nil)) (.sh .nil) ?_ rfl
        | refine Done.normal (.one (by first | exact .c rfl | exact .own rfl | exact .als rfl rfl | exact .ptr rfl rfl | exact .part rfl rfl rfl) (.one (by first | exact .c rfl | exact .own rfl | exact .als rfl rfl | exact .ptr rfl rfl | exact .part rfl rfl rfl) .nil)) (.sh .nil) ?_ rfl)
    case refine_1 h3 => exact ⟨j + 1, by omega, ⟨int_eq (by omega), rfl, rfl, trivial⟩, by omega⟩
    case refine_2 h3 =>
      have e : j = k.toNat - 1 := by omega
      subst e
      have e1 : ¬ (k < 0 ∨ 40 < k) := by omega
      simp [countC, codeC, e1, h2]

set_option maxHeartbeats 1000000 in
theorem implCountCodes_c (k : Int) : CallA Try.prog 16 [aI k] [rI (countC k), rI (codeC k)] [] := by
  by_cases hk : 0 ≤ k ∧ k ≤ 40
  · have ek : decide (0 ≤ k ∧ k ≤ 40) = true := decide_eq_true hk
    refine callA_of _ Try.func16 rfl Try.ntmps16 (by first | exact ⟨rfl, rfl⟩ | simp [V.solid, D.solid, D.solids, solids_lits]) ?_
    repeat' (first
        | refine WpA.seq ?_
        | refine WpA.region ?_
        | refine RunL.nil ?_
        | refine WpA.block ?_
        | refine WpA.ret ?_
        | refine WpA.skip ?_
        | refine WpA.exit ?_
        | refine RunL.cons (step_call (inRange_c _ _ _) (.sh (.sh (.sh .nil))) (.sh (by first | exact .lit rfl rfl | exact .c rfl | exact .view (.als rfl rfl rfl) (by first | rfl | exact erases_lits _ | simp [D.erases, D.erase, erases_lits]) | exact .view (.root rfl) (by first | rfl | exact erases_lits _ | simp [D.erases, D.erase, erases_lits]) | exact .view (.sub rfl rfl rfl) (by first | rfl | exact erases_lits _ | simp [D.erases, D.erase, erases_lits]) | exact .view .nil (by first | rfl | exact erases_lits _ | simp [D.erases, D.erase, erases_lits]) | exact .ptr rfl rfl (by first | rfl | exact erases_lits _ | simp [D.erases, D.erase, erases_lits]) | exact .root rfl (by first | rfl | exact erases_lits _ | simp [D.erases, D.erase, erases_lits]) | exact .sptr rfl) (.sh (by first | exact .lit rfl rfl | exact .c rfl | exact .view (.als rfl rfl rfl) (by first | rfl | exact erases_lits _ | simp [D.erases, D.erase, erases_lits]) | exact .view (.root rfl) (by first | rfl | exact erases_lits _ | simp [D.erases, D.erase, erases_lits]) | exact .view (.sub rfl rfl rfl) (by first | rfl | exact erases_lits _ | simp [D.erases, D.erase, erases_lits]) | exact .view .nil (by first | rfl | exact erases_lits _ | simp [D.erases, D.erase, erases_lits]) | exact .ptr rfl rfl (by first | rfl | exact erases_lits _ | simp [D.erases, D.erase, erases_lits]) | exact .root rfl (by first | rfl | exact erases_lits _ | simp [D.erases, D.erase, erases_lits]) | exact .sptr rfl) (.sh (by first | exact .lit rfl rfl | exact .c rfl | exact .view (.als rfl rfl rfl) (by first | rfl | exact erases_lits _ | simp [D.erases, D.erase, erases_lits]) | exact .view (.root rfl) (by first | rfl | exact erases_lits _ | simp [D.erases, D.erase, erases_lits]) | exact .view (.sub rfl rfl rfl) (by first | rfl | exact erases_lits _ | simp [D.erases, D.erase, erases_lits]) | exact .view .nil (by first | rfl | exact erases_lits _ | simp [D.erases, D.erase, erases_lits]) | exact .ptr rfl rfl (by first | rfl | exact erases_lits _ | simp [D.erases, D.erase, erases_lits]) | exact .root rfl (by first | rfl | exact erases_lits _ | simp [D.erases, D.erase, erases_lits]) | exact .sptr rfl) .nil))) rfl) ?_
        | refine RunL.cons (step_const rfl rfl) ?_
        | refine RunL.cons (step_move_const rfl rfl) ?_
        | refine RunL.cons (step_assign_nil rfl) ?_
        | refine RunL.cons (step_move_c rfl rfl) ?_
        | refine RunL.cons (step_assign_c rfl rfl) ?_
        | refine RunL.cons (step_move_own rfl rfl) ?_
        | refine RunL.cons (step_move_als rfl rfl) ?_
        | refine RunL.cons (step_move_ptr rfl rfl) ?_
        | refine RunL.cons (step_move_sptr rfl rfl) ?_
        | refine RunL.cons (step_move_pt rfl rfl) ?_
        | refine RunL.cons (step_move_sub rfl rfl) ?_
        | refine RunL.cons (step_move_tup rfl rfl (by decide)) ?_
        | refine RunL.cons (step_extract_c rfl rfl rfl) ?_
        | refine RunL.cons (step_extract_own rfl rfl rfl) ?_
        | refine RunL.cons (step_extract_agg rfl rfl rfl) ?_
        | refine RunL.cons (step_assign_own rfl rfl (by decide)) ?_
        | refine RunL.cons (step_assign_agg rfl rfl (by decide)) ?_
        | refine RunL.cons (step_assign_sub rfl rfl) ?_
        | refine RunL.cons (step_eql rfl rfl rfl) ?_
        | refine RunL.cons (step_neq rfl rfl rfl) ?_
        | refine RunL.cons (step_lss rfl rfl rfl) ?_
        | refine RunL.cons (step_leq rfl rfl rfl) ?_
        | refine RunL.cons (step_gtr rfl rfl rfl) ?_
        | refine RunL.cons (step_geq rfl rfl rfl) ?_
        | refine RunL.cons (step_add_in rfl rfl (by unfold fits; omega) rfl) ?_
        | refine RunL.cons (step_sub_in rfl rfl (by unfold fits; omega) rfl) ?_
        | refine RunL.cons (step_mul_in rfl rfl (by unfold fits; omega) rfl) ?_
        | refine RunL.cons (step_quo_in rfl rfl (by omega) (by omega) (by omega) rfl) ?_
        | refine RunL.cons (step_rem_in rfl rfl (by omega) (by omega) rfl) ?_
        | refine RunL.cons (step_convert_in rfl (by unfold fits; omega) rfl) ?_
        | refine RunL.cons (step_neg_in rfl (by unfold fits; omega) rfl) ?_
        | refine RunL.cons (step_not rfl rfl) ?_
        | refine RunL.cons (step_pick_true rfl rfl rfl rfl) ?_
        | refine RunL.cons (step_pick_false rfl rfl rfl rfl) ?_
        | refine RunL.cons (step_len (by first | exact .als rfl rfl rfl | exact .root rfl | exact .sh rfl | exact .sub rfl rfl rfl | exact .nil) _ (Nat.mul_one _).symm (by decide) rfl) ?_
        | refine RunL.cons (step_index_als rfl rfl rfl rfl (by first | rfl | omega) (by omega) rfl) ?_
        | refine RunL.cons (step_index_root rfl rfl (by first | rfl | omega) (by omega) rfl) ?_
        | refine RunL.cons (step_index_sh rfl rfl (by first | rfl | omega) (by omega) rfl) ?_
        | refine RunL.cons (step_index_sub rfl rfl rfl rfl (by first | rfl | omega) (by omega) rfl) ?_
        | refine RunL.pass rfl rfl rfl rfl ?_
        | refine RunL.pass_undef rfl rfl rfl ?_
        | refine RunL.doit rfl rfl (step_move_c rfl rfl) ?_
        | refine RunL.doit rfl rfl (step_move_own rfl rfl) ?_
        | refine RunL.doit rfl rfl (step_move_als rfl rfl) ?_
        | refine RunL.doit rfl rfl (step_move_ptr rfl rfl) ?_
        | refine RunL.doit rfl rfl (step_move_sptr rfl rfl) ?_
        | refine RunL.doit rfl rfl (step_move_pt rfl rfl) ?_
        | refine RunL.doit rfl rfl (step_move_sub rfl rfl) ?_
        | refine RunL.doit rfl rfl (step_eql rfl rfl rfl) ?_
        | refine RunL.doit rfl rfl (step_neq rfl rfl rfl) ?_
        | refine RunL.doit rfl rfl (step_lss rfl rfl rfl) ?_
        | refine RunL.doit rfl rfl (step_leq rfl rfl rfl) ?_
        | refine RunL.doit rfl rfl (step_gtr rfl rfl rfl) ?_
        | refine RunL.doit rfl rfl (step_geq rfl rfl rfl) ?_
        | refine RunL.doit rfl rfl (step_add_in rfl rfl (by unfold fits; omega) rfl) ?_
        | refine RunL.doit rfl rfl (step_sub_in rfl rfl (by unfold fits; omega) rfl) ?_
        | refine RunL.doit rfl rfl (step_mul_in rfl rfl (by unfold fits; omega) rfl) ?_
        | refine RunL.doit rfl rfl (step_quo_in rfl rfl (by omega) (by omega) (by omega) rfl) ?_
        | refine RunL.doit rfl rfl (step_rem_in rfl rfl (by omega) (by omega) rfl) ?_
        | refine RunL.doit rfl rfl (step_convert_in rfl (by unfold fits; omega) rfl) ?_
        | refine RunL.doit rfl rfl (step_neg_in rfl (by unfold fits; omega) rfl) ?_
        | refine RunL.doit rfl rfl (step_not rfl rfl) ?_
        | refine RunL.doit rfl rfl (step_pick_true rfl rfl rfl rfl) ?_
        | refine RunL.doit rfl rfl (step_pick_false rfl rfl rfl rfl) ?_
        | refine RunL.doit rfl rfl (step_len (by first | exact .als rfl rfl rfl | exact .root rfl | exact .sh rfl | exact .sub rfl rfl rfl | exact .nil) _ (Nat.mul_one _).symm (by decide) rfl) ?_
        | refine RunL.doit rfl rfl (step_index_als rfl rfl rfl rfl (by first | rfl | omega) (by omega) rfl) ?_
        | refine RunL.doit rfl rfl (step_index_root rfl rfl (by first | rfl | omega) (by omega) rfl) ?_
        | refine RunL.doit rfl rfl (step_index_sh rfl rfl (by first | rfl | omega) (by omega) rfl) ?_
        | refine RunL.doit rfl rfl (step_index_sub rfl rfl rfl rfl (by first | rfl | omega) (by omega) rfl) ?_
        | refine RunL.doit rfl rfl (step_call (inRange_c _ _ _) (.sh (.sh (.sh .nil))) (.sh (by first | exact .lit rfl rfl | exact .c rfl | exact .view (.als rfl rfl rfl) (by first | rfl | exact erases_lits _ | simp [D.erases, D.erase, erases_lits]) | exact .view (.root rfl) (by first | rfl | exact erases_lits _ | simp [D.erases, D.erase, erases_lits]) | exact .view (.sub rfl rfl rfl) (by first | rfl | exact erases_lits _ | simp [D.erases, D.erase, erases_lits]) | exact .view .nil (by first | rfl | exact erases_lits _ | simp [D.erases, D.erase, erases_lits]) | exact .ptr rfl rfl (by first | rfl | exact erases_lits _ | simp [D.erases, D.erase, erases_lits]) | exact .root rfl (by first | rfl | exact erases_lits _ | simp [D.erases, D.erase, erases_lits]) | exact .sptr rfl) (.sh (by first | exact .lit rfl rfl | exact .c rfl | exact .view (.als rfl rfl rfl) (by first | rfl | exact erases_lits _ | simp [D.erases, D.erase, erases_lits]) | exact .view (.root rfl) (by first | rfl | exact erases_lits _ | simp [D.erases, D.erase, erases_lits]) | exact .view (.sub rfl rfl rfl) (by first | rfl | exact erases_lits _ | simp [D.erases, D.erase, erases_lits]) | exact .view .nil (by first | rfl | exact erases_lits _ | simp [D.erases, D.erase, erases_lits]) | exact .ptr rfl rfl (by first | rfl | exact erases_lits _ | simp [D.erases, D.erase, erases_lits]) | exact .root rfl (by first | rfl | exact erases_lits _ | simp [D.erases, D.erase, erases_lits]) | exact .sptr rfl) (.sh (by first | exact .lit rfl rfl | exact .c rfl | exact .view (.als rfl rfl rfl) (by first | rfl | exact erases_lits _ | simp [D.erases, D.erase, erases_lits]) | exact .view (.root rfl) (by first | rfl | exact erases_lits _ | simp [D.erases, D.erase, erases_lits]) | exact .view (.sub rfl rfl rfl) (by first | rfl | exact erases_lits _ | simp [D.erases, D.erase, erases_lits]) | exact .view .nil (by first | rfl | exact erases_lits _ | simp [D.erases, D.erase, erases_lits]) | exact .ptr rfl rfl (by first | rfl | exact erases_lits _ | simp [D.erases, D.erase, erases_lits]) | exact .root rfl (by first | rfl | exact erases_lits _ | simp [D.erases, D.erase, erases_lits]) | exact .sptr rfl) .nil))) rfl) ?_
        | refine RunL.guard_dec rfl rfl (fun _ => ?_) (fun _ => ?_)
        | refine RunL.guard_not rfl rfl (fun _ => ?_) (fun _ => ?_)
        | refine RunL.guard rfl rfl (fun _ => ?_) (fun _ => ?_)
        | refine WpA.cond_true rfl ?_
        | refine WpA.cond_false rfl ?_
        | refine WpA.cond_ntrue rfl ?_
        | refine WpA.cond_dec rfl (fun _ => ?_) (fun _ => ?_)
        | refine WpA.cond_not rfl (fun _ => ?_) (fun _ => ?_)
        | refine WpA.cond rfl (fun _ => ?_) (fun _ => ?_)
        | refine Done.ret (.one (by first | exact .c rfl | exact .own rfl | exact .als rfl rfl | exact .ptr rfl rfl | exact .part rfl rfl rfl) (.one (by first | exact .c rfl | exact .own rfl | exact .als rfl rfl | exact .ptr rfl rfl | exact .part rfl rfl rfl) .nil)) (.sh .nil) ?_ rfl
        | refine Done.normal (.one (by first | exact .c rfl | exact .own rfl | exact .als rfl rfl | exact .ptr rfl rfl | exact .part rfl rfl rfl) (.one (by first | exact .c rfl | exact .own rfl | exact .als rfl rfl | exact .ptr rfl rfl | exact .part rfl rfl rfl) .nil)) (.sh .nil) ?_ rfl)
    case refine_1 h => exact absurd hk h
    case refine_2 h1 =>
      refine WpA.loop_slots (ι := Nat) (fun j => [(10, .c (.lit (.int .i64 (k - 1)))), (11, .c (.lit (.int .i64 j))), (4, .c (.lit (.int .i64 (codes2 j).1))), (5, .c (.lit (.int .i64 (codes2 j).2)))]) (fun j => j = 0 ∨ (j : Int) + 1 ≤ k) (fun j => k.toNat - j) 0 (by omega) ⟨rfl, rfl, rfl, rfl, trivial⟩ ?_
      intro j s nx hj
      have hb := codes2_fits j (by omega)
      have hb1 := codes2_fits (j + 1) (by omega)
      rw [codes2] at hb1
      repeat' (first
          | refine WpA.seq ?_
          | refine WpA.region ?_
          | refine RunL.nil ?_
          | refine WpA.block ?_
          | refine WpA.ret ?_
          | refine WpA.skip ?_
          | refine WpA.exit ?_
          | refine RunL.cons (step_const rfl rfl) ?_
          | refine RunL.cons (step_move_const rfl rfl) ?_
          | refine RunL.cons (step_assign_nil rfl) ?_
          | refine RunL.cons (step_move_c rfl rfl) ?_
          | refine RunL.cons (step_assign_c rfl rfl) ?_
          | refine RunL.cons (step_move_own rfl rfl) ?_
          | refine RunL.cons (step_move_als rfl rfl) ?_
          | refine RunL.cons (step_move_ptr rfl rfl) ?_
          | refine RunL.cons (step_move_sptr rfl rfl) ?_
          | refine RunL.cons (step_move_pt rfl rfl) ?_
          | refine RunL.cons (step_move_sub rfl rfl) ?_
          | refine RunL.cons (step_move_tup rfl rfl (by decide)) ?_
          | refine RunL.cons (step_extract_c rfl rfl rfl) ?_
          | refine RunL.cons (step_extract_own rfl rfl rfl) ?_
          | refine RunL.cons (step_extract_agg rfl rfl rfl) ?_
          | refine RunL.cons (step_assign_own rfl rfl (by decide)) ?_
          | refine RunL.cons (step_assign_agg rfl rfl (by decide)) ?_
          | refine RunL.cons (step_assign_sub rfl rfl) ?_
          | refine RunL.cons (step_eql rfl rfl rfl) ?_
          | refine RunL.cons (step_neq rfl rfl rfl) ?_
          | refine RunL.cons (step_lss rfl rfl rfl) ?_
          | refine RunL.cons (step_leq rfl rfl rfl) ?_
          | refine RunL.cons (step_gtr rfl rfl rfl) ?_
          | refine RunL.cons (step_geq rfl rfl rfl) ?_
          | refine RunL.cons (step_add_in rfl rfl (by unfold fits; omega) rfl) ?_
          | refine RunL.cons (step_sub_in rfl rfl (by unfold fits; omega) rfl) ?_
          | refine RunL.cons (step_mul_in rfl rfl (by unfold fits; omega) rfl) ?_
          | refine RunL.cons (step_quo_in rfl rfl (by omega) (by omega) (by omega) rfl) ?_
          | refine RunL.cons (step_rem_in rfl rfl (by omega) (by omega) rfl) ?_
          | refine RunL.cons (step_convert_in rfl (by unfold fits; omega) rfl) ?_
          | refine RunL.cons (step_neg_in rfl (by unfold fits; omega) rfl) ?_
          | refine RunL.cons (step_not rfl rfl) ?_
          | refine RunL.cons (step_pick_true rfl rfl rfl rfl) ?_
          | refine RunL.cons (step_pick_false rfl rfl rfl rfl) ?_
          | refine RunL.cons (step_len (by first | exact .als rfl rfl rfl | exact .root rfl | exact .sh rfl | exact .sub rfl rfl rfl | exact .nil) _ (Nat.mul_one _).symm (by decide) rfl) ?_
          | refine RunL.cons (step_index_als rfl rfl rfl rfl (by first | rfl | omega) (by omega) rfl) ?_
          | refine RunL.cons (step_index_root rfl rfl (by first | rfl | omega) (by omega) rfl) ?_
          | refine RunL.cons (step_index_sh rfl rfl (by first | rfl | omega) (by omega) rfl) ?_
          | refine RunL.cons (step_index_sub rfl rfl rfl rfl (by first | rfl | omega) (by omega) rfl) ?_
          | refine RunL.pass rfl rfl rfl rfl ?_
          | refine RunL.pass_undef rfl rfl rfl ?_
          | refine RunL.doit rfl rfl (step_move_c rfl rfl) ?_
          | refine RunL.doit rfl rfl (step_move_own rfl rfl) ?_
          | refine RunL.doit rfl rfl (step_move_als rfl rfl) ?_
          | refine RunL.doit rfl rfl (step_move_ptr rfl rfl) ?_
          | refine RunL.doit rfl rfl (step_move_sptr rfl rfl) ?_
          | refine RunL.doit rfl rfl (step_move_pt rfl rfl) ?_
          | refine RunL.doit rfl rfl (step_move_sub rfl rfl) ?_
          | refine RunL.doit rfl rfl (step_eql rfl rfl rfl) ?_
          | refine RunL.doit rfl rfl (step_neq rfl rfl rfl) ?_
          | refine RunL.doit rfl rfl (step_lss rfl rfl rfl) ?_
          | refine RunL.doit rfl rfl (step_leq rfl rfl rfl) ?_
          | refine RunL.doit rfl rfl (step_gtr rfl rfl rfl) ?_
          | refine RunL.doit rfl rfl (step_geq rfl rfl rfl) ?_
          | refine RunL.doit rfl rfl (step_add_in rfl rfl (by unfold fits; omega) rfl) ?_
          | refine RunL.doit rfl rfl (step_sub_in rfl rfl (by unfold fits; omega) rfl) ?_
          | refine RunL.doit rfl rfl (step_mul_in rfl rfl (by unfold fits; omega) rfl) ?_
          | refine RunL.doit rfl rfl (step_quo_in rfl rfl (by omega) (by omega) (by omega) rfl) ?_
          | refine RunL.doit rfl rfl (step_rem_in rfl rfl (by omega) (by omega) rfl) ?_
          | refine RunL.doit rfl rfl (step_convert_in rfl (by unfold fits; omega) rfl) ?_
          | refine RunL.doit rfl rfl (step_neg_in rfl (by unfold fits; omega) rfl) ?_
          | refine RunL.doit rfl rfl (step_not rfl rfl) ?_
          | refine RunL.doit rfl rfl (step_pick_true rfl rfl rfl rfl) ?_
          | refine RunL.doit rfl rfl (step_pick_false rfl rfl rfl rfl) ?_
          | refine RunL.doit rfl rfl (step_len (by first | exact .als rfl rfl rfl | exact .root rfl | exact .sh rfl | exact .sub rfl rfl rfl | exact .nil) _ (Nat.mul_one _).symm (by decide) rfl) ?_
          | refine RunL.doit rfl rfl (step_index_als rfl rfl rfl rfl (by first | rfl | omega) (by omega) rfl) ?_
          | refine RunL.doit rfl rfl (step_index_root rfl rfl (by first | rfl | omega) (by omega) rfl) ?_
          | refine RunL.doit rfl rfl (step_index_sh rfl rfl (by first | rfl | omega) (by omega) rfl) ?_
          | refine RunL.doit rfl rfl (step_index_sub rfl rfl rfl rfl (by first | rfl | omega) (by omega) rfl) ?_
          | refine RunL.guard_dec rfl rfl (fun _ => ?_) (fun _ => ?_)
          | refine RunL.guard_not rfl rfl (fun _ => ?_) (fun _ => ?_)
          | refine RunL.guard rfl rfl (fun _ => ?_) (fun _ => ?_)
          | refine WpA.cond_true rfl ?_
          | refine WpA.cond_false rfl ?_
          | refine WpA.cond_ntrue rfl ?_
          | refine WpA.cond_dec rfl (fun _ => ?_) (fun _ => ?_)
          | refine WpA.cond_not rfl (fun _ => ?_) (fun _ => ?_)
          | refine WpA.cond rfl (fun _ => ?_) (fun _ => ?_)
          | refine Done.ret (.one (by first | exact .c rfl | exact .own rfl | exact .als rfl rfl | exact .ptr rfl rfl | exact .part rfl rfl rfl) (.one (by first | exact .c rfl | exact .own rfl | exact .als rfl rfl | exact .ptr rfl rfl | exact .part rfl rfl rfl) .nil)) (.sh .nil) ?_ rfl
          | refine Done.normal (.one (by first | exact .c rfl | exact .own rfl | exact .als rfl rfl | exact .ptr rfl rfl | exact .part rfl rfl rfl) (.one (by first | exact .c rfl | exact .own rfl | exact .als rfl rfl | exact .ptr rfl rfl | exact .part rfl rfl rfl) .nil)) (.sh .nil) ?_ rfl)
      case refine_1 h3 => exact ⟨j + 1, by omega, ⟨rfl, int_eq (by omega), rfl, rfl, trivial⟩, by omega⟩
      case refine_2 h3 =>
        have e1 : ¬ (k < 0 ∨ 40 < k) := by omega
        by_cases h4 : k = 0
        · have e : j = 0 := by omega
          subst e h4
          simp [countC, codeC, codes2]
        · have e : j = k.toNat - 1 := by omega
          subst e
          simp [countC, codeC, e1, h4]
  · refine callA_of _ Try.func16 rfl Try.ntmps16 (by first | exact ⟨rfl, rfl⟩ | simp [V.solid, D.solid, D.solids, solids_lits]) ?_
    repeat' (first
        | refine WpA.seq ?_
        | refine WpA.region ?_
        | refine RunL.nil ?_
        | refine WpA.block ?_
        | refine WpA.ret ?_
        | refine WpA.skip ?_
        | refine WpA.exit ?_
        | refine RunL.cons (step_call (inRange_c _ _ _) (.sh (.sh (.sh .nil))) (.sh (by first | exact .lit rfl rfl | exact .c rfl | exact .view (.als rfl rfl rfl) (by first | rfl | exact erases_lits _ | simp [D.erases, D.erase, erases_lits]) | exact .view (.root rfl) (by first | rfl | exact erases_lits _ | simp [D.erases, D.erase, erases_lits]) | exact .view (.sub rfl rfl rfl) (by first | rfl | exact erases_lits _ | simp [D.erases, D.erase, erases_lits]) | exact .view .nil (by first | rfl | exact erases_lits _ | simp [D.erases, D.erase, erases_lits]) | exact .ptr rfl rfl (by first | rfl | exact erases_lits _ | simp [D.erases, D.erase, erases_lits]) | exact .root rfl (by first | rfl | exact erases_lits _ | simp [D.erases, D.erase, erases_lits]) | exact .sptr rfl) (.sh (by first | exact .lit rfl rfl | exact .c rfl | exact .view (.als rfl rfl rfl) (by first | rfl | exact erases_lits _ | simp [D.erases, D.erase, erases_lits]) | exact .view (.root rfl) (by first | rfl | exact erases_lits _ | simp [D.erases, D.erase, erases_lits]) | exact .view (.sub rfl rfl rfl) (by first | rfl | exact erases_lits _ | simp [D.erases, D.erase, erases_lits]) | exact .view .nil (by first | rfl | exact erases_lits _ | simp [D.erases, D.erase, erases_lits]) | exact .ptr rfl rfl (by first | rfl | exact erases_lits _ | simp [D.erases, D.erase, erases_lits]) | exact .root rfl (by first | rfl | exact erases_lits _ | simp [D.erases, D.erase, erases_lits]) | exact .sptr rfl) (.sh (by first | exact .lit rfl rfl | exact .c rfl | exact .view (.als rfl rfl rfl) (by first | rfl | exact erases_lits _ | simp [D.erases, D.erase, erases_lits]) | exact .view (.root rfl) (by first | rfl | exact erases_lits _ | simp [D.erases, D.erase, erases_lits]) | exact .view (.sub rfl rfl rfl) (by first | rfl | exact erases_lits _ | simp [D.erases, D.erase, erases_lits]) | exact .view .nil (by first | rfl | exact erases_lits _ | simp [D.erases, D.erase, erases_lits]) | exact .ptr rfl rfl (by first | rfl | exact erases_lits _ | simp [D.erases, D.erase, erases_lits]) | exact .root rfl (by first | rfl | exact erases_lits _ | simp [D.erases, D.erase, erases_lits]) | exact .sptr rfl) .nil))) rfl) ?_
        | refine RunL.cons (step_const rfl rfl) ?_
        | refine RunL.cons (step_move_const rfl rfl) ?_
        | refine RunL.cons (step_assign_nil rfl) ?_
        | refine RunL.cons (step_move_c rfl rfl) ?_
        | refine RunL.cons (step_assign_c rfl rfl) ?_
        | refine RunL.cons (step_move_own rfl rfl) ?_
        | refine RunL.cons (step_move_als rfl rfl) ?_
        | refine RunL.cons (step_move_ptr rfl rfl) ?_
        | refine RunL.cons (step_move_sptr rfl rfl) ?_
        | refine RunL.cons (step_move_pt rfl rfl) ?_
        | refine RunL.cons (step_move_sub rfl rfl) ?_
        | refine RunL.cons (step_move_tup rfl rfl (by decide)) ?_
        | refine RunL.cons (step_extract_c rfl rfl rfl) ?_
        | refine RunL.cons (step_extract_own rfl rfl rfl) ?_
        | refine RunL.cons (step_extract_agg rfl rfl rfl) ?_
        | refine RunL.cons (step_assign_own rfl rfl (by decide)) ?_
        | refine RunL.cons (step_assign_agg rfl rfl (by decide)) ?_
        | refine RunL.cons (step_assign_sub rfl rfl) ?_
        | refine RunL.cons (step_eql rfl rfl rfl) ?_
        | refine RunL.cons (step_neq rfl rfl rfl) ?_
        | refine RunL.cons (step_lss rfl rfl rfl) ?_
        | refine RunL.cons (step_leq rfl rfl rfl) ?_
        | refine RunL.cons (step_gtr rfl rfl rfl) ?_
        | refine RunL.cons (step_geq rfl rfl rfl) ?_
        | refine RunL.cons (step_add_in rfl rfl (by unfold fits; omega) rfl) ?_
        | refine RunL.cons (step_sub_in rfl rfl (by unfold fits; omega) rfl) ?_
        | refine RunL.cons (step_mul_in rfl rfl (by unfold fits; omega) rfl) ?_
        | refine RunL.cons (step_quo_in rfl rfl (by omega) (by omega) (by omega) rfl) ?_
        | refine RunL.cons (step_rem_in rfl rfl (by omega) (by omega) rfl) ?_
        | refine RunL.cons (step_convert_in rfl (by unfold fits; omega) rfl) ?_
        | refine RunL.cons (step_neg_in rfl (by unfold fits; omega) rfl) ?_
        | refine RunL.cons (step_not rfl rfl) ?_
        | refine RunL.cons (step_pick_true rfl rfl rfl rfl) ?_
        | refine RunL.cons (step_pick_false rfl rfl rfl rfl) ?_
        | refine RunL.cons (step_len (by first | exact .als rfl rfl rfl | exact .root rfl | exact .sh rfl | exact .sub rfl rfl rfl | exact .nil) _ (Nat.mul_one _).symm (by decide) rfl) ?_
        | refine RunL.cons (step_index_als rfl rfl rfl rfl (by first | rfl | omega) (by omega) rfl) ?_
        | refine RunL.cons (step_index_root rfl rfl (by first | rfl | omega) (by omega) rfl) ?_
        | refine RunL.cons (step_index_sh rfl rfl (by first | rfl | omega) (by omega) rfl) ?_
        | refine RunL.cons (step_index_sub rfl rfl rfl rfl (by first | rfl | omega) (by omega) rfl) ?_
        | refine RunL.pass rfl rfl rfl rfl ?_
        | refine RunL.pass_undef rfl rfl rfl ?_
        | refine RunL.doit rfl rfl (step_move_c rfl rfl) ?_
        | refine RunL.doit rfl rfl (step_move_own rfl rfl) ?_
        | refine RunL.doit rfl rfl (step_move_als rfl rfl) ?_
        | refine RunL.doit rfl rfl (step_move_ptr rfl rfl) ?_
        | refine RunL.doit rfl rfl (step_move_sptr rfl rfl) ?_
        | refine RunL.doit rfl rfl (step_move_pt rfl rfl) ?_
        | refine RunL.doit rfl rfl (step_move_sub rfl rfl) ?_
        | refine RunL.doit rfl rfl (step_eql rfl rfl rfl) ?_
        | refine RunL.doit rfl rfl (step_neq rfl rfl rfl) ?_
        | refine RunL.doit rfl rfl (step_lss rfl rfl rfl) ?_
        | refine RunL.doit rfl rfl (step_leq rfl rfl rfl) ?_
        | refine RunL.doit rfl rfl (step_gtr rfl rfl rfl) ?_
        | refine RunL.doit rfl rfl (step_geq rfl rfl rfl) ?_
        | refine RunL.doit rfl rfl (step_add_in rfl rfl (by unfold fits; omega) rfl) ?_
        | refine RunL.doit rfl rfl (step_sub_in rfl rfl (by unfold fits; omega) rfl) ?_
        | refine RunL.doit rfl rfl (step_mul_in rfl rfl (by unfold fits; omega) rfl) ?_
        | refine RunL.doit rfl rfl (step_quo_in rfl rfl (by omega) (by omega) (by omega) rfl) ?_
        | refine RunL.doit rfl rfl (step_rem_in rfl rfl (by omega) (by omega) rfl) ?_
        | refine RunL.doit rfl rfl (step_convert_in rfl (by unfold fits; omega) rfl) ?_
        | refine RunL.doit rfl rfl (step_neg_in rfl (by unfold fits; omega) rfl) ?_
        | refine RunL.doit rfl rfl (step_not rfl rfl) ?_
        | refine RunL.doit rfl rfl (step_pick_true rfl rfl rfl rfl) ?_
        | refine RunL.doit rfl rfl (step_pick_false rfl rfl rfl rfl) ?_
        | refine RunL.doit rfl rfl (step_len (by first | exact .als rfl rfl rfl | exact .root rfl | exact .sh rfl | exact .sub rfl rfl rfl | exact .nil) _ (Nat.mul_one _).symm (by decide) rfl) ?_
        | refine RunL.doit rfl rfl (step_index_als rfl rfl rfl rfl (by first | rfl | omega) (by omega) rfl) ?_
        | refine RunL.doit rfl rfl (step_index_root rfl rfl (by first | rfl | omega) (by omega) rfl) ?_
        | refine RunL.doit rfl rfl (step_index_sh rfl rfl (by first | rfl | omega) (by omega) rfl) ?_
        | refine RunL.doit rfl rfl (step_index_sub rfl rfl rfl rfl (by first | rfl | omega) (by omega) rfl) ?_
        | refine RunL.doit rfl rfl (step_call (inRange_c _ _ _) (.sh (.sh (.sh .nil))) (.sh (by first | exact .lit rfl rfl | exact .c rfl | exact .view (.als rfl rfl rfl) (by first | rfl | exact erases_lits _ | simp [D.erases, D.erase, erases_lits]) | exact .view (.root rfl) (by first | rfl | exact erases_lits _ | simp [D.erases, D.erase, erases_lits]) | exact .view (.sub rfl rfl rfl) (by first | rfl | exact erases_lits _ | simp [D.erases, D.erase, erases_lits]) | exact .view .nil (by first | rfl | exact erases_lits _ | simp [D.erases, D.erase, erases_lits]) | exact .ptr rfl rfl (by first | rfl | exact erases_lits _ | simp [D.erases, D.erase, erases_lits]) | exact .root rfl (by first | rfl | exact erases_lits _ | simp [D.erases, D.erase, erases_lits]) | exact .sptr rfl) (.sh (by first | exact .lit rfl rfl | exact .c rfl | exact .view (.als rfl rfl rfl) (by first | rfl | exact erases_lits _ | simp [D.erases, D.erase, erases_lits]) | exact .view (.root rfl) (by first | rfl | exact erases_lits _ | simp [D.erases, D.erase, erases_lits]) | exact .view (.sub rfl rfl rfl) (by first | rfl | exact erases_lits _ | simp [D.erases, D.erase, erases_lits]) | exact .view .nil (by first | rfl | exact erases_lits _ | simp [D.erases, D.erase, erases_lits]) | exact .ptr rfl rfl (by first | rfl | exact erases_lits _ | simp [D.erases, D.erase, erases_lits]) | exact .root rfl (by first | rfl | exact erases_lits _ | simp [D.erases, D.erase, erases_lits]) | exact .sptr rfl) (.sh (by first | exact .lit rfl rfl | exact .c rfl | exact .view (.als rfl rfl rfl) (by first | rfl | exact erases_lits _ | simp [D.erases, D.erase, erases_lits]) | exact .view (.root rfl) (by first | rfl | exact erases_lits _ | simp [D.erases, D.erase, erases_lits]) | exact .view (.sub rfl rfl rfl) (by first | rfl | exact erases_lits _ | simp [D.erases, D.erase, erases_lits]) | exact .view .nil (by first | rfl | exact erases_lits _ | simp [D.erases, D.erase, erases_lits]) | exact .ptr rfl rfl (by first | rfl | exact erases_lits _ | simp [D.erases, D.erase, erases_lits]) | exact .root rfl (by first | rfl | exact erases_lits _ | simp [D.erases, D.erase, erases_lits]) | exact .sptr rfl) .nil))) rfl) ?_
        | refine RunL.guard_dec rfl rfl (fun _ => ?_) (fun _ => ?_)
        | refine RunL.guard_not rfl rfl (fun _ => ?_) (fun _ => ?_)
        | refine RunL.guard rfl rfl (fun _ => ?_) (fun _ => ?_)
        | refine WpA.cond_true rfl ?_
        | refine WpA.cond_false rfl ?_
        | refine WpA.cond_ntrue rfl ?_
        | refine WpA.cond_dec rfl (fun _ => ?_) (fun _ => ?_)
        | refine WpA.cond_not rfl (fun _ => ?_) (fun _ => ?_)
        | refine WpA.cond rfl (fun _ => ?_) (fun _ => ?_)
        | refine Done.ret (.one (by first | exact .c rfl | exact .own rfl | exact .als rfl rfl | exact .ptr rfl rfl | exact .part rfl rfl rfl) (.one (by first | exact .c rfl | exact .own rfl | exact .als rfl rfl | exact .ptr rfl rfl | exact .part rfl rfl rfl) .nil)) (.sh .nil) ?_ rfl
        | refine Done.normal (.one (by first | exact .c rfl | exact .own rfl | exact .als rfl rfl | exact .ptr rfl rfl | exact .part rfl rfl rfl) (.one (by first | exact .c rfl | exact .own rfl | exact .als rfl rfl | exact .ptr rfl rfl | exact .part rfl rfl rfl) .nil)) (.sh .nil) ?_ rfl)
    case refine_1 h =>
      have e1 : k < 0 ∨ 40 < k := by omega
      simp [countC, codeC, e1]
    case refine_2 h => exact absurd h hk

theorem law_c (k : Int) : CallA Try.prog 3 [aI k] [rB true] [] := by
  refine callA_of _ Try.func3 rfl Try.ntmps3 (by first | exact ⟨rfl, rfl⟩ | simp [V.solid, D.solid, D.solids, solids_lits]) ?_
  repeat' (first
      | refine WpA.seq ?_
      | refine WpA.region ?_
      | refine RunL.nil ?_
      | refine WpA.block ?_
      | refine WpA.ret ?_
      | refine WpA.skip ?_
      | refine WpA.exit ?_
      | refine RunL.cons (step_call (specCountCodes_c _) (.sh .nil) (.sh (by first | exact .lit rfl rfl | exact .c rfl | exact .view (.als rfl rfl rfl) (by first | rfl | exact erases_lits _ | simp [D.erases, D.erase, erases_lits]) | exact .view (.root rfl) (by first | rfl | exact erases_lits _ | simp [D.erases, D.erase, erases_lits]) | exact .view (.sub rfl rfl rfl) (by first | rfl | exact erases_lits _ | simp [D.erases, D.erase, erases_lits]) | exact .view .nil (by first | rfl | exact erases_lits _ | simp [D.erases, D.erase, erases_lits]) | exact .ptr rfl rfl (by first | rfl | exact erases_lits _ | simp [D.erases, D.erase, erases_lits]) | exact .root rfl (by first | rfl | exact erases_lits _ | simp [D.erases, D.erase, erases_lits]) | exact .sptr rfl) .nil) rfl) ?_
      | refine RunL.cons (step_call (implCountCodes_c _) (.sh .nil) (.sh (by first | exact .lit rfl rfl | exact .c rfl | exact .view (.als rfl rfl rfl) (by first | rfl | exact erases_lits _ | simp [D.erases, D.erase, erases_lits]) | exact .view (.root rfl) (by first | rfl | exact erases_lits _ | simp [D.erases, D.erase, erases_lits]) | exact .view (.sub rfl rfl rfl) (by first | rfl | exact erases_lits _ | simp [D.erases, D.erase, erases_lits]) | exact .view .nil (by first | rfl | exact erases_lits _ | simp [D.erases, D.erase, erases_lits]) | exact .ptr rfl rfl (by first | rfl | exact erases_lits _ | simp [D.erases, D.erase, erases_lits]) | exact .root rfl (by first | rfl | exact erases_lits _ | simp [D.erases, D.erase, erases_lits]) | exact .sptr rfl) .nil) rfl) ?_
      | refine RunL.cons (step_const rfl rfl) ?_
      | refine RunL.cons (step_move_const rfl rfl) ?_
      | refine RunL.cons (step_assign_nil rfl) ?_
      | refine RunL.cons (step_move_c rfl rfl) ?_
      | refine RunL.cons (step_assign_c rfl rfl) ?_
      | refine RunL.cons (step_move_own rfl rfl) ?_
      | refine RunL.cons (step_move_als rfl rfl) ?_
      | refine RunL.cons (step_move_ptr rfl rfl) ?_
      | refine RunL.cons (step_move_sptr rfl rfl) ?_
      | refine RunL.cons (step_move_pt rfl rfl) ?_
      | refine RunL.cons (step_move_sub rfl rfl) ?_
      | refine RunL.cons (step_move_tup rfl rfl (by decide)) ?_
      | refine RunL.cons (step_extract_c rfl rfl rfl) ?_
      | refine RunL.cons (step_extract_own rfl rfl rfl) ?_
      | refine RunL.cons (step_extract_agg rfl rfl rfl) ?_
      | refine RunL.cons (step_assign_own rfl rfl (by decide)) ?_
      | refine RunL.cons (step_assign_agg rfl rfl (by decide)) ?_
      | refine RunL.cons (step_assign_sub rfl rfl) ?_
      | refine RunL.cons (step_eql rfl rfl rfl) ?_
      | refine RunL.cons (step_neq rfl rfl rfl) ?_
      | refine RunL.cons (step_lss rfl rfl rfl) ?_
      | refine RunL.cons (step_leq rfl rfl rfl) ?_
      | refine RunL.cons (step_gtr rfl rfl rfl) ?_
      | refine RunL.cons (step_geq rfl rfl rfl) ?_
      | refine RunL.cons (step_add_in rfl rfl (by unfold fits; omega) rfl) ?_
      | refine RunL.cons (step_sub_in rfl rfl (by unfold fits; omega) rfl) ?_
      | refine RunL.cons (step_mul_in rfl rfl (by unfold fits; omega) rfl) ?_
      | refine RunL.cons (step_quo_in rfl rfl (by omega) (by omega) (by omega) rfl) ?_
      | refine RunL.cons (step_rem_in rfl rfl (by omega) (by omega) rfl) ?_
      | refine RunL.cons (step_convert_in rfl (by unfold fits; omega) rfl) ?_
      | refine RunL.cons (step_neg_in rfl (by unfold fits; omega) rfl) ?_
      | refine RunL.cons (step_not rfl rfl) ?_
      | refine RunL.cons (step_pick_true rfl rfl rfl rfl) ?_
      | refine RunL.cons (step_pick_false rfl rfl rfl rfl) ?_
      | refine RunL.cons (step_len (by first | exact .als rfl rfl rfl | exact .root rfl | exact .sh rfl | exact .sub rfl rfl rfl | exact .nil) _ (Nat.mul_one _).symm (by decide) rfl) ?_
      | refine RunL.cons (step_index_als rfl rfl rfl rfl (by first | rfl | omega) (by omega) rfl) ?_
      | refine RunL.cons (step_index_root rfl rfl (by first | rfl | omega) (by omega) rfl) ?_
      | refine RunL.cons (step_index_sh rfl rfl (by first | rfl | omega) (by omega) rfl) ?_
      | refine RunL.cons (step_index_sub rfl rfl rfl rfl (by first | rfl | omega) (by omega) rfl) ?_
      | refine RunL.pass rfl rfl rfl rfl ?_
      | refine RunL.pass_undef rfl rfl rfl ?_
      | refine RunL.doit rfl rfl (step_move_c rfl rfl) ?_
      | refine RunL.doit rfl rfl (step_move_own rfl rfl) ?_
      | refine RunL.doit rfl rfl (step_move_als rfl rfl) ?_
      | refine RunL.doit rfl rfl (step_move_ptr rfl rfl) ?_
      | refine RunL.doit rfl rfl (step_move_sptr rfl rfl) ?_
      | refine RunL.doit rfl rfl (step_move_pt rfl rfl) ?_
      | refine RunL.doit rfl rfl (step_move_sub rfl rfl) ?_
      | refine RunL.doit rfl rfl (step_eql rfl rfl rfl) ?_
      | refine RunL.doit rfl rfl (step_neq rfl rfl rfl) ?_
      | refine RunL.doit rfl rfl (step_lss rfl rfl rfl) ?_
      | refine RunL.doit rfl rfl (step_leq rfl rfl rfl) ?_
      | refine RunL.doit rfl rfl (step_gtr rfl rfl rfl) ?_
      | refine RunL.doit rfl rfl (step_geq rfl rfl rfl) ?_
      | refine RunL.doit rfl rfl (step_add_in rfl rfl (by unfold fits; omega) rfl) ?_
      | refine RunL.doit rfl rfl (step_sub_in rfl rfl (by unfold fits; omega) rfl) ?_
      | refine RunL.doit rfl rfl (step_mul_in rfl rfl (by unfold fits; omega) rfl) ?_
      | refine RunL.doit rfl rfl (step_quo_in rfl rfl (by omega) (by omega) (by omega) rfl) ?_
      | refine RunL.doit rfl rfl (step_rem_in rfl rfl (by omega) (by omega) rfl) ?_
      | refine RunL.doit rfl rfl (step_convert_in rfl (by unfold fits; omega) rfl) ?_
      | refine RunL.doit rfl rfl (step_neg_in rfl (by unfold fits; omega) rfl) ?_
      | refine RunL.doit rfl rfl (step_not rfl rfl) ?_
      | refine RunL.doit rfl rfl (step_pick_true rfl rfl rfl rfl) ?_
      | refine RunL.doit rfl rfl (step_pick_false rfl rfl rfl rfl) ?_
      | refine RunL.doit rfl rfl (step_len (by first | exact .als rfl rfl rfl | exact .root rfl | exact .sh rfl | exact .sub rfl rfl rfl | exact .nil) _ (Nat.mul_one _).symm (by decide) rfl) ?_
      | refine RunL.doit rfl rfl (step_index_als rfl rfl rfl rfl (by first | rfl | omega) (by omega) rfl) ?_
      | refine RunL.doit rfl rfl (step_index_root rfl rfl (by first | rfl | omega) (by omega) rfl) ?_
      | refine RunL.doit rfl rfl (step_index_sh rfl rfl (by first | rfl | omega) (by omega) rfl) ?_
      | refine RunL.doit rfl rfl (step_index_sub rfl rfl rfl rfl (by first | rfl | omega) (by omega) rfl) ?_
      | refine RunL.doit rfl rfl (step_call (specCountCodes_c _) (.sh .nil) (.sh (by first | exact .lit rfl rfl | exact .c rfl | exact .view (.als rfl rfl rfl) (by first | rfl | exact erases_lits _ | simp [D.erases, D.erase, erases_lits]) | exact .view (.root rfl) (by first | rfl | exact erases_lits _ | simp [D.erases, D.erase, erases_lits]) | exact .view (.sub rfl rfl rfl) (by first | rfl | exact erases_lits _ | simp [D.erases, D.erase, erases_lits]) | exact .view .nil (by first | rfl | exact erases_lits _ | simp [D.erases, D.erase, erases_lits]) | exact .ptr rfl rfl (by first | rfl | exact erases_lits _ | simp [D.erases, D.erase, erases_lits]) | exact .root rfl (by first | rfl | exact erases_lits _ | simp [D.erases, D.erase, erases_lits]) | exact .sptr rfl) .nil) rfl) ?_
      | refine RunL.doit rfl rfl (step_call (implCountCodes_c _) (.sh .nil) (.sh (by first | exact .lit rfl rfl | exact .c rfl | exact .view (.als rfl rfl rfl) (by first | rfl | exact erases_lits _ | simp [D.erases, D.erase, erases_lits]) | exact .view (.root rfl) (by first | rfl | exact erases_lits _ | simp [D.erases, D.erase, erases_lits]) | exact .view (.sub rfl rfl rfl) (by first | rfl | exact erases_lits _ | simp [D.erases, D.erase, erases_lits]) | exact .view .nil (by first | rfl | exact erases_lits _ | simp [D.erases, D.erase, erases_lits]) | exact .ptr rfl rfl (by first | rfl | exact erases_lits _ | simp [D.erases, D.erase, erases_lits]) | exact .root rfl (by first | rfl | exact erases_lits _ | simp [D.erases, D.erase, erases_lits]) | exact .sptr rfl) .nil) rfl) ?_
      | refine RunL.guard_dec rfl rfl (fun _ => ?_) (fun _ => ?_)
      | refine RunL.guard_not rfl rfl (fun _ => ?_) (fun _ => ?_)
      | refine RunL.guard rfl rfl (fun _ => ?_) (fun _ => ?_)
      | refine WpA.cond_true rfl ?_
      | refine WpA.cond_false rfl ?_
      | refine WpA.cond_ntrue rfl ?_
      | refine WpA.cond_dec rfl (fun _ => ?_) (fun _ => ?_)
      | refine WpA.cond_not rfl (fun _ => ?_) (fun _ => ?_)
      | refine WpA.cond rfl (fun _ => ?_) (fun _ => ?_)
      | refine Done.ret (.one (by first | exact .c rfl | exact .own rfl | exact .als rfl rfl | exact .ptr rfl rfl | exact .part rfl rfl rfl) .nil) (.sh .nil) ?_ rfl
      | refine Done.normal (.one (by first | exact .c rfl | exact .own rfl | exact .als rfl rfl | exact .ptr rfl rfl | exact .part rfl rfl rfl) .nil) (.sh .nil) ?_ rfl)
  all_goals first | rfl | exact absurd rfl ‹_› | simp_all
theorem own : ownKnob Try.prog.godebug = none := by kernel_rfl
theorem laidOut : laidOutB Try.prog = true := by kernel_rfl
theorem sees_FnExactCountCodes (xs : List Arg) (has : Sees Try.prog Try.f3.params.toList xs) : CallA Try.prog 3 xs [.one (.lit (.bool true))] [] := by
  rw [Try.params3] at has
  obtain ⟨k, xs, rfl, _, h⟩ := sees_int Try.underlying2 has
  obtain rfl := sees_nil h
  exact law_c k
set_option maxRecDepth 100000 in
theorem lifted_FnExactCountCodes (os : Os) (started : os.Started) (H : Type) (enc : TypeId × Value → H) :
    ReturnsInHanded {} Try.checked os 3 .any (Rows.fnExactCountCodesSpec.pre6 enc Try.prog Try.f3 Rows.fnExactCountCodesRow.domain false) (Rows.fnExactCountCodesSpec.post enc Try.prog Try.f3 false true false false) := by
  refine returnsInHanded_of_change (C := Try.checked) own started (by kernel_rfl) Try.func3
    (ChangeSpec.witness6 (enc := enc) (C := Try.checked) false ⟨#[], #[.int .i64 0], []⟩ 8 (by kernel_rfl) (by kernel_rfl) (by kernel_rfl) (by kernel_rfl)) ?_
  intro W base args ds gs before hval hW _ _
  refine law_contract (P := Try.prog) laidOut (by kernel_rfl) rfl (by kernel_rfl) Try.underlying4 (fun ds h => ?_) sees_FnExactCountCodes W base args ds gs before hval hW
  rw [Try.params3] at h
  match ds, h with
  | [_], _ => exact ⟨rfl, rfl, rfl⟩
/-- The law holds for every input. -/
theorem said_FnExactCountCodes : Rows.FnExactCountCodesSaid :=
  OpenClaim.holds_of_wide 3 Try.f3 rfl rfl rfl rfl rfl rfl rfl ⟨rfl, rfl, rfl, rfl, rfl⟩ rfl rfl rfl rfl rfl (by kernel_rfl) Try.func3 (by kernel_rfl)
    (of_decide_eq_true (by kernel_rfl)) (by unfold Func.isWrapper; first | (rw [if_pos (by decide +kernel)]; kernel_rfl) | (rw [if_neg (by decide +kernel)]; exact ⟨rfl, rfl⟩))
    (fun os started H enc _ => lifted_FnExactCountCodes os started H enc)
end Go.Proofs.Ytnkdoilpofboeaa