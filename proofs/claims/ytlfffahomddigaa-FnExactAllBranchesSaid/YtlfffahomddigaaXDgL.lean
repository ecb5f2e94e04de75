/- The lists of branches and the counts of branches with a Milnor number: the program and its reference return the same. No condition. -/
import Derived.Test.YtlfffahomddigaaXDgE
import Derived.Test.YtlfffahomddigaaXBrB
import Derived.Test.YtlfffahomddigaaRows
namespace Go.Proofs.Ytlfffahomddigaa
set_option maxHeartbeats 20000000
set_option linter.unusedVariables false
set_option linter.unusedSimpArgs false
open Go.Pv
open Go.ChangeShapes Go.WideShapes Go.ChangeAt Go.RowKit
attribute [local irreducible] RunU WpA Step CallG CallNG Done DoneN
theorem own : ownKnob Try.prog.godebug = none := by kernel_rfl
theorem laidOut : laidOutB Try.prog = true := by kernel_rfl
theorem brL_len (m : Int) : (brL m).length ≤ 2000 := by
  unfold brL
  split
  · rename_i h
    have hL := lists_of h
    rw [hL.perm.length_eq]; exact hL.len
  · simp
theorem brL_row (m : Int) (i : Nat) : ((brL m).getD i []).length ≤ 1000 := by
  by_cases hi : i < (brL m).length
  · have hm : (brL m)[i] ∈ brL m := List.getElem_mem hi
    rw [getR hi]
    generalize (brL m)[i] = x at hm
    unfold brL at hm
    split at hm
    · rename_i h
      have hL := lists_of h
      have := (hL.tmsS x (hL.perm.mem_iff.1 hm)).len
      omega
    · simp at hm
  · rw [List.getD_eq_getElem?_getD, List.getElem?_eq_none (by omega)]
    simp
theorem lawAllB_c (m : Int) : CallA Try.prog 4 [aI m] [rB true] [] := by
  have h1 := brL_len m
  have h2 := brL_row m
  have hs := specAllB_c m
  have hi := implAllB_c m
  generalize brL m = B at *
  generalize brC m = d at *
  refine callA_of _ Try.func4 rfl Try.ntmps4 (by first | exact ⟨rfl, rfl⟩ | (simp only [List.all_cons, List.all_nil, V.solid, D.solid, D.solids, solids_ints, solids_bools, solids_LL, Bool.and_self, Bool.and_true, and_self]; done) | simp [V.solid, D.solid, D.solids, solids_lits, solids_ints, solids_bools, solids_LL]) ?_
  have h3 := held_marks 1 B B.length
  have h4 := marksTo_len 1 B B.length
  have h5 : ∀ i, ((marksTo 1 B B.length).getD i []).length ≤ 1000 := fun i => by
    by_cases hi : i < B.length
    · rw [marksTo_at 1 _ _ _ hi, marks_len]; exact h2 i
    · rw [List.getD_eq_getElem?_getD, List.getElem?_eq_none (by omega)]; simp
  have h6 := marksTo_tot 1 B B.length _ (Nat.le_refl _)
  have h7 := tot_le h2 B.length
  have hh := heldBranchS_c (marksTo 1 B B.length) 1 h3 (by omega) h5 (by omega)
  rw [h4, h6] at hh
  repeat' (first | (guard_target =~ WpA _ _ _ _ _ _; first | refine WpA.seq ?_ | refine WpA.drawU ?_ | refine WpA.regionU ?_ | refine WpA.block ?_ | refine WpA.ret ?_ | refine WpA.skip ?_ | refine WpA.exit ?_ | refine WpA.cond_true rfl ?_ | refine WpA.cond_false rfl ?_ | refine WpA.cond_ntrue rfl ?_ | refine WpA.cond_dec rfl (fun _ => ?_) (fun _ => ?_) | refine WpA.cond_not rfl (fun _ => ?_) (fun _ => ?_) | refine WpA.cond rfl (fun _ => ?_) (fun _ => ?_)) | (guard_target =~ RunU _ _ _ _ [] _ _ _ _; first | refine RunU.nilL ?_ | refine RunU.nilD (by kernel_rfl) ?_) | (guard_target =~ RunU _ _ _ _ (Oper.mk _ (Op.call ⟨Callee.value _, _, _⟩) _ _ _ none :: _) _ _ _ _; first | refine RunU.cons (step_call (hs) (.sh .nil) (.sh shows_any .nil) rfl) ?_ | refine RunU.cons (step_call (hi) (.sh .nil) (.sh shows_any .nil) rfl) ?_ | refine RunU.cons (step_call (eqBranchS_c B B (by omega) (by omega) h2 h2) (.sh (.sh .nil)) (.sh shows_any (.sh shows_any .nil)) rfl) ?_ | refine RunU.cons (step_call_io1 (markBranchS_c B 1 (by omega) h2 (by omega)) io_any (.sh .nil) (.sh shows_any .nil) (by exact rfl) (by exact rfl) rfl) ?_ | refine RunU.cons (step_call (hh) (.sh (.sh .nil)) (.sh shows_any (.sh shows_any .nil)) rfl) ?_) | (guard_target =~ RunU _ _ _ _ (Oper.mk _ _ _ _ _ none :: _) _ _ _ _; refine RunU.cons step_any ?_) | (guard_target =~ RunU _ _ _ _ (Oper.mk _ _ _ _ _ (some _) :: _) _ _ _ _; first | refine RunU.pass rfl rfl rfl rfl ?_ | refine RunU.pass_undef rfl rfl rfl ?_ | (guard_target =~ RunU _ _ _ _ (Oper.mk _ (Op.call ⟨Callee.value _, _, _⟩) _ _ _ _ :: _) _ _ _ _; first | refine RunU.doit rfl rfl (step_call (hs) (.sh .nil) (.sh shows_any .nil) rfl) ?_ | refine RunU.doit rfl rfl (step_call (hi) (.sh .nil) (.sh shows_any .nil) rfl) ?_ | refine RunU.doit rfl rfl (step_call (eqBranchS_c B B (by omega) (by omega) h2 h2) (.sh (.sh .nil)) (.sh shows_any (.sh shows_any .nil)) rfl) ?_ | refine RunU.doit rfl rfl (step_call_io1 (markBranchS_c B 1 (by omega) h2 (by omega)) io_any (.sh .nil) (.sh shows_any .nil) (by exact rfl) (by exact rfl) rfl) ?_ | refine RunU.doit rfl rfl (step_call (hh) (.sh (.sh .nil)) (.sh shows_any (.sh shows_any .nil)) rfl) ?_) | refine RunU.doit rfl rfl step_any ?_ | ((fail_if_success (refine RunU.doit (rd := []) (up := []) rfl rfl ?_ ?_)); first | refine RunU.guard_dec rfl rfl (fun _ => ?_) (fun _ => ?_) | refine RunU.guard_not rfl rfl (fun _ => ?_) (fun _ => ?_) | refine RunU.guard rfl rfl (fun _ => ?_) (fun _ => ?_))) | refine Then.next ?_ | refine InBlock.next ?_ | refine Done.ret (.one (by first | exact .c rfl | exact .own rfl | exact .als rfl rfl | exact .ptr rfl rfl | exact .part rfl rfl rfl) .nil) (.sh .nil) ?_ rfl)
  all_goals first | rfl | exact absurd rfl ‹_› | omega
theorem sees_FnExactAllBranches (xs : List Arg) (has : Sees Try.prog Try.f4.params.toList xs) : CallA Try.prog 4 xs [.one (.lit (.bool true))] [] := by
  rw [Try.params4] at has
  obtain ⟨m, xs, rfl, _, h⟩ := sees_int Try.underlying2 has
  obtain rfl := sees_nil h
  exact lawAllB_c m
set_option maxRecDepth 100000 in
theorem lifted_FnExactAllBranches (os : Os) (started : os.Started) (H : Type) (enc : TypeId × Value → H) :
    ReturnsInHanded {} Try.checked os 4 .any (Rows.fnExactAllBranchesSpec.pre6 enc Try.prog Try.f4 Rows.fnExactAllBranchesRow.domain false) (Rows.fnExactAllBranchesSpec.post enc Try.prog Try.f4 false true false false) := by
  refine returnsInHanded_of_change (C := Try.checked) own started (by kernel_rfl) Try.func4
    (ChangeSpec.witness6 (enc := enc) (C := Try.checked) false ⟨#[], #[.int .i64 0], []⟩ 8 (by kernel_rfl) (by kernel_rfl) (by kernel_rfl) (by kernel_rfl)) ?_
  intro W base args ds gs before hval hW _ _
  refine law_contract (P := Try.prog) laidOut (by kernel_rfl) rfl (by kernel_rfl) Try.underlying4 (fun ds h => ?_) sees_FnExactAllBranches W base args ds gs before hval hW
  rw [Try.params4] at h
  match ds, h with
  | [_], _ => exact ⟨rfl, rfl, rfl⟩
theorem said_FnExactAllBranches : Rows.FnExactAllBranchesSaid :=
  OpenClaim.holds_of_wide 4 Try.f4 rfl rfl rfl rfl rfl rfl rfl ⟨rfl, rfl, rfl, rfl, rfl⟩ rfl rfl rfl rfl rfl (by kernel_rfl) Try.func4 (by kernel_rfl)
    (of_decide_eq_true (by kernel_rfl)) (by unfold Func.isWrapper; first | (rw [if_pos (by decide +kernel)]; kernel_rfl) | (rw [if_neg (by decide +kernel)]; exact ⟨rfl, rfl⟩))
    (fun os started H enc _ => lifted_FnExactAllBranches os started H enc)
end Go.Proofs.Ytlfffahomddigaa
