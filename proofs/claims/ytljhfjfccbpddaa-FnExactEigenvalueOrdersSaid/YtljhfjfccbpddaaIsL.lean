/- The law on the orders of eigenvalues: the program answers as its reference does, for every input. No condition. -/
import Derived.Test.YtljhfjfccbpddaaIsE
import Derived.Test.YtljhfjfccbpddaaSqA
import Derived.Test.YtljhfjfccbpddaaRows
namespace Go.Proofs.Ytljhfjfccbpddaa
set_option maxHeartbeats 20000000
set_option linter.unusedVariables false
set_option linter.unusedSimpArgs false
open Go.Pv
open Go.ChangeShapes Go.WideShapes Go.ChangeAt Go.RowKit
attribute [local irreducible] RunU WpA Step CallG CallNG Done DoneN
theorem own : ownKnob Try.prog.godebug = none := by kernel_rfl
theorem laidOut : laidOutB Try.prog = true := by kernel_rfl
theorem eoL_len (b : Int) (l : List Int) : (eoL b l).length ≤ 400 := by
  unfold eoL
  split
  · rename_i h
    have := eoTo_len b l l.length
    have := h.2.1
    omega
  · simp
theorem eoL_row (b : Int) (l : List Int) (i : Nat) : ((eoL b l).getD i []).length ≤ 2 := by
  by_cases hi : i < (eoL b l).length
  · have hm : (eoL b l)[i] ∈ eoL b l := List.getElem_mem hi
    rw [List.getD_eq_getElem?_getD, List.getElem?_eq_getElem hi, Option.getD_some]
    generalize (eoL b l)[i] = x at hm
    unfold eoL at hm
    split at hm
    · have := (eoTo_rows b l l.length x hm).1
      omega
    · simp at hm
  · rw [List.getD_eq_getElem?_getD, List.getElem?_eq_none (by omega)]
    simp
instance fnOk3 : FnOk Try.prog 3 := ⟨_, Try.func3, rfl, by decide⟩
set_option maxRecDepth 100000 in
theorem lawEo_c (b : Int) (l : List Int) (hl : l.length ≤ 9223372036854775807) : CallA Try.prog 3 [aSp b l] [rB true] [] := by
  refine callA_of _ Try.func3 rfl Try.ntmps3 (by first | exact ⟨rfl, rfl⟩ | (simp only [List.all_cons, List.all_nil, V.solid, D.solid, D.solids, solids_ints, solids_bools, solids_LL, Bool.and_self, Bool.and_true, and_self]; done) | simp [V.solid, D.solid, D.solids, solids_lits, solids_ints, solids_bools, solids_LL]) ?_
  repeat' (first
      | (guard_target =~ WpA _ _ _ _ _ _; first
        | refine WpA.seq ?_
        | refine WpA.drawU ?_
        | refine WpA.regionU ?_
        | refine WpA.block ?_
        | refine WpA.ret ?_
        | refine WpA.skip ?_
        | refine WpA.exit ?_
        | refine WpA.cond_true rfl ?_
        | refine WpA.cond_false rfl ?_
        | refine WpA.cond_ntrue rfl ?_
        | refine WpA.cond_dec rfl (fun _ => ?_) (fun _ => ?_)
        | refine WpA.cond_not rfl (fun _ => ?_) (fun _ => ?_)
        | refine WpA.cond rfl (fun _ => ?_) (fun _ => ?_)
        )
      | (guard_target =~ RunU _ _ _ _ [] _ _ _ _; first
        | refine RunU.nilL ?_
        | refine RunU.nilD (by kernel_rfl) ?_
        )
      | (guard_target =~ RunU _ _ _ _ (Oper.mk _ (Op.call ⟨Callee.value _, _, _⟩) _ _ _ none :: _) _ _ _ _; first
        | refine RunU.cons (step_call (szSpectrum_c b l 1048576 (by omega) hl) (.sh (.sh .nil)) (.shAgg rfl aggs_any (.sh shows_any .nil)) rfl) ?_
        )
      | (guard_target =~ RunU _ _ _ _ (Oper.mk _ _ _ _ _ none :: _) _ _ _ _; refine RunU.cons step_any ?_)
      | (guard_target =~ RunU _ _ _ _ (Oper.mk _ _ _ _ _ (some _) :: _) _ _ _ _; first
        | refine RunU.pass rfl rfl rfl rfl ?_
        | refine RunU.pass_undef rfl rfl rfl ?_
        | (guard_target =~ RunU _ _ _ _ (Oper.mk _ (Op.call ⟨Callee.value _, _, _⟩) _ _ _ _ :: _) _ _ _ _; first
          | refine RunU.doit rfl rfl (step_call (szSpectrum_c b l 1048576 (by omega) hl) (.sh (.sh .nil)) (.shAgg rfl aggs_any (.sh shows_any .nil)) rfl) ?_
          )
        | refine RunU.doit rfl rfl step_any ?_
        | ((fail_if_success (refine RunU.doit (rd := []) (up := []) rfl rfl ?_ ?_)); first
          | refine RunU.guard_dec rfl rfl (fun _ => ?_) (fun _ => ?_)
          | refine RunU.guard_not rfl rfl (fun _ => ?_) (fun _ => ?_)
          | refine RunU.guard rfl rfl (fun _ => ?_) (fun _ => ?_))
        )
      | refine Then.next ?_
      | refine InBlock.next ?_
      | refine Done.ret (.one (by first | exact .c rfl | exact .own rfl | exact .als rfl rfl | exact .ptr rfl rfl | exact .part rfl rfl rfl) .nil) (.sh .nil) ?_ rfl
      | refine Done.normal (.one (by first | exact .c rfl | exact .own rfl | exact .als rfl rfl | exact .ptr rfl rfl | exact .part rfl rfl rfl) .nil) (.sh .nil) ?_ rfl)
  case refine_1 h => rfl
  case refine_2 h =>
    have hl2 : l.length ≤ 1048576 := by
      split at h <;> omega
    have h1 := eoL_len b l
    have h2 := eoL_row b l
    have hsp := specEo_c b l hl
    have him := implEo_c b l hl
    generalize eoC b l = cc at *
    generalize eoL b l = E at *
    have h2 : ∀ i, (E.getD i []).length ≤ 1000 := fun i => by have := h2 i; omega
    have h3 := held_marks 1 E E.length
    have h4 := marksTo_len 1 E E.length
    have h5 : ∀ i, ((marksTo 1 E E.length).getD i []).length ≤ 1000 := fun i => by
      by_cases hi : i < E.length
      · rw [marksTo_at 1 _ _ _ hi, marks_len]; exact h2 i
      · rw [List.getD_eq_getElem?_getD, List.getElem?_eq_none (by omega)]; simp
    have h6 := marksTo_tot 1 E E.length _ (Nat.le_refl _)
    have h7 := tot_le h2 E.length
    have hh := heldSS_c (marksTo 1 E E.length) 1 h3 (by omega) h5 (by omega)
    rw [h4, h6] at hh
    repeat' (first
        | (guard_target =~ WpA _ _ _ _ _ _; first
          | refine WpA.seq ?_
          | refine WpA.drawU ?_
          | refine WpA.regionU ?_
          | refine WpA.block ?_
          | refine WpA.ret ?_
          | refine WpA.skip ?_
          | refine WpA.exit ?_
          | refine WpA.cond_true rfl ?_
          | refine WpA.cond_false rfl ?_
          | refine WpA.cond_ntrue rfl ?_
          | refine WpA.cond_dec rfl (fun _ => ?_) (fun _ => ?_)
          | refine WpA.cond_not rfl (fun _ => ?_) (fun _ => ?_)
          | refine WpA.cond rfl (fun _ => ?_) (fun _ => ?_)
          )
        | (guard_target =~ RunU _ _ _ _ [] _ _ _ _; first
          | refine RunU.nilL ?_
          | refine RunU.nilD (by kernel_rfl) ?_
          )
        | (guard_target =~ RunU _ _ _ _ (Oper.mk _ (Op.call ⟨Callee.value _, _, _⟩) _ _ _ none :: _) _ _ _ _; first
          | refine RunU.cons (step_call (toSpectrum_c b l hl2) (.sh .nil) (.shAgg rfl aggs_any .nil) rfl) ?_
          | refine RunU.cons (step_call (hsp) (.sh .nil) (.shAgg rfl aggs_any .nil) rfl) ?_
          | refine RunU.cons (step_call (him) (.sh .nil) (.shAgg rfl aggs_any .nil) rfl) ?_
          | refine RunU.cons (step_call (eqSS_c E E (by omega) (by omega) h2 h2) (.sh (.sh .nil)) (.sh shows_any (.sh shows_any .nil)) rfl) ?_
          | refine RunU.cons (step_call (eqSpectrum_c b b l l hl hl) (.sh (.sh .nil)) (.shAgg rfl aggs_any (.shAgg rfl aggs_any .nil)) rfl) ?_
          | refine RunU.cons (step_call_ia (markSpectrum_ia b l 1 (by omega) (by omega)) (by exact rfl) (by exact rfl) (by exact rfl) (by first | exact .nil | exact .cons rfl .nil) (by exact rfl) rfl) ?_
          | refine RunU.cons (step_call_io1 (markSS_c E 1 (by omega) h2 (by omega)) io_any (.sh .nil) (.sh shows_any .nil) (by exact rfl) (by exact rfl) rfl) ?_
          | refine RunU.cons (step_call (hh) (.sh (.sh .nil)) (.sh shows_any (.sh shows_any .nil)) rfl) ?_
          )
        | (guard_target =~ RunU _ _ _ _ (Oper.mk _ _ _ _ _ none :: _) _ _ _ _; refine RunU.cons step_any ?_)
        | (guard_target =~ RunU _ _ _ _ (Oper.mk _ _ _ _ _ (some _) :: _) _ _ _ _; first
          | refine RunU.pass rfl rfl rfl rfl ?_
          | refine RunU.pass_undef rfl rfl rfl ?_
          | (guard_target =~ RunU _ _ _ _ (Oper.mk _ (Op.call ⟨Callee.value _, _, _⟩) _ _ _ _ :: _) _ _ _ _; first
            | refine RunU.doit rfl rfl (step_call (toSpectrum_c b l hl2) (.sh .nil) (.shAgg rfl aggs_any .nil) rfl) ?_
            | refine RunU.doit rfl rfl (step_call (hsp) (.sh .nil) (.shAgg rfl aggs_any .nil) rfl) ?_
            | refine RunU.doit rfl rfl (step_call (him) (.sh .nil) (.shAgg rfl aggs_any .nil) rfl) ?_
            | refine RunU.doit rfl rfl (step_call (eqSS_c E E (by omega) (by omega) h2 h2) (.sh (.sh .nil)) (.sh shows_any (.sh shows_any .nil)) rfl) ?_
            | refine RunU.doit rfl rfl (step_call (eqSpectrum_c b b l l hl hl) (.sh (.sh .nil)) (.shAgg rfl aggs_any (.shAgg rfl aggs_any .nil)) rfl) ?_
            | refine RunU.doit rfl rfl (step_call_ia (markSpectrum_ia b l 1 (by omega) (by omega)) (by exact rfl) (by exact rfl) (by exact rfl) (by first | exact .nil | exact .cons rfl .nil) (by exact rfl) rfl) ?_
            | refine RunU.doit rfl rfl (step_call_io1 (markSS_c E 1 (by omega) h2 (by omega)) io_any (.sh .nil) (.sh shows_any .nil) (by exact rfl) (by exact rfl) rfl) ?_
            | refine RunU.doit rfl rfl (step_call (hh) (.sh (.sh .nil)) (.sh shows_any (.sh shows_any .nil)) rfl) ?_
            )
          | refine RunU.doit rfl rfl step_any ?_
          | ((fail_if_success (refine RunU.doit (rd := []) (up := []) rfl rfl ?_ ?_)); first
            | refine RunU.guard_dec rfl rfl (fun _ => ?_) (fun _ => ?_)
            | refine RunU.guard_not rfl rfl (fun _ => ?_) (fun _ => ?_)
            | refine RunU.guard rfl rfl (fun _ => ?_) (fun _ => ?_))
          )
        | refine Then.next ?_
        | refine InBlock.next ?_
        | refine Done.ret (.one (by first | exact .c rfl | exact .own rfl | exact .als rfl rfl | exact .ptr rfl rfl | exact .part rfl rfl rfl) .nil) (.sh .nil) ?_ rfl
        | refine Done.normal (.one (by first | exact .c rfl | exact .own rfl | exact .als rfl rfl | exact .ptr rfl rfl | exact .part rfl rfl rfl) .nil) (.sh .nil) ?_ rfl)
    all_goals first | rfl | exact absurd rfl ‹_› | omega | (simp_all; done)
theorem sees_FnExactEigenvalueOrders (xs : List Arg) (has : Sees Try.prog Try.f3.params.toList xs) : CallA Try.prog 3 xs [.one (.lit (.bool true))] [] := by
  rw [Try.params3] at has
  obtain ⟨b, l, xs, rfl, _, hl, h⟩ := sees_sp Try.underlying24 rfl Try.underlying2 Try.underlying22 Try.underlying2 (by kernel_rfl) has
  have hl : l.length ≤ 9223372036854775807 := hl
  obtain rfl := sees_nil h
  exact lawEo_c b l hl
set_option maxRecDepth 100000 in
theorem lifted_FnExactEigenvalueOrders (os : Os) (started : os.Started) (H : Type) (enc : TypeId × Value → H) :
    ReturnsInHanded {} Try.checked os 3 .any (Rows.fnExactEigenvalueOrdersSpec.pre6 enc Try.prog Try.f3 Rows.fnExactEigenvalueOrdersRow.domain false) (Rows.fnExactEigenvalueOrdersSpec.post enc Try.prog Try.f3 false true false false) := by
  refine returnsInHanded_of_change (C := Try.checked) own started (by kernel_rfl) Try.func3
    (ChangeSpec.witness6 (enc := enc) (C := Try.checked) false ⟨#[], #[.agg #[.int .i64 0, .slice none 0 0]], []⟩ 8 (by kernel_rfl) (by kernel_rfl) (by kernel_rfl) (by kernel_rfl)) ?_
  intro W base args ds gs before hval hW _ _
  refine law_contract (P := Try.prog) laidOut (by kernel_rfl) rfl (by kernel_rfl) Try.underlying4 (fun ds h => ?_) sees_FnExactEigenvalueOrders W base args ds gs before hval hW
  rw [Try.params3] at h
  match ds, h with
  | [_], _ => exact ⟨rfl, rfl, rfl⟩
/-- The law holds for every input. -/
theorem said_FnExactEigenvalueOrders : Rows.FnExactEigenvalueOrdersSaid :=
  OpenClaim.holds_of_wide 3 Try.f3 rfl rfl rfl rfl rfl rfl rfl ⟨rfl, rfl, rfl, rfl, rfl⟩ rfl rfl rfl rfl rfl (by kernel_rfl) Try.func3 (by kernel_rfl)
    (of_decide_eq_true (by kernel_rfl)) (by unfold Func.isWrapper; first | (rw [if_pos (by decide +kernel)]; kernel_rfl) | (rw [if_neg (by decide +kernel)]; exact ⟨rfl, rfl⟩))
    (fun os started H enc _ => lifted_FnExactEigenvalueOrders os started H enc)
end Go.Proofs.Ytljhfjfccbpddaa
