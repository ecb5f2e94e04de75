/- FnExactSpliceWeights: the program's splice weights at a vertex are the reference's for every graph and every number, share no memory with the argument and none with another result. No condition. -/
import Derived.Test.YtfkhngjkpjcdfaaQHfC
import Derived.Test.YtfkhngjkpjcdfaaQHbA
import Derived.Test.YtfkhngjkpjcdfaaQHbJ6
namespace Go.Proofs.Ytfkhngjkpjcdfaa
set_option maxHeartbeats 20000000
set_option linter.unusedVariables false
set_option linter.unusedSimpArgs false
open Go.Pv
open Go.ChangeShapes Go.WideShapes Go.ChangeAt Go.RowKit
attribute [local irreducible] RunU WpA Step CallG CallNG Done DoneN
theorem own : ownKnob Try.prog.godebug = none := by kernel_rfl
theorem laidOut : laidOutB Try.prog = true := by kernel_rfl
instance fnOk7 : FnOk Try.prog 7 := ⟨_, Try.func7, rfl, by decide⟩
theorem tot_cons (r : List Int) (L : List (List Int)) : ∀ j, tot (r :: L) (j + 1) = r.length + tot L j
  | 0 => by simp [tot]
  | j + 1 => by rw [tot, tot_cons r L j, tot]; simp; omega
theorem szF_tot : ∀ {L : List (List Int)} {k : Int}, 0 ≤ k → 0 ≤ szF L k → (tot L L.length : Int) ≤ k
  | [], k, h, _ => by simp [tot]; omega
  | r :: L, k, h0, h => by
    rw [szF] at h
    split at h
    · omega
    · have := szF_tot (L := L) (by omega) h
      rw [List.length_cons, tot_cons]
      omega
theorem szG_tot {w : List Int} {E : List (List Int)} {k : Int} (hk : 0 ≤ k ∧ k ≤ 1048576) (h : 0 ≤ szG w E k) : tot E E.length ≤ 1048576 := by
  unfold szG at h
  split at h
  · omega
  · split at h
    · omega
    · split at h
      · omega
      · have := szF_tot (L := E) (k := k - w.length - E.length) (by omega) (by omega)
        omega
set_option maxRecDepth 100000 in
theorem law_FnExactSpliceWeights_c (w : List Int) (E : List (List Int)) (v : Int) (hw : w.length ≤ 9223372036854775807) (hE : E.length ≤ 9223372036854775807) (hl : ∀ i, (E.getD i []).length ≤ 9223372036854775807) : CallA Try.prog 7 [aGr w E, aI v] [rB true] [] := by
  have hS := szGraph_c w E 1048576 (by omega) hw hE hl
  by_cases hz : szG w E 1048576 < 0
  · generalize szG w E 1048576 = z at *
    refine callA_of _ Try.func7 rfl Try.ntmps7 (by first | exact ⟨rfl, rfl⟩ | (simp only [List.all_cons, List.all_nil, V.solid, D.solid, D.solids, solids_ints, solids_bools, solids_LL, Bool.and_self, Bool.and_true, and_self]; done) | simp [V.solid, D.solid, D.solids, solids_lits, solids_ints, solids_bools, solids_LL]) ?_
    repeat' (first | (guard_target =~ WpA _ _ _ _ _ _; first | refine WpA.seq ?_ | refine WpA.drawU ?_ | refine WpA.regionU ?_ | refine WpA.block ?_ | refine WpA.ret ?_ | refine WpA.skip ?_ | refine WpA.exit ?_ | refine WpA.cond_true rfl ?_ | refine WpA.cond_false rfl ?_ | refine WpA.cond_ntrue rfl ?_ | refine WpA.cond_dec rfl (fun _ => ?_) (fun _ => ?_) | refine WpA.cond_not rfl (fun _ => ?_) (fun _ => ?_) | refine WpA.cond rfl (fun _ => ?_) (fun _ => ?_)) | (guard_target =~ RunU _ _ _ _ [] _ _ _ _; first | refine RunU.nilL ?_ | refine RunU.nilD (by kernel_rfl) ?_) | (guard_target =~ RunU _ _ _ _ (Oper.mk _ (Op.call ⟨Callee.value _, _, _⟩) _ _ _ none :: _) _ _ _ _; first | refine RunU.cons (step_call (hS) (.sh (.sh .nil)) (.shAgg rfl aggs_any (.sh shows_any .nil)) rfl) ?_) | (guard_target =~ RunU _ _ _ _ (Oper.mk _ _ _ _ _ none :: _) _ _ _ _; refine RunU.cons step_any ?_) | (guard_target =~ RunU _ _ _ _ (Oper.mk _ _ _ _ _ (some _) :: _) _ _ _ _; first | refine RunU.pass rfl rfl rfl rfl ?_ | refine RunU.pass_undef rfl rfl rfl ?_ | (guard_target =~ RunU _ _ _ _ (Oper.mk _ (Op.call ⟨Callee.value _, _, _⟩) _ _ _ _ :: _) _ _ _ _; first | refine RunU.doit rfl rfl (step_call (hS) (.sh (.sh .nil)) (.shAgg rfl aggs_any (.sh shows_any .nil)) rfl) ?_) | refine RunU.doit rfl rfl step_any ?_ | ((fail_if_success (refine RunU.doit (rd := []) (up := []) rfl rfl ?_ ?_)); first | refine RunU.guard_dec rfl rfl (fun _ => ?_) (fun _ => ?_) | refine RunU.guard_not rfl rfl (fun _ => ?_) (fun _ => ?_) | refine RunU.guard rfl rfl (fun _ => ?_) (fun _ => ?_))) | refine Then.next ?_ | refine InBlock.next ?_ | refine Done.ret (.one (by first | exact .c rfl | exact .own rfl | exact .als rfl rfl | exact .ptr rfl rfl | exact .part rfl rfl rfl) .nil) (.sh (.sh .nil)) ?_ rfl)
    all_goals first | rfl | (exfalso; omega)
  · obtain ⟨hs, hz2⟩ := szG_small (by omega) (show 0 ≤ szG w E 1048576 by omega)
    have htot := szG_tot (by omega) (show 0 ≤ szG w E 1048576 by omega)
    generalize szG w E 1048576 = z at *
    have hT := toGraph_c w E hs
    have hQ := eqGraph_c w w E E hs hs
    rw [decide_eq_true ⟨rfl, rfl⟩] at hQ
    have hSp := specSW_c w E v (by have := hs.1; omega) (by have := hs.2.1; omega)
    have hIm := implSW_c w E v (by have := hs.1; omega) (by have := hs.2.1; omega)
    have hG := markGraph_ia w E 1 hs.1 (by have := hs.2.1; omega) hs.2.2 htot (by omega)
    have h1 := swR_len w E v
    have hwl := hs.1
    generalize (swR w E v).1 = R at *
    generalize (swR w E v).2 = c at *
    have hES := eqInt64S_c R R (by omega) (by omega)
    rw [decide_eq_true rfl] at hES
    have hh := held_c (marks 1 R.length) 1 (by rw [marks_len]) (by rw [marks_len]; omega) (by omega)
    rw [marks_len] at hh
    have hM := mark_c R 1 (by omega) (by omega)
    have hml := marks_len 1 R.length
    clear hs
    refine callA_of _ Try.func7 rfl Try.ntmps7 (by first | exact ⟨rfl, rfl⟩ | (simp only [List.all_cons, List.all_nil, V.solid, D.solid, D.solids, solids_ints, solids_bools, solids_LL, Bool.and_self, Bool.and_true, and_self]; done) | simp [V.solid, D.solid, D.solids, solids_lits, solids_ints, solids_bools, solids_LL]) ?_
    repeat' (first | (guard_target =~ WpA _ _ _ _ _ _; first | refine WpA.seq ?_ | refine WpA.drawU ?_ | refine WpA.regionU ?_ | refine WpA.block ?_ | refine WpA.ret ?_ | refine WpA.skip ?_ | refine WpA.exit ?_ | refine WpA.cond_true rfl ?_ | refine WpA.cond_false rfl ?_ | refine WpA.cond_ntrue rfl ?_ | refine WpA.cond_dec rfl (fun _ => ?_) (fun _ => ?_) | refine WpA.cond_not rfl (fun _ => ?_) (fun _ => ?_) | refine WpA.cond rfl (fun _ => ?_) (fun _ => ?_)) | (guard_target =~ RunU _ _ _ _ [] _ _ _ _; first | refine RunU.nilL ?_ | refine RunU.nilD (by kernel_rfl) ?_) | (guard_target =~ RunU _ _ _ _ (Oper.mk _ (Op.call ⟨Callee.value _, _, _⟩) _ _ _ none :: _) _ _ _ _; first | refine RunU.cons (step_call (hS) (.sh (.sh .nil)) (.shAgg rfl aggs_any (.sh shows_any .nil)) rfl) ?_ | refine RunU.cons (step_call (hT) (.sh .nil) (.shAgg rfl aggs_any .nil) rfl) ?_ | refine RunU.cons (step_call (hSp) (.sh (.sh .nil)) (.shAgg rfl aggs_any (.sh shows_any .nil)) rfl) ?_ | refine RunU.cons (step_call (hIm) (.sh (.sh .nil)) (.shAgg rfl aggs_any (.sh shows_any .nil)) rfl) ?_ | refine RunU.cons (step_call (hES) (.sh (.sh .nil)) (.sh shows_any (.sh shows_any .nil)) rfl) ?_ | refine RunU.cons (step_call (hQ) (.sh (.sh .nil)) (.shAgg rfl aggs_any (.shAgg rfl aggs_any .nil)) rfl) ?_ | refine RunU.cons (step_call_ia (hG) (by exact rfl) (by exact rfl) (by exact rfl) (by first | exact .nil | exact .cons rfl .nil) (by exact rfl) rfl) ?_ | refine RunU.cons (step_call_io1 (hM) io_any (.sh .nil) (.sh shows_any .nil) (by exact rfl) (by exact rfl) rfl) ?_ | refine RunU.cons (step_call (hh) (.sh (.sh .nil)) (.sh shows_any (.sh shows_any .nil)) rfl) ?_) | (guard_target =~ RunU _ _ _ _ (Oper.mk _ _ _ _ _ none :: _) _ _ _ _; refine RunU.cons step_any ?_) | (guard_target =~ RunU _ _ _ _ (Oper.mk _ _ _ _ _ (some _) :: _) _ _ _ _; first | refine RunU.pass rfl rfl rfl rfl ?_ | refine RunU.pass_undef rfl rfl rfl ?_ | (guard_target =~ RunU _ _ _ _ (Oper.mk _ (Op.call ⟨Callee.value _, _, _⟩) _ _ _ _ :: _) _ _ _ _; first | refine RunU.doit rfl rfl (step_call (hS) (.sh (.sh .nil)) (.shAgg rfl aggs_any (.sh shows_any .nil)) rfl) ?_ | refine RunU.doit rfl rfl (step_call (hT) (.sh .nil) (.shAgg rfl aggs_any .nil) rfl) ?_ | refine RunU.doit rfl rfl (step_call (hSp) (.sh (.sh .nil)) (.shAgg rfl aggs_any (.sh shows_any .nil)) rfl) ?_ | refine RunU.doit rfl rfl (step_call (hIm) (.sh (.sh .nil)) (.shAgg rfl aggs_any (.sh shows_any .nil)) rfl) ?_ | refine RunU.doit rfl rfl (step_call (hES) (.sh (.sh .nil)) (.sh shows_any (.sh shows_any .nil)) rfl) ?_ | refine RunU.doit rfl rfl (step_call (hQ) (.sh (.sh .nil)) (.shAgg rfl aggs_any (.shAgg rfl aggs_any .nil)) rfl) ?_ | refine RunU.doit rfl rfl (step_call_ia (hG) (by exact rfl) (by exact rfl) (by exact rfl) (by first | exact .nil | exact .cons rfl .nil) (by exact rfl) rfl) ?_ | refine RunU.doit rfl rfl (step_call_io1 (hM) io_any (.sh .nil) (.sh shows_any .nil) (by exact rfl) (by exact rfl) rfl) ?_ | refine RunU.doit rfl rfl (step_call (hh) (.sh (.sh .nil)) (.sh shows_any (.sh shows_any .nil)) rfl) ?_) | refine RunU.doit rfl rfl step_any ?_ | ((fail_if_success (refine RunU.doit (rd := []) (up := []) rfl rfl ?_ ?_)); first | refine RunU.guard_dec rfl rfl (fun _ => ?_) (fun _ => ?_) | refine RunU.guard_not rfl rfl (fun _ => ?_) (fun _ => ?_) | refine RunU.guard rfl rfl (fun _ => ?_) (fun _ => ?_))) | refine Then.next ?_ | refine InBlock.next ?_ | refine Done.ret (.one (by first | exact .c rfl | exact .own rfl | exact .als rfl rfl | exact .ptr rfl rfl | exact .part rfl rfl rfl) .nil) (.sh (.sh .nil)) ?_ rfl)
    all_goals first | rfl | exact absurd rfl ‹_› | omega | (simp_all; done)
theorem sees_FnExactSpliceWeights (xs : List Arg) (has : Sees Try.prog Try.f7.params.toList xs) : CallA Try.prog 7 xs [.one (.lit (.bool true))] [] := by
  rw [Try.params7] at has
  obtain ⟨w, E, xs, rfl, hw, hE, hl, h⟩ := sees_gr Try.underlying48 rfl Try.underlying30 Try.underlying46 Try.underlying30 Try.underlying2 (by kernel_rfl) (by kernel_rfl) has
  obtain ⟨v, xs, rfl, _, h⟩ := sees_int Try.underlying2 h
  obtain rfl := sees_nil h
  exact law_FnExactSpliceWeights_c w E v hw hE hl
set_option maxRecDepth 100000 in
theorem lifted_FnExactSpliceWeights (os : Os) (started : os.Started) (H : Type) (enc : TypeId × Value → H) :
    ReturnsInHanded {} Try.checked os 7 .any (Rows.fnExactSpliceWeightsSpec.pre6 enc Try.prog Try.f7 Rows.fnExactSpliceWeightsRow.domain false) (Rows.fnExactSpliceWeightsSpec.post enc Try.prog Try.f7 false true false false) := by
  refine returnsInHanded_of_change (C := Try.checked) own started (by kernel_rfl) Try.func7
    (ChangeSpec.witness6 (enc := enc) (C := Try.checked) false ⟨#[], #[.agg #[.slice none 0 0, .slice none 0 0], .int .i64 0], []⟩ 8 (by kernel_rfl) (by kernel_rfl) (by kernel_rfl) (by kernel_rfl)) ?_
  intro W base args ds gs before hval hW _ _
  refine law_contract (P := Try.prog) laidOut (by kernel_rfl) rfl (by kernel_rfl) Try.underlying4 (fun ds h => ?_) sees_FnExactSpliceWeights W base args ds gs before hval hW
  rw [Try.params7] at h
  match ds, h with
  | [_, _], _ => exact ⟨rfl, rfl, rfl⟩
theorem said_FnExactSpliceWeights : Rows.FnExactSpliceWeightsSaid :=
  OpenClaim.holds_of_wide 7 Try.f7 rfl rfl rfl rfl rfl rfl rfl ⟨rfl, rfl, rfl, rfl, rfl⟩ rfl rfl rfl rfl rfl (by kernel_rfl) Try.func7 joined_FnExactSpliceWeights
    (of_decide_eq_true (by kernel_rfl)) (by unfold Func.isWrapper; first | (rw [if_pos (by decide +kernel)]; kernel_rfl) | (rw [if_neg (by decide +kernel)]; exact ⟨rfl, rfl⟩))
    (fun os started H enc _ => lifted_FnExactSpliceWeights os started H enc)
end Go.Proofs.Ytfkhngjkpjcdfaa
