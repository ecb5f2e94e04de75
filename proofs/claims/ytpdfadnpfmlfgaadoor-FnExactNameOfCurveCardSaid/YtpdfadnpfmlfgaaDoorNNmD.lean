/- The law FnExactNameOfCurve, walked. No condition. -/
import Derived.Test.YtpdfadnpfmlfgaaDoorNNmC
import Derived.Test.YtpdfadnpfmlfgaaDoorNCuJ
set_option linter.unusedVariables false
set_option linter.unusedSimpArgs false
namespace Go.Proofs.YtpdfadnpfmlfgaaDoor
set_option maxHeartbeats 20000000
open Go.Pv
open Go.ChangeShapes Go.WideShapes Go.ChangeAt Go.RowKit
attribute [local irreducible] RunU WpA Step CallG CallNG Done DoneN
instance fnOk3 : FnOk Tryd.prog 3 := ⟨_, Tryd.func3, rfl, by decide⟩
attribute [local irreducible] CallZ
theorem ty_brs {t0 tb tl e gs d} (h0 : Tryd.prog.underlying t0 = some (.slice tb)) (hb : Tryd.prog.underlying tb = some (.struct gs)) (hg : gs.toList.map (·.type) = [tl]) (hl : Tryd.prog.underlying tl = some (.slice e)) (he : Tryd.prog.underlying e = some (.int .i64)) (hcb : Tryd.prog.cellsOf tb = 1) (hc : Tryd.prog.cellsOf e = 1) (j1 : Ty Tryd.prog t0 d) :
    ∃ B : List (List Int), d = [.sl false 1 (LLs B)] ∧ B.length ≤ 9223372036854775807 ∧ ∀ i, (B.getD i []).length ≤ 9223372036854775807 := by
  obtain ⟨parts, rfl, h3, h4⟩ := ty_slice h0 j1
  obtain ⟨B, rfl, hq⟩ := tyL_map (fun l : List Int => [D.sl false 1 (ints l)]) (fun l => l.length ≤ maxLen) h3 (fun p hp => by
    have k2 := ty_struct hb hp
    rw [hg] at k2
    obtain ⟨d3, r3, rfl, j5, j6⟩ := tyF_cons k2
    obtain rfl := tyF_nil j6
    obtain ⟨l, e1, e2, _⟩ := ty_ints hl he hc j5
    exact ⟨l, by rw [e1]; rfl, e2⟩)
  refine ⟨B, ?_, by simpa [maxLen] using h4, fun i => ?_⟩
  · have key : ∀ L : List (List Int), (L.map fun l : List Int => [D.sl false 1 (ints l)]).flatten = LLs L := by
      intro L
      induction L with
      | nil => rfl
      | cons a L ih => rw [List.map_cons, List.flatten_cons, ih]; rfl
    rw [hcb, key]
  · by_cases hi : i < B.length
    · exact hq _ (by rw [List.getD_eq_getElem?_getD, List.getElem?_eq_getElem hi]; simp)
    · rw [List.getD_eq_getElem?_getD, List.getElem?_eq_none (by omega)]; simp [maxLen]
theorem lawNm_z (B C : List (List Int)) (hB : B.length ≤ 9223372036854775807) (hC : C.length ≤ 9223372036854775807) (hb : ∀ i, (B.getD i []).length ≤ 9223372036854775807) (hc : ∀ i, (C.getD i []).length ≤ 9223372036854775807) : CallZ Z10 true Tryd.prog 3 [aCu B C] [rB true] [] := by
  have hZ := szCurve_c B C 1048576 (by omega) hB hC hb hc
  by_cases hz : szCu B C 1048576 < 0
  · generalize szCu B C 1048576 = z at *
    refine callT_of z10_in _ Tryd.func3 rfl Tryd.ntmps3 (by first | exact ⟨rfl, rfl⟩ | (simp only [List.all_cons, List.all_nil, V.solid, D.solid, D.solids, solids_ints, solids_bools, solids_LL, Bool.and_self, Bool.and_true, and_self]; done) | simp [V.solid, D.solid, D.solids, solids_lits, solids_ints, solids_bools, solids_LL]) ?_
    repeat' (first | (guard_target =~ WpA _ _ _ _ _ _; first | refine WpA.seq ?_ | refine WpA.drawU ?_ | refine WpA.regionU ?_ | refine WpA.block ?_ | refine WpA.ret ?_ | refine WpA.skip ?_ | refine WpA.exit ?_ | refine WpA.cond_true rfl ?_ | refine WpA.cond_false rfl ?_ | refine WpA.cond_ntrue rfl ?_ | refine WpA.cond_dec rfl (fun _ => ?_) (fun _ => ?_) | refine WpA.cond_not rfl (fun _ => ?_) (fun _ => ?_) | refine WpA.cond rfl (fun _ => ?_) (fun _ => ?_)) | (guard_target =~ RunU _ _ _ _ [] _ _ _ _; first | refine RunU.nilL ?_ | refine RunU.nilD (by kernel_rfl) ?_) | (guard_target =~ RunU _ _ _ _ (Oper.mk _ (Op.call ⟨Callee.value _, _, _⟩) _ _ _ none :: _) _ _ _ _; first | refine RunU.cons (step_call (hZ) (.sh (.sh .nil)) (.shAgg rfl aggs_any (.sh shows_any .nil)) rfl) ?_) | (guard_target =~ RunU _ _ _ _ (Oper.mk _ _ _ _ _ none :: _) _ _ _ _; refine RunU.cons step_any ?_) | (guard_target =~ RunU _ _ _ _ (Oper.mk _ _ _ _ _ (some _) :: _) _ _ _ _; first | refine RunU.pass rfl rfl rfl rfl ?_ | refine RunU.pass_undef rfl rfl rfl ?_ | (guard_target =~ RunU _ _ _ _ (Oper.mk _ (Op.call ⟨Callee.value _, _, _⟩) _ _ _ _ :: _) _ _ _ _; first | refine RunU.doit rfl rfl (step_call (hZ) (.sh (.sh .nil)) (.shAgg rfl aggs_any (.sh shows_any .nil)) rfl) ?_) | refine RunU.doit rfl rfl step_any ?_ | ((fail_if_success (refine RunU.doit (rd := []) (up := []) rfl rfl ?_ ?_)); first | refine RunU.guard_dec rfl rfl (fun _ => ?_) (fun _ => ?_) | refine RunU.guard_not rfl rfl (fun _ => ?_) (fun _ => ?_) | refine RunU.guard rfl rfl (fun _ => ?_) (fun _ => ?_))) | ((fail_if_success (guard_target =~ @Eq _ _ _)); (fail_if_success (guard_target =~ @Exists _ _)); first | (guard_target =~ Then _ _ _ _ _; refine Then.next ?_) | (guard_target =~ InBlock _ _ _ _ _; refine InBlock.next ?_) | refine Done.ret (.one (by first | exact .c rfl | exact .own rfl | exact .als rfl rfl | exact .ptr rfl rfl | exact .part rfl rfl rfl) .nil) (.sh .nil) ?_ rfl))
    all_goals first | rfl | (exfalso; omega)
  · obtain ⟨q1, q2⟩ := szCu_small (k := 1048576) (by omega) (show 0 ≤ szCu B C 1048576 by omega)
    generalize szCu B C 1048576 = z at *
    have hT := toCurve_c B C q1 q2
    have hE := eqCurveJ_c B C q1 q2
    have hI := implName_z B C q1 q2
    have hR := specName_c B C q1 q2
    clear hb hc q1 q2
    generalize (nmR B C).1 = x at *
    generalize (nmR B C).2 = y at *
    refine callT_of z10_in _ Tryd.func3 rfl Tryd.ntmps3 (by first | exact ⟨rfl, rfl⟩ | (simp only [List.all_cons, List.all_nil, V.solid, D.solid, D.solids, solids_ints, solids_bools, solids_LL, Bool.and_self, Bool.and_true, and_self]; done) | simp [V.solid, D.solid, D.solids, solids_lits, solids_ints, solids_bools, solids_LL]) ?_
    repeat' (first | (guard_target =~ WpA _ _ _ _ _ _; first | refine WpA.seq ?_ | refine WpA.drawU ?_ | refine WpA.regionU ?_ | refine WpA.block ?_ | refine WpA.ret ?_ | refine WpA.skip ?_ | refine WpA.exit ?_ | refine WpA.cond_true rfl ?_ | refine WpA.cond_false rfl ?_ | refine WpA.cond_ntrue rfl ?_ | refine WpA.cond_dec rfl (fun _ => ?_) (fun _ => ?_) | refine WpA.cond_not rfl (fun _ => ?_) (fun _ => ?_) | refine WpA.cond rfl (fun _ => ?_) (fun _ => ?_)) | (guard_target =~ RunU _ _ _ _ [] _ _ _ _; first | refine RunU.nilL ?_ | refine RunU.nilD (by kernel_rfl) ?_) | (guard_target =~ RunU _ _ _ _ (Oper.mk _ (Op.call ⟨Callee.value _, _, _⟩) _ _ _ none :: _) _ _ _ _; first | refine RunU.cons (step_call (hZ) (.sh (.sh .nil)) (.shAgg rfl aggs_any (.sh shows_any .nil)) rfl) ?_ | refine RunU.cons (step_call (hT) (.sh .nil) (.shAgg rfl aggs_any .nil) rfl) ?_ | refine RunU.cons (step_call (hR) (.sh .nil) (.shAgg rfl aggs_any .nil) rfl) ?_ | refine RunU.cons (step_call (hE) (.sh (.sh .nil)) (.shAgg rfl aggs_any (.shAgg rfl aggs_any .nil)) rfl) ?_) | (guard_target =~ RunU _ _ _ _ (Oper.mk _ _ _ _ _ none :: _) _ _ _ _; first | refine RunU.cons (step_callZ hI (by exact z10_out rfl) (.sh .nil) (.shAgg rfl aggs_any .nil) rfl) ?_ | refine RunU.cons (step_str_neq rfl rfl rfl) ?_) | (guard_target =~ RunU _ _ _ _ (Oper.mk _ _ _ _ _ none :: _) _ _ _ _; refine RunU.cons step_any ?_) | (guard_target =~ RunU _ _ _ _ (Oper.mk _ _ _ _ _ (some _) :: _) _ _ _ _; first | refine RunU.pass rfl rfl rfl rfl ?_ | refine RunU.pass_undef rfl rfl rfl ?_ | (guard_target =~ RunU _ _ _ _ (Oper.mk _ (Op.call ⟨Callee.value _, _, _⟩) _ _ _ _ :: _) _ _ _ _; first | refine RunU.doit rfl rfl (step_call (hZ) (.sh (.sh .nil)) (.shAgg rfl aggs_any (.sh shows_any .nil)) rfl) ?_ | refine RunU.doit rfl rfl (step_call (hT) (.sh .nil) (.shAgg rfl aggs_any .nil) rfl) ?_ | refine RunU.doit rfl rfl (step_call (hR) (.sh .nil) (.shAgg rfl aggs_any .nil) rfl) ?_ | refine RunU.doit rfl rfl (step_call (hE) (.sh (.sh .nil)) (.shAgg rfl aggs_any (.shAgg rfl aggs_any .nil)) rfl) ?_) | refine RunU.doit rfl rfl (step_callZ hI (by exact z10_out rfl) (.sh .nil) (.shAgg rfl aggs_any .nil) rfl) ?_ | refine RunU.doit rfl rfl (step_str_neq rfl rfl rfl) ?_ | refine RunU.doit rfl rfl step_any ?_ | ((fail_if_success (refine RunU.doit (rd := []) (up := []) rfl rfl ?_ ?_)); first | refine RunU.guard_dec rfl rfl (fun _ => ?_) (fun _ => ?_) | refine RunU.guard_not rfl rfl (fun _ => ?_) (fun _ => ?_) | refine RunU.guard rfl rfl (fun _ => ?_) (fun _ => ?_))) | ((fail_if_success (guard_target =~ @Eq _ _ _)); (fail_if_success (guard_target =~ @Exists _ _)); first | (guard_target =~ Then _ _ _ _ _; refine Then.next ?_) | (guard_target =~ InBlock _ _ _ _ _; refine InBlock.next ?_) | refine Done.ret (.one (by first | exact .c rfl | exact .own rfl | exact .als rfl rfl | exact .ptr rfl rfl | exact .part rfl rfl rfl) .nil) (.sh .nil) ?_ rfl))
    all_goals first | rfl | exact absurd rfl ‹_› | omega | (simp_all; done)
theorem sees_FnExactNameOfCurve (xs : List Arg) (has : Sees Tryd.prog Tryd.f3.params.toList xs) : CallZ Z10 true Tryd.prog 3 xs [.one (.lit (.bool true))] [] := by
  rw [Tryd.params3] at has
  obtain ⟨ds, xs', rfl, k1, k2⟩ := sees_agg Tryd.underlying25 has
  obtain rfl := sees_nil k2
  have k1 : TyF Tryd.prog [22, 23] ds := k1
  obtain ⟨d1, r1, rfl, j1, j2⟩ := tyF_cons k1
  obtain ⟨d2, r2, rfl, j3, j4⟩ := tyF_cons j2
  obtain rfl := tyF_nil j4
  obtain ⟨B, rfl, hB, hb⟩ := ty_brs Tryd.underlying22 Tryd.underlying50 rfl Tryd.underlying44 Tryd.underlying2 (by kernel_rfl) (by kernel_rfl) j1
  obtain ⟨C, rfl, hC, hc⟩ := ty_LLs Tryd.underlying23 Tryd.underlying44 Tryd.underlying2 (by kernel_rfl) (by kernel_rfl) j3
  exact lawNm_z B C hB hC hb hc
end Go.Proofs.YtpdfadnpfmlfgaaDoor
