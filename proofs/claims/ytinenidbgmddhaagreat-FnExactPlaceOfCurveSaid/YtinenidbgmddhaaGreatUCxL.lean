/- FnExactPlaceOfCurve: the program's place of a curve in the list of its Milnor number is the reference's, and the argument stays as it was. No condition. -/
import Derived.Test.YtinenidbgmddhaaGreatUHbA
import Derived.Test.YtinenidbgmddhaaGreatRows
set_option linter.unusedVariables false
set_option linter.unusedSimpArgs false
namespace Go.Proofs.YtinenidbgmddhaaGreat
set_option maxHeartbeats 20000000
open Go.Pv
open Go.ChangeShapes Go.WideShapes Go.ChangeAt Go.RowKit
attribute [local irreducible] RunU WpA Step CallG CallNG Done DoneN
instance fnOk5 : FnOk Tryz.prog 5 := ⟨_, Tryz.func5, rfl, by decide⟩
theorem ty_brs {t0 tb tl e gs d} (h0 : Tryz.prog.underlying t0 = some (.slice tb)) (hb : Tryz.prog.underlying tb = some (.struct gs)) (hg : gs.toList.map (·.type) = [tl]) (hl : Tryz.prog.underlying tl = some (.slice e)) (he : Tryz.prog.underlying e = some (.int .i64)) (hcb : Tryz.prog.cellsOf tb = 1) (hc : Tryz.prog.cellsOf e = 1) (j1 : Ty Tryz.prog t0 d) :
    ∃ B : List (List Int), d = [.sl false 1 (LLs B)] ∧ B.length ≤ 9223372036854775807 ∧ ∀ i, (B.getD i []).length ≤ 9223372036854775807 := by
  obtain ⟨parts, rfl, h3, h4⟩ := ty_slice h0 j1
  obtain ⟨B, rfl, hq⟩ := tyL_map (fun l : List Int => [D.sl false 1 (ints l)]) (fun l => l.length ≤ maxLen) h3 (fun p hp => by
    have k2 := ty_struct hb hp
    rw [hg] at k2
    obtain ⟨d3, r3, rfl, j5, j6⟩ := tyF_cons k2
    obtain rfl := tyF_nil j6
    obtain ⟨l, e1, e2, _⟩ := ty_ints hl he hc j5
    exact ⟨l, by rw [e1]; rfl, e2⟩)
  refine ⟨B, ?_, by simpa [maxLen] using h4, fun i => ?_⟩
  · have key : ∀ L : List (List Int), (L.map fun l : List Int => [D.sl false 1 (ints l)]).flatten = LLs L := by
      intro L
      induction L with
      | nil => rfl
      | cons a L ih => rw [List.map_cons, List.flatten_cons, ih]; rfl
    rw [hcb, key]
  · by_cases hi : i < B.length
    · exact hq _ (by rw [List.getD_eq_getElem?_getD, List.getElem?_eq_getElem hi]; simp)
    · rw [List.getD_eq_getElem?_getD, List.getElem?_eq_none (by omega)]; simp [maxLen]
theorem lawPl_c (B C : List (List Int)) (hB : B.length ≤ 9223372036854775807) (hC : C.length ≤ 9223372036854775807) (hb : ∀ i, (B.getD i []).length ≤ 9223372036854775807) (hc : ∀ i, (C.getD i []).length ≤ 9223372036854775807) : CallA Tryz.prog 5 [aCu B C] [rB true] [] := by
  have hZ := szCurve_c B C 1048576 (by omega) hB hC hb hc
  by_cases hz : szCu B C 1048576 < 0
  · generalize szCu B C 1048576 = z at *
    refine callA_of _ Tryz.func5 rfl Tryz.ntmps5 solid_any ?_
    repeat' (first | refine Two.mk (fun _ => ?_) (fun _ => ?_) | (guard_target =~ CallN_; first | refine RunU.cons (step_call (hZ) (.sh (.sh .nil)) (.shAgg rfl aggs_any (.sh shows_any .nil)) rfl) ?_) | refine goA ?_ | (guard_target =~ IsG; first | refine psA ?_ | (guard_target =~ CallS_; first | refine RunU.doit rfl rfl (step_call (hZ) (.sh (.sh .nil)) (.shAgg rfl aggs_any (.sh shows_any .nil)) rfl) ?_) | refine gdA ?_) | (refine neA ?_; first | refine nxA ?_ | refine Done.ret (.one res_any .nil) (.sh .nil) ?_ rfl) | fail)
    all_goals first | rfl | (exfalso; omega)
  · obtain ⟨q1, q2⟩ := szCu_small (k := 1048576) (by omega) (show 0 ≤ szCu B C 1048576 by omega)
    generalize szCu B C 1048576 = z at *
    have hT := toCurve_c B C q1 q2
    have hE := eqCurveJ_c B C q1 q2
    have hI := implPlace_c B C q1 q2
    have hR := specPlace_c B C q1 q2
    clear hb hc q1 q2
    generalize (plcI B C).1 = x at *
    generalize (plcI B C).2 = y at *
    refine callA_of _ Tryz.func5 rfl Tryz.ntmps5 solid_any ?_
    repeat' (first | refine Two.mk (fun _ => ?_) (fun _ => ?_) | (guard_target =~ CallN_; first | refine RunU.cons (step_call (hZ) (.sh (.sh .nil)) (.shAgg rfl aggs_any (.sh shows_any .nil)) rfl) ?_ | refine RunU.cons (step_call (hT) (.sh .nil) (.shAgg rfl aggs_any .nil) rfl) ?_ | refine RunU.cons (step_call (hR) (.sh .nil) (.shAgg rfl aggs_any .nil) rfl) ?_ | refine RunU.cons (step_call (hI) (.sh .nil) (.shAgg rfl aggs_any .nil) rfl) ?_ | refine RunU.cons (step_call (hE) (.sh (.sh .nil)) (.shAgg rfl aggs_any (.shAgg rfl aggs_any .nil)) rfl) ?_) | refine goA ?_ | (guard_target =~ IsG; first | refine psA ?_ | (guard_target =~ CallS_; first | refine RunU.doit rfl rfl (step_call (hZ) (.sh (.sh .nil)) (.shAgg rfl aggs_any (.sh shows_any .nil)) rfl) ?_ | refine RunU.doit rfl rfl (step_call (hT) (.sh .nil) (.shAgg rfl aggs_any .nil) rfl) ?_ | refine RunU.doit rfl rfl (step_call (hR) (.sh .nil) (.shAgg rfl aggs_any .nil) rfl) ?_ | refine RunU.doit rfl rfl (step_call (hI) (.sh .nil) (.shAgg rfl aggs_any .nil) rfl) ?_ | refine RunU.doit rfl rfl (step_call (hE) (.sh (.sh .nil)) (.shAgg rfl aggs_any (.shAgg rfl aggs_any .nil)) rfl) ?_) | refine gdA ?_) | (refine neA ?_; first | refine nxA ?_ | refine Done.ret (.one res_any .nil) (.sh .nil) ?_ rfl) | fail)
    all_goals first | rfl | exact absurd rfl ‹_› | omega | (simp_all; done)
theorem sees_FnExactPlaceOfCurve (xs : List Arg) (has : Sees Tryz.prog Tryz.f5.params.toList xs) : CallA Tryz.prog 5 xs [.one (.lit (.bool true))] [] := by
  rw [Tryz.params5] at has
  obtain ⟨ds, xs', rfl, k1, k2⟩ := sees_agg Tryz.underlying33 has
  obtain rfl := sees_nil k2
  have k1 : TyF Tryz.prog [30, 31] ds := k1
  obtain ⟨d1, r1, rfl, j1, j2⟩ := tyF_cons k1
  obtain ⟨d2, r2, rfl, j3, j4⟩ := tyF_cons j2
  obtain rfl := tyF_nil j4
  obtain ⟨B, rfl, hB, hb⟩ := ty_brs Tryz.underlying30 Tryz.underlying90 rfl Tryz.underlying55 Tryz.underlying2 (by kernel_rfl) (by kernel_rfl) j1
  obtain ⟨C, rfl, hC, hc⟩ := ty_LLs Tryz.underlying31 Tryz.underlying55 Tryz.underlying2 (by kernel_rfl) (by kernel_rfl) j3
  exact lawPl_c B C hB hC hb hc
set_option maxRecDepth 100000 in
theorem lifted_FnExactPlaceOfCurve (os : Os) (started : os.Started) (H : Type) (enc : TypeId × Value → H) :
    ReturnsInHanded {} Tryz.checked os 5 .any (Rows.fnExactPlaceOfCurveSpec.pre6 enc Tryz.prog Tryz.f5 Rows.fnExactPlaceOfCurveRow.domain false) (Rows.fnExactPlaceOfCurveSpec.post enc Tryz.prog Tryz.f5 false true false false) := by
  refine returnsInHanded_of_change (C := Tryz.checked) own started (by kernel_rfl) Tryz.func5
    (ChangeSpec.witness6 (enc := enc) (C := Tryz.checked) false ⟨#[], #[.agg #[.slice none 0 0, .slice none 0 0]], []⟩ 8 (by kernel_rfl) (by kernel_rfl) (by kernel_rfl) (by kernel_rfl)) ?_
  intro W base args ds gs before hval hW _ _
  refine law_contract (P := Tryz.prog) laidOut (by kernel_rfl) rfl (by kernel_rfl) Tryz.underlying4 (fun ds h => ?_) sees_FnExactPlaceOfCurve W base args ds gs before hval hW
  rw [Tryz.params5] at h
  match ds, h with
  | [_], _ => exact ⟨rfl, rfl, rfl⟩
theorem said_FnExactPlaceOfCurve : Rows.FnExactPlaceOfCurveSaid :=
  OpenClaim.holds_of_wide 5 Tryz.f5 rfl rfl rfl rfl rfl rfl rfl ⟨rfl, rfl, rfl, rfl, rfl⟩ rfl rfl rfl rfl rfl (by kernel_rfl) Tryz.func5 (by kernel_rfl)
    (of_decide_eq_true (by kernel_rfl)) (by unfold Func.isWrapper; first | (rw [if_pos (by decide +kernel)]; kernel_rfl) | (rw [if_neg (by decide +kernel)]; exact ⟨rfl, rfl⟩))
    (fun os started H enc _ => lifted_FnExactPlaceOfCurve os started H enc)
end Go.Proofs.YtinenidbgmddhaaGreat
