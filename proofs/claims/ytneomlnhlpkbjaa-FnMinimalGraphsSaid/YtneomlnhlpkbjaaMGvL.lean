/- FnMinimalGraphs: drawn graphs have the minimal graphs that the reference says, without a vertex that can be contracted, with the same determinant, and their own minimal graphs. No condition. -/
import Derived.Test.YtneomlnhlpkbjaaMGvE
import Derived.Test.YtneomlnhlpkbjaaMGdC
import Derived.Test.YtneomlnhlpkbjaaMGdF
import Derived.Test.YtneomlnhlpkbjaaRows
set_option linter.unusedVariables false
set_option linter.unusedSimpArgs false
namespace Go.Proofs.Ytneomlnhlpkbjaa
set_option maxHeartbeats 20000000
open Go.Pv
open Go.ChangeShapes Go.WideShapes Go.ChangeAt Go.RowKit
attribute [local irreducible] RunU WpA Step CallG CallNG Done DoneN
instance fnOk23 : FnOk Try.prog 23 := ⟨_, Try.func23, rfl, by decide⟩
instance fnOk8 : FnOk Try.prog 8 := ⟨_, Try.func8, rfl, by decide⟩
instance fnOk3 : FnOk Try.prog 3 := ⟨_, Try.func3, rfl, by decide⟩
attribute [local irreducible] IsGr decIsGr CanC FitC
structure Sm2 (w : List Int) (E : List (List Int)) : Prop where
  lw : w.length ≤ 1000
  le : E.length ≤ 1000
  lr : ∀ i, (E.getD i []).length ≤ 1000
theorem gr_sm {w : List Int} {E : List (List Int)} (hg : IsGr w E) : Sm2 w E := by
  have h1 := gr_len hg
  have h2 := hg.few
  refine ⟨by omega, by omega, fun i => ?_⟩
  by_cases hi : i < E.length
  · have := gr_row (gr_good hg) i hi; omega
  · rw [List.getD_eq_getElem?_getD, List.getElem?_eq_none (by omega)]; simp
theorem nil_sm : Sm2 [] [] := ⟨by simp, by simp, by simp⟩
theorem mgR_cases (w : List Int) (E : List (List Int)) : (∃ c : Int, c ≠ 0 ∧ mgR w E = (([], []), c)) ∨ ∃ W F, mgR w E = ((W, F), 0) ∧ IsGr w E ∧ IsGr W F ∧ fcI W F = -1 ∧ Dm (awt W) F (iota W.length) = Dm (awt w) E (iota w.length) := by
  by_cases hg : IsGr w E
  · cases h : mgO w E with
    | none => exact .inl ⟨3, by decide, mgR_none hg h⟩
    | some q =>
      obtain ⟨W, F⟩ := q
      obtain ⟨h1, h2, h3, h4⟩ := mgF_law (w.length + 1) w E hg (by omega) W F h
      exact .inr ⟨W, F, mgR_some hg h, hg, h1, h3, h4⟩
  · exact .inl ⟨1, by decide, mgR_bad hg⟩
theorem cvR_sm (w : List Int) (E : List (List Int)) (v : Int) : Sm2 (cvR w E v).1.1 (cvR w E v).1.2 := by
  by_cases hg : IsGr w E
  · by_cases hv : 0 ≤ v ∧ v < w.length
    · by_cases hc : CanC w E v
      · by_cases hf : FitC w E v
        · rw [cvR_0 hg hv hc hf]; exact gr_sm (fit_gr hg hv hc hf)
        · rw [cvR_3 hg hv hc hf]; exact nil_sm
      · rw [cvR_5 hg hv hc]; exact nil_sm
    · rw [cvR_2 hg hv]; exact nil_sm
  · rw [cvR_1 hg]; exact nil_sm
theorem same9_c (A : List (List Int)) (hA : A.length ≤ 1000) (ha : ∀ i, (A.getD i []).length ≤ 1000) : CallA Try.prog 23 [aLL A, aLL A] [rB true] [] := by
  refine callA_of _ Try.func23 rfl Try.ntmps23 solid_any ?_
  repeat' (first | refine Two.mk (fun _ => ?_) (fun _ => ?_) | refine goA ?_ | (refine neA ?_; first | refine nxA ?_ | refine Done.ret (.one res_any .nil) (.sh (.sh .nil)) ?_ rfl) | fail)
  all_goals try (exfalso; simp_all; done)
  refine WpA.loop_slots (ι := Nat) (fun j => [(0, .c (.sl false 1 (LLs A))), (1, .c (.sl false 1 (LLs A))), (5, vG j)]) (fun j => j ≤ A.length) (fun j => A.length - j) 0 (by omega) ⟨rfl, rfl, rfl, trivial⟩ ?_
  intro j s nx hj
  by_cases hlt : j < A.length
  · have h := likeI_c (A.getD (j * 1) []) (by have := ha (j * 1); omega)
    clear ha
    repeat' (first | refine Two.mk (fun _ => ?_) (fun _ => ?_) | (guard_target =~ CallN_; first | refine RunU.cons (step_call (h) (.sh (.sh .nil)) (.sh shows_any (.sh shows_any .nil)) rfl) ?_) | refine goA ?_ | (refine neA ?_; first | refine nxA ?_ | refine Done.ret (.one res_any .nil) (.sh (.sh .nil)) ?_ rfl) | fail)
    all_goals try (exfalso; simp_all; done)
    all_goals try (exfalso; omega)
    all_goals exact ⟨j + 1, by omega, ⟨rfl, rfl, int_eq (by omega), trivial⟩, by omega⟩
  · clear ha
    repeat' (first | refine Two.mk (fun _ => ?_) (fun _ => ?_) | refine goA ?_ | (refine neA ?_; first | refine nxA ?_ | refine Done.ret (.one res_any .nil) (.sh (.sh .nil)) ?_ rfl) | fail)
    all_goals first | rfl | (exfalso; omega)
theorem graph9_c (w : List Int) (E : List (List Int)) (h : Sm2 w E) : CallA Try.prog 8 [aGr w E, aGr w E] [rB true] [] := by
  have h1 := likeI_c w (by have := h.lw; omega)
  have h2 := same9_c E h.le h.lr
  clear h
  refine callA_of _ Try.func8 rfl Try.ntmps8 solid_any ?_
  repeat' (first | refine Two.mk (fun _ => ?_) (fun _ => ?_) | (guard_target =~ CallN_; first | refine RunU.cons (step_call (h1) (.sh (.sh .nil)) (.sh shows_any (.sh shows_any .nil)) rfl) ?_ | refine RunU.cons (step_call (h2) (.sh (.sh .nil)) (.sh shows_any (.sh shows_any .nil)) rfl) ?_) | refine goA ?_ | (guard_target =~ IsG; first | refine psA ?_ | (guard_target =~ CallS_; first | refine RunU.doit rfl rfl (step_call (h1) (.sh (.sh .nil)) (.sh shows_any (.sh shows_any .nil)) rfl) ?_ | refine RunU.doit rfl rfl (step_call (h2) (.sh (.sh .nil)) (.sh shows_any (.sh shows_any .nil)) rfl) ?_) | refine gdA ?_) | (refine neA ?_; first | refine nxA ?_ | refine Done.ret (.one res_any .nil) (.sh (.sh .nil)) ?_ rfl) | fail)
  all_goals first | rfl | (exfalso; simp_all; done)
set_option maxRecDepth 100000 in
theorem law_FnMinimalGraphs_c (l : List Int) (hb : By l) : CallA Try.prog 3 [aBy l] [rB true] [] := by
  have hB := bigG_c l hb.len
  by_cases h0 : 4096 < l.length
  · rw [decide_eq_true h0] at hB
    refine callA_of _ Try.func3 rfl Try.ntmps3 solid_any ?_
    repeat' (first | refine Two.mk (fun _ => ?_) (fun _ => ?_) | (guard_target =~ CallN_; first | refine RunU.cons (step_call (hB) (.sh .nil) (.sh shows_any .nil) rfl) ?_) | refine goA ?_ | (guard_target =~ IsG; first | refine psA ?_ | (guard_target =~ CallS_; first | refine RunU.doit rfl rfl (step_call (hB) (.sh .nil) (.sh shows_any .nil) rfl) ?_) | refine gdA ?_) | (refine neA ?_; first | refine nxA ?_ | refine Done.ret (.one res_any .nil) (.sh .nil) ?_ rfl) | fail)
    all_goals rfl
  · rw [decide_eq_false h0] at hB
    obtain ⟨w, E, hs, hD1⟩ := drawMG_ex hb
    obtain ⟨w2, E2, v, hs2, hv, hD2⟩ := drawCV_ex hb
    have hw := hs.lw
    have hE := hs.le
    have hw2 := hs2.lw
    have hE2 := hs2.le
    have h1 := implMG_c w E (by omega) (by omega)
    have h2 := specMG_c w E (by omega) (by omega)
    have h3 := implCV_c w2 E2 v (by omega) (by omega)
    have h4 := specCV_c w2 E2 v (by omega) (by omega)
    have hG2 := graph9_c _ _ (cvR_sm w2 E2 v)
    have hG2l := (cvR_sm w2 E2 v).lw
    generalize (cvR w2 E2 v).1.1 = cw at *
    generalize (cvR w2 E2 v).1.2 = ce at *
    generalize (cvR w2 E2 v).2 = cc at *
    rcases mgR_cases w E with ⟨c, hc, e⟩ | ⟨W, F, e, hg, hG, hfc, hdet⟩
    · have hG1 := graph9_c [] [] nil_sm
      rw [e] at h1 h2
      clear hs hs2 hb e
      refine callA_of _ Try.func3 rfl Try.ntmps3 solid_any ?_
      repeat' (first | refine Two.mk (fun _ => ?_) (fun _ => ?_) | (guard_target =~ AtN 26; first | refine RunU.cons (step_call (hD1) (.sh .nil) (.sh shows_any .nil) rfl) ?_) | (guard_target =~ AtN 29; first | refine RunU.cons (step_call (h1) (.sh .nil) (.shAgg rfl aggs_any .nil) rfl) ?_) | (guard_target =~ AtN 34; first | refine RunU.cons (step_call (h2) (.sh .nil) (.shAgg rfl aggs_any .nil) rfl) ?_) | (guard_target =~ AtN 43; first | refine RunU.cons (step_call (hG1) (.sh (.sh .nil)) (.shAgg rfl aggs_any (.shAgg rfl aggs_any .nil)) rfl) ?_) | (guard_target =~ AtN 48; first | refine RunU.cons (step_call (hD2) (.sh .nil) (.sh shows_any .nil) rfl) ?_) | (guard_target =~ AtN 54; first | refine RunU.cons (step_call (h3) (.sh (.sh .nil)) (.shAgg rfl aggs_any (.sh shows_any .nil)) rfl) ?_) | (guard_target =~ AtN 60; first | refine RunU.cons (step_call (h4) (.sh (.sh .nil)) (.shAgg rfl aggs_any (.sh shows_any .nil)) rfl) ?_) | (guard_target =~ AtN 69; first | refine RunU.cons (step_call (hG2) (.sh (.sh .nil)) (.shAgg rfl aggs_any (.shAgg rfl aggs_any .nil)) rfl) ?_) | (guard_target =~ CallN_; first | refine RunU.cons (step_call (hB) (.sh .nil) (.sh shows_any .nil) rfl) ?_) | refine goA ?_ | (guard_target =~ IsG; first | refine psA ?_ | (guard_target =~ AtS 26; first | refine RunU.doit rfl rfl (step_call (hD1) (.sh .nil) (.sh shows_any .nil) rfl) ?_) | (guard_target =~ AtS 29; first | refine RunU.doit rfl rfl (step_call (h1) (.sh .nil) (.shAgg rfl aggs_any .nil) rfl) ?_) | (guard_target =~ AtS 34; first | refine RunU.doit rfl rfl (step_call (h2) (.sh .nil) (.shAgg rfl aggs_any .nil) rfl) ?_) | (guard_target =~ AtS 43; first | refine RunU.doit rfl rfl (step_call (hG1) (.sh (.sh .nil)) (.shAgg rfl aggs_any (.shAgg rfl aggs_any .nil)) rfl) ?_) | (guard_target =~ AtS 48; first | refine RunU.doit rfl rfl (step_call (hD2) (.sh .nil) (.sh shows_any .nil) rfl) ?_) | (guard_target =~ AtS 54; first | refine RunU.doit rfl rfl (step_call (h3) (.sh (.sh .nil)) (.shAgg rfl aggs_any (.sh shows_any .nil)) rfl) ?_) | (guard_target =~ AtS 60; first | refine RunU.doit rfl rfl (step_call (h4) (.sh (.sh .nil)) (.shAgg rfl aggs_any (.sh shows_any .nil)) rfl) ?_) | (guard_target =~ AtS 69; first | refine RunU.doit rfl rfl (step_call (hG2) (.sh (.sh .nil)) (.shAgg rfl aggs_any (.shAgg rfl aggs_any .nil)) rfl) ?_) | (guard_target =~ CallS_; first | refine RunU.doit rfl rfl (step_call (hB) (.sh .nil) (.sh shows_any .nil) rfl) ?_) | refine gdA ?_) | (refine neA ?_; first | refine nxA ?_ | refine Done.ret (.one res_any .nil) (.sh .nil) ?_ rfl) | fail)
      all_goals first | rfl | (exfalso; omega) | (exfalso; simp_all; done)
    · have hsm := gr_sm hG
      have hG1 := graph9_c W F hsm
      have h5 := implMG_c W F (by have := hsm.lw; omega) (by have := hsm.le; omega)
      rw [mgR_some hG (mgO_fix hfc)] at h5
      have h6 := implGD_c w E (by omega) (by omega)
      have h7 := implGD_c W F (by have := hsm.lw; omega) (by have := hsm.le; omega)
      have hdd := gdR_same hg hG hdet
      have hCV : ∀ j : Nat, j < W.length → CallA Try.prog 10 [aGr W F, aI j] [rGr [] [], rI 5] [] := fun j hj => by
        have := implCV_c W F j (by have := hsm.lw; omega) (by have := hsm.le; omega)
        rwa [cvR_5 hG (by omega) (fcI_no hfc (by omega))] at this
      have hWl := gr_len hG
      rw [e] at h1 h2
      clear hs hs2 hb e hg hG hfc hdet hsm
      generalize (gdR w E).1 = a at *
      generalize (gdR w E).2 = b at *
      generalize (gdR W F).1 = a2 at *
      generalize (gdR W F).2 = b2 at *
      refine callA_of _ Try.func3 rfl Try.ntmps3 solid_any ?_
      repeat' (first | refine Two.mk (fun _ => ?_) (fun _ => ?_) | (guard_target =~ AtN 26; first | refine RunU.cons (step_call (hD1) (.sh .nil) (.sh shows_any .nil) rfl) ?_) | (guard_target =~ AtN 29; first | refine RunU.cons (step_call (h1) (.sh .nil) (.shAgg rfl aggs_any .nil) rfl) ?_) | (guard_target =~ AtN 34; first | refine RunU.cons (step_call (h2) (.sh .nil) (.shAgg rfl aggs_any .nil) rfl) ?_) | (guard_target =~ AtN 43; first | refine RunU.cons (step_call (hG1) (.sh (.sh .nil)) (.shAgg rfl aggs_any (.shAgg rfl aggs_any .nil)) rfl) ?_) | (guard_target =~ AtN 48; first | refine RunU.cons (step_call (hD2) (.sh .nil) (.sh shows_any .nil) rfl) ?_) | (guard_target =~ AtN 54; first | refine RunU.cons (step_call (h3) (.sh (.sh .nil)) (.shAgg rfl aggs_any (.sh shows_any .nil)) rfl) ?_) | (guard_target =~ AtN 60; first | refine RunU.cons (step_call (h4) (.sh (.sh .nil)) (.shAgg rfl aggs_any (.sh shows_any .nil)) rfl) ?_) | (guard_target =~ AtN 69; first | refine RunU.cons (step_call (hG2) (.sh (.sh .nil)) (.shAgg rfl aggs_any (.shAgg rfl aggs_any .nil)) rfl) ?_) | (guard_target =~ CallN_; first | refine RunU.cons (step_call (hB) (.sh .nil) (.sh shows_any .nil) rfl) ?_) | refine goA ?_ | (guard_target =~ IsG; first | refine psA ?_ | (guard_target =~ AtS 26; first | refine RunU.doit rfl rfl (step_call (hD1) (.sh .nil) (.sh shows_any .nil) rfl) ?_) | (guard_target =~ AtS 29; first | refine RunU.doit rfl rfl (step_call (h1) (.sh .nil) (.shAgg rfl aggs_any .nil) rfl) ?_) | (guard_target =~ AtS 34; first | refine RunU.doit rfl rfl (step_call (h2) (.sh .nil) (.shAgg rfl aggs_any .nil) rfl) ?_) | (guard_target =~ AtS 43; first | refine RunU.doit rfl rfl (step_call (hG1) (.sh (.sh .nil)) (.shAgg rfl aggs_any (.shAgg rfl aggs_any .nil)) rfl) ?_) | (guard_target =~ AtS 48; first | refine RunU.doit rfl rfl (step_call (hD2) (.sh .nil) (.sh shows_any .nil) rfl) ?_) | (guard_target =~ AtS 54; first | refine RunU.doit rfl rfl (step_call (h3) (.sh (.sh .nil)) (.shAgg rfl aggs_any (.sh shows_any .nil)) rfl) ?_) | (guard_target =~ AtS 60; first | refine RunU.doit rfl rfl (step_call (h4) (.sh (.sh .nil)) (.shAgg rfl aggs_any (.sh shows_any .nil)) rfl) ?_) | (guard_target =~ AtS 69; first | refine RunU.doit rfl rfl (step_call (hG2) (.sh (.sh .nil)) (.shAgg rfl aggs_any (.shAgg rfl aggs_any .nil)) rfl) ?_) | (guard_target =~ CallS_; first | refine RunU.doit rfl rfl (step_call (hB) (.sh .nil) (.sh shows_any .nil) rfl) ?_) | refine gdA ?_) | (refine neA ?_; first | refine nxA ?_ | refine Done.ret (.one res_any .nil) (.sh .nil) ?_ rfl) | fail)
      all_goals try (exfalso; simp_all; done)
      all_goals try (exfalso; omega)
      clear hB hD1 h1 h2 hD2 h3 h4 hG2
      refine WpA.loop_ids2 (fun j i3 i4 => [(3, .own i3 (dG2 w E)), (4, .own i4 (dG2 W F)), (14, vG j)]) (fun j => j ≤ W.length) (fun j => W.length - j) 0 _ _ (by omega) ⟨by exact rfl, by exact rfl, rfl, trivial⟩ ?_
      intro j i3 i4 s nx hj
      by_cases hlt : j < W.length
      · have hCj := hCV j hlt
        clear hCV h5 h6 h7 hG1
        repeat' (first | refine Two.mk (fun _ => ?_) (fun _ => ?_) | (guard_target =~ CallN_; first | refine RunU.cons (step_call (hCj) (.sh (.sh .nil)) (.shAgg rfl aggs_any (.sh shows_any .nil)) rfl) ?_) | refine goA ?_ | (guard_target =~ IsG; first | refine psA ?_ | (guard_target =~ CallS_; first | refine RunU.doit rfl rfl (step_call (hCj) (.sh (.sh .nil)) (.shAgg rfl aggs_any (.sh shows_any .nil)) rfl) ?_) | refine gdA ?_) | (refine neA ?_; first | refine nxA ?_ | refine Done.ret (.one res_any .nil) (.sh .nil) ?_ rfl) | fail)
        all_goals try (exfalso; omega)
        all_goals exact ⟨j + 1, by omega, ⟨_, _, rfl, rfl, int_eq (by omega), trivial⟩, by omega⟩
      · clear hCV
        by_cases q1 : b = 0
        · by_cases q2 : b2 = 0
          · have hdd := hdd q1 q2
            subst hdd
            repeat' (first | refine Two.mk (fun _ => ?_) (fun _ => ?_) | (guard_target =~ AtN 95; first | refine RunU.cons (step_call (h5) (.sh .nil) (.shAgg rfl aggs_any .nil) rfl) ?_) | (guard_target =~ AtN 100; first | refine RunU.cons (step_call (h6) (.sh .nil) (.shAgg rfl aggs_any .nil) rfl) ?_) | (guard_target =~ AtN 105; first | refine RunU.cons (step_call (h7) (.sh .nil) (.shAgg rfl aggs_any .nil) rfl) ?_) | (guard_target =~ AtN 113; first | refine RunU.cons (step_call (hG1) (.sh (.sh .nil)) (.shAgg rfl aggs_any (.shAgg rfl aggs_any .nil)) rfl) ?_) | refine goA ?_ | (guard_target =~ IsG; first | refine psA ?_ | (guard_target =~ AtS 95; first | refine RunU.doit rfl rfl (step_call (h5) (.sh .nil) (.shAgg rfl aggs_any .nil) rfl) ?_) | (guard_target =~ AtS 100; first | refine RunU.doit rfl rfl (step_call (h6) (.sh .nil) (.shAgg rfl aggs_any .nil) rfl) ?_) | (guard_target =~ AtS 105; first | refine RunU.doit rfl rfl (step_call (h7) (.sh .nil) (.shAgg rfl aggs_any .nil) rfl) ?_) | (guard_target =~ AtS 113; first | refine RunU.doit rfl rfl (step_call (hG1) (.sh (.sh .nil)) (.shAgg rfl aggs_any (.shAgg rfl aggs_any .nil)) rfl) ?_) | refine gdA ?_) | (refine neA ?_; first | refine nxA ?_ | refine Done.ret (.one res_any .nil) (.sh .nil) ?_ rfl) | fail)
            all_goals first | rfl | (exfalso; omega) | (exfalso; simp_all; done) | simp
          · clear hdd
            repeat' (first | refine Two.mk (fun _ => ?_) (fun _ => ?_) | (guard_target =~ AtN 95; first | refine RunU.cons (step_call (h5) (.sh .nil) (.shAgg rfl aggs_any .nil) rfl) ?_) | (guard_target =~ AtN 100; first | refine RunU.cons (step_call (h6) (.sh .nil) (.shAgg rfl aggs_any .nil) rfl) ?_) | (guard_target =~ AtN 105; first | refine RunU.cons (step_call (h7) (.sh .nil) (.shAgg rfl aggs_any .nil) rfl) ?_) | (guard_target =~ AtN 113; first | refine RunU.cons (step_call (hG1) (.sh (.sh .nil)) (.shAgg rfl aggs_any (.shAgg rfl aggs_any .nil)) rfl) ?_) | refine goA ?_ | (guard_target =~ IsG; first | refine psA ?_ | (guard_target =~ AtS 95; first | refine RunU.doit rfl rfl (step_call (h5) (.sh .nil) (.shAgg rfl aggs_any .nil) rfl) ?_) | (guard_target =~ AtS 100; first | refine RunU.doit rfl rfl (step_call (h6) (.sh .nil) (.shAgg rfl aggs_any .nil) rfl) ?_) | (guard_target =~ AtS 105; first | refine RunU.doit rfl rfl (step_call (h7) (.sh .nil) (.shAgg rfl aggs_any .nil) rfl) ?_) | (guard_target =~ AtS 113; first | refine RunU.doit rfl rfl (step_call (hG1) (.sh (.sh .nil)) (.shAgg rfl aggs_any (.shAgg rfl aggs_any .nil)) rfl) ?_) | refine gdA ?_) | (refine neA ?_; first | refine nxA ?_ | refine Done.ret (.one res_any .nil) (.sh .nil) ?_ rfl) | fail)
            all_goals first | rfl | (exfalso; omega) | (exfalso; simp_all; done) | simp
        · clear hdd
          repeat' (first | refine Two.mk (fun _ => ?_) (fun _ => ?_) | (guard_target =~ AtN 95; first | refine RunU.cons (step_call (h5) (.sh .nil) (.shAgg rfl aggs_any .nil) rfl) ?_) | (guard_target =~ AtN 100; first | refine RunU.cons (step_call (h6) (.sh .nil) (.shAgg rfl aggs_any .nil) rfl) ?_) | (guard_target =~ AtN 105; first | refine RunU.cons (step_call (h7) (.sh .nil) (.shAgg rfl aggs_any .nil) rfl) ?_) | (guard_target =~ AtN 113; first | refine RunU.cons (step_call (hG1) (.sh (.sh .nil)) (.shAgg rfl aggs_any (.shAgg rfl aggs_any .nil)) rfl) ?_) | refine goA ?_ | (guard_target =~ IsG; first | refine psA ?_ | (guard_target =~ AtS 95; first | refine RunU.doit rfl rfl (step_call (h5) (.sh .nil) (.shAgg rfl aggs_any .nil) rfl) ?_) | (guard_target =~ AtS 100; first | refine RunU.doit rfl rfl (step_call (h6) (.sh .nil) (.shAgg rfl aggs_any .nil) rfl) ?_) | (guard_target =~ AtS 105; first | refine RunU.doit rfl rfl (step_call (h7) (.sh .nil) (.shAgg rfl aggs_any .nil) rfl) ?_) | (guard_target =~ AtS 113; first | refine RunU.doit rfl rfl (step_call (hG1) (.sh (.sh .nil)) (.shAgg rfl aggs_any (.shAgg rfl aggs_any .nil)) rfl) ?_) | refine gdA ?_) | (refine neA ?_; first | refine nxA ?_ | refine Done.ret (.one res_any .nil) (.sh .nil) ?_ rfl) | fail)
          all_goals first | rfl | (exfalso; omega) | (exfalso; simp_all; done) | simp
theorem sees_FnMinimalGraphs (xs : List Arg) (has : Sees Try.prog Try.f3.params.toList xs) : CallA Try.prog 3 xs [.one (.lit (.bool true))] [] := by
  rw [Try.params3] at has
  obtain ⟨l, xs, rfl, hb, h⟩ := sees_by Try.underlying22 Try.underlying5 (by kernel_rfl) has
  obtain rfl := sees_nil h
  exact law_FnMinimalGraphs_c l hb
set_option maxRecDepth 100000 in
theorem lifted_FnMinimalGraphs (os : Os) (started : os.Started) (H : Type) (enc : TypeId × Value → H) :
    ReturnsInHanded {} Try.checked os 3 .any (Rows.fnMinimalGraphsSpec.pre6 enc Try.prog Try.f3 Rows.fnMinimalGraphsRow.domain false) (Rows.fnMinimalGraphsSpec.post enc Try.prog Try.f3 false true false false) := by
  refine returnsInHanded_of_change (C := Try.checked) own started (by kernel_rfl) Try.func3
    (ChangeSpec.witness6 (enc := enc) (C := Try.checked) false ⟨#[], #[.slice none 0 0], []⟩ 8 (by kernel_rfl) (by kernel_rfl) (by kernel_rfl) (by kernel_rfl)) ?_
  intro W base args ds gs before hval hW _ _
  refine law_contract (P := Try.prog) laidOut (by kernel_rfl) rfl (by kernel_rfl) Try.underlying4 (fun ds h => ?_) sees_FnMinimalGraphs W base args ds gs before hval hW
  rw [Try.params3] at h
  match ds, h with
  | [_], _ => exact ⟨rfl, rfl, rfl⟩
theorem said_FnMinimalGraphs : Rows.FnMinimalGraphsSaid :=
  OpenClaim.holds_of_wide 3 Try.f3 rfl rfl rfl rfl rfl rfl rfl ⟨rfl, rfl, rfl, rfl, rfl⟩ rfl rfl rfl rfl rfl (by kernel_rfl) Try.func3 (by kernel_rfl)
    (of_decide_eq_true (by kernel_rfl)) (by unfold Func.isWrapper; first | (rw [if_pos (by decide +kernel)]; kernel_rfl) | (rw [if_neg (by decide +kernel)]; exact ⟨rfl, rfl⟩))
    (fun os started H enc _ => lifted_FnMinimalGraphs os started H enc)
end Go.Proofs.Ytneomlnhlpkbjaa
