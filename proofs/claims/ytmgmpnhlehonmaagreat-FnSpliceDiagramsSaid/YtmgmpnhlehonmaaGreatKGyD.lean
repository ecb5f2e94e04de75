/- One splice weight, corners and paths, by the program and by the reference; a number of a list, by the laws. No condition. -/
import Derived.Test.YtmgmpnhlehonmaaGreatKGyC
import Derived.Test.YtmgmpnhlehonmaaGreatKHgB
set_option linter.unusedVariables false
set_option linter.unusedSimpArgs false
namespace Go.Proofs.YtmgmpnhlehonmaaGreat
set_option maxHeartbeats 20000000
open Go.Pv
open Go.ChangeShapes Go.WideShapes Go.ChangeAt Go.RowKit
attribute [local irreducible] RunU WpA Step CallG CallNG Done DoneN
instance fnOk33 : FnOk Tryz.prog 33 := ⟨_, Tryz.func33, rfl, by decide⟩
instance fnOk34 : FnOk Tryz.prog 34 := ⟨_, Tryz.func34, rfl, by decide⟩
instance fnOk26 : FnOk Tryz.prog 26 := ⟨_, Tryz.func26, rfl, by decide⟩
instance fnOk27 : FnOk Tryz.prog 27 := ⟨_, Tryz.func27, rfl, by decide⟩
instance fnOk38 : FnOk Tryz.prog 38 := ⟨_, Tryz.func38, rfl, by decide⟩
instance fnOk37 : FnOk Tryz.prog 37 := ⟨_, Tryz.func37, rfl, by decide⟩
noncomputable def owR (w : List Int) (E : List (List Int)) (v u : Int) : Int × Int := if chkC w E [v, u] = 0 then if u ∈ near E v then if (setI w E (bhL w E v u)).2 = true then ((setI w E (bhL w E v u)).1, 0) else (0, 3) else (0, 5) else (0, chkC w E [v, u])
theorem implOW_c (w : List Int) (E : List (List Int)) (v u : Int) (hw : w.length ≤ 2000000) (hE : E.length ≤ 2000000) : CallA Tryz.prog 33 [aGr w E, aI v, aI u] [rI (owR w E v u).1, rI (owR w E v u).2] [] := by
 unfold owR
 by_cases h : chkC w E [v, u] = 0
 ·have hC := checkSplice_ok w E [v, u] (by simp) h
  rw [if_pos h]
  obtain ⟨hg, hall, hcn⟩ := chk_zero h
  obtain ⟨hv, hu⟩ := two_in hall
  have hH := hasEdge_c w E v u hg
  by_cases hm : u ∈ near E v
  ·rw [decide_eq_true hm] at hH
   rw [if_pos hm]
   have hW := weight_c w E v u hg hcn hv hm
   generalize setI w E (bhL w E v u) = S at *
   obtain ⟨d, b⟩ := S
   have hL := limN_c d b
   cases b with
   | true =>
    rw [if_pos rfl, if_pos rfl] at hL
    rw [if_pos rfl]
    refine cA_ _ Tryz.func33 rfl Tryz.ntmps33 sO_ ?_
    repeat' (first | (refine Two.mk ?_ ?_ <;> intro _) | (guard_target =~ CallN_; first | refine RunU.cons (step_callS (hC) (.sh (.mv vA_ .nil)) (.sh (.agg rfl (by first | exact .nil | exact .cons .nil | exact .cons (.cons .nil) | exact .cons (.cons (.cons .nil)) | exact .cons (.cons (.cons (.cons .nil))) | exact .cons (.cons (.cons (.cons (.cons .nil)))))) (.mv .nil)) rfl) ?_ | refine RunU.cons (sC_ (hH) (.sh (.sh (.sh .nil))) (.shAgg rfl gA_ (.sh wS_ (.sh wS_ .nil))) rfl) ?_ | refine RunU.cons (sC_ (hW) (.sh (.sh (.sh .nil))) (.shAgg rfl gA_ (.sh wS_ (.sh wS_ .nil))) rfl) ?_ | refine RunU.cons (sC_ (hL) (.sh (.sh .nil)) (.sh wS_ (.sh wS_ .nil)) rfl) ?_) | refine goA ?_ | (refine neA ?_; first | refine nxA ?_ | refine Done.ret (.one rA_ (.one rA_ .nil)) (.sh (.sh (.sh .nil))) ?_ rfl) | fail)
    all_goals first | rfl | (exfalso; simp_all; done) | (exfalso; omega)
   | false =>
    rw [if_neg (by simp), if_neg (by simp)] at hL
    rw [if_neg (by simp)]
    refine cA_ _ Tryz.func33 rfl Tryz.ntmps33 sO_ ?_
    repeat' (first | (refine Two.mk ?_ ?_ <;> intro _) | (guard_target =~ CallN_; first | refine RunU.cons (step_callS (hC) (.sh (.mv vA_ .nil)) (.sh (.agg rfl (by first | exact .nil | exact .cons .nil | exact .cons (.cons .nil) | exact .cons (.cons (.cons .nil)) | exact .cons (.cons (.cons (.cons .nil))) | exact .cons (.cons (.cons (.cons (.cons .nil)))))) (.mv .nil)) rfl) ?_ | refine RunU.cons (sC_ (hH) (.sh (.sh (.sh .nil))) (.shAgg rfl gA_ (.sh wS_ (.sh wS_ .nil))) rfl) ?_ | refine RunU.cons (sC_ (hW) (.sh (.sh (.sh .nil))) (.shAgg rfl gA_ (.sh wS_ (.sh wS_ .nil))) rfl) ?_ | refine RunU.cons (sC_ (hL) (.sh (.sh .nil)) (.sh wS_ (.sh wS_ .nil)) rfl) ?_) | refine goA ?_ | (refine neA ?_; first | refine nxA ?_ | refine Done.ret (.one rA_ (.one rA_ .nil)) (.sh (.sh (.sh .nil))) ?_ rfl) | fail)
    all_goals first | rfl | (exfalso; simp_all; done) | (exfalso; omega)
  ·rw [decide_eq_false hm] at hH
   rw [if_neg hm]
   refine cA_ _ Tryz.func33 rfl Tryz.ntmps33 sO_ ?_
   repeat' (first | (refine Two.mk ?_ ?_ <;> intro _) | (guard_target =~ CallN_; first | refine RunU.cons (step_callS (hC) (.sh (.mv vA_ .nil)) (.sh (.agg rfl (by first | exact .nil | exact .cons .nil | exact .cons (.cons .nil) | exact .cons (.cons (.cons .nil)) | exact .cons (.cons (.cons (.cons .nil))) | exact .cons (.cons (.cons (.cons (.cons .nil)))))) (.mv .nil)) rfl) ?_ | refine RunU.cons (sC_ (hH) (.sh (.sh (.sh .nil))) (.shAgg rfl gA_ (.sh wS_ (.sh wS_ .nil))) rfl) ?_) | refine goA ?_ | (refine neA ?_; first | refine nxA ?_ | refine Done.ret (.one rA_ (.one rA_ .nil)) (.sh (.sh (.sh .nil))) ?_ rfl) | fail)
   all_goals first | rfl | (exfalso; simp_all; done) | (exfalso; omega)
 ·have hC := checkSplice_bad w E [v, u] hw hE (by simp) h
  rw [if_neg h]
  generalize chkC w E [v, u] = c at *
  refine cA_ _ Tryz.func33 rfl Tryz.ntmps33 sO_ ?_
  repeat' (first | (refine Two.mk ?_ ?_ <;> intro _) | (guard_target =~ CallN_; first | refine RunU.cons (step_callS (hC) (.sh (.mv vA_ .nil)) (.sh (.agg rfl (by first | exact .nil | exact .cons .nil | exact .cons (.cons .nil) | exact .cons (.cons (.cons .nil)) | exact .cons (.cons (.cons (.cons .nil))) | exact .cons (.cons (.cons (.cons (.cons .nil)))))) (.mv .nil)) rfl) ?_) | refine goA ?_ | (refine neA ?_; first | refine nxA ?_ | refine Done.ret (.one rA_ (.one rA_ .nil)) (.sh (.sh (.sh .nil))) ?_ rfl) | fail)
  all_goals first | rfl | (exfalso; simp_all; done) | (exfalso; omega)
theorem specOW_c (w : List Int) (E : List (List Int)) (v u : Int) (hw : w.length ≤ 2000000) (hE : E.length ≤ 2000000) : CallA Tryz.prog 34 [aGr w E, aI v, aI u] [rI (owR w E v u).1, rI (owR w E v u).2] [] := by
 have hC := l13Code_c w E [v, u] hw hE (by simp)
 unfold owR
 by_cases h : chkC w E [v, u] = 0
 ·rw [if_pos h]
  obtain ⟨hg, hall, hcn⟩ := chk_zero h
  obtain ⟨hv, hu⟩ := two_in hall
  have hlen := hg.1
  have hfew := hg.few
  have hN := near_c w E v (by omega) (fun j hj => (hg.2.2.1 j hj).1)
  have hnl := near_le hg.2.2.1 v
  have hH := has_c (near E v) u (by omega)
  have hW := l13Weight_c w E v u hg hcn hv
  obtain ⟨s1, s2⟩ := set_eq hg (bhL w E v u)
  rw [h] at hC
  clear h hall
  generalize setS w E (bhL w E v u) = S at *
  generalize setI w E (bhL w E v u) = T at *
  generalize near E v = R at *
  obtain ⟨d, b⟩ := S
  obtain ⟨d', b'⟩ := T
  simp only at s1 s2 hW ⊢
  subst s1
  by_cases hm : u ∈ R
  ·rw [decide_eq_true hm] at hH
   rw [if_pos hm]
   cases b' with
   | true =>
    obtain rfl := s2 rfl
    rw [if_pos rfl]
    refine cA_ _ Tryz.func34 rfl Tryz.ntmps34 sO_ ?_
    repeat' (first | (refine Two.mk ?_ ?_ <;> intro _) | (guard_target =~ CallN_; first | refine RunU.cons (sC_ (hC) (.sh (.sh .nil)) (.shAgg rfl gA_ (.sh wS_ .nil)) rfl) ?_ | refine RunU.cons (sC_ (hN) (.sh (.sh .nil)) (.shAgg rfl gA_ (.sh wS_ .nil)) rfl) ?_ | refine RunU.cons (sC_ (hH) (.sh (.sh .nil)) (.sh wS_ (.sh wS_ .nil)) rfl) ?_ | refine RunU.cons (sC_ (hW) (.sh (.sh (.sh .nil))) (.shAgg rfl gA_ (.sh wS_ (.sh wS_ .nil))) rfl) ?_) | refine goA ?_ | (guard_target =~ IsG; first | refine psA ?_ | (guard_target =~ CallS_; first | refine RunU.doit rfl rfl (sC_ (hC) (.sh (.sh .nil)) (.shAgg rfl gA_ (.sh wS_ .nil)) rfl) ?_ | refine RunU.doit rfl rfl (sC_ (hN) (.sh (.sh .nil)) (.shAgg rfl gA_ (.sh wS_ .nil)) rfl) ?_ | refine RunU.doit rfl rfl (sC_ (hH) (.sh (.sh .nil)) (.sh wS_ (.sh wS_ .nil)) rfl) ?_ | refine RunU.doit rfl rfl (sC_ (hW) (.sh (.sh (.sh .nil))) (.shAgg rfl gA_ (.sh wS_ (.sh wS_ .nil))) rfl) ?_) | refine gdA ?_) | (refine neA ?_; first | refine nxA ?_ | refine Done.ret (.one rA_ (.one rA_ .nil)) (.sh (.sh (.sh .nil))) ?_ rfl) | fail)
    all_goals first | rfl | (exfalso; simp_all; done) | (exfalso; omega)
   | false =>
    rw [if_neg (by simp)]
    refine cA_ _ Tryz.func34 rfl Tryz.ntmps34 sO_ ?_
    repeat' (first | (refine Two.mk ?_ ?_ <;> intro _) | (guard_target =~ CallN_; first | refine RunU.cons (sC_ (hC) (.sh (.sh .nil)) (.shAgg rfl gA_ (.sh wS_ .nil)) rfl) ?_ | refine RunU.cons (sC_ (hN) (.sh (.sh .nil)) (.shAgg rfl gA_ (.sh wS_ .nil)) rfl) ?_ | refine RunU.cons (sC_ (hH) (.sh (.sh .nil)) (.sh wS_ (.sh wS_ .nil)) rfl) ?_ | refine RunU.cons (sC_ (hW) (.sh (.sh (.sh .nil))) (.shAgg rfl gA_ (.sh wS_ (.sh wS_ .nil))) rfl) ?_) | refine goA ?_ | (guard_target =~ IsG; first | refine psA ?_ | (guard_target =~ CallS_; first | refine RunU.doit rfl rfl (sC_ (hC) (.sh (.sh .nil)) (.shAgg rfl gA_ (.sh wS_ .nil)) rfl) ?_ | refine RunU.doit rfl rfl (sC_ (hN) (.sh (.sh .nil)) (.shAgg rfl gA_ (.sh wS_ .nil)) rfl) ?_ | refine RunU.doit rfl rfl (sC_ (hH) (.sh (.sh .nil)) (.sh wS_ (.sh wS_ .nil)) rfl) ?_ | refine RunU.doit rfl rfl (sC_ (hW) (.sh (.sh (.sh .nil))) (.shAgg rfl gA_ (.sh wS_ (.sh wS_ .nil))) rfl) ?_) | refine gdA ?_) | (refine neA ?_; first | refine nxA ?_ | refine Done.ret (.one rA_ (.one rA_ .nil)) (.sh (.sh (.sh .nil))) ?_ rfl) | fail)
    all_goals first | rfl | (exfalso; simp_all; done) | (exfalso; omega)
  ·rw [decide_eq_false hm] at hH
   rw [if_neg hm]
   refine cA_ _ Tryz.func34 rfl Tryz.ntmps34 sO_ ?_
   repeat' (first | (refine Two.mk ?_ ?_ <;> intro _) | (guard_target =~ CallN_; first | refine RunU.cons (sC_ (hC) (.sh (.sh .nil)) (.shAgg rfl gA_ (.sh wS_ .nil)) rfl) ?_ | refine RunU.cons (sC_ (hN) (.sh (.sh .nil)) (.shAgg rfl gA_ (.sh wS_ .nil)) rfl) ?_ | refine RunU.cons (sC_ (hH) (.sh (.sh .nil)) (.sh wS_ (.sh wS_ .nil)) rfl) ?_) | refine goA ?_ | (guard_target =~ IsG; first | refine psA ?_ | (guard_target =~ CallS_; first | refine RunU.doit rfl rfl (sC_ (hC) (.sh (.sh .nil)) (.shAgg rfl gA_ (.sh wS_ .nil)) rfl) ?_ | refine RunU.doit rfl rfl (sC_ (hN) (.sh (.sh .nil)) (.shAgg rfl gA_ (.sh wS_ .nil)) rfl) ?_ | refine RunU.doit rfl rfl (sC_ (hH) (.sh (.sh .nil)) (.sh wS_ (.sh wS_ .nil)) rfl) ?_) | refine gdA ?_) | (refine neA ?_; first | refine nxA ?_ | refine Done.ret (.one rA_ (.one rA_ .nil)) (.sh (.sh (.sh .nil))) ?_ rfl) | fail)
   all_goals first | rfl | (exfalso; simp_all; done) | (exfalso; omega)
 ·rw [if_neg h]
  generalize chkC w E [v, u] = c at *
  refine cA_ _ Tryz.func34 rfl Tryz.ntmps34 sO_ ?_
  repeat' (first | (refine Two.mk ?_ ?_ <;> intro _) | (guard_target =~ CallN_; first | refine RunU.cons (sC_ (hC) (.sh (.sh .nil)) (.shAgg rfl gA_ (.sh wS_ .nil)) rfl) ?_) | refine goA ?_ | (guard_target =~ IsG; first | refine psA ?_ | (guard_target =~ CallS_; first | refine RunU.doit rfl rfl (sC_ (hC) (.sh (.sh .nil)) (.shAgg rfl gA_ (.sh wS_ .nil)) rfl) ?_) | refine gdA ?_) | (refine neA ?_; first | refine nxA ?_ | refine Done.ret (.one rA_ (.one rA_ .nil)) (.sh (.sh (.sh .nil))) ?_ rfl) | fail)
  all_goals first | rfl | (exfalso; simp_all; done) | (exfalso; omega)
def coL (w : List Int) (E : List (List Int)) (A : List Int) : List Int := if caC w E A = 0 then crn E A w.length else []
theorem implCO_c (w : List Int) (E : List (List Int)) (A : List Int) (hw : w.length ≤ 2000000) (hE : E.length ≤ 2000000) (hA : A.length ≤ 2000000) : CallA Tryz.prog 26 [aGr w E, aL A] [rL (coL w E A), rI (caC w E A)] [] := by
 have hR := checkArrows_c w E A hw hE hA
 unfold coL
 by_cases h : caC w E A = 0
 ·rw [if_pos h]
  obtain ⟨hg, har⟩ := caC_zero h
  have hK := cornersOf_c w E A hg har
  rw [h] at hR ⊢
  clear h
  refine cA_ _ Tryz.func26 rfl Tryz.ntmps26 sO_ ?_
  repeat' (first | (refine Two.mk ?_ ?_ <;> intro _) | (guard_target =~ CallN_; first | refine RunU.cons (sC_ (hR) (.sh (.sh .nil)) (.shAgg rfl gA_ (.sh wS_ .nil)) rfl) ?_ | refine RunU.cons (sC_ (hK) (.sh (.sh .nil)) (.shAgg rfl gA_ (.sh wS_ .nil)) rfl) ?_) | refine goA ?_ | (refine neA ?_; first | refine nxA ?_ | refine Done.ret (.one rA_ (.one rA_ .nil)) (.sh (.sh .nil)) ?_ rfl) | fail)
  all_goals first | rfl | (exfalso; simp_all; done) | (exfalso; omega)
 ·rw [if_neg h]
  generalize caC w E A = c at *
  refine cA_ _ Tryz.func26 rfl Tryz.ntmps26 sO_ ?_
  repeat' (first | (refine Two.mk ?_ ?_ <;> intro _) | (guard_target =~ CallN_; first | refine RunU.cons (sC_ (hR) (.sh (.sh .nil)) (.shAgg rfl gA_ (.sh wS_ .nil)) rfl) ?_) | refine goA ?_ | (refine neA ?_; first | refine nxA ?_ | refine Done.ret (.one rA_ (.one rA_ .nil)) (.sh (.sh .nil)) ?_ rfl) | fail)
  all_goals first | rfl | (exfalso; simp_all; done) | (exfalso; omega)
theorem specCO_c (w : List Int) (E : List (List Int)) (A : List Int) (hw : w.length ≤ 2000000) (hE : E.length ≤ 2000000) (hA : A.length ≤ 2000000) : CallA Tryz.prog 27 [aGr w E, aL A] [rL (coL w E A), rI (caC w E A)] [] := by
 have hI := specIsGraph_c w E hw hE
 have hR := l13Arrows_c w E A hw hA
 unfold coL caC
 by_cases hg : IsGr w E
 ·rw [if_pos hg]
  rw [decide_eq_true hg] at hI
  by_cases har : Arr w A
  ·rw [if_pos har, if_pos rfl]
   rw [decide_eq_true har] at hR
   have hK := l13Corners_c w E A hg har
   clear hg har
   refine cA_ _ Tryz.func27 rfl Tryz.ntmps27 sO_ ?_
   repeat' (first | (refine Two.mk ?_ ?_ <;> intro _) | (guard_target =~ CallN_; first | refine RunU.cons (sC_ (hI) (.sh .nil) (.shAgg rfl gA_ .nil) rfl) ?_ | refine RunU.cons (sC_ (hR) (.sh (.sh .nil)) (.shAgg rfl gA_ (.sh wS_ .nil)) rfl) ?_ | refine RunU.cons (sC_ (hK) (.sh (.sh .nil)) (.shAgg rfl gA_ (.sh wS_ .nil)) rfl) ?_) | refine goA ?_ | (refine neA ?_; first | refine nxA ?_ | refine Done.ret (.one rA_ (.one rA_ .nil)) (.sh (.sh .nil)) ?_ rfl) | fail)
   all_goals first | rfl | (exfalso; simp_all; done) | (exfalso; omega)
  ·rw [if_neg har, if_neg (by omega)]
   rw [decide_eq_false har] at hR
   clear hg har
   refine cA_ _ Tryz.func27 rfl Tryz.ntmps27 sO_ ?_
   repeat' (first | (refine Two.mk ?_ ?_ <;> intro _) | (guard_target =~ CallN_; first | refine RunU.cons (sC_ (hI) (.sh .nil) (.shAgg rfl gA_ .nil) rfl) ?_ | refine RunU.cons (sC_ (hR) (.sh (.sh .nil)) (.shAgg rfl gA_ (.sh wS_ .nil)) rfl) ?_) | refine goA ?_ | (refine neA ?_; first | refine nxA ?_ | refine Done.ret (.one rA_ (.one rA_ .nil)) (.sh (.sh .nil)) ?_ rfl) | fail)
   all_goals first | rfl | (exfalso; simp_all; done) | (exfalso; omega)
 ·rw [if_neg hg, if_neg (by omega)]
  rw [decide_eq_false hg] at hI
  clear hg
  refine cA_ _ Tryz.func27 rfl Tryz.ntmps27 sO_ ?_
  repeat' (first | (refine Two.mk ?_ ?_ <;> intro _) | (guard_target =~ CallN_; first | refine RunU.cons (sC_ (hI) (.sh .nil) (.shAgg rfl gA_ .nil) rfl) ?_) | refine goA ?_ | (refine neA ?_; first | refine nxA ?_ | refine Done.ret (.one rA_ (.one rA_ .nil)) (.sh (.sh .nil)) ?_ rfl) | fail)
  all_goals first | rfl | (exfalso; simp_all; done) | (exfalso; omega)
theorem implPB_c (w : List Int) (E : List (List Int)) (i k : Int) (hg : IsGr w E) (he : E.length + 1 = w.length) (hi : 0 ≤ i ∧ i < w.length) (hk : 0 ≤ k ∧ k < w.length) : CallA Tryz.prog 38 [aGr w E, aI i, aI k] [rL (pth w E i k), rI 0] [] := by
 have hlen := hg.1
 have hfew := hg.few
 have hI := implIsGraph_c w E (by omega) (by omega)
 rw [decide_eq_true hg] at hI
 have hV1 := isVertex_c w E i (by omega)
 rw [decide_eq_true hi] at hV1
 have hV2 := isVertex_c w E k (by omega)
 rw [decide_eq_true hk] at hV2
 have hN := nbrs_c w E hg
 have hQ := pathFrom_c hg k w.length i [] trivial hi (by simp)
 rw [show pf E k w.length i (([] : List Int).headD (-1)) = pth w E i k from rfl] at hQ
 obtain ⟨x, l, e⟩ := List.exists_cons_of_ne_nil (pth_ne hg he hi hk)
 rw [e] at hQ ⊢
 rw [show rNil (x :: l) = rL (x :: l) from rfl] at hQ
 clear hg he e
 refine cA_ _ Tryz.func38 rfl Tryz.ntmps38 sO_ ?_
 repeat' (first | (refine Two.mk ?_ ?_ <;> intro _) | (guard_target =~ AtN 14; refine RunU.cons (sC_ (hV1) (.sh (.sh .nil)) (.shAgg rfl gA_ (.sh wS_ .nil)) rfl) ?_) | (guard_target =~ CallN_; first | refine RunU.cons (sC_ (hI) (.sh .nil) (.shAgg rfl gA_ .nil) rfl) ?_ | refine RunU.cons (sC_ (hN) (.sh .nil) (.shAgg rfl gA_ .nil) rfl) ?_ | refine RunU.cons (sC_ (hQ) (.sh (.sh (.sh (.sh .nil)))) (.sh wS_ (.sh wS_ (.sh wS_ (.sh wS_ .nil)))) rfl) ?_) | refine goA ?_ | (guard_target =~ IsG; first | refine psA ?_ | (guard_target =~ AtS 19; refine RunU.doit rfl rfl (sC_ (hV2) (.sh (.sh .nil)) (.shAgg rfl gA_ (.sh wS_ .nil)) rfl) ?_) | (guard_target =~ CallS_; first | refine RunU.doit rfl rfl (sC_ (hI) (.sh .nil) (.shAgg rfl gA_ .nil) rfl) ?_ | refine RunU.doit rfl rfl (sC_ (hN) (.sh .nil) (.shAgg rfl gA_ .nil) rfl) ?_ | refine RunU.doit rfl rfl (sC_ (hQ) (.sh (.sh (.sh (.sh .nil)))) (.sh wS_ (.sh wS_ (.sh wS_ (.sh wS_ .nil)))) rfl) ?_) | refine gdA ?_) | (refine neA ?_; first | refine nxA ?_ | refine Done.ret (.one rA_ (.one rA_ .nil)) (.sh (.sh (.sh .nil))) ?_ rfl) | fail)
 all_goals first | rfl | (exfalso; simp_all; done) | (exfalso; omega)
theorem hasInt_c (l : List Int) (x : Int) (hl : l.length ≤ 1000000000) : CallA Tryz.prog 37 [aL l, aI x] [rB (decide (x ∈ l))] [] := by
 refine cA_ _ Tryz.func37 rfl Tryz.ntmps37 sO_ ?_
 repeat' (first | (refine Two.mk ?_ ?_ <;> intro _) | refine goA ?_ | (refine neA ?_; first | refine nxA ?_ | refine Done.ret (.one rA_ .nil) (.sh (.sh .nil)) ?_ rfl) | fail)
 refine WpA.loop_slots (ι := Nat) (fun j => [(0, .c (.sl false 1 (ints l))), (1, vGI x), (5, vGI j)]) (fun j => j ≤ l.length ∧ ∀ i, i < j → l.getD i 0 ≠ x) (fun j => l.length - j) 0 ⟨by omega, fun i hi => by omega⟩ ⟨rfl, rfl, rfl, trivial⟩ ?_
 rintro j s nx ⟨hj, hok⟩
 by_cases hlt : j < l.length
 ·by_cases he : l.getD (j * 1) 0 = x
  ·rw [decide_eq_true (by rw [← he, Nat.mul_one]; exact getD_mem hlt)]
   clear hok
   repeat' (first | (refine Two.mk ?_ ?_ <;> intro _) | refine goA ?_ | (refine neA ?_; first | refine nxA ?_ | refine Done.ret (.one rA_ .nil) (.sh (.sh .nil)) ?_ rfl) | fail)
   all_goals first | rfl | (exfalso; omega)
  ·have hok2 : ∀ i, i < j + 1 → l.getD i 0 ≠ x := fun i hi => by
    by_cases e : i = j
    ·subst e; rwa [Nat.mul_one] at he
    ·exact hok i (by omega)
   clear hok
   repeat' (first | (refine Two.mk ?_ ?_ <;> intro _) | refine goA ?_ | (refine neA ?_; first | refine nxA ?_ | refine Done.ret (.one rA_ .nil) (.sh (.sh .nil)) ?_ rfl) | fail)
   all_goals try (exfalso; omega)
   all_goals exact ⟨j + 1, ⟨by omega, hok2⟩, ⟨rfl, rfl, int_eq (by omega), trivial⟩, by omega⟩
 ·rw [decide_eq_false (fun h => by
   obtain ⟨i, hi, e⟩ := List.getElem_of_mem h
   exact hok i (by omega) (by simp [List.getD, hi, e]))]
  clear hok
  repeat' (first | (refine Two.mk ?_ ?_ <;> intro _) | refine goA ?_ | (refine neA ?_; first | refine nxA ?_ | refine Done.ret (.one rA_ .nil) (.sh (.sh .nil)) ?_ rfl) | fail)
  all_goals first | rfl | (exfalso; omega)
end Go.Proofs.YtmgmpnhlehonmaaGreat
