/- The multiplicities of the vertices, by the program and by the reference. No condition. -/
import Derived.Test.YtmgmpnhlehonmaaGreatOHaB
import Derived.Test.YtmgmpnhlehonmaaGreatOHdA
set_option linter.unusedVariables false
set_option linter.unusedSimpArgs false
namespace Go.Proofs.YtmgmpnhlehonmaaGreat
set_option maxHeartbeats 20000000
open Go.Pv
open Go.ChangeShapes Go.WideShapes Go.ChangeAt Go.RowKit
attribute [local irreducible] RunU WpA Step CallG CallNG Done DoneN
instance fnOk30 : FnOk Tryz.prog 30 := ⟨_, Tryz.func30, rfl, by decide⟩
instance fnOk31 : FnOk Tryz.prog 31 := ⟨_, Tryz.func31, rfl, by decide⟩
noncomputable def muA (w : List Int) (E : List (List Int)) (A : List Int) (i : Nat) : Int := dot ((lkL w E).getD i []) A w.length
noncomputable def muL (w : List Int) (E : List (List Int)) (A : List Int) (i : Nat) : List Int := (List.range i).map fun a => muA w E A a
theorem muL_len (w : List Int) (E : List (List Int)) (A : List Int) (i : Nat) : (muL w E A i).length = i := by simp [muL]
theorem muL_succ (w : List Int) (E : List (List Int)) (A : List Int) (i : Nat) : muL w E A i ++ [muA w E A i] = muL w E A (i + 1) := by simp [muL, List.range_succ]
def muOk (w : List Int) (E : List (List Int)) (A : List Int) : Prop := ∀ i, i < w.length → -1000000000000 ≤ muA w E A i ∧ muA w E A i ≤ 1000000000000
noncomputable def muB (w : List Int) (E : List (List Int)) (A : List Int) : Bool := @decide (muOk w E A) (Classical.propDecidable _)
theorem muB_iff (w : List Int) (E : List (List Int)) (A : List Int) : muB w E A = true ↔ muOk w E A := by unfold muB; exact @decide_eq_true_iff _ (Classical.propDecidable _)
noncomputable def lmuL (w : List Int) (E : List (List Int)) (A : List Int) : List Int := if lcC w E A = 0 then if lkB w E = true then if muB w E A = true then muL w E A w.length else [] else [] else []
noncomputable def lmuC (w : List Int) (E : List (List Int)) (A : List Int) : Int := if lcC w E A = 0 then if lkB w E = true then if muB w E A = true then 0 else 3 else 3 else lcC w E A
theorem lmuL_len (w : List Int) (E : List (List Int)) (A : List Int) : (lmuL w E A).length ≤ w.length := by
 unfold lmuL
 split
 ·split
  ·split
   ·rw [muL_len]; exact Nat.le_refl _
   ·simp
  ·simp
 ·simp
theorem lcC_zero {w : List Int} {E : List (List Int)} {A : List Int} (h : lcC w E A = 0) : IsGr w E ∧ Arr w A ∧ caC w E A = 0 ∧ chkC w E [] = 0 := by
 unfold lcC at h
 split at h
 ·rename_i h1
  obtain ⟨a, b⟩ := caC_zero h1
  exact ⟨a, b, h1, h⟩
 ·rename_i h1; exact absurd h h1
theorem arr_le {w A : List Int} (h : Arr w A) (i : Nat) : (A.getD i 0).natAbs ≤ 1000 := by
 by_cases hi : i < A.length
 ·have := h.2 i hi; omega
 ·rw [List.getD_eq_getElem?_getD, List.getElem?_eq_none (by omega)]; simp
theorem lkL_len (w : List Int) (E : List (List Int)) : (lkL w E).length = w.length := matF_len _ _
theorem lkL_rlen {w : List Int} {E : List (List Int)} {i : Nat} (h : i < w.length) : ((lkL w E).getD i []).length = w.length := matF_rlen _ h
theorem implLinkedMu_c (w : List Int) (E : List (List Int)) (A : List Int) (hw : w.length ≤ 2000000) (hE : E.length ≤ 2000000) (hA : A.length ≤ 2000000) : CallA Tryz.prog 30 [aGr w E, aL A] [rL (lmuL w E A), rI (lmuC w E A)] [] := by
 have hR := checkArrows_c w E A hw hE hA
 unfold lmuL lmuC
 by_cases h0 : lcC w E A = 0
 ·obtain ⟨hg, har, hca, hch⟩ := lcC_zero h0
  rw [if_pos h0, if_pos h0]
  rw [hca] at hR
  have hC := checkSplice_ok w E [] (by simp) hch
  obtain ⟨_, _, hcn⟩ := chk_zero hch
  have hM := linkingMatrix_c w E hg hcn
  have hlen := hg.1
  have hAl := har.1
  clear h0 hca hch
  unfold lkR lkC at hM
  by_cases hB : lkB w E = true
  ·rw [if_pos hB, if_pos hB] at hM ⊢
   have hbad : ¬ muOk w E A → (if muB w E A = true then muL w E A w.length else []) = [] ∧ (if muB w E A = true then (0 : Int) else 3) = 3 := fun h => by
    have : ¬ muB w E A = true := fun h2 => h ((muB_iff w E A).1 h2)
    exact ⟨if_neg this, if_neg this⟩
   have hgood : muOk w E A → (if muB w E A = true then muL w E A w.length else []) = muL w E A w.length ∧ (if muB w E A = true then (0 : Int) else 3) = 0 := fun h => by
    have := (muB_iff w E A).2 h
    exact ⟨if_pos this, if_pos this⟩
   generalize (if muB w E A = true then muL w E A w.length else []) = rl at *
   generalize (if muB w E A = true then (0 : Int) else 3) = rc at *
   have hRl := lkL_len w E
   refine cA_ _ Tryz.func30 rfl Tryz.ntmps30 sO_ ?_
   repeat' (first | (refine Two.mk ?_ ?_ <;> intro _) | (guard_target =~ CallN_; first | refine RunU.cons (sC_ (hR) (.sh (.sh .nil)) (.shAgg rfl gA_ (.sh wS_ .nil)) rfl) ?_ | refine RunU.cons (step_callS (hC) (.sh (.mv vA_ .nil)) (.sh (.agg rfl (by first | exact .nil | exact .cons .nil | exact .cons (.cons .nil) | exact .cons (.cons (.cons .nil)) | exact .cons (.cons (.cons (.cons .nil))) | exact .cons (.cons (.cons (.cons (.cons .nil)))))) (.mv .nil)) rfl) ?_ | refine RunU.cons (sC_ (hM) (.sh .nil) (.shAgg rfl gA_ .nil) rfl) ?_) | refine goA ?_ | refine nxA ?_ | refine Done.ret (.one rA_ (.one rA_ .nil)) (.sh (.sh .nil)) ?_ rfl)
   all_goals try (exfalso; simp_all; done)
   all_goals try (exfalso; omega)
   refine WpA.loop_ids2 (fun j i10 i9 => [(1, .c (.sl false 1 (ints A))), (10, .own i10 (.sl true 1 (ints (muL w E A j)))), (9, .own i9 (.sl true 1 (LL (lkL w E)))), (37, .als 9 i9 []), (38, vGI w.length), (39, vGI j)]) (fun j => j ≤ w.length ∧ ∀ a, a < j → -1000000000000 ≤ muA w E A a ∧ muA w E A a ≤ 1000000000000) (fun j => w.length - j) 0 _ _ ⟨by omega, fun a h => by omega⟩ ⟨rfl, xR_, xR_, rfl, int_eq (by omega), rfl, trivial⟩ ?_
   rintro j i10 i9 s nx ⟨hj, hok⟩
   have hml := muL_len w E A j
   by_cases hlt : j < w.length
   ·have hrl := lkL_rlen (w := w) (E := E) hlt
    have hS := scalar_c ((lkL w E).getD (j * 1) []) A (by rw [Nat.mul_one]; omega) (by rw [Nat.mul_one]; omega) (fun i => by rw [Nat.mul_one]; exact lkL_le w E j i) (arr_le har)
    have hd : dot ((lkL w E).getD (j * 1) []) A ((lkL w E).getD (j * 1) []).length = muA w E A j := by rw [Nat.mul_one, hrl]; rfl
    rw [hd] at hS
    have hrl2 : ((lkL w E).getD (j * 1) []).length = w.length := by rw [Nat.mul_one]; exact hrl
    have hV := isValue_c (muA w E A j)
    have e := muL_succ w E A j
    clear hR hC hM hd hrl
    by_cases hr : -1000000000000 ≤ muA w E A j ∧ muA w E A j ≤ 1000000000000
    ·rw [decide_eq_true hr] at hV
     clear hbad hgood
     generalize hmu : muA w E A j = mu at *
     generalize lkL w E = R at *
     repeat' (first | (refine Two.mk ?_ ?_ <;> intro _) | (guard_target =~ CallN_; first | refine RunU.cons (sC_ (hS) (.sh (.sh .nil)) (.sh wS_ (.sh wS_ .nil)) rfl) ?_ | refine RunU.cons (sC_ (hV) (.sh .nil) (.sh wS_ .nil) rfl) ?_) | refine goA ?_ | refine nxA ?_ | refine Done.ret (.one rA_ (.one rA_ .nil)) (.sh (.sh .nil)) ?_ rfl)
     all_goals try (exfalso; simp_all; done)
     all_goals try (exfalso; omega)
     refine ⟨j + 1, ⟨by omega, fun a h => ?_⟩, ⟨_, _, rfl, by exact own_ints e, xR_, rfl, rfl, int_eq (by omega), trivial⟩, by omega⟩
     by_cases ea : a = j
     ·rw [ea, hmu]; exact hr
     ·exact hok a (by omega)
    ·rw [decide_eq_false hr] at hV
     obtain ⟨z1, z2⟩ := hbad fun h => hr (h j hlt)
     rw [z1, z2]
     clear hbad hgood
     generalize muA w E A j = mu at *
     generalize lkL w E = R at *
     repeat' (first | (refine Two.mk ?_ ?_ <;> intro _) | (guard_target =~ CallN_; first | refine RunU.cons (sC_ (hS) (.sh (.sh .nil)) (.sh wS_ (.sh wS_ .nil)) rfl) ?_ | refine RunU.cons (sC_ (hV) (.sh .nil) (.sh wS_ .nil) rfl) ?_) | refine goA ?_ | refine nxA ?_ | refine Done.ret (.one rA_ (.one rA_ .nil)) (.sh (.sh .nil)) ?_ rfl)
     all_goals first | rfl | (exfalso; simp_all; done) | (exfalso; omega)
   ·have ej : j = w.length := by omega
    subst ej
    obtain ⟨z1, z2⟩ := hgood hok
    rw [z1, z2]
    clear hbad hgood hR hC hM
    repeat' (first | (refine Two.mk ?_ ?_ <;> intro _) | refine goA ?_ | refine nxA ?_ | refine Done.ret (.one rA_ (.one rA_ .nil)) (.sh (.sh .nil)) ?_ rfl)
    all_goals first | rfl | (exfalso; omega)
  ·rw [if_neg hB, if_neg hB] at hM ⊢
   refine cA_ _ Tryz.func30 rfl Tryz.ntmps30 sO_ ?_
   repeat' (first | (refine Two.mk ?_ ?_ <;> intro _) | (guard_target =~ CallN_; first | refine RunU.cons (sC_ (hR) (.sh (.sh .nil)) (.shAgg rfl gA_ (.sh wS_ .nil)) rfl) ?_ | refine RunU.cons (step_callS (hC) (.sh (.mv vA_ .nil)) (.sh (.agg rfl (by first | exact .nil | exact .cons .nil | exact .cons (.cons .nil) | exact .cons (.cons (.cons .nil)) | exact .cons (.cons (.cons (.cons .nil))) | exact .cons (.cons (.cons (.cons (.cons .nil)))))) (.mv .nil)) rfl) ?_ | refine RunU.cons (sC_ (hM) (.sh .nil) (.shAgg rfl gA_ .nil) rfl) ?_) | refine goA ?_ | refine nxA ?_ | refine Done.ret (.one rA_ (.one rA_ .nil)) (.sh (.sh .nil)) ?_ rfl)
   all_goals first | rfl | (exfalso; simp_all; done) | (exfalso; omega)
 ·rw [if_neg h0, if_neg h0]
  unfold lcC at h0 ⊢
  by_cases hca : caC w E A = 0
  ·rw [if_pos hca] at h0 ⊢
   rw [hca] at hR
   have hC := checkSplice_bad w E [] hw hE (by simp) h0
   generalize chkC w E [] = c at *
   refine cA_ _ Tryz.func30 rfl Tryz.ntmps30 sO_ ?_
   repeat' (first | (refine Two.mk ?_ ?_ <;> intro _) | (guard_target =~ CallN_; first | refine RunU.cons (sC_ (hR) (.sh (.sh .nil)) (.shAgg rfl gA_ (.sh wS_ .nil)) rfl) ?_ | refine RunU.cons (step_callS (hC) (.sh (.mv vA_ .nil)) (.sh (.agg rfl (by first | exact .nil | exact .cons .nil | exact .cons (.cons .nil) | exact .cons (.cons (.cons .nil)) | exact .cons (.cons (.cons (.cons .nil))) | exact .cons (.cons (.cons (.cons (.cons .nil)))))) (.mv .nil)) rfl) ?_) | refine goA ?_ | refine nxA ?_ | refine Done.ret (.one rA_ (.one rA_ .nil)) (.sh (.sh .nil)) ?_ rfl)
   all_goals first | rfl | (exfalso; simp_all; done) | (exfalso; omega)
  ·rw [if_neg hca] at h0 ⊢
   generalize caC w E A = c at *
   refine cA_ _ Tryz.func30 rfl Tryz.ntmps30 sO_ ?_
   repeat' (first | (refine Two.mk ?_ ?_ <;> intro _) | (guard_target =~ CallN_; first | refine RunU.cons (sC_ (hR) (.sh (.sh .nil)) (.shAgg rfl gA_ (.sh wS_ .nil)) rfl) ?_) | refine goA ?_ | refine nxA ?_ | refine Done.ret (.one rA_ (.one rA_ .nil)) (.sh (.sh .nil)) ?_ rfl)
   all_goals first | rfl | (exfalso; simp_all; done) | (exfalso; omega)
theorem specLinkedMu_c (w : List Int) (E : List (List Int)) (A : List Int) (hw : w.length ≤ 2000000) (hE : E.length ≤ 2000000) (hA : A.length ≤ 2000000) : CallA Tryz.prog 31 [aGr w E, aL A] [rL (lmuL w E A), rI (lmuC w E A)] [] := by
 have hR := l13List_c w E A hw hE hA
 have hM := specLinkingMatrix_c w E hw hE
 unfold lmuL lmuC
 by_cases h0 : lcC w E A = 0
 ·obtain ⟨hg, har, hca, hch⟩ := lcC_zero h0
  rw [if_pos h0, if_pos h0]
  rw [h0] at hR
  have hlen := hg.1
  have hAl := har.1
  unfold lmR lmC at hM
  rw [if_pos hch, if_pos hch] at hM
  clear h0 hca hch
  unfold lkR lkC at hM
  by_cases hB : lkB w E = true
  ·rw [if_pos hB, if_pos hB] at hM ⊢
   have hbad : ¬ muOk w E A → (if muB w E A = true then muL w E A w.length else []) = [] ∧ (if muB w E A = true then (0 : Int) else 3) = 3 := fun h => by
    have : ¬ muB w E A = true := fun h2 => h ((muB_iff w E A).1 h2)
    exact ⟨if_neg this, if_neg this⟩
   have hgood : muOk w E A → (if muB w E A = true then muL w E A w.length else []) = muL w E A w.length ∧ (if muB w E A = true then (0 : Int) else 3) = 0 := fun h => by
    have := (muB_iff w E A).2 h
    exact ⟨if_pos this, if_pos this⟩
   generalize (if muB w E A = true then muL w E A w.length else []) = rl at *
   generalize (if muB w E A = true then (0 : Int) else 3) = rc at *
   have hRl := lkL_len w E
   refine cA_ _ Tryz.func31 rfl Tryz.ntmps31 sO_ ?_
   repeat' (first | (refine Two.mk ?_ ?_ <;> intro _) | (guard_target =~ CallN_; first | refine RunU.cons (sC_ (hR) (.sh (.sh .nil)) (.shAgg rfl gA_ (.sh wS_ .nil)) rfl) ?_ | refine RunU.cons (sC_ (hM) (.sh .nil) (.shAgg rfl gA_ .nil) rfl) ?_) | refine goA ?_ | refine nxA ?_ | refine Done.ret (.one rA_ (.one rA_ .nil)) (.sh (.sh .nil)) ?_ rfl)
   all_goals try (exfalso; simp_all; done)
   all_goals try (exfalso; omega)
   refine WpA.loop_ids2 (fun j i9 i7 => [(1, .c (.sl false 1 (ints A))), (7, .own i7 (.sl true 1 (LL (lkL w E)))), (9, .own i9 (.sl true 1 (ints (muL w E A j)))), (10, vGI j)]) (fun j => j ≤ w.length ∧ ∀ a, a < j → -1000000000000 ≤ muA w E A a ∧ muA w E A a ≤ 1000000000000) (fun j => w.length - j) 0 _ _ ⟨by omega, fun a h => by omega⟩ ⟨rfl, rfl, xR_, rfl, trivial⟩ ?_
   rintro j i9 i7 s nx ⟨hj, hok⟩
   have hml := muL_len w E A j
   by_cases hlt : j < w.length
   ·have hrl := lkL_rlen (w := w) (E := E) hlt
    have hrl2 : ((lkL w E).getD (j * 1) []).length = w.length := by rw [Nat.mul_one]; exact hrl
    have hle : ∀ i, (((lkL w E).getD (j * 1) []).getD i 0).natAbs ≤ 1000000000000 := fun i => by rw [Nat.mul_one]; exact lkL_le w E j i
    have hd : dot ((lkL w E).getD (j * 1) []) A w.length = muA w E A j := by rw [Nat.mul_one]; rfl
    have hV := l01In_c (muA w E A j) (-1000000000000) 1000000000000
    have e := muL_succ w E A j
    have hAle := arr_le har
    clear hR hM hrl
    generalize hmu : muA w E A j = mu at *
    generalize lkL w E = R at *
    repeat' (first | (refine Two.mk ?_ ?_ <;> intro _) | refine goA ?_ | refine nxA ?_ | refine Done.ret (.one rA_ (.one rA_ .nil)) (.sh (.sh .nil)) ?_ rfl)
    all_goals try (exfalso; omega)
    refine WpA.loop_ids2 (fun k i9 i7 => [(1, .c (.sl false 1 (ints A))), (7, .own i7 (.sl true 1 (LL R))), (9, .own i9 (.sl true 1 (ints (muL w E A j)))), (10, vGI j), (11, .c (.lit (.int .i64 (dot (R.getD (j * 1) []) A k)))), (12, vGI k)]) (fun k => k ≤ w.length) (fun k => w.length - k) 0 _ _ (by omega) ⟨rfl, rfl, rfl, rfl, rfl, rfl, trivial⟩ ?_
    rintro k i9 i7 s nx hk
    by_cases hlk : k < w.length
    ·have h1 := dot_le hle hAle k
     have h2 : (A.getD (k * 1) 0 * (R.getD (j * 1) []).getD (k * 1) 0).natAbs ≤ 1000 * 1000000000000 := prod_le (hAle _) (hle _)
     have e2 : dot (R.getD (j * 1) []) A k + A.getD (k * 1) 0 * (R.getD (j * 1) []).getD (k * 1) 0 = dot (R.getD (j * 1) []) A (k + 1) := by rw [dot, Nat.mul_one k, Int.mul_comm]
     clear hbad hgood
     repeat' (first | (refine Two.mk ?_ ?_ <;> intro _) | refine goA ?_ | refine nxA ?_ | refine Done.ret (.one rA_ (.one rA_ .nil)) (.sh (.sh .nil)) ?_ rfl)
     all_goals try (exfalso; omega)
     exact ⟨k + 1, by omega, ⟨_, _, rfl, rfl, rfl, rfl, int_eq e2, int_eq (by omega), trivial⟩, by omega⟩
    ·have ek : k = w.length := by omega
     subst ek
     rw [hd]
     by_cases hr : -1000000000000 ≤ mu ∧ mu ≤ 1000000000000
     ·rw [decide_eq_true hr] at hV
      clear hbad hgood
      repeat' (first | (refine Two.mk ?_ ?_ <;> intro _) | (guard_target =~ CallN_; first | refine RunU.cons (sC_ (hV) (.sh (.sh (.sh .nil))) (.sh wS_ (.sh wS_ (.sh wS_ .nil))) rfl) ?_) | refine goA ?_ | refine nxA ?_ | refine Done.ret (.one rA_ (.one rA_ .nil)) (.sh (.sh .nil)) ?_ rfl)
      all_goals try (exfalso; simp_all; done)
      all_goals try (exfalso; omega)
      refine ⟨j + 1, ⟨by omega, fun a h => ?_⟩, ⟨_, _, rfl, rfl, by exact own_ints e, int_eq (by omega), trivial⟩, by omega⟩
      by_cases ea : a = j
      ·rw [ea, hmu]; exact hr
      ·exact hok a (by omega)
     ·rw [decide_eq_false hr] at hV
      obtain ⟨z1, z2⟩ := hbad fun h => hr (by have := h j hlt; rw [hmu] at this; exact this)
      rw [z1, z2]
      clear hbad hgood
      repeat' (first | (refine Two.mk ?_ ?_ <;> intro _) | (guard_target =~ CallN_; first | refine RunU.cons (sC_ (hV) (.sh (.sh (.sh .nil))) (.sh wS_ (.sh wS_ (.sh wS_ .nil))) rfl) ?_) | refine goA ?_ | refine nxA ?_ | refine Done.ret (.one rA_ (.one rA_ .nil)) (.sh (.sh .nil)) ?_ rfl)
      all_goals first | rfl | (exfalso; simp_all; done) | (exfalso; omega)
   ·have ej : j = w.length := by omega
    subst ej
    obtain ⟨z1, z2⟩ := hgood hok
    rw [z1, z2]
    clear hbad hgood hR hM
    repeat' (first | (refine Two.mk ?_ ?_ <;> intro _) | refine goA ?_ | refine nxA ?_ | refine Done.ret (.one rA_ (.one rA_ .nil)) (.sh (.sh .nil)) ?_ rfl)
    all_goals first | rfl | (exfalso; omega)
  ·rw [if_neg hB, if_neg hB] at hM ⊢
   refine cA_ _ Tryz.func31 rfl Tryz.ntmps31 sO_ ?_
   repeat' (first | (refine Two.mk ?_ ?_ <;> intro _) | (guard_target =~ CallN_; first | refine RunU.cons (sC_ (hR) (.sh (.sh .nil)) (.shAgg rfl gA_ (.sh wS_ .nil)) rfl) ?_ | refine RunU.cons (sC_ (hM) (.sh .nil) (.shAgg rfl gA_ .nil) rfl) ?_) | refine goA ?_ | refine nxA ?_ | refine Done.ret (.one rA_ (.one rA_ .nil)) (.sh (.sh .nil)) ?_ rfl)
   all_goals first | rfl | (exfalso; simp_all; done) | (exfalso; omega)
 ·rw [if_neg h0, if_neg h0]
  generalize lcC w E A = c at *
  refine cA_ _ Tryz.func31 rfl Tryz.ntmps31 sO_ ?_
  repeat' (first | (refine Two.mk ?_ ?_ <;> intro _) | (guard_target =~ CallN_; first | refine RunU.cons (sC_ (hR) (.sh (.sh .nil)) (.shAgg rfl gA_ (.sh wS_ .nil)) rfl) ?_) | refine goA ?_ | refine nxA ?_ | refine Done.ret (.one rA_ (.one rA_ .nil)) (.sh (.sh .nil)) ?_ rfl)
  all_goals first | rfl | (exfalso; simp_all; done) | (exfalso; omega)
end Go.Proofs.YtmgmpnhlehonmaaGreat
