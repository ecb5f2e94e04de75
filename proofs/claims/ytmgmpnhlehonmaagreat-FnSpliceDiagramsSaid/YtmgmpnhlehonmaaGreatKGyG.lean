/- FnSpliceDiagrams: the law's contract. No condition. -/
import Derived.Test.YtmgmpnhlehonmaaGreatKGyC
import Derived.Test.YtmgmpnhlehonmaaGreatKGyD
import Derived.Test.YtmgmpnhlehonmaaGreatKGyF
import Derived.Test.YtmgmpnhlehonmaaGreatKByA
import Derived.Test.YtmgmpnhlehonmaaGreatKHdB
set_option linter.unusedVariables false
set_option linter.unusedSimpArgs false
namespace Go.Proofs.YtmgmpnhlehonmaaGreat
set_option maxRecDepth 100000
set_option maxHeartbeats 20000000
open Go.Pv
open Go.ChangeShapes Go.WideShapes Go.ChangeAt Go.RowKit
attribute [local irreducible] RunU WpA Step CallG CallNG Done DoneN
instance fnOk4 : FnOk Tryz.prog 4 := ⟨_, Tryz.func4, rfl, by decide⟩
theorem chk_ok {w : List Int} {E : List (List Int)} (hg : IsGr w E) (he : E.length + 1 = w.length) {vs : List Int} (h : ∀ v ∈ vs, 0 ≤ v ∧ v < (w.length : Int)) : chkC w E vs = 0 := by
 unfold chkC
 rw [if_pos hg, if_pos (List.all_eq_true.2 fun v hv => decide_eq_true (h v hv)), if_pos he]
theorem owR_ok {w : List Int} {E : List (List Int)} (hg : IsGr w E) (he : E.length + 1 = w.length) {v u : Int} (hv : 0 ≤ v ∧ v < w.length) (hu : u ∈ near E v) (hb : (setI w E (bhL w E v u)).2 = true) : owR w E v u = ((setI w E (bhL w E v u)).1, 0) := by
 unfold owR
 rw [if_pos (chk_ok hg he fun x hx => ?_), if_pos hu, if_pos hb]
 simp only [List.mem_cons, List.not_mem_nil, or_false] at hx
 rcases hx with rfl | rfl
 ·exact hv
 ·exact near_in hg.2.2.1 hu
structure RowU (w : List Int) (E : List (List Int)) (r P : List Int) : Prop where
 len : r.length = 4
 a : 0 ≤ r.getD (0 * 1) 0 ∧ r.getD (0 * 1) 0 < w.length
 b : 0 ≤ r.getD (1 * 1) 0 ∧ r.getD (1 * 1) 0 < w.length
 p : P = pth w E (r.getD (0 * 1) 0) (r.getD (1 * 1) 0)
 l2 : 2 ≤ P.length ∧ P.length ≤ w.length
 one : owR w E (P.getD (0 * 1) 0) (P.getD (1 * 1) 0) = (r.getD (2 * 1) 0, 0)
 two : owR w E (P.getD (((P.length : Int) - 1).toNat * 1) 0) (P.getD (((P.length : Int) - 2).toNat * 1) 0) = (r.getD (3 * 1) 0, 0)
theorem row_use {w : List Int} {E : List (List Int)} (hg : IsGr w E) (he : E.length + 1 = w.length) {r : List Int} (h : RowD w E r) : ∃ P, RowU w E r P := by
 obtain ⟨i, k, hi, hk, hne, rfl, h1, h2⟩ := h
 have hends := pth_ends hg he hi hk hne
 obtain ⟨q, e⟩ := pa_two (pa_pth hg he hi hk) hne
 have o1 := owR_ok hg he hi hends.2.2.1 h1
 have o2 := owR_ok hg he hk hends.2.2.2 h2
 refine ⟨pth w E i k, rfl, hi, hk, rfl, ⟨hends.1, hends.2.1⟩, ?_, ?_⟩
 ·have e0 : (pth w E i k).getD (0 * 1) 0 = i := by rw [e]; rfl
  rw [e0]
  exact o1
 ·have e1 : (pth w E i k).getD ((((pth w E i k).length : Int) - 1).toNat * 1) 0 = k := by
   rw [e]
   have : (((i :: (q ++ [k])).length : Int) - 1).toNat * 1 = q.length + 1 := by simp <;> omega
   rw [this]
   simp
  have e2 : (pth w E i k).getD ((((pth w E i k).length : Int) - 2).toNat * 1) 0 = lastB (pth w E i k) := by
   unfold lastB
   congr 1
   omega
  rw [e1, e2]
  exact o2
theorem dg_use (w : List Int) (E : List (List Int)) (A : List Int) : (dgC w E A ≠ 0 → dgL w E A = []) ∧ (dgC w E A = 0 → IsGr w E ∧ E.length + 1 = w.length ∧ ((coL w E A).length = 0 → (dgL w E A).length = 0) ∧ (0 < (coL w E A).length → (dgL w E A).length + 1 = (coL w E A).length) ∧ ∀ i, i < (dgL w E A).length → ∃ P, RowU w E ((dgL w E A).getD i []) P) := by
 unfold dgC dgL
 by_cases h0 : lcC w E A = 0
 ·obtain ⟨hg, har, hca, hch⟩ := lcC_zero' h0
  obtain ⟨_, _, he⟩ := chk_zero hch
  rw [if_pos h0, if_pos h0]
  unfold coL
  rw [if_pos hca]
  cases hV : dgV w E A with
  | none => exact ⟨fun _ => rfl, fun h => by simp at h⟩
  | some L =>
   obtain ⟨h1, h2⟩ := dg_law hg he har hV
   refine ⟨fun h => by simp at h, fun _ => ⟨hg, he, fun hl => ?_, fun hl => h1 (fun e => by rw [e] at hl; simp at hl), fun i hi => ?_⟩⟩
   ·have e := List.eq_nil_of_length_eq_zero hl
    unfold dgV at hV
    rw [e] at hV
    simp only [dgOut, Option.some.injEq] at hV
    subst hV
    rfl
   refine row_use hg he (h2 _ ?_)
   simp only [Option.getD_some] at hi ⊢
   rw [List.getD_eq_getElem?_getD, List.getElem?_eq_getElem hi]
   exact List.getElem_mem hi
 ·rw [if_neg h0, if_neg h0]
  exact ⟨fun _ => rfl, fun h => absurd h h0⟩
theorem coL_le (w : List Int) (E : List (List Int)) (A : List Int) : (coL w E A).length ≤ w.length := by
 unfold coL
 split
 ·exact crn_len E A w.length
 ·simp
theorem lmuL_le (w : List Int) (E : List (List Int)) (A : List Int) : (lmuL w E A).length ≤ w.length := by
 unfold lmuL
 (repeat' split) <;> simp [muL_len]
theorem ow_in (w : List Int) (E : List (List Int)) (v u : Int) (h1 : (owR w E v u).2 = 0) (h2 : (swR w E v).2 = 0) : (owR w E v u).1 ∈ (swR w E v).1 := by
 unfold owR at h1 ⊢
 unfold swR at h2 ⊢
 split at h1
 ·rename_i hc
  rw [if_pos hc]
  obtain ⟨hg, _, _⟩ := chk_zero hc
  split at h1
  ·rename_i hm
   rw [if_pos hm]
   split at h1
   ·rename_i hb
    rw [if_pos hb]
    split at h2
    ·rename_i hc2
     rw [if_pos hc2]
     unfold wL at h2 ⊢
     split at h2
     ·rename_i hall
      rw [if_pos hall]
      refine List.mem_map.2 ⟨u, hm, ?_⟩
      exact ((set_eq hg (bhL w E v u)).2 hb).symm
     ·simp at h2
    ·rename_i hc2; simp at h2; exact absurd h2 hc2
   ·simp at h1
  ·simp at h1
 ·rename_i hc; simp at h1; exact absurd h1 hc
theorem dgL_small (w : List Int) (E : List (List Int)) (A : List Int) : (dgL w E A).length ≤ 41 ∧ ∀ i, ((dgL w E A).getD i []).length ≤ 1000 := by
 obtain ⟨h1, h2⟩ := dg_use w E A
 by_cases hc : dgC w E A = 0
 ·obtain ⟨hg, he, hz, h3, h4⟩ := h2 hc
  have hl := coL_le w E A
  have hlen := hg.1
  constructor
  ·by_cases h0 : 0 < (coL w E A).length
   ·have := h3 h0; omega
   ·have := hz (by omega); omega
  ·intro i
   by_cases hi : i < (dgL w E A).length
   ·obtain ⟨P, hu⟩ := h4 i hi
    rw [hu.len]; omega
   ·rw [List.getD_eq_getElem?_getD, List.getElem?_eq_none (by omega)]; simp
 ·rw [h1 hc]; simp
attribute [local irreducible] IsGr decIsGr
theorem law_FnSpliceDiagrams_c (l : List Int) (hb : By l) : CallA Tryz.prog 4 [aBy l] [rB true] [] := by
 have hB := bigY_c l hb.len
 by_cases h0 : 4096 < l.length
 ·rw [decide_eq_true h0] at hB
  refine cA_ _ Tryz.func4 rfl Tryz.ntmps4 sO_ ?_
  repeat' (first | (refine Two.mk ?_ ?_ <;> intro _ <;> try (exfalso; omega)) | (guard_target =~ CallN_; first | refine RunU.cons (sC_ (hB) (.sh .nil) (.sh wS_ .nil) rfl) ?_) | refine goA ?_ | (guard_target =~ IsG; first | refine psA ?_ | (guard_target =~ CallS_; first | refine RunU.doit rfl rfl (sC_ (hB) (.sh .nil) (.sh wS_ .nil) rfl) ?_) | refine gdA ?_) | (refine neA ?_; first | refine nxA ?_ | refine Done.ret (.one rA_ .nil) (.sh .nil) ?_ rfl) | fail)
  all_goals rfl
 ·rw [decide_eq_false h0] at hB
  obtain ⟨w, E, A, hs, hAl, hD1⟩ := drawSD_ex hb
  obtain ⟨w2, E2, A2, hs2, hAl2, hD2⟩ := drawLM_ex hb
  obtain ⟨w3, E3, v, u, hs3, hD3⟩ := drawSW_ex hb
  have hw := hs.lw
  have hE := hs.le
  have hw2 := hs2.lw
  have hE2 := hs2.le
  have hw3 := hs3.lw
  have hE3 := hs3.le
  have h1 := implSD_c w E A (by omega) (by omega) (by omega)
  have h2 := specSD_c w E A (by omega) (by omega) (by omega)
  have hsm := dgL_small w E A
  have hS := same9Y_c (dgL w E A) (by omega) hsm.2
  have h3 := implCO_c w E A (by omega) (by omega) (by omega)
  have h4 := specCO_c w E A (by omega) (by omega) (by omega)
  have hcl := coL_le w E A
  have hL1 := likeY_c (coL w E A) (by omega)
  have h5 := implLinkedMu_c w2 E2 A2 (by omega) (by omega) (by omega)
  have h6 := specLinkedMu_c w2 E2 A2 (by omega) (by omega) (by omega)
  have hml := lmuL_le w2 E2 A2
  have hL2 := likeY_c (lmuL w2 E2 A2) (by omega)
  have h7 := implOW_c w3 E3 v u (by omega) (by omega)
  have h8 := specOW_c w3 E3 v u (by omega) (by omega)
  have h9 := implSW_c w3 E3 v (by omega) (by omega)
  have h10 := specSW_c w3 E3 v (by omega) (by omega)
  have hsl := swR_len w3 E3 v
  have hL3 := likeY_c (swR w3 E3 v).1 (by omega)
  have hin := ow_in w3 E3 v u
  have hHas : (owR w3 E3 v u).2 = 0 → (swR w3 E3 v).2 = 0 → CallA Tryz.prog 37 [aL (swR w3 E3 v).1, aI (owR w3 E3 v u).1] [rB true] [] := fun q1 q2 => by
   have := hasInt_c (swR w3 E3 v).1 (owR w3 E3 v u).1 (by omega)
   rwa [decide_eq_true (hin q1 q2)] at this
  obtain ⟨hbad, hgood⟩ := dg_use w E A
  have hsl1 := hsm.1
  clear hs hs2 hs3 hsm hin
  generalize dgL w E A = L at *
  generalize dgC w E A = c at *
  generalize coL w E A = C at *
  generalize caC w E A = c2 at *
  generalize lmuL w2 E2 A2 = M at *
  generalize lmuC w2 E2 A2 = c3 at *
  generalize owR w3 E3 v u = ow at *
  generalize swR w3 E3 v = sw at *
  obtain ⟨x, t⟩ := ow
  obtain ⟨X, f⟩ := sw
  dsimp only at h7 h8 h9 h10 hsl hL3 hHas
  refine cA_ _ Tryz.func4 rfl Tryz.ntmps4 sO_ ?_
  apply cutG
  ·intro key
   repeat' (first | (refine Two.mk ?_ ?_ <;> intro _ <;> try (exfalso; omega)) | (guard_target =~ IsW; first | refine WpA.cutY 87 [(0, .c (.sl false 1 (bytes l))), (3, .own _ (dG2 w E)), (5, .own _ (.sl true 1 (LL L))), (6, vG c), (9, .own _ (.sl true 1 (ints C)))] rfl ⟨rfl, xR_, xR_, rfl, xR_, trivial⟩ key.out) | (guard_target =~ AtN 38; refine RunU.cons (sC_ (hB) (.sh .nil) (.sh wS_ .nil) rfl) ?_) | (guard_target =~ AtN 41; refine RunU.cons (sC_ (hD1) (.sh .nil) (.sh wS_ .nil) rfl) ?_) | (guard_target =~ AtN 47; refine RunU.cons (sC_ (h1) (.sh (.sh .nil)) (.shAgg rfl gA_ (.sh wS_ .nil)) rfl) ?_) | (guard_target =~ AtN 53; refine RunU.cons (sC_ (h2) (.sh (.sh .nil)) (.shAgg rfl gA_ (.sh wS_ .nil)) rfl) ?_) | (guard_target =~ AtN 68; refine RunU.cons (sC_ (h3) (.sh (.sh .nil)) (.shAgg rfl gA_ (.sh wS_ .nil)) rfl) ?_) | (guard_target =~ AtN 74; refine RunU.cons (sC_ (h4) (.sh (.sh .nil)) (.shAgg rfl gA_ (.sh wS_ .nil)) rfl) ?_) | refine goA ?_ | (guard_target =~ IsG; first | refine psA ?_ | (guard_target =~ AtS 62; refine RunU.doit rfl rfl (sC_ (hS) (.sh (.sh .nil)) (.sh wS_ (.sh wS_ .nil)) rfl) ?_) | (guard_target =~ AtS 83; refine RunU.doit rfl rfl (sC_ (hL1) (.sh (.sh .nil)) (.sh wS_ (.sh wS_ .nil)) rfl) ?_) | refine gdA ?_) | (refine neA ?_; first | refine nxA ?_ | refine Done.ret (.one rA_ .nil) (.sh .nil) ?_ rfl) | fail)
   all_goals first | rfl | (exfalso; omega) | (exfalso; simp_all; done)
  intro s nx
  clear hB hD1 h1 h2 hS h3 h4 hL1
  apply cutG
  ·intro key
   by_cases t0 : t = 0
   ·by_cases f0 : f = 0
    ·have hHas := hHas t0 f0
     repeat' (first | (refine Two.mk ?_ ?_ <;> intro _ <;> try (exfalso; omega)) | (guard_target =~ IsW; first | refine WpA.cutY 173 [(0, .c (.sl false 1 (bytes l))), (3, .own _ (dG2 w E)), (5, .own _ (.sl true 1 (LL L))), (6, vG c), (9, .own _ (.sl true 1 (ints C)))] rfl ⟨rfl, xR_, xR_, rfl, xR_, trivial⟩ key.out) | (guard_target =~ AtN 88; refine RunU.cons (sC_ (hD2) (.sh .nil) (.sh wS_ .nil) rfl) ?_) | (guard_target =~ AtN 94; refine RunU.cons (sC_ (h5) (.sh (.sh .nil)) (.shAgg rfl gA_ (.sh wS_ .nil)) rfl) ?_) | (guard_target =~ AtN 100; refine RunU.cons (sC_ (h6) (.sh (.sh .nil)) (.shAgg rfl gA_ (.sh wS_ .nil)) rfl) ?_) | (guard_target =~ AtN 114; refine RunU.cons (sC_ (hD3) (.sh .nil) (.sh wS_ .nil) rfl) ?_) | (guard_target =~ AtN 122; refine RunU.cons (sC_ (h7) (.sh (.sh (.sh .nil))) (.shAgg rfl gA_ (.sh wS_ (.sh wS_ .nil))) rfl) ?_) | (guard_target =~ AtN 129; refine RunU.cons (sC_ (h8) (.sh (.sh (.sh .nil))) (.shAgg rfl gA_ (.sh wS_ (.sh wS_ .nil))) rfl) ?_) | (guard_target =~ AtN 145; refine RunU.cons (sC_ (h9) (.sh (.sh .nil)) (.shAgg rfl gA_ (.sh wS_ .nil)) rfl) ?_) | (guard_target =~ AtN 151; refine RunU.cons (sC_ (h10) (.sh (.sh .nil)) (.shAgg rfl gA_ (.sh wS_ .nil)) rfl) ?_) | refine goA ?_ | (guard_target =~ IsG; first | refine psA ?_ | (guard_target =~ AtS 109; refine RunU.doit rfl rfl (sC_ (hL2) (.sh (.sh .nil)) (.sh wS_ (.sh wS_ .nil)) rfl) ?_) | (guard_target =~ AtS 160; refine RunU.doit rfl rfl (sC_ (hL3) (.sh (.sh .nil)) (.sh wS_ (.sh wS_ .nil)) rfl) ?_) | (guard_target =~ AtS 169; refine RunU.doit rfl rfl (sC_ (hHas) (.sh (.sh .nil)) (.sh wS_ (.sh wS_ .nil)) rfl) ?_) | refine gdA ?_) | (refine neA ?_; first | refine nxA ?_ | refine Done.ret (.one rA_ .nil) (.sh .nil) ?_ rfl) | fail)
     all_goals first | rfl | (exfalso; omega) | (exfalso; simp_all; done)
    ·repeat' (first | (refine Two.mk ?_ ?_ <;> intro _ <;> try (exfalso; omega)) | (guard_target =~ IsW; first | refine WpA.cutY 173 [(0, .c (.sl false 1 (bytes l))), (3, .own _ (dG2 w E)), (5, .own _ (.sl true 1 (LL L))), (6, vG c), (9, .own _ (.sl true 1 (ints C)))] rfl ⟨rfl, xR_, xR_, rfl, xR_, trivial⟩ key.out) | (guard_target =~ AtN 88; refine RunU.cons (sC_ (hD2) (.sh .nil) (.sh wS_ .nil) rfl) ?_) | (guard_target =~ AtN 94; refine RunU.cons (sC_ (h5) (.sh (.sh .nil)) (.shAgg rfl gA_ (.sh wS_ .nil)) rfl) ?_) | (guard_target =~ AtN 100; refine RunU.cons (sC_ (h6) (.sh (.sh .nil)) (.shAgg rfl gA_ (.sh wS_ .nil)) rfl) ?_) | (guard_target =~ AtN 114; refine RunU.cons (sC_ (hD3) (.sh .nil) (.sh wS_ .nil) rfl) ?_) | (guard_target =~ AtN 122; refine RunU.cons (sC_ (h7) (.sh (.sh (.sh .nil))) (.shAgg rfl gA_ (.sh wS_ (.sh wS_ .nil))) rfl) ?_) | (guard_target =~ AtN 129; refine RunU.cons (sC_ (h8) (.sh (.sh (.sh .nil))) (.shAgg rfl gA_ (.sh wS_ (.sh wS_ .nil))) rfl) ?_) | (guard_target =~ AtN 145; refine RunU.cons (sC_ (h9) (.sh (.sh .nil)) (.shAgg rfl gA_ (.sh wS_ .nil)) rfl) ?_) | (guard_target =~ AtN 151; refine RunU.cons (sC_ (h10) (.sh (.sh .nil)) (.shAgg rfl gA_ (.sh wS_ .nil)) rfl) ?_) | refine goA ?_ | (guard_target =~ IsG; first | refine psA ?_ | (guard_target =~ AtS 109; refine RunU.doit rfl rfl (sC_ (hL2) (.sh (.sh .nil)) (.sh wS_ (.sh wS_ .nil)) rfl) ?_) | (guard_target =~ AtS 160; refine RunU.doit rfl rfl (sC_ (hL3) (.sh (.sh .nil)) (.sh wS_ (.sh wS_ .nil)) rfl) ?_) | refine gdA ?_) | (refine neA ?_; first | refine nxA ?_ | refine Done.ret (.one rA_ .nil) (.sh .nil) ?_ rfl) | fail)
     all_goals first | rfl | (exfalso; omega) | (exfalso; simp_all; done)
   ·repeat' (first | (refine Two.mk ?_ ?_ <;> intro _ <;> try (exfalso; omega)) | (guard_target =~ IsW; first | refine WpA.cutY 173 [(0, .c (.sl false 1 (bytes l))), (3, .own _ (dG2 w E)), (5, .own _ (.sl true 1 (LL L))), (6, vG c), (9, .own _ (.sl true 1 (ints C)))] rfl ⟨rfl, xR_, xR_, rfl, xR_, trivial⟩ key.out) | (guard_target =~ AtN 88; refine RunU.cons (sC_ (hD2) (.sh .nil) (.sh wS_ .nil) rfl) ?_) | (guard_target =~ AtN 94; refine RunU.cons (sC_ (h5) (.sh (.sh .nil)) (.shAgg rfl gA_ (.sh wS_ .nil)) rfl) ?_) | (guard_target =~ AtN 100; refine RunU.cons (sC_ (h6) (.sh (.sh .nil)) (.shAgg rfl gA_ (.sh wS_ .nil)) rfl) ?_) | (guard_target =~ AtN 114; refine RunU.cons (sC_ (hD3) (.sh .nil) (.sh wS_ .nil) rfl) ?_) | (guard_target =~ AtN 122; refine RunU.cons (sC_ (h7) (.sh (.sh (.sh .nil))) (.shAgg rfl gA_ (.sh wS_ (.sh wS_ .nil))) rfl) ?_) | (guard_target =~ AtN 129; refine RunU.cons (sC_ (h8) (.sh (.sh (.sh .nil))) (.shAgg rfl gA_ (.sh wS_ (.sh wS_ .nil))) rfl) ?_) | refine goA ?_ | (guard_target =~ IsG; first | refine psA ?_ | (guard_target =~ AtS 109; refine RunU.doit rfl rfl (sC_ (hL2) (.sh (.sh .nil)) (.sh wS_ (.sh wS_ .nil)) rfl) ?_) | refine gdA ?_) | (refine neA ?_; first | refine nxA ?_ | refine Done.ret (.one rA_ .nil) (.sh .nil) ?_ rfl) | fail)
    all_goals first | rfl | (exfalso; omega) | (exfalso; simp_all; done)
  intro s nx
  clear hHas hD2 h5 h6 hL2 hD3 h7 h8 h9 h10 hL3
  by_cases hc : c = 0
  ·obtain ⟨hg, he, hz, hcnt, hrow⟩ := hgood hc
   subst hc
   clear hbad hgood
   have hcnt2 : C.length = 0 ∨ L.length + 1 = C.length := by
    by_cases q : 0 < C.length
    ·exact .inr (hcnt q)
    ·exact .inl (by omega)
   clear hcnt hz
   repeat' (first | (refine Two.mk ?_ ?_ <;> intro _ <;> try (exfalso; omega)) | refine goA ?_ | (guard_target =~ IsG; first | refine psA ?_ | refine gdA ?_) | (refine neA ?_; first | refine nxA ?_ | refine Done.ret (.one rA_ .nil) (.sh .nil) ?_ rfl) | fail)
   all_goals try (exfalso; omega)
   all_goals try (exfalso; simp_all; done)
   all_goals refine WpA.loop_slots (ι := Nat × Nat × Nat) (fun q => [(3, .own q.2.1 (dG2 w E)), (5, .own q.2.2 (.sl true 1 (LL L))), (30, vG q.1)]) (fun q => q.1 ≤ L.length) (fun q => L.length - q.1) (0, _, _) (by simp) ⟨xR_, xR_, rfl, trivial⟩ ?_
   all_goals rintro ⟨j, i3, i5⟩ st nx hj
   all_goals simp only at hj
   all_goals dsimp only
   all_goals
    by_cases hlt : j < L.length
    ·obtain ⟨P, hu⟩ := hrow (j * 1) (by omega)
     have hPB := implPB_c w E _ _ hg he hu.a hu.b
     rw [← hu.p] at hPB
     have hW1 := implOW_c w E (P.getD (0 * 1) 0) (P.getD (1 * 1) 0) (by omega) (by omega)
     rw [hu.one] at hW1
     have hW2 := implOW_c w E (P.getD (((P.length : Int) - 1).toNat * 1) 0) (P.getD (((P.length : Int) - 2).toNat * 1) 0) (by omega) (by omega)
     rw [hu.two] at hW2
     have hrl := hu.len
     have hl2 := hu.l2
     dsimp only at hW1 hW2
     clear hu hrow hg he hcnt2
     repeat' (first | (refine Two.mk ?_ ?_ <;> intro _) | (guard_target =~ AtN 209; refine RunU.cons (sC_ (hPB) (.sh (.sh (.sh .nil))) (.shAgg rfl gA_ (.sh wS_ (.sh wS_ .nil))) rfl) ?_) | (guard_target =~ AtN 227; refine RunU.cons (sC_ (hW1) (.sh (.sh (.sh .nil))) (.shAgg rfl gA_ (.sh wS_ (.sh wS_ .nil))) rfl) ?_) | (guard_target =~ AtN 244; refine RunU.cons (sC_ (hW2) (.sh (.sh (.sh .nil))) (.shAgg rfl gA_ (.sh wS_ (.sh wS_ .nil))) rfl) ?_) | refine goA ?_ | (guard_target =~ IsG; first | refine psA ?_ | refine gdA ?_) | (refine neA ?_; first | refine nxA ?_ | refine Done.ret (.one rA_ .nil) (.sh .nil) ?_ rfl) | fail)
     all_goals try (exfalso; omega)
     all_goals try (exfalso; simp_all; done)
     all_goals exact ⟨(j + 1, _, _), by simp only; omega, ⟨xR_, xR_, int_eq (by simp only; omega), trivial⟩, by simp only; omega⟩
    ·clear hrow hg he hcnt2
     repeat' (first | (refine Two.mk ?_ ?_ <;> intro _) | refine goA ?_ | (guard_target =~ IsG; first | refine psA ?_ | refine gdA ?_) | (refine neA ?_; first | refine nxA ?_ | refine Done.ret (.one rA_ .nil) (.sh .nil) ?_ rfl) | fail)
     all_goals first | rfl | (exfalso; omega)
  ·have hl0 : L.length = 0 := by rw [hbad hc]; rfl
   clear hbad hgood
   repeat' (first | (refine Two.mk ?_ ?_ <;> intro _ <;> try (exfalso; omega)) | refine goA ?_ | (guard_target =~ IsG; first | refine psA ?_ | refine gdA ?_) | (refine neA ?_; first | refine nxA ?_ | refine Done.ret (.one rA_ .nil) (.sh .nil) ?_ rfl) | fail)
   all_goals first | rfl | (exfalso; omega) | (simp [hl0]; done)
end Go.Proofs.YtmgmpnhlehonmaaGreat
