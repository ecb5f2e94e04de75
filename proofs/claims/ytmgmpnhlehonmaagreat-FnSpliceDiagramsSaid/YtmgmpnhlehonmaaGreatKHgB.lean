/- Diagrams of graphs: both sides return the same. No condition. -/
import Derived.Test.YtmgmpnhlehonmaaGreatKHgA
set_option linter.unusedVariables false
set_option linter.unusedSimpArgs false
namespace Go.Proofs.YtmgmpnhlehonmaaGreat
set_option maxRecDepth 100000
set_option maxHeartbeats 20000000
open Go.Pv
open Go.ChangeShapes Go.WideShapes Go.ChangeAt Go.RowKit
attribute [local irreducible] RunU WpA Step CallG CallNG Done DoneN
instance fnOk24 : FnOk Tryz.prog 24 := ⟨_, Tryz.func24, rfl, by decide⟩
instance fnOk25 : FnOk Tryz.prog 25 := ⟨_, Tryz.func25, rfl, by decide⟩
theorem lcC_zero' {w : List Int} {E : List (List Int)} {A : List Int} (h : lcC w E A = 0) : IsGr w E ∧ Arr w A ∧ caC w E A = 0 ∧ chkC w E [] = 0 := by
 unfold lcC at h
 split at h
 ·rename_i h1
  obtain ⟨a, b⟩ := caC_zero h1
  exact ⟨a, b, h1, h⟩
 ·rename_i h1; exact absurd h h1
theorem pair_ne {C : List Int} (h : C.Pairwise (· < ·)) {a b : Nat} (hab : a < b) (hb : b < C.length) : C.getD a 0 ≠ C.getD b 0 := by
 have := List.pairwise_iff_getElem.1 h a b (by omega) hb hab
 simp only [List.getD_eq_getElem?_getD, List.getElem?_eq_getElem hb, List.getElem?_eq_getElem (show a < C.length by omega), Option.getD_some]
 omega
theorem implSD_c (w : List Int) (E : List (List Int)) (A : List Int) (hw : w.length ≤ 2000000) (hE : E.length ≤ 2000000) (hA : A.length ≤ 2000000) : CallA Tryz.prog 24 [aGr w E, aL A] [rLL (dgL w E A), rI (dgC w E A)] [] := by
 have hR := checkArrows_c w E A hw hE hA
 unfold dgL dgC
 by_cases h0 : lcC w E A = 0
 ·obtain ⟨hg, har, hca, hch⟩ := lcC_zero' h0
  rw [if_pos h0, if_pos h0]
  rw [hca] at hR
  have hC := checkSplice_ok w E [] (by simp) hch
  obtain ⟨_, _, hcn⟩ := chk_zero hch
  have hK := cornersOf_c w E A hg har
  have hlen := hg.1
  have hNl := nbL_len E w.length
  have hasc := crn_asc E A w.length
  have hcin := crn_in E A w.length
  have hcl := crn_len E A w.length
  clear h0 hca hch
  obtain ⟨f, hf⟩ : ∃ f : Int → Int → Int × Bool, f = fun y x => setI w E (bhL w E y x) := ⟨_, rfl⟩
  obtain ⟨p, hp⟩ : ∃ p : Int → Int → List Int, p = pth w E := ⟨_, rfl⟩
  have hW : ∀ (y x : Int), (0 ≤ y ∧ y < w.length) → x ∈ near E y → CallA Tryz.prog 76 [aSpl w E, aI y, aI x] [rI (f y x).1, rB (f y x).2] [] := fun y x hy hx => by
   rw [hf]; exact weight_c w E y x hg hcn hy hx
  have hP : ∀ (i k : Int), (0 ≤ i ∧ i < w.length) → (0 ≤ k ∧ k < w.length) → i ≠ k → CallA Tryz.prog 68 [aLL (nbL E w.length), aI i, aI k, aI (-1)] [rL (p i k)] [] ∧ 2 ≤ (p i k).length ∧ (p i k).length ≤ w.length ∧ (p i k).getD 1 0 ∈ near E i ∧ lastB (p i k) ∈ near E k := fun i k hi hk hik => by
   have he := pth_ends hg hcn hi hk hik
   have hQ := pathFrom_c hg k w.length i [] trivial hi (by simp)
   rw [show pf E k w.length i (([] : List Int).headD (-1)) = pth w E i k from rfl] at hQ
   obtain ⟨x, l, e⟩ := List.exists_cons_of_ne_nil (pth_ne hg hcn hi hk)
   rw [e, show rNil (x :: l) = rL (x :: l) from rfl, ← e] at hQ
   rw [hp]
   exact ⟨hQ, he⟩
  unfold dgV
  rw [← hf, ← hp]
  generalize crn E A w.length = C at *
  have hcell : ∀ i k, cellD f C p i k = if anyC C (inn (p i k)) = true then some [] else if ((f i ((p i k).getD 1 0)).2 && (f k (lastB (p i k))).2) = true then some [[i, k, (f i ((p i k).getD 1 0)).1, (f k (lastB (p i k))).1]] else none := fun i k => rfl
  generalize cellD f C p = cell at *
  obtain ⟨Dg, hV⟩ : ∃ Dg, Dg = dgOut cell C [] := ⟨_, rfl⟩
  rw [← hV]
  refine cA_ _ Tryz.func24 rfl Tryz.ntmps24 sO_ ?_
  repeat' (first | (refine Two.mk ?_ ?_ <;> intro _) | (guard_target =~ CallN_; first | refine RunU.cons (sC_ (hR) (.sh (.sh .nil)) (.shAgg rfl gA_ (.sh wS_ .nil)) rfl) ?_ | refine RunU.cons (step_callS (hC) (.sh (.mv vA_ .nil)) (.sh (.agg rfl (by first | exact .nil | exact .cons .nil | exact .cons (.cons .nil) | exact .cons (.cons (.cons .nil)) | exact .cons (.cons (.cons (.cons .nil))) | exact .cons (.cons (.cons (.cons (.cons .nil)))))) (.mv .nil)) rfl) ?_ | refine RunU.cons (sC_ (hK) (.sh (.sh .nil)) (.shAgg rfl gA_ (.sh wS_ .nil)) rfl) ?_) | refine goA ?_ | (guard_target =~ IsG; first | refine psA ?_ | refine gdA ?_) | refine nxA ?_ | refine Done.ret (.one rA_ (.one rA_ .nil)) (.sh (.sh .nil)) ?_ rfl)
  all_goals try (exfalso; simp_all; done)
  all_goals try (exfalso; omega)
  clear hR hC hK
  refine WpA.loop_slots (ι := Nat × List (List Int) × Nat × Nat × Nat) (fun q => [(7, .own q.2.2.1 (.pt true [.sl false 1 (ints w), .sl false 1 (LLs E), .sl true 1 (LL (nbL E w.length))])), (9, .own q.2.2.2.1 (.pt true [.sl true 1 (ints C)])), (10, .own q.2.2.2.2 (.sl true 1 (LL q.2.1))), (39, .als 9 q.2.2.2.1 [0]), (40, vGI C.length), (41, vGI q.1)]) (fun q => q.1 ≤ C.length ∧ q.2.1.length ≤ 40 * q.1 ∧ Dg = dgOut cell (C.drop q.1) q.2.1) (fun q => C.length - q.1) (0, [], _, _, _) ⟨by simp, by simp, by rw [List.drop_zero]; exact hV⟩ ⟨xR_, xR_, xR_, xR_, rfl, rfl, trivial⟩ ?_
  rintro ⟨a, out, i7, i9, i10⟩ s nx ⟨ha, hol, hVa⟩
  simp only at ha hol hVa
  clear hV
  by_cases hlt : a < C.length
  ·have hdr := dgOut_drop (cell := cell) hlt out
   rw [hdr] at hVa
   clear hdr
   repeat' (first | (refine Two.mk ?_ ?_ <;> intro _) | refine goA ?_ | (guard_target =~ IsG; first | refine psA ?_ | refine gdA ?_) | refine nxA ?_ | refine Done.ret (.one rA_ (.one rA_ .nil)) (.sh (.sh .nil)) ?_ rfl)
   all_goals try (exfalso; omega)
   refine WpA.loop_slots (ι := Nat × List (List Int) × Nat) (fun q => [(7, .own i7 (.pt true [.sl false 1 (ints w), .sl false 1 (LLs E), .sl true 1 (LL (nbL E w.length))])), (9, .own i9 (.pt true [.sl true 1 (ints C)])), (10, .own q.2.2 (.sl true 1 (LL q.2.1))), (12, vGI (C.getD (a * 1) 0)), (39, .als 9 i9 [0]), (40, vGI C.length), (41, vGI a), (49, .sub 9 i9 [0] 1 (a + 1) (C.length - (a + 1))), (50, vGI ((C.length - (a + 1) : Nat) : Int)), (51, vGI q.1)]) (fun q => q.1 ≤ C.length - (a + 1) ∧ q.2.1.length ≤ 40 * a + q.1 ∧ Dg = (dgIn cell (C.getD a 0) (C.drop (a + 1 + q.1)) q.2.1).bind (dgOut cell (C.drop (a + 1)))) (fun q => C.length - q.1) (0, out, i10) ⟨by simp, by simpa using hol, by simpa using hVa⟩ ⟨rfl, rfl, rfl, rfl, rfl, rfl, rfl, rfl, int_eq (by simp), rfl, trivial⟩ ?_
   rintro ⟨j, o, i11⟩ s2 nx2 ⟨hj, hol2, hVj⟩
   simp only at hj hol2 hVj
   clear hVa
   by_cases hlt2 : j < C.length - (a + 1)
   ·have hi := hcin (C.getD a 0) (getD_mem hlt)
    have hk := hcin (C.getD (a + 1 + j) 0) (getD_mem (by omega))
    have hne := pair_ne hasc (a := a) (b := a + 1 + j) (by omega) (by omega)
    obtain ⟨hPik, l2, ln, m1, m2⟩ := hP _ _ hi hk hne
    have hc := hcell (C.getD a 0) (C.getD (a + 1 + j) 0)
    have hW1 := hW _ _ hi m1
    have hW2 := hW _ _ hk m2
    rw [dgIn_drop (cell := cell) (i := C.getD a 0) (l := C) (j := a + 1 + j) (by omega) o, hc] at hVj
    have ea : C.getD a 0 = C.getD (a * 1) 0 := by rw [Nat.mul_one]
    have eb : C.getD (a + 1 + j) 0 = C.getD ((a + 1 + j) * 1) 0 := by rw [Nat.mul_one]
    clear hc hW hP hcell m1 m2 hne
    rw [eb] at hPik hW1 hW2 hVj l2 ln hk
    rw [ea] at hPik hW1 hW2 hVj l2 ln hi
    generalize hPP : p (C.getD (a * 1) 0) (C.getD ((a + 1 + j) * 1) 0) = P at *
    have hX := containsCor_c C ((P.drop 1).take (((P.length : Int) - 1).toNat - 1)) (by omega) (by simp; omega)
    have ei : (P.drop 1).take (((P.length : Int) - 1).toNat - 1) = inn P := by
     unfold inn; congr 1; omega
    have hl1 : lastB P = P.getD ((((P.length : Nat) : Int) - 2).toNat * 1) 0 := by
     unfold lastB; rw [Nat.mul_one]; congr 1; omega
    have hl0 : P.getD 1 0 = P.getD (1 * 1) 0 := rfl
    rw [ei] at hX
    rw [hl1] at hW2 hVj
    rw [hl0] at hW1 hVj
    cases hb : anyC C (inn P) with
    | true =>
     rw [hb] at hX
     rw [if_pos hb] at hVj
     simp only [Option.bind_some, List.append_nil] at hVj
     rw [← ei] at hX
     clear hb hW1 hW2 ei hl1 hl0
     repeat' (first | (refine Two.mk ?_ ?_ <;> intro _) | (guard_target =~ CallN_; first | refine RunU.cons (sC_ (hPik) (.sh (.sh (.sh (.sh .nil)))) (.sh wS_ (.sh wS_ (.sh wS_ (.sh wS_ .nil)))) rfl) ?_ | refine RunU.cons (sC_ (hX) (.sh (.sh .nil)) (.sh wS_ (.sh wS_ .nil)) rfl) ?_) | (guard_target =~ IsN; first | refine RunU.cons (step_makeFunc (.cons (.root rfl) .nil) rfl) ?_) | refine goA ?_ | (guard_target =~ IsG; first | refine psA ?_ | refine gdA ?_) | refine nxA ?_ | refine Done.ret (.one rA_ (.one rA_ .nil)) (.sh (.sh .nil)) ?_ rfl)
     all_goals try (exfalso; simp_all; done)
     all_goals try (exfalso; omega)
     all_goals exact ⟨(j + 1, o, i11), ⟨by simp only; omega, by simp only; omega, by rw [ea]; exact hVj⟩, ⟨rfl, rfl, rfl, rfl, rfl, rfl, rfl, rfl, rfl, int_eq (by simp), trivial⟩, by simp only; omega⟩
    | false =>
     rw [hb] at hX
     rw [if_neg (by rw [hb]; simp)] at hVj
     rw [← ei] at hX
     clear hb ei hl1 hl0
     generalize f (C.getD (a * 1) 0) (P.getD (1 * 1) 0) = q1 at *
     generalize f (C.getD ((a + 1 + j) * 1) 0) (P.getD ((((P.length : Nat) : Int) - 2).toNat * 1) 0) = q2 at *
     obtain ⟨d1, b1⟩ := q1
     obtain ⟨d2, b2⟩ := q2
     simp only at hW1 hW2 hVj
     by_cases hbb : (b1 && b2) = true
     ·rw [if_pos hbb] at hVj
      simp only [Bool.and_eq_true] at hbb
      obtain ⟨rfl, rfl⟩ := hbb
      simp only [Option.bind_some] at hVj
      repeat' (first | (refine Two.mk ?_ ?_ <;> intro _) | (guard_target =~ AtN 74; refine RunU.cons (sC_ (hW1) (.sh (.sh (.sh .nil))) (.shAgg rfl gA_ (.sh wS_ (.sh wS_ .nil))) rfl) ?_) | (guard_target =~ AtN 86; refine RunU.cons (sC_ (hW2) (.sh (.sh (.sh .nil))) (.shAgg rfl gA_ (.sh wS_ (.sh wS_ .nil))) rfl) ?_) | (guard_target =~ CallN_; first | refine RunU.cons (sC_ (hPik) (.sh (.sh (.sh (.sh .nil)))) (.sh wS_ (.sh wS_ (.sh wS_ (.sh wS_ .nil)))) rfl) ?_ | refine RunU.cons (sC_ (hX) (.sh (.sh .nil)) (.sh wS_ (.sh wS_ .nil)) rfl) ?_) | (guard_target =~ IsN; first | refine RunU.cons (step_makeFunc (.cons (.root rfl) .nil) rfl) ?_) | refine goA ?_ | (guard_target =~ IsG; first | refine psA ?_ | refine gdA ?_) | refine nxA ?_ | refine Done.ret (.one rA_ (.one rA_ .nil)) (.sh (.sh .nil)) ?_ rfl)
      all_goals try (exfalso; simp_all; done)
      all_goals try (exfalso; omega)
      all_goals exact ⟨(j + 1, o ++ [[C.getD (a * 1) 0, C.getD ((a + 1 + j) * 1) 0, d1, d2]], _), ⟨by simp only; omega, by simp; omega, by rw [ea]; exact hVj⟩, ⟨rfl, rfl, by exact own_LL rfl, rfl, rfl, rfl, rfl, rfl, rfl, int_eq (by simp), trivial⟩, by simp only; omega⟩
     ·rw [if_neg hbb] at hVj
      simp only [Option.bind_none] at hVj
      subst hVj
      repeat' (first | (refine Two.mk ?_ ?_ <;> intro _) | (guard_target =~ AtN 74; refine RunU.cons (sC_ (hW1) (.sh (.sh (.sh .nil))) (.shAgg rfl gA_ (.sh wS_ (.sh wS_ .nil))) rfl) ?_) | (guard_target =~ AtN 86; refine RunU.cons (sC_ (hW2) (.sh (.sh (.sh .nil))) (.shAgg rfl gA_ (.sh wS_ (.sh wS_ .nil))) rfl) ?_) | (guard_target =~ CallN_; first | refine RunU.cons (sC_ (hPik) (.sh (.sh (.sh (.sh .nil)))) (.sh wS_ (.sh wS_ (.sh wS_ (.sh wS_ .nil)))) rfl) ?_ | refine RunU.cons (sC_ (hX) (.sh (.sh .nil)) (.sh wS_ (.sh wS_ .nil)) rfl) ?_) | (guard_target =~ IsN; first | refine RunU.cons (step_makeFunc (.cons (.root rfl) .nil) rfl) ?_) | refine goA ?_ | (guard_target =~ IsG; first | refine psA ?_ | refine gdA ?_) | refine nxA ?_ | refine Done.ret (.one rA_ (.one rA_ .nil)) (.sh (.sh .nil)) ?_ rfl)
      all_goals first | rfl | (exfalso; simp_all; done) | (exfalso; omega)
   ·have ej : j = C.length - (a + 1) := by omega
    have e2 : C.drop (a + 1 + j) = [] := List.drop_eq_nil_of_le (by omega)
    rw [e2] at hVj
    simp only [dgIn, Option.bind_some] at hVj
    clear hW hP hcell
    repeat' (first | (refine Two.mk ?_ ?_ <;> intro _) | refine goA ?_ | (guard_target =~ IsG; first | refine psA ?_ | refine gdA ?_) | refine nxA ?_ | refine Done.ret (.one rA_ (.one rA_ .nil)) (.sh (.sh .nil)) ?_ rfl)
    all_goals try (exfalso; omega)
    all_goals exact ⟨(a + 1, o, i7, i9, i11), ⟨by simp only; omega, by simp only; omega, hVj⟩, ⟨rfl, rfl, rfl, rfl, rfl, int_eq (by simp), trivial⟩, by simp only; omega⟩
  ·have ej : a = C.length := by omega
   subst ej
   rw [List.drop_length] at hVa
   subst hVa
   clear hW hP hcell
   repeat' (first | (refine Two.mk ?_ ?_ <;> intro _) | refine goA ?_ | (guard_target =~ IsG; first | refine psA ?_ | refine gdA ?_) | refine nxA ?_ | refine Done.ret (.one rA_ (.one rA_ .nil)) (.sh (.sh .nil)) ?_ rfl)
   all_goals first | rfl | (exfalso; omega) | skip
 ·rw [if_neg h0, if_neg h0]
  unfold lcC at h0 ⊢
  by_cases hca : caC w E A = 0
  ·rw [if_pos hca] at h0 ⊢
   rw [hca] at hR
   have hC := checkSplice_bad w E [] hw hE (by simp) h0
   generalize chkC w E [] = c at *
   refine cA_ _ Tryz.func24 rfl Tryz.ntmps24 sO_ ?_
   repeat' (first | (refine Two.mk ?_ ?_ <;> intro _) | (guard_target =~ CallN_; first | refine RunU.cons (sC_ (hR) (.sh (.sh .nil)) (.shAgg rfl gA_ (.sh wS_ .nil)) rfl) ?_ | refine RunU.cons (step_callS (hC) (.sh (.mv vA_ .nil)) (.sh (.agg rfl (by first | exact .nil | exact .cons .nil | exact .cons (.cons .nil) | exact .cons (.cons (.cons .nil)) | exact .cons (.cons (.cons (.cons .nil))) | exact .cons (.cons (.cons (.cons (.cons .nil)))))) (.mv .nil)) rfl) ?_) | refine goA ?_ | (guard_target =~ IsG; first | refine psA ?_ | refine gdA ?_) | refine nxA ?_ | refine Done.ret (.one rA_ (.one rA_ .nil)) (.sh (.sh .nil)) ?_ rfl)
   all_goals first | rfl | (exfalso; simp_all; done) | (exfalso; omega)
  ·rw [if_neg hca] at h0 ⊢
   generalize caC w E A = c at *
   refine cA_ _ Tryz.func24 rfl Tryz.ntmps24 sO_ ?_
   repeat' (first | (refine Two.mk ?_ ?_ <;> intro _) | (guard_target =~ CallN_; first | refine RunU.cons (sC_ (hR) (.sh (.sh .nil)) (.shAgg rfl gA_ (.sh wS_ .nil)) rfl) ?_) | refine goA ?_ | (guard_target =~ IsG; first | refine psA ?_ | refine gdA ?_) | refine nxA ?_ | refine Done.ret (.one rA_ (.one rA_ .nil)) (.sh (.sh .nil)) ?_ rfl)
   all_goals first | rfl | (exfalso; simp_all; done) | (exfalso; omega)
def cntB (C P : List Int) : Nat → Nat
 | 0 => 0
 | t + 1 => if P.getD (t + 1) 0 ∈ C then cntB C P t + 1 else cntB C P t
theorem cntB_le (C P : List Int) : ∀ t, cntB C P t ≤ t
 | 0 => Nat.le_refl _
 | t + 1 => by have := cntB_le C P t; rw [cntB]; split <;> omega
theorem cntB_any (C P : List Int) : ∀ t, t + 1 ≤ P.length → (0 < cntB C P t ↔ anyC C ((P.drop 1).take t) = true)
 | 0, _ => by simp [cntB, anyC]
 | t + 1, h => by
  have ih := cntB_any C P t (by omega)
  have hl : t < (P.drop 1).length := by simp; omega
  have e : (P.drop 1).take (t + 1) = (P.drop 1).take t ++ [P.getD (t + 1) 0] := by
   rw [List.take_add_one, List.getElem?_eq_getElem hl]
   simp [List.getD, show 1 + t < P.length by omega, show t + 1 < P.length by omega, Nat.add_comm]
  rw [cntB, e]
  unfold anyC at ih ⊢
  rw [List.any_append]
  by_cases hm : P.getD (t + 1) 0 ∈ C
  ·rw [if_pos hm]
   refine ⟨fun _ => ?_, fun _ => by omega⟩
   rw [Bool.or_eq_true]
   exact .inr (by simp only [List.any_cons, List.any_nil, decide_eq_true hm, Bool.or_false])
  ·rw [if_neg hm, ih, List.any_cons, List.any_nil, decide_eq_false hm]; simp
theorem specSD_c (w : List Int) (E : List (List Int)) (A : List Int) (hw : w.length ≤ 2000000) (hE : E.length ≤ 2000000) (hA : A.length ≤ 2000000) : CallA Tryz.prog 25 [aGr w E, aL A] [rLL (dgL w E A), rI (dgC w E A)] [] := by
 have hR := l13List_c w E A hw hE hA
 unfold dgL dgC
 by_cases h0 : lcC w E A = 0
 ·obtain ⟨hg, har, hca, hch⟩ := lcC_zero' h0
  rw [if_pos h0, if_pos h0]
  rw [h0] at hR
  obtain ⟨_, _, hcn⟩ := chk_zero hch
  have hK := l13Corners_c w E A hg har
  have hlen := hg.1
  have hasc := crn_asc E A w.length
  have hcin := crn_in E A w.length
  have hcl := crn_len E A w.length
  clear h0 hca hch
  have hcg : cellD (fun y x => setI w E (bhL w E y x)) (crn E A w.length) (pth w E) = cellD (fun y x => setS w E (bhL w E y x)) (crn E A w.length) (pth w E) := by
   funext i k
   exact cellD_congr (fun y x => set_eq hg _) _ _ i k
  unfold dgV
  rw [hcg]
  clear hcg
  obtain ⟨f, hf⟩ : ∃ f : Int → Int → Int × Bool, f = fun y x => setS w E (bhL w E y x) := ⟨_, rfl⟩
  obtain ⟨p, hp⟩ : ∃ p : Int → Int → List Int, p = pth w E := ⟨_, rfl⟩
  have hW : ∀ (y x : Int), (0 ≤ y ∧ y < w.length) → CallA Tryz.prog 72 [aGr w E, aI y, aI x] [rI (f y x).1, rB (f y x).2] [] := fun y x hy => by
   rw [hf]; exact l13Weight_c w E y x hg hcn hy
  have hP : ∀ (i k : Int), (0 ≤ i ∧ i < w.length) → (0 ≤ k ∧ k < w.length) → i ≠ k → CallA Tryz.prog 70 [aGr w E, aI i, aI k] [rL (p i k)] [] ∧ 2 ≤ (p i k).length ∧ (p i k).length ≤ w.length := fun i k hi hk hik => by
   have he := pth_ends hg hcn hi hk hik
   rw [hp]
   exact ⟨l11Path_c w E i k hg hi hk, he.1, he.2.1⟩
  rw [← hf, ← hp]
  generalize crn E A w.length = C at *
  have hcell : ∀ i k, cellD f C p i k = if anyC C (inn (p i k)) = true then some [] else if ((f i ((p i k).getD 1 0)).2 && (f k (lastB (p i k))).2) = true then some [[i, k, (f i ((p i k).getD 1 0)).1, (f k (lastB (p i k))).1]] else none := fun i k => rfl
  generalize cellD f C p = cell at *
  obtain ⟨Dg, hV⟩ : ∃ Dg, Dg = dgOut cell C [] := ⟨_, rfl⟩
  rw [← hV]
  clear hf hp
  refine cA_ _ Tryz.func25 rfl Tryz.ntmps25 sO_ ?_
  repeat' (first | (refine Two.mk ?_ ?_ <;> intro _) | (guard_target =~ CallN_; first | refine RunU.cons (sC_ (hR) (.sh (.sh .nil)) (.shAgg rfl gA_ (.sh wS_ .nil)) rfl) ?_ | refine RunU.cons (sC_ (hK) (.sh (.sh .nil)) (.shAgg rfl gA_ (.sh wS_ .nil)) rfl) ?_) | refine goA ?_ | (guard_target =~ IsG; first | refine psA ?_ | refine gdA ?_) | refine nxA ?_ | refine Done.ret (.one rA_ (.one rA_ .nil)) (.sh (.sh .nil)) ?_ rfl)
  all_goals try (exfalso; simp_all; done)
  all_goals try (exfalso; omega)
  clear hR hK
  refine WpA.loop_slots (ι := Nat × List (List Int) × Nat × Nat) (fun q => [(2, .own 2 (.pt true [.sl false 1 (ints w), .sl false 1 (LLs E)])), (7, .own q.2.2.1 (.sl true 1 (ints C))), (8, .own q.2.2.2 (.sl true 1 (LL q.2.1))), (9, vGI q.1)]) (fun q => q.1 ≤ C.length ∧ q.2.1.length ≤ 40 * q.1 ∧ Dg = dgOut cell (C.drop q.1) q.2.1) (fun q => C.length - q.1) (0, [], _, _) ⟨by simp, by simp, by rw [List.drop_zero]; exact hV⟩ ⟨rfl, xR_, xR_, rfl, trivial⟩ ?_
  rintro ⟨a, out, i7, i8⟩ s nx ⟨ha, hol, hVa⟩
  simp only at ha hol hVa
  clear hV
  by_cases hlt : a < C.length
  ·have hdr := dgOut_drop (cell := cell) hlt out
   rw [hdr] at hVa
   clear hdr
   repeat' (first | (refine Two.mk ?_ ?_ <;> intro _) | refine goA ?_ | (guard_target =~ IsG; first | refine psA ?_ | refine gdA ?_) | refine nxA ?_ | refine Done.ret (.one rA_ (.one rA_ .nil)) (.sh (.sh .nil)) ?_ rfl)
   all_goals try (exfalso; omega)
   refine WpA.loop_slots (ι := Nat × List (List Int) × Nat) (fun q => [(2, .own 2 (.pt true [.sl false 1 (ints w), .sl false 1 (LLs E)])), (7, .own i7 (.sl true 1 (ints C))), (8, .own q.2.2 (.sl true 1 (LL q.2.1))), (9, vGI a), (10, vGI q.1)]) (fun q => a + 1 ≤ q.1 ∧ q.1 ≤ C.length ∧ q.2.1.length ≤ 40 * a + (q.1 - (a + 1)) ∧ Dg = (dgIn cell (C.getD a 0) (C.drop q.1) q.2.1).bind (dgOut cell (C.drop (a + 1)))) (fun q => C.length - q.1) (a + 1, out, i8) ⟨Nat.le_refl _, by simp only; omega, by simpa using hol, hVa⟩ ⟨rfl, rfl, rfl, rfl, int_eq (by simp), trivial⟩ ?_
   rintro ⟨b, o, i11⟩ s2 nx2 ⟨hab, hj, hol2, hVj⟩
   simp only at hab hj hol2 hVj
   clear hVa
   by_cases hlt2 : b < C.length
   ·have hi := hcin (C.getD a 0) (getD_mem hlt)
    have hk := hcin (C.getD b 0) (getD_mem (by omega))
    have hne := pair_ne hasc (a := a) (b := b) (by omega) (by omega)
    obtain ⟨hPik, l2, ln⟩ := hP _ _ hi hk hne
    have hc := hcell (C.getD a 0) (C.getD b 0)
    rw [dgIn_drop (cell := cell) (i := C.getD a 0) (l := C) (j := b) (by omega) o, hc] at hVj
    have ea : C.getD a 0 = C.getD (a * 1) 0 := by rw [Nat.mul_one]
    have eb : C.getD b 0 = C.getD (b * 1) 0 := by rw [Nat.mul_one]
    rw [eb] at hPik hVj l2 ln hk
    rw [ea] at hPik hVj l2 ln hi
    generalize hPP : p (C.getD (a * 1) 0) (C.getD (b * 1) 0) = P at *
    have hW1 := hW (C.getD (a * 1) 0) (P.getD (1 * 1) 0) hi
    have hW2 := hW (C.getD (b * 1) 0) (P.getD ((((P.length : Nat) : Int) - 2).toNat * 1) 0) hk
    have hl1 : lastB P = P.getD ((((P.length : Nat) : Int) - 2).toNat * 1) 0 := by
     unfold lastB; rw [Nat.mul_one]; congr 1; omega
    have hl0 : P.getD 1 0 = P.getD (1 * 1) 0 := rfl
    rw [hl1, hl0] at hVj
    have hany := cntB_any C P ((P.length - 1) - 1) (by omega)
    rw [show (P.drop 1).take ((P.length - 1) - 1) = inn P from rfl] at hany
    clear hc hW hP hcell hne hl1 hl0 hPP
    generalize f (C.getD (a * 1) 0) (P.getD (1 * 1) 0) = q1 at *
    generalize f (C.getD (b * 1) 0) (P.getD ((((P.length : Nat) : Int) - 2).toNat * 1) 0) = q2 at *
    repeat' (first | (refine Two.mk ?_ ?_ <;> intro _) | (guard_target =~ CallN_; first | refine RunU.cons (sC_ (hPik) (.sh (.sh (.sh .nil))) (.shAgg rfl gA_ (.sh wS_ (.sh wS_ .nil))) rfl) ?_) | refine goA ?_ | (guard_target =~ IsG; first | refine psA ?_ | refine gdA ?_) | refine nxA ?_ | refine Done.ret (.one rA_ (.one rA_ .nil)) (.sh (.sh .nil)) ?_ rfl)
    all_goals try (exfalso; omega)
    refine WpA.loop_ids2 (fun t x y => [(2, .own 2 (.pt true [.sl false 1 (ints w), .sl false 1 (LLs E)])), (7, .own i7 (.sl true 1 (ints C))), (8, .own i11 (.sl true 1 (LL o))), (9, vGI a), (10, vGI b), (11, .own x (.sl true 1 (ints P))), (12, vGI (cntB C P t)), (13, vGI ((t + 1 : Nat) : Int))]) (fun t => t + 2 ≤ P.length) (fun t => P.length - t) 0 _ 0 (by omega) ⟨rfl, rfl, rfl, rfl, rfl, xR_, rfl, rfl, trivial⟩ ?_
    intro t i12 y s3 nx3 ht
    have hcle := cntB_le C P t
    by_cases hlt3 : t + 2 < P.length
    ·have hH := has_c C (P.getD ((t + 1) * 1) 0) (by omega)
     have hct : cntB C P (t + 1) = if P.getD ((t + 1) * 1) 0 ∈ C then cntB C P t + 1 else cntB C P t := by rw [cntB, Nat.mul_one]
     clear hW1 hW2 hPik hany hVj
     by_cases hm : P.getD ((t + 1) * 1) 0 ∈ C
     ·rw [decide_eq_true hm] at hH
      rw [if_pos hm] at hct
      clear hm
      repeat' (first | (refine Two.mk ?_ ?_ <;> intro _) | (guard_target =~ CallN_; first | refine RunU.cons (sC_ (hH) (.sh (.sh .nil)) (.sh wS_ (.sh wS_ .nil)) rfl) ?_) | refine goA ?_ | (guard_target =~ IsG; first | refine psA ?_ | refine gdA ?_) | refine nxA ?_ | refine Done.ret (.one rA_ (.one rA_ .nil)) (.sh (.sh .nil)) ?_ rfl)
      all_goals try (exfalso; simp_all; done)
      all_goals try (exfalso; omega)
      all_goals exact ⟨t + 1, by omega, ⟨_, 0, rfl, rfl, rfl, rfl, rfl, rfl, int_eq (by rw [hct]; simp), int_eq (by simp), trivial⟩, by omega⟩
     ·rw [decide_eq_false hm] at hH
      rw [if_neg hm] at hct
      clear hm
      repeat' (first | (refine Two.mk ?_ ?_ <;> intro _) | (guard_target =~ CallN_; first | refine RunU.cons (sC_ (hH) (.sh (.sh .nil)) (.sh wS_ (.sh wS_ .nil)) rfl) ?_) | refine goA ?_ | (guard_target =~ IsG; first | refine psA ?_ | refine gdA ?_) | refine nxA ?_ | refine Done.ret (.one rA_ (.one rA_ .nil)) (.sh (.sh .nil)) ?_ rfl)
      all_goals try (exfalso; simp_all; done)
      all_goals try (exfalso; omega)
      all_goals exact ⟨t + 1, by omega, ⟨_, 0, rfl, rfl, rfl, rfl, rfl, rfl, int_eq (by rw [hct]), int_eq (by simp), trivial⟩, by omega⟩
    ·have et : t = (P.length - 1) - 1 := by omega
     rw [← et] at hany
     generalize cntB C P t = cn at *
     obtain ⟨d1, b1⟩ := q1
     obtain ⟨d2, b2⟩ := q2
     simp only at hW1 hW2 hVj
     by_cases hb : 0 < cn
     ·rw [if_pos (hany.1 hb)] at hVj
      simp only [Option.bind_some, List.append_nil] at hVj
      clear hany hW1 hW2 hPik
      repeat' (first | (refine Two.mk ?_ ?_ <;> intro _) | refine goA ?_ | (guard_target =~ IsG; first | refine psA ?_ | refine gdA ?_) | refine nxA ?_ | refine Done.ret (.one rA_ (.one rA_ .nil)) (.sh (.sh .nil)) ?_ rfl)
      all_goals try (exfalso; simp_all; done)
      all_goals try (exfalso; omega)
      all_goals exact ⟨(b + 1, o, i11), ⟨by simp only; omega, by simp only; omega, by simp only; omega, by rw [ea]; exact hVj⟩, ⟨rfl, rfl, rfl, rfl, int_eq (by simp), trivial⟩, by simp only; omega⟩
     ·rw [if_neg (fun h => hb (hany.2 h))] at hVj
      clear hany hPik
      by_cases hbb : (b1 && b2) = true
      ·rw [if_pos hbb] at hVj
       simp only [Bool.and_eq_true] at hbb
       obtain ⟨rfl, rfl⟩ := hbb
       simp only [Option.bind_some] at hVj
       repeat' (first | (refine Two.mk ?_ ?_ <;> intro _) | (guard_target =~ AtN 78; refine RunU.cons (sC_ (hW1) (.sh (.sh (.sh .nil))) (.shAgg rfl gA_ (.sh wS_ (.sh wS_ .nil))) rfl) ?_) | (guard_target =~ AtN 93; refine RunU.cons (sC_ (hW2) (.sh (.sh (.sh .nil))) (.shAgg rfl gA_ (.sh wS_ (.sh wS_ .nil))) rfl) ?_) | refine goA ?_ | (guard_target =~ IsG; first | refine psA ?_ | refine gdA ?_) | refine nxA ?_ | refine Done.ret (.one rA_ (.one rA_ .nil)) (.sh (.sh .nil)) ?_ rfl)
       all_goals try (exfalso; simp_all; done)
       all_goals try (exfalso; omega)
       all_goals exact ⟨(b + 1, o ++ [[C.getD (a * 1) 0, C.getD (b * 1) 0, d1, d2]], _), ⟨by simp only; omega, by simp only; omega, by simp; omega, by rw [ea]; exact hVj⟩, ⟨rfl, rfl, by exact own_LL rfl, rfl, int_eq (by simp), trivial⟩, by simp only; omega⟩
      ·rw [if_neg hbb] at hVj
       simp only [Option.bind_none] at hVj
       subst hVj
       repeat' (first | (refine Two.mk ?_ ?_ <;> intro _) | (guard_target =~ AtN 78; refine RunU.cons (sC_ (hW1) (.sh (.sh (.sh .nil))) (.shAgg rfl gA_ (.sh wS_ (.sh wS_ .nil))) rfl) ?_) | (guard_target =~ AtN 93; refine RunU.cons (sC_ (hW2) (.sh (.sh (.sh .nil))) (.shAgg rfl gA_ (.sh wS_ (.sh wS_ .nil))) rfl) ?_) | refine goA ?_ | (guard_target =~ IsG; first | refine psA ?_ | refine gdA ?_) | refine nxA ?_ | refine Done.ret (.one rA_ (.one rA_ .nil)) (.sh (.sh .nil)) ?_ rfl)
       all_goals first | rfl | (exfalso; simp_all; done) | (exfalso; omega)
   ·have ej : b = C.length := by omega
    have e2 : C.drop b = [] := List.drop_eq_nil_of_le (by omega)
    rw [e2] at hVj
    simp only [dgIn, Option.bind_some] at hVj
    clear hW hP hcell
    repeat' (first | (refine Two.mk ?_ ?_ <;> intro _) | refine goA ?_ | (guard_target =~ IsG; first | refine psA ?_ | refine gdA ?_) | refine nxA ?_ | refine Done.ret (.one rA_ (.one rA_ .nil)) (.sh (.sh .nil)) ?_ rfl)
    all_goals try (exfalso; omega)
    all_goals exact ⟨(a + 1, o, i7, i11), ⟨by simp only; omega, by simp only; omega, hVj⟩, ⟨rfl, rfl, rfl, int_eq (by simp), trivial⟩, by simp only; omega⟩
  ·have ej : a = C.length := by omega
   subst ej
   rw [List.drop_length] at hVa
   subst hVa
   clear hW hP hcell
   repeat' (first | (refine Two.mk ?_ ?_ <;> intro _) | refine goA ?_ | (guard_target =~ IsG; first | refine psA ?_ | refine gdA ?_) | refine nxA ?_ | refine Done.ret (.one rA_ (.one rA_ .nil)) (.sh (.sh .nil)) ?_ rfl)
   all_goals first | rfl | (exfalso; omega) | skip
 ·rw [if_neg h0, if_neg h0]
  generalize lcC w E A = c at *
  refine cA_ _ Tryz.func25 rfl Tryz.ntmps25 sO_ ?_
  repeat' (first | (refine Two.mk ?_ ?_ <;> intro _) | (guard_target =~ CallN_; first | refine RunU.cons (sC_ (hR) (.sh (.sh .nil)) (.shAgg rfl gA_ (.sh wS_ .nil)) rfl) ?_) | refine goA ?_ | (guard_target =~ IsG; first | refine psA ?_ | refine gdA ?_) | refine nxA ?_ | refine Done.ret (.one rA_ (.one rA_ .nil)) (.sh (.sh .nil)) ?_ rfl)
  all_goals first | rfl | (exfalso; simp_all; done) | (exfalso; omega)
end Go.Proofs.YtmgmpnhlehonmaaGreat
