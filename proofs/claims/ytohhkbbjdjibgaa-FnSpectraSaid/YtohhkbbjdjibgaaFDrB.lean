/- Drawn branches: branches of Newton pairs. No condition. -/
import Derived.Test.YtohhkbbjdjibgaaFBsC
import Derived.Test.YtohhkbbjdjibgaaFAbA
set_option linter.unusedVariables false
set_option linter.unusedSimpArgs false
namespace Go.Proofs.Ytohhkbbjdjibgaa
set_option maxRecDepth 100000
set_option maxHeartbeats 20000000
open Go.Pv
open Go.ChangeShapes Go.WideShapes Go.ChangeAt Go.RowKit
attribute [local irreducible] RunU WpA Step CallG CallNG Done DoneN
attribute [local irreducible] decStrict decFalls decIsBr decWithin Strict Falls IsBr Within
theorem tms_br {l : List Int} (h : IsBr l) : Tms l := by
 have h1 := (isBr_iff l).1 h
 obtain ⟨p, q, r, _⟩ := h1
 have hb : ∀ i, i < l.length → 0 ≤ l.getD i 0 ∧ l.getD i 0 ≤ 2000 := fun i => by
  induction i with
  | zero => intro _; omega
  | succ i ih =>
   intro hi
   have h2 := ih (by omega)
   have h3 := (r (i + 1) hi (by omega)).1
   rw [Nat.add_sub_cancel] at h3
   omega
 refine ⟨⟨by omega, ?_⟩, fun i => ?_, fun i hi => ?_, by omega⟩
 ·have hdn : ∀ j, j < l.length → divTo l (j + 1) ≤ 64 - j := fun j => by
   induction j with
   | zero =>
    intro _
    have : divTo l (0 + 1) = l.getD 0 0 := divTo_one (by omega)
    omega
   | succ j ih =>
    intro hj
    have h2 := ih (by omega)
    have h3 := (r (j + 1) hj (by omega)).2
    have h4 := divTo_down (l := l) (by omega) j
    omega
  have h5 := hdn (l.length - 1) (by omega)
  have h6 := divTo_ge (l := l) (by omega) (l.length - 1)
  omega
 ·by_cases hi : i < l.length
  ·exact hb i hi
  ·rw [List.getD_eq_getElem?_getD, List.getElem?_eq_none (by omega)]; simp
 ·have h3 := (r (i + 1) hi (by omega)).1
  rw [Nat.add_sub_cancel] at h3
  omega
def nwTo (l : List Int) : Nat → List (List Int)
 | 0 => []
 | j + 1 => nwTo l j ++ [[(l.getD (j + 1) 0 - (if j = 0 then 0 else l.getD j 0)) / (divs l l.length).getD (j + 1) 0, (divs l l.length).getD j 0 / (divs l l.length).getD (j + 1) 0]]
theorem nwTo_len (l : List Int) : ∀ j, (nwTo l j).length = j
 | 0 => rfl
 | j + 1 => by simp [nwTo, nwTo_len l j]
theorem nwTo_row (l : List Int) : ∀ (j i : Nat), ((nwTo l j).getD i []).length ≤ 1000
 | 0, i => by simp [nwTo]
 | j + 1, i => by
  have ih := nwTo_row l j i
  rw [nwTo]
  by_cases hi : i < j
  ·rw [List.getD_eq_getElem?_getD, List.getElem?_append_left (by rw [nwTo_len]; exact hi), ← List.getD_eq_getElem?_getD]; exact ih
  ·by_cases e : i = j
   ·rw [List.getD_eq_getElem?_getD, List.getElem?_append_right (by rw [nwTo_len]; omega), nwTo_len, e, Nat.sub_self]; simp
   ·rw [List.getD_eq_getElem?_getD, List.getElem?_eq_none (by simp [nwTo_len]; omega)]; simp
theorem newtonD_c (l : List Int) (h : IsBr l) : CallA Try.prog 74 [aBr1 l] [rLL (nwTo l (l.length - 1))] [] := by
 have ht := tms_br h
 have h0 := ht.pos
 have hge := divTo_ge (l := l) h0
 have hl := ht.len
 have hdl := divs_len l l.length
 have hd64 : ∀ i, i < l.length → 1 ≤ (divs l l.length).getD i 0 ∧ (divs l l.length).getD i 0 ≤ 64 := fun i hi => by
  rw [divs_at l _ i hi]
  refine ⟨hge i, ?_⟩
  have h1 : divTo l 1 ≤ 64 := by
   have := ((isBr_iff l).1 h).2.1
   rw [divTo_one (by omega)]; omega
  have : ∀ j, divTo l (j + 1) ≤ 64 := fun j => by
   induction j with
   | zero => exact h1
   | succ j ih => exact Int.le_trans (divTo_down h0 j) ih
  exact this i
 have hD := l03Divisors_c l ht
 have hR : ∀ j, nwTo l (j + 1) = nwTo l j ++ [[(l.getD (j + 1) 0 - (if j = 0 then 0 else l.getD j 0)) / (divs l l.length).getD (j + 1) 0, (divs l l.length).getD j 0 / (divs l l.length).getD (j + 1) 0]] := fun j => rfl
 generalize divs l l.length = E at *
 refine cA_ _ Try.func74 rfl Try.ntmps74 (by first | exact ⟨rfl, rfl⟩ | (simp only [List.all_cons, List.all_nil, V.solid, D.solid, D.solids, solids_ints, solids_bools, solids_LL, Bool.and_self, Bool.and_true, and_self]; done) | simp [V.solid, D.solid, D.solids, solids_lits, solids_ints, solids_bools, solids_LL]) ?_
 repeat' (first | (guard_target =~ WpA _ _ _ _ _ _; first | refine WpA.seq ?_ | refine WpA.drawU ?_ | refine WpA.regionU ?_ | refine WpA.block ?_ | refine WpA.ret ?_ | refine WpA.skip ?_ | refine WpA.exit ?_ | refine WpA.cond_true rfl ?_ | refine WpA.cond_false rfl ?_ | refine WpA.cond_ntrue rfl ?_ | refine WpA.cond_dec rfl (fun _ => ?_) (fun _ => ?_) | refine WpA.cond_not rfl (fun _ => ?_) (fun _ => ?_) | refine WpA.cond rfl (fun _ => ?_) (fun _ => ?_)) | (guard_target =~ RunU _ _ _ _ [] _ _ _ _; first | refine RunU.nilL ?_ | refine RunU.nilD (by kernel_rfl) ?_) | (guard_target =~ RunU _ _ _ _ (Oper.mk _ (Op.call ⟨Callee.value _, _, _⟩) _ _ _ none :: _) _ _ _ _; first | refine RunU.cons (sC_ (hD) (.sh .nil) (.shAgg rfl gA_ .nil) rfl) ?_) | (guard_target =~ RunU _ _ _ _ (Oper.mk _ _ _ _ _ none :: _) _ _ _ _; refine RunU.cons step_any ?_) | refine Then.next ?_ | refine InBlock.next ?_ | refine Done.ret (.one (by first | exact .c rfl | exact .own rfl | exact .als rfl rfl | exact .ptr rfl rfl | exact .part rfl rfl rfl) .nil) (.sh .nil) ?_ rfl)
 refine WpA.loop_slots (ι := Nat × Nat) (fun q => [(1, .own 1 (.pt true [.sl false 1 (ints l)])), (3, .own 6 (.sl true 1 (ints E))), (4, .own q.2 (.sl true 1 (LL (nwTo l q.1)))), (5, vI ((q.1 + 1 : Nat) : Int))]) (fun q => q.1 + 1 ≤ l.length) (fun q => l.length - q.1) (0, _) (by simp only; omega) ⟨rfl, rfl, xR_, rfl, trivial⟩ ?_
 rintro ⟨j, id⟩ s nx hj
 simp only at hj
 dsimp only
 have hnl := nwTo_len l j
 by_cases hlt : j + 1 < l.length
 ·have e1 : ((((j + 1 : Nat) : Int) - 1).toNat) * 1 = j := by omega
  have e2 : (j + 1) * 1 = j + 1 := by omega
  have h1 := hd64 ((j + 1) * 1) (by omega)
  have h2 := hd64 (((((j + 1 : Nat) : Int) - 1).toNat) * 1) (by omega)
  have b1 := ht.bnd ((j + 1) * 1)
  have b2 := ht.bnd (((((j + 1 : Nat) : Int) - 1).toNat) * 1)
  have hR := hR j
  have b3 : l.getD ((((j + 1 : Nat) : Int) - 1).toNat * 1) 0 ≤ l.getD ((j + 1) * 1) 0 := by rw [e1, e2]; exact ht.asc j hlt
  clear hd64 ht hge
  by_cases hj0 : j = 0
  ·rw [if_pos hj0, Int.sub_zero] at hR
   repeat' (first | (guard_target =~ WpA _ _ _ _ _ _; first | refine WpA.seq ?_ | refine WpA.drawU ?_ | refine WpA.regionU ?_ | refine WpA.block ?_ | refine WpA.ret ?_ | refine WpA.skip ?_ | refine WpA.exit ?_ | refine WpA.cond_true rfl ?_ | refine WpA.cond_false rfl ?_ | refine WpA.cond_ntrue rfl ?_ | refine WpA.cond_dec rfl (fun _ => ?_) (fun _ => ?_) | refine WpA.cond_not rfl (fun _ => ?_) (fun _ => ?_) | refine WpA.cond rfl (fun _ => ?_) (fun _ => ?_)) | (guard_target =~ RunU _ _ _ _ [] _ _ _ _; first | refine RunU.nilL ?_ | refine RunU.nilD (by kernel_rfl) ?_) | (guard_target =~ RunU _ _ _ _ (Oper.mk _ _ _ _ _ none :: _) _ _ _ _; refine RunU.cons step_any ?_) | refine Then.next ?_ | refine InBlock.next ?_ | refine Done.ret (.one (by first | exact .c rfl | exact .own rfl | exact .als rfl rfl | exact .ptr rfl rfl | exact .part rfl rfl rfl) .nil) (.sh .nil) ?_ rfl)
   all_goals try (exfalso; omega)
   all_goals exact ⟨(j + 1, _), by simp only; omega, ⟨rfl, rfl, by exact own_LL (by rw [hR, e1, e2]), int_eq (by simp), trivial⟩, by simp only; omega⟩
  ·rw [if_neg hj0] at hR
   repeat' (first | (guard_target =~ WpA _ _ _ _ _ _; first | refine WpA.seq ?_ | refine WpA.drawU ?_ | refine WpA.regionU ?_ | refine WpA.block ?_ | refine WpA.ret ?_ | refine WpA.skip ?_ | refine WpA.exit ?_ | refine WpA.cond_true rfl ?_ | refine WpA.cond_false rfl ?_ | refine WpA.cond_ntrue rfl ?_ | refine WpA.cond_dec rfl (fun _ => ?_) (fun _ => ?_) | refine WpA.cond_not rfl (fun _ => ?_) (fun _ => ?_) | refine WpA.cond rfl (fun _ => ?_) (fun _ => ?_)) | (guard_target =~ RunU _ _ _ _ [] _ _ _ _; first | refine RunU.nilL ?_ | refine RunU.nilD (by kernel_rfl) ?_) | (guard_target =~ RunU _ _ _ _ (Oper.mk _ _ _ _ _ none :: _) _ _ _ _; refine RunU.cons step_any ?_) | refine Then.next ?_ | refine InBlock.next ?_ | refine Done.ret (.one (by first | exact .c rfl | exact .own rfl | exact .als rfl rfl | exact .ptr rfl rfl | exact .part rfl rfl rfl) .nil) (.sh .nil) ?_ rfl)
   all_goals try (exfalso; omega)
   all_goals exact ⟨(j + 1, _), by simp only; omega, ⟨rfl, rfl, by exact own_LL (by rw [hR, e1, e2]), int_eq (by simp), trivial⟩, by simp only; omega⟩
 ·repeat' (first | (guard_target =~ WpA _ _ _ _ _ _; first | refine WpA.seq ?_ | refine WpA.drawU ?_ | refine WpA.regionU ?_ | refine WpA.block ?_ | refine WpA.ret ?_ | refine WpA.skip ?_ | refine WpA.exit ?_ | refine WpA.cond_true rfl ?_ | refine WpA.cond_false rfl ?_ | refine WpA.cond_ntrue rfl ?_ | refine WpA.cond_dec rfl (fun _ => ?_) (fun _ => ?_) | refine WpA.cond_not rfl (fun _ => ?_) (fun _ => ?_) | refine WpA.cond rfl (fun _ => ?_) (fun _ => ?_)) | (guard_target =~ RunU _ _ _ _ [] _ _ _ _; first | refine RunU.nilL ?_ | refine RunU.nilD (by kernel_rfl) ?_) | (guard_target =~ RunU _ _ _ _ (Oper.mk _ _ _ _ _ none :: _) _ _ _ _; refine RunU.cons step_any ?_) | refine Then.next ?_ | refine InBlock.next ?_ | refine Done.ret (.one (by first | exact .c rfl | exact .own rfl | exact .als rfl rfl | exact .ptr rfl rfl | exact .part rfl rfl rfl) .nil) (.sh .nil) ?_ rfl)
  all_goals first | (exfalso; omega) | (rw [show l.length - 1 = j by omega]) | rfl
def eT (ps : List (List Int)) (n : Int) : Nat → Int
 | 0 => n
 | j + 1 => eT ps n j / (ps.getD j []).getD 1 0
def laT (ps : List (List Int)) (n : Int) : Nat → Int
 | 0 => 0
 | j + 1 => laT ps n j + (ps.getD j []).getD 0 0 * eT ps n (j + 1)
def teT (ps : List (List Int)) (n : Int) : Nat → List Int
 | 0 => [n]
 | j + 1 => teT ps n j ++ [laT ps n (j + 1)]
theorem teT_len (ps : List (List Int)) (n : Int) : ∀ j, (teT ps n j).length = j + 1
 | 0 => rfl
 | j + 1 => by simp [teT, teT_len ps n j]
theorem eT_bnd {ps : List (List Int)} (h : GoodP ps) {n : Int} (hn : 1 ≤ n ∧ n ≤ 64) : ∀ j, j ≤ ps.length → 0 ≤ eT ps n j ∧ eT ps n j ≤ 64
 | 0, _ => by simp only [eT]; omega
 | j + 1, hj => by
  have ih := eT_bnd h hn j (by omega)
  have h2 := (h.v2 j (by omega)).1
  simp only [eT]
  refine ⟨Int.ediv_nonneg ih.1 (by omega), ?_⟩
  have := Int.ediv_le_self ((ps.getD j []).getD 1 0) ih.1
  omega
theorem laT_bnd {ps : List (List Int)} (h : GoodP ps) {n : Int} (hn : 1 ≤ n ∧ n ≤ 64) : ∀ j, j ≤ ps.length → 0 ≤ laT ps n j ∧ laT ps n j ≤ 3840 * j
 | 0, _ => by simp [laT]
 | j + 1, hj => by
  have ih := laT_bnd h hn j (by omega)
  have h1 := h.v1 j (by omega)
  have h2 := eT_bnd h hn (j + 1) hj
  have h3 : 0 ≤ (ps.getD j []).getD 0 0 * eT ps n (j + 1) := Int.mul_nonneg (by omega) h2.1
  have h4 : (ps.getD j []).getD 0 0 * eT ps n (j + 1) ≤ 60 * 64 := Int.mul_le_mul h1.2 h2.2 h2.1 (by omega)
  simp only [laT]
  omega
theorem own_p1 {id : Nat} {A B : List Int} (h : A = B) : AV.own id (.pt true [.sl true 1 (ints A)]) = AV.own id (.pt true [.sl true 1 (ints B)]) := by rw [h]
theorem bon_ex (ps : List (List Int)) (h : GoodP ps) : ∃ (T : List Int) (code : Int), (code = 0 ∧ IsBr T ∨ code ≠ 0 ∧ T = []) ∧ CallA Try.prog 65 [aLL ps] [.agg [.sl true 1 (ints T)], rI code] [] := by
 have hl := h.len
 have hn := h.pr ps.length (Nat.le_refl _)
 have hP := pairsN_c ps h
 generalize pr2 ps ps.length = n at *
 have hT := teT_len ps n ps.length
 have hB := specIsBr_c (teT ps n ps.length) (by omega)
 have hW0 : ∀ i, (ps.getD i []).length ≤ 1000 := fun i => by
  by_cases hi : i < ps.length
  ·rw [h.row i hi]; omega
  ·rw [List.getD_eq_getElem?_getD, List.getElem?_eq_none (by omega)]; simp
 have hNS : IsBr (teT ps n ps.length) → ∃ W, CallA Try.prog 74 [aBr1 (teT ps n ps.length)] [rLL W] [] ∧ CallA Try.prog 73 [aLL W, aLL ps] [rB (decide (W = ps))] [] := fun hbr =>
  ⟨_, newtonD_c _ hbr, sameD2_c _ ps (by rw [nwTo_len]; omega) (by omega) (fun i => nwTo_row _ _ i) hW0⟩
 have main : ∃ ok : Bool, (ok = true → IsBr (teT ps n ps.length)) ∧ CallA Try.prog 65 [aLL ps] [.agg [.sl true 1 (ints (if ok then teT ps n ps.length else []))], rI (if ok then 0 else 5)] [] := by
  obtain ⟨ok, hok⟩ : ∃ ok : Bool, (ok = false ∧ ¬ IsBr (teT ps n ps.length)) ∨ (IsBr (teT ps n ps.length) ∧ ∃ W, CallA Try.prog 74 [aBr1 (teT ps n ps.length)] [rLL W] [] ∧ CallA Try.prog 73 [aLL W, aLL ps] [rB ok] []) := by
   by_cases hbr : IsBr (teT ps n ps.length)
   ·obtain ⟨W, h1, h2⟩ := hNS hbr
    exact ⟨decide (W = ps), .inr ⟨hbr, W, h1, h2⟩⟩
   ·exact ⟨false, .inl ⟨rfl, hbr⟩⟩
  refine ⟨ok, fun e => ?_, ?_⟩
  ·rcases hok with ⟨h1, _⟩ | ⟨h1, _⟩
   ·rw [h1] at e; cases e
   ·exact h1
  clear hNS
  refine cA_ _ Try.func65 rfl Try.ntmps65 (by cases ok <;> simp [V.solid, D.solid, D.solids, solids_ints]) ?_
  repeat' (first | (guard_target =~ WpA _ _ _ _ _ _; first | refine WpA.seq ?_ | refine WpA.drawU ?_ | refine WpA.regionU ?_ | refine WpA.block ?_ | refine WpA.ret ?_ | refine WpA.skip ?_ | refine WpA.exit ?_ | refine WpA.cond_true rfl ?_ | refine WpA.cond_false rfl ?_ | refine WpA.cond_ntrue rfl ?_ | refine WpA.cond_dec rfl (fun _ => ?_) (fun _ => ?_) | refine WpA.cond_not rfl (fun _ => ?_) (fun _ => ?_) | refine WpA.cond rfl (fun _ => ?_) (fun _ => ?_)) | (guard_target =~ RunU _ _ _ _ [] _ _ _ _; first | refine RunU.nilL ?_ | refine RunU.nilD (by kernel_rfl) ?_) | (guard_target =~ RunU _ _ _ _ (Oper.mk _ (Op.call ⟨Callee.value _, _, _⟩) _ _ _ none :: _) _ _ _ _; first | refine RunU.cons (sC_ (hP) (.sh .nil) (.sh wS_ .nil) rfl) ?_) | (guard_target =~ RunU _ _ _ _ (Oper.mk _ _ _ _ _ none :: _) _ _ _ _; refine RunU.cons step_any ?_) | (guard_target =~ RunU _ _ _ _ (Oper.mk _ _ _ _ _ (some _) :: _) _ _ _ _; first | refine RunU.pass rfl rfl rfl rfl ?_ | refine RunU.pass_undef rfl rfl rfl ?_ | (guard_target =~ RunU _ _ _ _ (Oper.mk _ (Op.call ⟨Callee.value _, _, _⟩) _ _ _ _ :: _) _ _ _ _; first | refine RunU.doit rfl rfl (sC_ (hP) (.sh .nil) (.sh wS_ .nil) rfl) ?_) | refine RunU.doit rfl rfl step_any ?_ | ((fail_if_success (refine RunU.doit (rd := []) (up := []) rfl rfl ?_ ?_)); first | refine RunU.guard_dec rfl rfl (fun _ => ?_) (fun _ => ?_) | refine RunU.guard_not rfl rfl (fun _ => ?_) (fun _ => ?_) | refine RunU.guard rfl rfl (fun _ => ?_) (fun _ => ?_))) | refine Then.next ?_ | refine InBlock.next ?_ | refine Done.ret (.cell inferInstance rfl rfl (.one (by first | exact .c rfl | exact .own rfl | exact .als rfl rfl | exact .ptr rfl rfl | exact .part rfl rfl rfl) .nil)) (.sh .nil) ?_ rfl)
  all_goals try (exfalso; omega)
  refine WpA.loop_slots2 (fun j id => [(0, .c (.sl false 1 (LLs ps))), (2, .own 1 (.pt true [.sl true 1 []])), (5, .own id (.pt true [.sl true 1 (ints (teT ps n j))])), (6, vI (eT ps n j)), (7, vI (laT ps n j)), (8, vI j)]) (fun j => j ≤ ps.length) (fun j => ps.length - j) 0 _ (by simp) ⟨rfl, rfl, rfl, rfl, rfl, rfl, trivial⟩ ?_
  intro j id s nx hj
  by_cases hlt : j < ps.length
  ·have hT := teT_len ps n j
   have b1 := eT_bnd h hn j hj
   have b2 := eT_bnd h hn (j + 1) hlt
   have b3 := laT_bnd h hn j hj
   have b4 := laT_bnd h hn (j + 1) hlt
   have r1 := h.row (j * 1) (by omega)
   have r2 : 1 ≤ (ps.getD (j * 1) []).getD (0 * 1) 0 ∧ (ps.getD (j * 1) []).getD (0 * 1) 0 ≤ 60 := by simpa using h.v1 j hlt
   have r3 : 1 ≤ (ps.getD (j * 1) []).getD (1 * 1) 0 ∧ (ps.getD (j * 1) []).getD (1 * 1) 0 ≤ 5 := by simpa using h.v2 j hlt
   have e1 : eT ps n j / (ps.getD (j * 1) []).getD (1 * 1) 0 = eT ps n (j + 1) := by simp [eT]
   have e2 : laT ps n j + (ps.getD (j * 1) []).getD (0 * 1) 0 * (eT ps n j / (ps.getD (j * 1) []).getD (1 * 1) 0) = laT ps n (j + 1) := by rw [e1]; simp [laT]
   rw [← e1] at b2
   rw [← e2] at b4
   clear hok hB
   repeat' (first | (guard_target =~ WpA _ _ _ _ _ _; first | refine WpA.seq ?_ | refine WpA.drawU ?_ | refine WpA.regionU ?_ | refine WpA.block ?_ | refine WpA.ret ?_ | refine WpA.skip ?_ | refine WpA.exit ?_ | refine WpA.cond_true rfl ?_ | refine WpA.cond_false rfl ?_ | refine WpA.cond_ntrue rfl ?_ | refine WpA.cond_dec rfl (fun _ => ?_) (fun _ => ?_) | refine WpA.cond_not rfl (fun _ => ?_) (fun _ => ?_) | refine WpA.cond rfl (fun _ => ?_) (fun _ => ?_)) | (guard_target =~ RunU _ _ _ _ [] _ _ _ _; first | refine RunU.nilL ?_ | refine RunU.nilD (by kernel_rfl) ?_) | (guard_target =~ RunU _ _ _ _ (Oper.mk _ _ _ _ _ none :: _) _ _ _ _; refine RunU.cons step_any ?_) | (guard_target =~ RunU _ _ _ _ (Oper.mk _ _ _ _ _ (some _) :: _) _ _ _ _; first | refine RunU.pass rfl rfl rfl rfl ?_ | refine RunU.pass_undef rfl rfl rfl ?_ | refine RunU.doit rfl rfl step_any ?_ | ((fail_if_success (refine RunU.doit (rd := []) (up := []) rfl rfl ?_ ?_)); first | refine RunU.guard_dec rfl rfl (fun _ => ?_) (fun _ => ?_) | refine RunU.guard_not rfl rfl (fun _ => ?_) (fun _ => ?_) | refine RunU.guard rfl rfl (fun _ => ?_) (fun _ => ?_))) | refine Then.next ?_ | refine InBlock.next ?_ | refine Done.ret (.cell inferInstance rfl rfl (.one (by first | exact .c rfl | exact .own rfl | exact .als rfl rfl | exact .ptr rfl rfl | exact .part rfl rfl rfl) .nil)) (.sh .nil) ?_ rfl)
   all_goals try (exfalso; omega)
   exact ⟨j + 1, by omega, ⟨_, rfl, rfl, by exact own_p1 (A := teT ps n j ++ [laT ps n j + (ps.getD (j * 1) []).getD (0 * 1) 0 * (eT ps n j / (ps.getD (j * 1) []).getD (1 * 1) 0)]) (by rw [e2]; rfl), int_eq e1, int_eq e2, int_eq (by omega), trivial⟩, by omega⟩
  ·obtain rfl : j = ps.length := by omega
   clear hP h
   rcases hok with ⟨rfl, hbr⟩ | ⟨hbr, W, hN, hS⟩
   ·rw [decide_eq_false hbr] at hB
    repeat' (first | (guard_target =~ WpA _ _ _ _ _ _; first | refine WpA.seq ?_ | refine WpA.drawU ?_ | refine WpA.regionU ?_ | refine WpA.block ?_ | refine WpA.ret ?_ | refine WpA.skip ?_ | refine WpA.exit ?_ | refine WpA.cond_true rfl ?_ | refine WpA.cond_false rfl ?_ | refine WpA.cond_ntrue rfl ?_ | refine WpA.cond_dec rfl (fun _ => ?_) (fun _ => ?_) | refine WpA.cond_not rfl (fun _ => ?_) (fun _ => ?_) | refine WpA.cond rfl (fun _ => ?_) (fun _ => ?_)) | (guard_target =~ RunU _ _ _ _ [] _ _ _ _; first | refine RunU.nilL ?_ | refine RunU.nilD (by kernel_rfl) ?_) | (guard_target =~ RunU _ _ _ _ (Oper.mk _ (Op.call ⟨Callee.value _, _, _⟩) _ _ _ none :: _) _ _ _ _; first | refine RunU.cons (sC_ (hB) (.sh .nil) (.shAgg rfl gA_ .nil) rfl) ?_) | (guard_target =~ RunU _ _ _ _ (Oper.mk _ _ _ _ _ none :: _) _ _ _ _; refine RunU.cons step_any ?_) | (guard_target =~ RunU _ _ _ _ (Oper.mk _ _ _ _ _ (some _) :: _) _ _ _ _; first | refine RunU.pass rfl rfl rfl rfl ?_ | refine RunU.pass_undef rfl rfl rfl ?_ | (guard_target =~ RunU _ _ _ _ (Oper.mk _ (Op.call ⟨Callee.value _, _, _⟩) _ _ _ _ :: _) _ _ _ _; first | refine RunU.doit rfl rfl (sC_ (hB) (.sh .nil) (.shAgg rfl gA_ .nil) rfl) ?_) | refine RunU.doit rfl rfl step_any ?_ | ((fail_if_success (refine RunU.doit (rd := []) (up := []) rfl rfl ?_ ?_)); first | refine RunU.guard_dec rfl rfl (fun _ => ?_) (fun _ => ?_) | refine RunU.guard_not rfl rfl (fun _ => ?_) (fun _ => ?_) | refine RunU.guard rfl rfl (fun _ => ?_) (fun _ => ?_))) | refine Then.next ?_ | refine InBlock.next ?_ | refine Done.ret (.cell inferInstance rfl rfl (.one (by first | exact .c rfl | exact .own rfl | exact .als rfl rfl | exact .ptr rfl rfl | exact .part rfl rfl rfl) .nil)) (.sh .nil) ?_ rfl)
    all_goals first | (exfalso; omega) | rfl | (simp [ints]; done)
   ·rw [decide_eq_true hbr] at hB
    cases ok with
    | true =>
     repeat' (first | (guard_target =~ WpA _ _ _ _ _ _; first | refine WpA.seq ?_ | refine WpA.drawU ?_ | refine WpA.regionU ?_ | refine WpA.block ?_ | refine WpA.ret ?_ | refine WpA.skip ?_ | refine WpA.exit ?_ | refine WpA.cond_true rfl ?_ | refine WpA.cond_false rfl ?_ | refine WpA.cond_ntrue rfl ?_ | refine WpA.cond_dec rfl (fun _ => ?_) (fun _ => ?_) | refine WpA.cond_not rfl (fun _ => ?_) (fun _ => ?_) | refine WpA.cond rfl (fun _ => ?_) (fun _ => ?_)) | (guard_target =~ RunU _ _ _ _ [] _ _ _ _; first | refine RunU.nilL ?_ | refine RunU.nilD (by kernel_rfl) ?_) | (guard_target =~ RunU _ _ _ _ (Oper.mk _ (Op.call ⟨Callee.value _, _, _⟩) _ _ _ none :: _) _ _ _ _; first | refine RunU.cons (sC_ (hB) (.sh .nil) (.shAgg rfl gA_ .nil) rfl) ?_ | refine RunU.cons (sC_ (hN) (.sh .nil) (.shAgg rfl gA_ .nil) rfl) ?_ | refine RunU.cons (sC_ (hS) (.sh (.sh .nil)) (.sh wS_ (.sh wS_ .nil)) rfl) ?_) | (guard_target =~ RunU _ _ _ _ (Oper.mk _ _ _ _ _ none :: _) _ _ _ _; refine RunU.cons step_any ?_) | (guard_target =~ RunU _ _ _ _ (Oper.mk _ _ _ _ _ (some _) :: _) _ _ _ _; first | refine RunU.pass rfl rfl rfl rfl ?_ | refine RunU.pass_undef rfl rfl rfl ?_ | (guard_target =~ RunU _ _ _ _ (Oper.mk _ (Op.call ⟨Callee.value _, _, _⟩) _ _ _ _ :: _) _ _ _ _; first | refine RunU.doit rfl rfl (sC_ (hB) (.sh .nil) (.shAgg rfl gA_ .nil) rfl) ?_ | refine RunU.doit rfl rfl (sC_ (hN) (.sh .nil) (.shAgg rfl gA_ .nil) rfl) ?_ | refine RunU.doit rfl rfl (sC_ (hS) (.sh (.sh .nil)) (.sh wS_ (.sh wS_ .nil)) rfl) ?_) | refine RunU.doit rfl rfl step_any ?_ | ((fail_if_success (refine RunU.doit (rd := []) (up := []) rfl rfl ?_ ?_)); first | refine RunU.guard_dec rfl rfl (fun _ => ?_) (fun _ => ?_) | refine RunU.guard_not rfl rfl (fun _ => ?_) (fun _ => ?_) | refine RunU.guard rfl rfl (fun _ => ?_) (fun _ => ?_))) | refine Then.next ?_ | refine InBlock.next ?_ | refine Done.ret (.cell inferInstance rfl rfl (.one (by first | exact .c rfl | exact .own rfl | exact .als rfl rfl | exact .ptr rfl rfl | exact .part rfl rfl rfl) .nil)) (.sh .nil) ?_ rfl)
     all_goals first | (exfalso; omega) | rfl | (simp [ints]; done)
    | false =>
     repeat' (first | (guard_target =~ WpA _ _ _ _ _ _; first | refine WpA.seq ?_ | refine WpA.drawU ?_ | refine WpA.regionU ?_ | refine WpA.block ?_ | refine WpA.ret ?_ | refine WpA.skip ?_ | refine WpA.exit ?_ | refine WpA.cond_true rfl ?_ | refine WpA.cond_false rfl ?_ | refine WpA.cond_ntrue rfl ?_ | refine WpA.cond_dec rfl (fun _ => ?_) (fun _ => ?_) | refine WpA.cond_not rfl (fun _ => ?_) (fun _ => ?_) | refine WpA.cond rfl (fun _ => ?_) (fun _ => ?_)) | (guard_target =~ RunU _ _ _ _ [] _ _ _ _; first | refine RunU.nilL ?_ | refine RunU.nilD (by kernel_rfl) ?_) | (guard_target =~ RunU _ _ _ _ (Oper.mk _ (Op.call ⟨Callee.value _, _, _⟩) _ _ _ none :: _) _ _ _ _; first | refine RunU.cons (sC_ (hB) (.sh .nil) (.shAgg rfl gA_ .nil) rfl) ?_ | refine RunU.cons (sC_ (hN) (.sh .nil) (.shAgg rfl gA_ .nil) rfl) ?_ | refine RunU.cons (sC_ (hS) (.sh (.sh .nil)) (.sh wS_ (.sh wS_ .nil)) rfl) ?_) | (guard_target =~ RunU _ _ _ _ (Oper.mk _ _ _ _ _ none :: _) _ _ _ _; refine RunU.cons step_any ?_) | (guard_target =~ RunU _ _ _ _ (Oper.mk _ _ _ _ _ (some _) :: _) _ _ _ _; first | refine RunU.pass rfl rfl rfl rfl ?_ | refine RunU.pass_undef rfl rfl rfl ?_ | (guard_target =~ RunU _ _ _ _ (Oper.mk _ (Op.call ⟨Callee.value _, _, _⟩) _ _ _ _ :: _) _ _ _ _; first | refine RunU.doit rfl rfl (sC_ (hB) (.sh .nil) (.shAgg rfl gA_ .nil) rfl) ?_ | refine RunU.doit rfl rfl (sC_ (hN) (.sh .nil) (.shAgg rfl gA_ .nil) rfl) ?_ | refine RunU.doit rfl rfl (sC_ (hS) (.sh (.sh .nil)) (.sh wS_ (.sh wS_ .nil)) rfl) ?_) | refine RunU.doit rfl rfl step_any ?_ | ((fail_if_success (refine RunU.doit (rd := []) (up := []) rfl rfl ?_ ?_)); first | refine RunU.guard_dec rfl rfl (fun _ => ?_) (fun _ => ?_) | refine RunU.guard_not rfl rfl (fun _ => ?_) (fun _ => ?_) | refine RunU.guard rfl rfl (fun _ => ?_) (fun _ => ?_))) | refine Then.next ?_ | refine InBlock.next ?_ | refine Done.ret (.cell inferInstance rfl rfl (.one (by first | exact .c rfl | exact .own rfl | exact .als rfl rfl | exact .ptr rfl rfl | exact .part rfl rfl rfl) .nil)) (.sh .nil) ?_ rfl)
     all_goals first | (exfalso; omega) | rfl | (simp [ints]; done)
 obtain ⟨ok, h1, h2⟩ := main
 cases ok with
 | true => exact ⟨_, _, .inl ⟨rfl, h1 rfl⟩, h2⟩
 | false => exact ⟨_, _, .inr ⟨by simp, rfl⟩, h2⟩
end Go.Proofs.Ytohhkbbjdjibgaa
