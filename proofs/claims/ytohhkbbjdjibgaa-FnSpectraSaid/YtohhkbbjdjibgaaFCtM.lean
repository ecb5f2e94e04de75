/- The spectrum of a branch, by the program. No condition. -/
import Derived.Test.YtohhkbbjdjibgaaFCtI
import Derived.Test.YtohhkbbjdjibgaaFEvC
import Derived.Test.YtohhkbbjdjibgaaFDrD
import Derived.Test.YtohhkbbjdjibgaaFSqC
import Derived.Test.YtohhkbbjdjibgaaFCtC
import Derived.Test.YtohhkbbjdjibgaaFTy
import Derived.Test.YtohhkbbjdjibgaaFSqB
import Derived.Test.YtohhkbbjdjibgaaFBsF
set_option linter.unusedVariables false
set_option linter.unusedSimpArgs false
namespace Go.Proofs.Ytohhkbbjdjibgaa
open Go.Pv Go.Ct
theorem eo_sum (b : Int) (l : List Int) (d : Int) : ∀ j, j ≤ l.length → sumR (dl d) (eoTo b l j) = (((l.take j).countP fun t => decide (b / (Int.gcd b t : Int) = d) : Nat) : Int)
 | 0, _ => by simp [eoTo, sumR]
 | j + 1, hj => by
  have hT : Two (eoTo b l j) := fun r hr => ((eoTo_rows b l j) r hr).1
  rw [eoTo, sumR_put _ _ _ hT, eo_sum b l d j (by omega), List.take_add_one, List.countP_append, List.getElem?_eq_getElem (by omega), List.getD_eq_getElem?_getD, List.getElem?_eq_getElem (by omega)]
  simp only [Option.toList_some, List.countP_singleton, Option.getD_some, decide_eq_true_eq, dl]
  split <;> simp
theorem putR_pos {m : Int} : ∀ {R : List (List Int)}, (∀ r ∈ R, r.length = 2 ∧ 1 ≤ r.getD 1 0) → ∀ r ∈ putR R m 1, 1 ≤ r.getD 1 0
 | [], _, r, h => by
  simp only [putR, List.mem_singleton] at h
  rw [h]
  simp
 | q :: t, hR, r, h => by
  have ih := putR_pos (m := m) (R := t) fun p hp => hR p (by simp [hp])
  rw [putR] at h
  split at h
  ·rcases List.mem_cons.1 h with rfl | h
   ·exact (hR r (by simp)).2
   ·exact ih r h
  ·split at h
   ·rcases List.mem_cons.1 h with rfl | h
    ·have h1 := hR q (by simp)
     rw [(two_at h1.1 _).2]
     omega
    ·exact (hR r (by simp [h])).2
   ·rcases List.mem_cons.1 h with rfl | h
    ·simp
    ·exact (hR r h).2
theorem eo_pos (b : Int) (l : List Int) : ∀ j, ∀ r ∈ eoTo b l j, 1 ≤ r.getD 1 0
 | 0, r, h => by simp [eoTo] at h
 | j + 1, r, h => putR_pos (fun p hp => ⟨((eoTo_rows b l j) p hp).1, eo_pos b l j p hp⟩) r h
theorem phi_pos {d : Nat} (h : 0 < d) : 0 < phiN d := by
 unfold phiN
 by_cases h1 : d = 1
 ·subst h1; decide
 ·have hl : ∀ (f : Nat → Nat) (i : Nat), ∀ n, i < n → f i ≤ sumN f n := fun f i n => by
   induction n with
   | zero => intro h; omega
   | succ n ih =>
    intro h
    rw [sumN]
    by_cases e : i = n
    ·rw [e]; omega
    ·have := ih (by omega); omega
  have := hl (fun t => if Nat.gcd t d = 1 then 1 else 0) 1 d (by omega)
  simp only [Nat.gcd_one_left, if_true] at this
  omega
theorem cN_dv {x d : Int} (hx : 0 ≤ x) (hd : 1 ≤ d) : (cN x.toNat d.toNat : Int) = (phiN d.toNat : Int) * dv d x := by
 obtain ⟨y, rfl⟩ : ∃ y : Nat, x = y := ⟨_, (Int.toNat_of_nonneg hx).symm⟩
 obtain ⟨e, rfl⟩ : ∃ e : Nat, d = e := ⟨_, (Int.toNat_of_nonneg (by omega)).symm⟩
 unfold cN dv
 simp only [Int.toNat_natCast]
 by_cases h : e ∣ y
 ·rw [if_pos h, if_pos ⟨hd, by rw [← Int.natCast_emod, Nat.mod_eq_zero_of_dvd h]; rfl⟩]
  simp
 ·rw [if_neg h, if_neg (fun q => h (Nat.dvd_of_mod_eq_zero (by have := q.2; omega)))]
  simp
theorem zb_sum {l : List Int} (h : IsBr l) {d : Int} (hd : 1 ≤ d) : ∀ j, j + 1 ≤ l.length → (phiN d.toNat : Int) * sumR (dv d) (zbT l j) = (cN (l.getD 0 0).toNat d.toNat : Int) + (sumN (fun i => cN ((wW l (i + 1)).toNat * (eE l (i + 1)).toNat) d.toNat) j : Nat) - (sumN (fun i => cN ((nN l (i + 1)).toNat * (wW l (i + 1)).toNat * (eE l (i + 1)).toNat) d.toNat) j : Nat)
 | 0, _ => by
  have h4 := h.2.1
  rw [cN_dv (by omega) hd]
  simp [zbT, putR, sumR, sumN]
 | j + 1, hj => by
  have ih := zb_sum h hd j (by omega)
  have hn := h.npos j
  have hw := h.wpos j (by omega)
  have he := h.e (j + 1)
  have c1 := cast3 (a := nN l (j + 1)) (b := wW l (j + 1)) (c := eE l (j + 1)) (by omega) (by omega) (by omega)
  have c2 := cast2 (a := wW l (j + 1)) (b := eE l (j + 1)) (by omega) (by omega)
  have p1 : 0 ≤ nN l (j + 1) * wW l (j + 1) * eE l (j + 1) := by rw [← c1]; exact Int.natCast_nonneg _
  have p2 : 0 ≤ wW l (j + 1) * eE l (j + 1) := by rw [← c2]; exact Int.natCast_nonneg _
  have d1 := cN_dv p1 hd
  have d2 := cN_dv p2 hd
  rw [← c1, Int.toNat_natCast] at d1
  rw [← c2, Int.toNat_natCast] at d2
  rw [c1] at d1
  rw [c2] at d2
  rw [zbT, sumR_put _ _ _ (putR_two (zbT_two l j)), sumR_put _ _ _ (zbT_two l j), sumN, sumN, Int.natCast_add, Int.natCast_add, d1, d2, Int.mul_add, Int.mul_add, ih, Int.mul_one, Int.mul_neg, Int.mul_one, Int.mul_neg]
  omega
theorem zeC_zero {R : List (List Int)} (h : zeC R = 0) : IsZ (nzTo R R.length) ∧ zeL R = nzTo R R.length := by
 unfold zeC at h
 unfold zeL
 by_cases q : IsZ (nzTo R R.length)
 ·exact ⟨q, by rw [if_pos q]⟩
 ·rw [if_neg q] at h; omega
theorem ev_law {l : List Int} (F : BsF l) (hz : zeC (zbT l (l.length - 1)) = 0) :
  (evL (zeL (zbT l (l.length - 1)))).length = (eoL (bsB l) (bsS l)).length ∧ ∀ i, i < (eoL (bsB l) (bsS l)).length →
   ((evL (zeL (zbT l (l.length - 1)))).getD i []).getD 0 0 = ((eoL (bsB l) (bsS l)).getD i []).getD 0 0 ∧ (phiN (((eoL (bsB l) (bsS l)).getD i []).getD 0 0).toNat : Int) * ((evL (zeL (zbT l (l.length - 1)))).getD i []).getD 1 0 = ((eoL (bsB l) (bsS l)).getD i []).getD 1 0 ∧ 1 ≤ ((eoL (bsB l) (bsS l)).getD i []).getD 0 0 := by
 obtain ⟨z1, z2⟩ := zeC_zero hz
 have hbb : 1 ≤ bsB l := F.sp.1.1
 have eE : eoL (bsB l) (bsS l) = eoTo (bsB l) (bsS l) (bsS l).length := by rw [eoL, if_pos F.sp]
 have sE : ∀ d, sumR (dl d) (eoL (bsB l) (bsS l)) = (((bsS l).countP fun t => decide (bsB l / (Int.gcd (bsB l) t : Int) = d) : Nat) : Int) := fun d => by
  have := eo_sum (bsB l) (bsS l) d (bsS l).length (Nat.le_refl _)
  rw [List.take_length] at this
  rw [eE, this]
 have sN : ∀ d, sumR (dl d) (evL (zeL (zbT l (l.length - 1)))) = dl d 1 - sumR (dv d) (zbT l (l.length - 1)) := fun d => by
  rw [z2, sumR_evL z1.zr, sumR_nzAll]
 have hp := F.br.pos
 -- the numbers from 1 on
 have pos : ∀ d : Int, 1 ≤ d → (phiN d.toNat : Int) * sumR (dl d) (evL (zeL (zbT l (l.length - 1)))) = sumR (dl d) (eoL (bsB l) (bsS l)) := fun d hd => by
  have e1 := zb_sum F.br hd (l.length - 1) (by omega)
  have e2 := count_top F.br F.nb d.toNat
  have e3 := F.ord d.toNat
  have e4 : ((d.toNat : Nat) : Int) = d := Int.toNat_of_nonneg (by omega)
  rw [e4] at e3
  have e5 := cN_dv (x := 1) (by omega) hd
  have e6 : dv d 1 = dl d 1 := by
   unfold dv dl
   by_cases q : 1 = d
   ·rw [if_pos q, if_pos ⟨hd, by rw [← q]; rfl⟩]
   ·rw [if_neg q, if_neg]
    rintro ⟨_, h⟩
    rw [Int.emod_eq_of_lt (by omega) (by omega)] at h
    omega
  rw [e6] at e5
  simp only [Int.toNat_one] at e5
  rw [sE, sN, Int.mul_sub, e1, ← e5, e3]
  omega
 have neg : ∀ d : Int, ¬ 1 ≤ d → sumR (dl d) (evL (zeL (zbT l (l.length - 1)))) = 0 ∧ sumR (dl d) (eoL (bsB l) (bsS l)) = 0 := fun d hd => by
  constructor
  ·rw [sN]
   have h1 : ∀ R : List (List Int), sumR (dv d) R = 0 := fun R => by
    induction R with
    | nil => rfl
    | cons r t ih => rw [sumR, ih, dv, if_neg (fun q => hd q.1)]; simp
   rw [h1, dl, if_neg (by omega)]
   rfl
  ·rw [sE]
   have : (bsS l).countP (fun t => decide (bsB l / (Int.gcd (bsB l) t : Int) = d)) = 0 := by
    rw [List.countP_eq_zero]
    intro t _
    simp only [decide_eq_true_eq]
    intro q
    have g1 : (Int.gcd (bsB l) t : Int) ∣ bsB l := Int.gcd_dvd_left ..
    obtain ⟨c, hc⟩ := g1
    have g0 : 0 < (Int.gcd (bsB l) t : Int) := by
     rcases Nat.eq_zero_or_pos (Int.gcd (bsB l) t) with h | h
     ·rw [h] at hc; simp at hc; omega
     ·omega
    generalize (Int.gcd (bsB l) t : Int) = g at q hc g0
    rw [hc, Int.mul_ediv_cancel_left _ (by omega)] at q
    rw [hc] at hbb
    have : g * c ≤ 0 := Int.mul_nonpos_of_nonneg_of_nonpos (by omega) (by omega)
    omega
   rw [this]
   rfl
 have hE : AscR (eoL (bsB l) (bsS l)) := by rw [eE]; exact eoTo_asc _ _ _
 have zE : ∀ r ∈ eoL (bsB l) (bsS l), r.getD 1 0 ≠ 0 := fun r hr => by
  rw [eE] at hr
  have := eo_pos _ _ _ r hr
  omega
 have hN := evL_asc (zeL (zbT l (l.length - 1)))
 have zN : ∀ r ∈ evL (zeL (zbT l (l.length - 1))), r.getD 1 0 ≠ 0 := nz_not0 _
 obtain ⟨h1, h2⟩ := same_heads hN hE zN zE fun d => by
  by_cases hd : 1 ≤ d
  ·have := pos d hd
   have hph := phi_pos (d := d.toNat) (by omega)
   rw [← this]
   constructor
   ·intro q; rw [q]; simp
   ·intro q
    rcases Int.mul_eq_zero.1 q with q | q
    ·omega
    ·exact q
  ·obtain ⟨a, b⟩ := neg d hd
   rw [a, b]
 refine ⟨h1, fun i hi => ?_⟩
 have e1 := h2 i (by omega)
 have r1 := sumR_row hN (i := i) (by omega)
 have r2 := sumR_row hE hi
 rw [e1] at r1
 refine ⟨e1, ?_, ?_⟩
 ·by_cases hd : 1 ≤ ((eoL (bsB l) (bsS l)).getD i []).getD 0 0
  ·rw [← r1, ← r2]; exact pos _ hd
  ·obtain ⟨a, b⟩ := neg _ hd
   rw [← r1, ← r2, a, b]
   simp
 ·by_cases hd : 1 ≤ ((eoL (bsB l) (bsS l)).getD i []).getD 0 0
  ·exact hd
  ·have := zE ((eoL (bsB l) (bsS l)).getD i []) (by
    rw [List.getD_eq_getElem?_getD, List.getElem?_eq_getElem hi]
    exact List.getElem_mem hi)
   rw [← r2, (neg _ hd).2] at this
   exact absurd rfl this
end Go.Proofs.Ytohhkbbjdjibgaa
namespace Go.Proofs.Ytohhkbbjdjibgaa
set_option maxRecDepth 100000
set_option maxHeartbeats 20000000
open Go.Pv
open Go.ChangeShapes Go.WideShapes Go.ChangeAt Go.RowKit
attribute [local irreducible] RunU WpA Step CallG CallNG Done DoneN
instance fnOk5 : FnOk Try.prog 5 := ⟨_, Try.func5, rfl, by decide⟩
instance fnOk11 : FnOk Try.prog 11 := ⟨_, Try.func11, rfl, by decide⟩
instance fnOk20 : FnOk Try.prog 20 := ⟨_, Try.func20, rfl, by decide⟩
attribute [local irreducible] decStrict decFalls decIsBr decWithin Strict Falls IsBr Within
theorem drawPw_ex {l : List Int} (hb : By l) : ∃ a b : Int, (0 ≤ a ∧ a ≤ 1000) ∧ (0 ≤ b ∧ b ≤ 1000) ∧ CallA Try.prog 5 [aBy l] [rI a, rI b] [] := by
 obtain ⟨s, hs, hF⟩ := from_ex hb
 obtain ⟨x, s1, d1⟩ := dr1_ex hb hs 12
 obtain ⟨y, s2, d2⟩ := dr1_ex hb d1.2.1 12
 obtain ⟨z, s3, d3⟩ := dr1_ex hb d2.2.1 20
 have hx : 0 ≤ x ∧ x < 12 := ⟨d1.1.1, d1.1.2.2 (by omega)⟩
 have hy : 0 ≤ y ∧ y < 12 := ⟨d2.1.1, d2.1.2.2 (by omega)⟩
 have hz : 0 ≤ z ∧ z < 20 := ⟨d3.1.1, d3.1.2.2 (by omega)⟩
 have h1 := d1.2.2
 have h2 := d2.2.2
 have h3 := d3.2.2
 refine ⟨x + y / 11 * 90, 1 + z, by omega, by omega, ?_⟩
 clear d1 d2 d3 hb hs
 refine cA_ _ Try.func5 rfl Try.ntmps5 (by first | exact ⟨rfl, rfl⟩ | (simp only [List.all_cons, List.all_nil, V.solid, D.solid, D.solids, solids_ints, solids_bools, solids_LL, Bool.and_self, Bool.and_true, and_self]; done) | simp [V.solid, D.solid, D.solids, solids_lits, solids_ints, solids_bools, solids_LL]) ?_
 repeat' (first | (guard_target =~ WpA _ _ _ _ _ _; first | refine WpA.seq ?_ | refine WpA.drawU ?_ | refine WpA.regionU ?_ | refine WpA.block ?_ | refine WpA.ret ?_ | refine WpA.skip ?_ | refine WpA.exit ?_ | refine WpA.cond_true rfl ?_ | refine WpA.cond_false rfl ?_ | refine WpA.cond_ntrue rfl ?_ | refine WpA.cond_dec rfl (fun _ => ?_) (fun _ => ?_) | refine WpA.cond_not rfl (fun _ => ?_) (fun _ => ?_) | refine WpA.cond rfl (fun _ => ?_) (fun _ => ?_)) | (guard_target =~ RunU _ _ _ _ [] _ _ _ _; first | refine RunU.nilL ?_ | refine RunU.nilD (by kernel_rfl) ?_) | (guard_target =~ RunU _ _ _ _ (Oper.mk (some 6) (Op.call ⟨Callee.value _, _, _⟩) _ _ _ none :: _) _ _ _ _; first | refine RunU.cons (step_callS (hF) (.sh .nil) (.sh lcA .nil) rfl) ?_) | (guard_target =~ RunU _ _ _ _ (Oper.mk (some 8) (Op.call ⟨Callee.value _, _, _⟩) _ _ _ none :: _) _ _ _ _; first | refine RunU.cons (sI_ (h1) iA (.sh .nil) (.sh lcA .nil) xR_ xR_ rfl) ?_) | (guard_target =~ RunU _ _ _ _ (Oper.mk (some 10) (Op.call ⟨Callee.value _, _, _⟩) _ _ _ none :: _) _ _ _ _; first | refine RunU.cons (sI_ (h2) iA (.sh .nil) (.sh lcA .nil) xR_ xR_ rfl) ?_) | (guard_target =~ RunU _ _ _ _ (Oper.mk (some 15) (Op.call ⟨Callee.value _, _, _⟩) _ _ _ none :: _) _ _ _ _; first | refine RunU.cons (sI_ (h3) iA (.sh .nil) (.sh lcA .nil) xR_ xR_ rfl) ?_) | (guard_target =~ RunU _ _ _ _ (Oper.mk _ _ _ _ _ none :: _) _ _ _ _; refine RunU.cons step_any ?_) | ((fail_if_success (guard_target =~ @Eq _ _ _)); (fail_if_success (guard_target =~ @Exists _ _)); first | (guard_target =~ Then _ _ _ _ _; refine Then.next ?_) | (guard_target =~ InBlock _ _ _ _ _; refine InBlock.next ?_) | refine Done.ret (.one (by first | exact .c rfl | exact .own rfl | exact .als rfl rfl | exact .ptr rfl rfl | exact .part rfl rfl rfl) (.one (by first | exact .c rfl | exact .own rfl | exact .als rfl rfl | exact .ptr rfl rfl | exact .part rfl rfl rfl) .nil)) (.sh .nil) ?_ rfl))
 all_goals first | rfl | (exfalso; omega)
theorem drawBs_ex {l : List Int} (hb : By l) : ∃ T : List Int, IsBr T ∧ CallA Try.prog 11 [aBy l] [brT T] [] := by
 obtain ⟨s, hs, hF⟩ := from_ex hb
 obtain ⟨T, s1, hT, _, hN⟩ := draw3_ex hb hs
 refine ⟨T, hT, ?_⟩
 clear hT hs hb
 refine cA_ _ Try.func11 rfl Try.ntmps11 (by first | exact ⟨rfl, rfl⟩ | (simp only [List.all_cons, List.all_nil, V.solid, D.solid, D.solids, solids_ints, solids_bools, solids_LL, Bool.and_self, Bool.and_true, and_self]; done) | simp [V.solid, D.solid, D.solids, solids_lits, solids_ints, solids_bools, solids_LL]) ?_
 repeat' (first | (guard_target =~ WpA _ _ _ _ _ _; first | refine WpA.seq ?_ | refine WpA.drawU ?_ | refine WpA.regionU ?_ | refine WpA.block ?_ | refine WpA.ret ?_ | refine WpA.skip ?_ | refine WpA.exit ?_ | refine WpA.cond_true rfl ?_ | refine WpA.cond_false rfl ?_ | refine WpA.cond_ntrue rfl ?_ | refine WpA.cond_dec rfl (fun _ => ?_) (fun _ => ?_) | refine WpA.cond_not rfl (fun _ => ?_) (fun _ => ?_) | refine WpA.cond rfl (fun _ => ?_) (fun _ => ?_)) | (guard_target =~ RunU _ _ _ _ [] _ _ _ _; first | refine RunU.nilL ?_ | refine RunU.nilD (by kernel_rfl) ?_) | (guard_target =~ RunU _ _ _ _ (Oper.mk _ (Op.call ⟨Callee.value _, _, _⟩) _ _ _ none :: _) _ _ _ _; first | refine RunU.cons (step_callS (hF) (.sh .nil) (.sh lcA .nil) rfl) ?_ | refine RunU.cons (sV_ (hN) iA .nil .nil xR_ xR_ rfl) ?_) | (guard_target =~ RunU _ _ _ _ (Oper.mk _ _ _ _ _ none :: _) _ _ _ _; refine RunU.cons step_any ?_) | ((fail_if_success (guard_target =~ @Eq _ _ _)); (fail_if_success (guard_target =~ @Exists _ _)); first | (guard_target =~ Then _ _ _ _ _; refine Then.next ?_) | (guard_target =~ InBlock _ _ _ _ _; refine InBlock.next ?_) | refine Done.ret (.cell inferInstance rfl rfl .nil) (.sh .nil) ?_ rfl))
 all_goals first | rfl | (exfalso; omega)
theorem gcd9_c (a b : Int) (ha : 0 ≤ a ∧ a ≤ 1000000000) (hb : 0 ≤ b ∧ b ≤ 1000000000) : CallA Try.prog 20 [aI a, aI b] [rI (Int.gcd a b)] [] := by
 refine cA_ _ Try.func20 rfl Try.ntmps20 (by first | exact ⟨rfl, rfl⟩ | (simp only [List.all_cons, List.all_nil, V.solid, D.solid, D.solids, solids_ints, solids_bools, solids_LL, Bool.and_self, Bool.and_true, and_self]; done) | simp [V.solid, D.solid, D.solids, solids_lits, solids_ints, solids_bools, solids_LL]) ?_
 repeat' (first | (guard_target =~ WpA _ _ _ _ _ _; first | refine WpA.seq ?_ | refine WpA.drawU ?_ | refine WpA.regionU ?_ | refine WpA.block ?_ | refine WpA.ret ?_ | refine WpA.skip ?_ | refine WpA.exit ?_ | refine WpA.cond_true rfl ?_ | refine WpA.cond_false rfl ?_ | refine WpA.cond_ntrue rfl ?_ | refine WpA.cond_dec rfl (fun _ => ?_) (fun _ => ?_) | refine WpA.cond_not rfl (fun _ => ?_) (fun _ => ?_) | refine WpA.cond rfl (fun _ => ?_) (fun _ => ?_)) | (guard_target =~ RunU _ _ _ _ [] _ _ _ _; first | refine RunU.nilL ?_ | refine RunU.nilD (by kernel_rfl) ?_) | (guard_target =~ RunU _ _ _ _ (Oper.mk _ _ _ _ _ none :: _) _ _ _ _; refine RunU.cons step_any ?_) | ((fail_if_success (guard_target =~ @Eq _ _ _)); (fail_if_success (guard_target =~ @Exists _ _)); first | (guard_target =~ Then _ _ _ _ _; refine Then.next ?_) | (guard_target =~ InBlock _ _ _ _ _; refine InBlock.next ?_) | refine Done.ret (.one (by first | exact .c rfl | exact .own rfl | exact .als rfl rfl | exact .ptr rfl rfl | exact .part rfl rfl rfl) .nil) (.sh (.sh .nil)) ?_ rfl))
 refine WpA.loop_slots (ι := Int × Int) (fun p => [(0, vI p.1), (1, vI p.2)]) (fun p => (0 ≤ p.1 ∧ p.1 ≤ 1000000000) ∧ (0 ≤ p.2 ∧ p.2 ≤ 1000000000) ∧ Int.gcd p.1 p.2 = Int.gcd a b) (fun p => p.2.toNat) (a, b) ⟨ha, hb, rfl⟩ ⟨rfl, rfl, trivial⟩ ?_
 rintro ⟨x, y⟩ s nx ⟨hx, hy, hg⟩
 dsimp only at hx hy hg ⊢
 have ht : 0 < y → x.tmod y = x % y := fun h => Int.tmod_eq_emod_of_nonneg (by omega)
 have hm : 0 < y → 0 ≤ x % y ∧ x % y < y := fun h => ⟨Int.emod_nonneg _ (by omega), Int.emod_lt_of_pos _ h⟩
 by_cases h : 0 < y
 ·have hm := hm h
  have ht := ht h
  have hgs : Int.gcd y (x % y) = Int.gcd x y := by
   obtain ⟨x', rfl⟩ : ∃ n : Nat, x = n := ⟨_, (Int.toNat_of_nonneg hx.1).symm⟩
   obtain ⟨y', rfl⟩ : ∃ n : Nat, y = n := ⟨_, (Int.toNat_of_nonneg hy.1).symm⟩
   rw [← Int.natCast_emod, Int.gcd_natCast_natCast, Int.gcd_natCast_natCast, gcd_step rfl]
  repeat' (first | (guard_target =~ WpA _ _ _ _ _ _; first | refine WpA.seq ?_ | refine WpA.drawU ?_ | refine WpA.regionU ?_ | refine WpA.block ?_ | refine WpA.ret ?_ | refine WpA.skip ?_ | refine WpA.exit ?_ | refine WpA.cond_true rfl ?_ | refine WpA.cond_false rfl ?_ | refine WpA.cond_ntrue rfl ?_ | refine WpA.cond_dec rfl (fun _ => ?_) (fun _ => ?_) | refine WpA.cond_not rfl (fun _ => ?_) (fun _ => ?_) | refine WpA.cond rfl (fun _ => ?_) (fun _ => ?_)) | (guard_target =~ RunU _ _ _ _ [] _ _ _ _; first | refine RunU.nilL ?_ | refine RunU.nilD (by kernel_rfl) ?_) | (guard_target =~ RunU _ _ _ _ (Oper.mk _ _ _ _ _ none :: _) _ _ _ _; refine RunU.cons step_any ?_) | ((fail_if_success (guard_target =~ @Eq _ _ _)); (fail_if_success (guard_target =~ @Exists _ _)); first | (guard_target =~ Then _ _ _ _ _; refine Then.next ?_) | (guard_target =~ InBlock _ _ _ _ _; refine InBlock.next ?_) | refine Done.ret (.one (by first | exact .c rfl | exact .own rfl | exact .als rfl rfl | exact .ptr rfl rfl | exact .part rfl rfl rfl) .nil) (.sh (.sh .nil)) ?_ rfl))
  all_goals try (exfalso; omega)
  all_goals exact ⟨(y, x % y), ⟨hy, by simp only; omega, by simp only; rw [← hg]; exact hgs⟩, ⟨rfl, rfl, trivial⟩, by simp only; omega⟩
 ·have e : y = 0 := by omega
  subst e
  have e2 : (Int.gcd a b : Int) = x := by rw [← hg, Int.gcd_zero_right]; omega
  rw [e2]
  clear ht hm hg
  repeat' (first | (guard_target =~ WpA _ _ _ _ _ _; first | refine WpA.seq ?_ | refine WpA.drawU ?_ | refine WpA.regionU ?_ | refine WpA.block ?_ | refine WpA.ret ?_ | refine WpA.skip ?_ | refine WpA.exit ?_ | refine WpA.cond_true rfl ?_ | refine WpA.cond_false rfl ?_ | refine WpA.cond_ntrue rfl ?_ | refine WpA.cond_dec rfl (fun _ => ?_) (fun _ => ?_) | refine WpA.cond_not rfl (fun _ => ?_) (fun _ => ?_) | refine WpA.cond rfl (fun _ => ?_) (fun _ => ?_)) | (guard_target =~ RunU _ _ _ _ [] _ _ _ _; first | refine RunU.nilL ?_ | refine RunU.nilD (by kernel_rfl) ?_) | (guard_target =~ RunU _ _ _ _ (Oper.mk _ _ _ _ _ none :: _) _ _ _ _; refine RunU.cons step_any ?_) | ((fail_if_success (guard_target =~ @Eq _ _ _)); (fail_if_success (guard_target =~ @Exists _ _)); first | (guard_target =~ Then _ _ _ _ _; refine Then.next ?_) | (guard_target =~ InBlock _ _ _ _ _; refine InBlock.next ?_) | refine Done.ret (.one (by first | exact .c rfl | exact .own rfl | exact .als rfl rfl | exact .ptr rfl rfl | exact .part rfl rfl rfl) .nil) (.sh (.sh .nil)) ?_ rfl))
  all_goals first | rfl | (exfalso; omega)
end Go.Proofs.Ytohhkbbjdjibgaa
namespace Go.Proofs.Ytohhkbbjdjibgaa
set_option maxHeartbeats 20000000
open Go.Pv
open Go.ChangeShapes Go.WideShapes Go.ChangeAt Go.RowKit
attribute [local irreducible] RunU WpA Step CallG CallNG Done DoneN
instance fnOk29 : FnOk Try.prog 29 := ⟨_, Try.func29, rfl, by decide⟩
instance fnOk8 : FnOk Try.prog 8 := ⟨_, Try.func8, rfl, by decide⟩
structure Hid (K : Prop) : Prop where
 out : K
theorem cutP {K G : Prop} (f : Hid K → G) (k : K) : G := f ⟨k⟩
theorem likeS_c (l : List Int) (hl : l.length ≤ 1000000) : CallA Try.prog 29 [aL l, aL l] [rB true] [] := by
 refine cA_ _ Try.func29 rfl Try.ntmps29 (by first | exact ⟨rfl, rfl⟩ | (simp only [List.all_cons, List.all_nil, V.solid, D.solid, D.solids, solids_ints, solids_bools, solids_LL, Bool.and_self, Bool.and_true, and_self]; done) | simp [V.solid, D.solid, D.solids, solids_lits, solids_ints, solids_bools, solids_LL]) ?_
 repeat' (first | (guard_target =~ WpA _ _ _ _ _ _; first | refine WpA.seq ?_ | refine WpA.drawU ?_ | refine WpA.regionU ?_ | refine WpA.block ?_ | refine WpA.ret ?_ | refine WpA.skip ?_ | refine WpA.exit ?_ | refine WpA.cond_true rfl ?_ | refine WpA.cond_false rfl ?_ | refine WpA.cond_ntrue rfl ?_ | refine WpA.cond_dec rfl (fun _ => ?_) (fun _ => ?_) | refine WpA.cond_not rfl (fun _ => ?_) (fun _ => ?_) | refine WpA.cond rfl (fun _ => ?_) (fun _ => ?_)) | (guard_target =~ RunU _ _ _ _ [] _ _ _ _; first | refine RunU.nilL ?_ | refine RunU.nilD (by kernel_rfl) ?_) | (guard_target =~ RunU _ _ _ _ (Oper.mk _ _ _ _ _ none :: _) _ _ _ _; refine RunU.cons step_any ?_) | refine Then.next ?_ | refine InBlock.next ?_ | refine Done.ret (.one (by first | exact .c rfl | exact .own rfl | exact .als rfl rfl | exact .ptr rfl rfl | exact .part rfl rfl rfl) .nil) (.sh (.sh .nil)) ?_ rfl)
 all_goals try (exfalso; simp_all; done)
 refine WpA.loop_slots (ι := Nat) (fun j => [(0, .c (.sl false 1 (ints l))), (1, .c (.sl false 1 (ints l))), (5, .c (.lit (.int .i64 j)))]) (fun j => j ≤ l.length) (fun j => l.length - j) 0 (by omega) ⟨rfl, rfl, rfl, trivial⟩ ?_
 intro j s nx hj
 by_cases hlt : j < l.length
 ·repeat' (first | (guard_target =~ WpA _ _ _ _ _ _; first | refine WpA.seq ?_ | refine WpA.drawU ?_ | refine WpA.regionU ?_ | refine WpA.block ?_ | refine WpA.ret ?_ | refine WpA.skip ?_ | refine WpA.exit ?_ | refine WpA.cond_true rfl ?_ | refine WpA.cond_false rfl ?_ | refine WpA.cond_ntrue rfl ?_ | refine WpA.cond_dec rfl (fun _ => ?_) (fun _ => ?_) | refine WpA.cond_not rfl (fun _ => ?_) (fun _ => ?_) | refine WpA.cond rfl (fun _ => ?_) (fun _ => ?_)) | (guard_target =~ RunU _ _ _ _ [] _ _ _ _; first | refine RunU.nilL ?_ | refine RunU.nilD (by kernel_rfl) ?_) | (guard_target =~ RunU _ _ _ _ (Oper.mk _ _ _ _ _ none :: _) _ _ _ _; refine RunU.cons step_any ?_) | refine Then.next ?_ | refine InBlock.next ?_ | refine Done.ret (.one (by first | exact .c rfl | exact .own rfl | exact .als rfl rfl | exact .ptr rfl rfl | exact .part rfl rfl rfl) .nil) (.sh (.sh .nil)) ?_ rfl)
  all_goals try (exfalso; simp_all; done)
  all_goals try (exfalso; omega)
  all_goals exact ⟨j + 1, by omega, ⟨rfl, rfl, int_eq (by omega), trivial⟩, by omega⟩
 ·repeat' (first | (guard_target =~ WpA _ _ _ _ _ _; first | refine WpA.seq ?_ | refine WpA.drawU ?_ | refine WpA.regionU ?_ | refine WpA.block ?_ | refine WpA.ret ?_ | refine WpA.skip ?_ | refine WpA.exit ?_ | refine WpA.cond_true rfl ?_ | refine WpA.cond_false rfl ?_ | refine WpA.cond_ntrue rfl ?_ | refine WpA.cond_dec rfl (fun _ => ?_) (fun _ => ?_) | refine WpA.cond_not rfl (fun _ => ?_) (fun _ => ?_) | refine WpA.cond rfl (fun _ => ?_) (fun _ => ?_)) | (guard_target =~ RunU _ _ _ _ [] _ _ _ _; first | refine RunU.nilL ?_ | refine RunU.nilD (by kernel_rfl) ?_) | (guard_target =~ RunU _ _ _ _ (Oper.mk _ _ _ _ _ none :: _) _ _ _ _; refine RunU.cons step_any ?_) | refine Then.next ?_ | refine InBlock.next ?_ | refine Done.ret (.one (by first | exact .c rfl | exact .own rfl | exact .als rfl rfl | exact .ptr rfl rfl | exact .part rfl rfl rfl) .nil) (.sh (.sh .nil)) ?_ rfl)
  all_goals first | rfl | (exfalso; omega)
theorem bigS_c (l : List Int) (hl : l.length ≤ 9223372036854775807) : CallA Try.prog 4 [aBy l] [rB (decide (4096 < l.length))] [] := by
 have e : decide (4096 < l.length) = decide ((l.length : Int) > 4096) := decide_eq_decide.2 (by omega)
 rw [e]
 refine cA_ _ Try.func4 rfl Try.ntmps4 (by first | exact ⟨rfl, rfl⟩ | (simp only [List.all_cons, List.all_nil, V.solid, D.solid, D.solids, solids_ints, solids_bools, solids_LL, Bool.and_self, Bool.and_true, and_self]; done) | simp [V.solid, D.solid, D.solids, solids_lits, solids_ints, solids_bools, solids_LL]) ?_
 repeat' (first | (guard_target =~ WpA _ _ _ _ _ _; first | refine WpA.seq ?_ | refine WpA.drawU ?_ | refine WpA.regionU ?_ | refine WpA.block ?_ | refine WpA.ret ?_ | refine WpA.skip ?_ | refine WpA.exit ?_ | refine WpA.cond_true rfl ?_ | refine WpA.cond_false rfl ?_ | refine WpA.cond_ntrue rfl ?_ | refine WpA.cond_dec rfl (fun _ => ?_) (fun _ => ?_) | refine WpA.cond_not rfl (fun _ => ?_) (fun _ => ?_) | refine WpA.cond rfl (fun _ => ?_) (fun _ => ?_)) | (guard_target =~ RunU _ _ _ _ [] _ _ _ _; first | refine RunU.nilL ?_ | refine RunU.nilD (by kernel_rfl) ?_) | (guard_target =~ RunU _ _ _ _ (Oper.mk _ _ _ _ _ none :: _) _ _ _ _; refine RunU.cons step_any ?_) | refine Then.next ?_ | refine InBlock.next ?_ | refine Done.ret (.one (by first | exact .c rfl | exact .own rfl | exact .als rfl rfl | exact .ptr rfl rfl | exact .part rfl rfl rfl) .nil) (.sh .nil) ?_ rfl)
 all_goals rfl
theorem spectrum9_c (b : Int) (l : List Int) (hl : l.length ≤ 1000000) : CallA Try.prog 8 [aSp b l, aSp b l] [rB true] [] := by
 refine cA_ _ Try.func8 rfl Try.ntmps8 (by first | exact ⟨rfl, rfl⟩ | (simp only [List.all_cons, List.all_nil, V.solid, D.solid, D.solids, solids_ints, solids_bools, solids_LL, Bool.and_self, Bool.and_true, and_self]; done) | simp [V.solid, D.solid, D.solids, solids_lits, solids_ints, solids_bools, solids_LL]) ?_
 repeat' (first | (guard_target =~ WpA _ _ _ _ _ _; first | refine WpA.seq ?_ | refine WpA.drawU ?_ | refine WpA.regionU ?_ | refine WpA.block ?_ | refine WpA.ret ?_ | refine WpA.skip ?_ | refine WpA.exit ?_ | refine WpA.cond_true rfl ?_ | refine WpA.cond_false rfl ?_ | refine WpA.cond_ntrue rfl ?_ | refine WpA.cond_dec rfl (fun _ => ?_) (fun _ => ?_) | refine WpA.cond_not rfl (fun _ => ?_) (fun _ => ?_) | refine WpA.cond rfl (fun _ => ?_) (fun _ => ?_)) | (guard_target =~ RunU _ _ _ _ [] _ _ _ _; first | refine RunU.nilL ?_ | refine RunU.nilD (by kernel_rfl) ?_) | (guard_target =~ RunU _ _ _ _ (Oper.mk _ (Op.call ⟨Callee.value _, _, _⟩) _ _ _ none :: _) _ _ _ _; first | refine RunU.cons (sC_ (likeS_c l hl) (.sh (.sh .nil)) (.sh wS_ (.sh wS_ .nil)) rfl) ?_) | (guard_target =~ RunU _ _ _ _ (Oper.mk _ _ _ _ _ none :: _) _ _ _ _; refine RunU.cons step_any ?_) | (guard_target =~ RunU _ _ _ _ (Oper.mk _ _ _ _ _ (some _) :: _) _ _ _ _; first | refine RunU.pass rfl rfl rfl rfl ?_ | refine RunU.pass_undef rfl rfl rfl ?_ | (guard_target =~ RunU _ _ _ _ (Oper.mk _ (Op.call ⟨Callee.value _, _, _⟩) _ _ _ _ :: _) _ _ _ _; first | refine RunU.doit rfl rfl (sC_ (likeS_c l hl) (.sh (.sh .nil)) (.sh wS_ (.sh wS_ .nil)) rfl) ?_) | refine RunU.doit rfl rfl step_any ?_ | ((fail_if_success (refine RunU.doit (rd := []) (up := []) rfl rfl ?_ ?_)); first | refine RunU.guard_dec rfl rfl (fun _ => ?_) (fun _ => ?_) | refine RunU.guard_not rfl rfl (fun _ => ?_) (fun _ => ?_) | refine RunU.guard rfl rfl (fun _ => ?_) (fun _ => ?_))) | refine Then.next ?_ | refine InBlock.next ?_ | refine Done.ret (.one (by first | exact .c rfl | exact .own rfl | exact .als rfl rfl | exact .ptr rfl rfl | exact .part rfl rfl rfl) .nil) (.sh (.sh .nil)) ?_ rfl)
 all_goals first | rfl | (exfalso; simp_all; done) | (simp; done)
instance fnOk12 : FnOk Try.prog 12 := ⟨_, Try.func12, rfl, by decide⟩
attribute [local irreducible] decIsBr IsBr big decBig
theorem implBranchSpectrum_c (l : List Int) (hl : l.length ≤ 1000000000) : CallA Try.prog 12 [.sh (.agg [.sl false 1 (ints l)])] [rSp (bsB l) (bsS l), rI (bsC l)] [] := by
 refine cA_ _ Try.func12 rfl Try.ntmps12 (by first | exact ⟨rfl, rfl⟩ | (simp only [List.all_cons, List.all_nil, V.solid, D.solid, D.solids, solids_ints, solids_bools, solids_LL, Bool.and_self, Bool.and_true, and_self]; done) | simp [V.solid, D.solid, D.solids, solids_lits, solids_ints, solids_bools, solids_LL]) ?_
 have hbr := implIsBr_c l hl
 by_cases h : IsBr l
 ·have h7 := h.short
  have h0 := h.pos
  have hdv := divisors_c l (by omega) h.bound
  have hra := ratios_c l h
  have hze := zetaNumbers_c l h
  have hN : ∀ i, i < l.length → (upto (nN l) l.length).getD i 0 = nN l i := fun i hi => upto_at _ hi
  have hW : ∀ i, i < l.length → (upto (wW l) l.length).getD i 0 = wW l i := fun i hi => upto_at _ hi
  have hR : ∀ i, i < l.length → (divs l l.length).getD i 0 = eE l i := fun i hi => divs_at l l.length i hi
  have lN := upto_len (nN l) l.length
  have lW := upto_len (wW l) l.length
  have lR := divs_len l l.length
  generalize upto (nN l) l.length = N at *
  generalize upto (wW l) l.length = W at *
  generalize divs l l.length = R at *
  repeat' (first | (guard_target =~ WpA _ _ _ _ _ _; first | refine WpA.seq ?_ | refine WpA.drawU ?_ | refine WpA.regionU ?_ | refine WpA.block ?_ | refine WpA.ret ?_ | refine WpA.skip ?_ | refine WpA.exit ?_ | refine WpA.cond_true rfl ?_ | refine WpA.cond_false rfl ?_ | refine WpA.cond_ntrue rfl ?_ | refine WpA.cond_dec rfl (fun _ => ?_) (fun _ => ?_) | refine WpA.cond_not rfl (fun _ => ?_) (fun _ => ?_) | refine WpA.cond rfl (fun _ => ?_) (fun _ => ?_)) | (guard_target =~ RunU _ _ _ _ [] _ _ _ _; first | refine RunU.nilL ?_ | refine RunU.nilD (by kernel_rfl) ?_) | (guard_target =~ RunU _ _ _ _ (Oper.mk _ (Op.call ⟨Callee.value _, _, _⟩) _ _ _ none :: _) _ _ _ _; first | refine RunU.cons (sC_ (hbr) (.sh .nil) (.shAgg rfl gA_ .nil) rfl) ?_ | refine RunU.cons (sC_ (hra) (.sh .nil) (.shAgg rfl gA_ .nil) rfl) ?_ | refine RunU.cons (sC_ (hdv) (.sh .nil) (.sh wS_ .nil) rfl) ?_ | refine RunU.cons (sC_ (hze) (.sh .nil) (.shAgg rfl gA_ .nil) rfl) ?_) | (guard_target =~ RunU _ _ _ _ (Oper.mk _ _ _ _ _ none :: _) _ _ _ _; refine RunU.cons step_any ?_) | refine Then.next ?_ | refine InBlock.next ?_ | refine Done.ret (.cell inferInstance rfl rfl (.one (by first | exact .c rfl | exact .own rfl | exact .als rfl rfl | exact .ptr rfl rfl | exact .part rfl rfl rfl) .nil)) (.sh .nil) ?_ rfl)
  all_goals try (exact absurd h ‹_›)
  refine WpA.loop_ids3 (fun j i4 i5 i6 => [(1, .own 1 (.pt true [.sl false 1 (ints l)])), (2, .own 2 (.pt true [dI 0, dL []])), (3, vI 0), (4, .own i4 (.sl true 1 (ints N))), (5, .own i5 (.sl true 1 (ints R))), (6, .own i6 (.sl true 1 (ints W))), (7, vI (bot l j)), (8, vI ((j : Int) + 1))]) (fun j => j + 1 ≤ l.length ∧ ∀ i, i ≤ j → bot l i ≤ 1000000) (fun j => l.length - j) 0 _ _ _ ⟨by omega, fun i hi => by rw [Nat.le_zero.1 hi]; simp [bot]⟩ ⟨rfl, rfl, rfl, xR_, xR_, xR_, rfl, rfl, trivial⟩ ?_
  intro j i4 i5 i6 s nx hj
  have b1 := h.bot_pos j (by omega)
  have b2 := hj.2 j (Nat.le_refl _)
  by_cases hlt : j + 1 < l.length
  ·have n1 : N.getD ((j + 1) * 1) 0 = nN l (j + 1) := by rw [Nat.mul_one]; exact hN _ hlt
   have w1 : W.getD ((j + 1) * 1) 0 = wW l (j + 1) := by rw [Nat.mul_one]; exact hW _ hlt
   have r1 : R.getD ((j + 1) * 1) 0 = eE l (j + 1) := by rw [Nat.mul_one]; exact hR _ hlt
   have m1 := h.nwr hlt
   have x1 : N.getD ((j + 1) * 1) 0 * W.getD ((j + 1) * 1) 0 * R.getD ((j + 1) * 1) 0 = x3 l j := by rw [n1, w1, r1]; rfl
   have hm : CallA Try.prog 24 [aI (bot l j), aI (N.getD ((j + 1) * 1) 0 * W.getD ((j + 1) * 1) 0 * R.getD ((j + 1) * 1) 0)] [rI (bot l (j + 1))] [] := by
    rw [x1]; exact multiple_c _ _ (by omega) (by unfold x3; omega)
   rw [← n1, ← w1, ← r1] at m1
   repeat' (first | (guard_target =~ WpA _ _ _ _ _ _; first | refine WpA.seq ?_ | refine WpA.drawU ?_ | refine WpA.regionU ?_ | refine WpA.block ?_ | refine WpA.ret ?_ | refine WpA.skip ?_ | refine WpA.exit ?_ | refine WpA.cond_true rfl ?_ | refine WpA.cond_false rfl ?_ | refine WpA.cond_ntrue rfl ?_ | refine WpA.cond_dec rfl (fun _ => ?_) (fun _ => ?_) | refine WpA.cond_not rfl (fun _ => ?_) (fun _ => ?_) | refine WpA.cond rfl (fun _ => ?_) (fun _ => ?_)) | (guard_target =~ RunU _ _ _ _ [] _ _ _ _; first | refine RunU.nilL ?_ | refine RunU.nilD (by kernel_rfl) ?_) | (guard_target =~ RunU _ _ _ _ (Oper.mk _ (Op.call ⟨Callee.value _, _, _⟩) _ _ _ none :: _) _ _ _ _; first | refine RunU.cons (sC_ (hm) (.sh (.sh .nil)) (.sh wS_ (.sh wS_ .nil)) rfl) ?_) | (guard_target =~ RunU _ _ _ _ (Oper.mk _ _ _ _ _ none :: _) _ _ _ _; refine RunU.cons step_any ?_) | refine Then.next ?_ | refine InBlock.next ?_ | refine Done.ret (.cell inferInstance rfl rfl (.one (by first | exact .c rfl | exact .own rfl | exact .als rfl rfl | exact .ptr rfl rfl | exact .part rfl rfl rfl) .nil)) (.sh .nil) ?_ rfl)
   all_goals try (exfalso; omega)
   case refine_1.refine_1 h3 h4 =>
    obtain ⟨q1, q2, q3⟩ := bs_big h ((big_def l).2 ⟨j + 1, hlt, h4⟩)
    rw [q1, q2, q3]; rfl
   case refine_1.refine_2 h3 h4 =>
    refine ⟨j + 1, ⟨by omega, fun i hi => ?_⟩, ⟨_, _, _, rfl, rfl, rfl, xR_, xR_, xR_, rfl, int_eq (by omega), trivial⟩, by omega⟩
    rcases Nat.lt_or_ge i (j + 1) with k | k
    ·exact hj.2 i (by omega)
    ·rw [Nat.le_antisymm hi k]; omega
  ·have e0 : j = l.length - 1 := by omega
   have hB : bot l j = bB0 l := by rw [e0]; rfl
   have hb : ¬ big l := by
    rw [big_def]
    rintro ⟨i, hi, hi2⟩
    have := hj.2 i (by omega)
    omega
   rw [hB] at b1 b2 ⊢
   clear hbr hra hze hdv hj e0 hB
   repeat' (first | (guard_target =~ WpA _ _ _ _ _ _; first | refine WpA.seq ?_ | refine WpA.drawU ?_ | refine WpA.regionU ?_ | refine WpA.block ?_ | refine WpA.ret ?_ | refine WpA.skip ?_ | refine WpA.exit ?_ | refine WpA.cond_true rfl ?_ | refine WpA.cond_false rfl ?_ | refine WpA.cond_ntrue rfl ?_ | refine WpA.cond_dec rfl (fun _ => ?_) (fun _ => ?_) | refine WpA.cond_not rfl (fun _ => ?_) (fun _ => ?_) | refine WpA.cond rfl (fun _ => ?_) (fun _ => ?_)) | (guard_target =~ RunU _ _ _ _ [] _ _ _ _; first | refine RunU.nilL ?_ | refine RunU.nilD (by kernel_rfl) ?_) | (guard_target =~ RunU _ _ _ _ (Oper.mk _ _ _ _ _ none :: _) _ _ _ _; refine RunU.cons step_any ?_) | refine Then.next ?_ | refine InBlock.next ?_ | refine Done.ret (.cell inferInstance rfl rfl (.one (by first | exact .c rfl | exact .own rfl | exact .als rfl rfl | exact .ptr rfl rfl | exact .part rfl rfl rfl) .nil)) (.sh .nil) ?_ rfl)
   all_goals try (exfalso; omega)
   refine WpA.loop_slots2 (fun i id => [(1, .own 1 (.pt true [.sl false 1 (ints l)])), (2, .own 2 (.pt true [dI 0, dL []])), (3, vI 0), (4, .own i4 (.sl true 1 (ints N))), (5, .own i5 (.sl true 1 (ints R))), (6, .own i6 (.sl true 1 (ints W))), (7, vI (bB0 l)), (9, .own id (.sl true 1 (ints (fm (F3 l) i)))), (10, vI ((i : Int) + 1))]) (fun i => i + 1 ≤ l.length ∧ (fm (F3 l) i).length ≤ 400) (fun i => l.length - i) 0 _ ⟨by omega, by simp [fm]⟩ ⟨rfl, rfl, rfl, xR_, xR_, xR_, rfl, by exact own_ints (l := []) rfl, rfl, trivial⟩ ?_
   intro i id s nx hi
   by_cases hli : i + 1 < l.length
   ·have n1 : N.getD ((i + 1) * 1) 0 = nN l (i + 1) := by rw [Nat.mul_one]; exact hN _ hli
    have w1 : W.getD ((i + 1) * 1) 0 = wW l (i + 1) := by rw [Nat.mul_one]; exact hW _ hli
    have r1 : R.getD ((i + 1) * 1) 0 = eE l (i + 1) := by rw [Nat.mul_one]; exact hR _ hli
    have m1 := h.nwr hli
    have x1 : N.getD ((i + 1) * 1) 0 * W.getD ((i + 1) * 1) 0 * R.getD ((i + 1) * 1) 0 = x3 l i := by rw [n1, w1, r1]; rfl
    have n2 := h.n (i + 1)
    have n3 := h.npos i
    have e2 := h.e (i + 1)
    obtain ⟨s1, s2, s3, s4, s5⟩ := h.sc_facts hb hli
    have q1 : bB0 l / (N.getD ((i + 1) * 1) 0 * W.getD ((i + 1) * 1) 0 * R.getD ((i + 1) * 1) 0) = sc l i := by rw [x1]; rfl
    rw [← n1, ← w1, ← r1] at m1
    rw [← n1] at n2 n3
    rw [← r1] at e2
    repeat' (first | (guard_target =~ WpA _ _ _ _ _ _; first | refine WpA.seq ?_ | refine WpA.drawU ?_ | refine WpA.regionU ?_ | refine WpA.block ?_ | refine WpA.ret ?_ | refine WpA.skip ?_ | refine WpA.exit ?_ | refine WpA.cond_true rfl ?_ | refine WpA.cond_false rfl ?_ | refine WpA.cond_ntrue rfl ?_ | refine WpA.cond_dec rfl (fun _ => ?_) (fun _ => ?_) | refine WpA.cond_not rfl (fun _ => ?_) (fun _ => ?_) | refine WpA.cond rfl (fun _ => ?_) (fun _ => ?_)) | (guard_target =~ RunU _ _ _ _ [] _ _ _ _; first | refine RunU.nilL ?_ | refine RunU.nilD (by kernel_rfl) ?_) | (guard_target =~ RunU _ _ _ _ (Oper.mk _ _ _ _ _ none :: _) _ _ _ _; refine RunU.cons step_any ?_) | refine Then.next ?_ | refine InBlock.next ?_ | refine Done.ret (.cell inferInstance rfl rfl (.one (by first | exact .c rfl | exact .own rfl | exact .als rfl rfl | exact .ptr rfl rfl | exact .part rfl rfl rfl) .nil)) (.sh .nil) ?_ rfl)
    all_goals try (exfalso; omega)
    refine WpA.loop_slots2 (fun k id => [(1, .own 1 (.pt true [.sl false 1 (ints l)])), (2, .own 2 (.pt true [dI 0, dL []])), (3, vI 0), (4, .own i4 (.sl true 1 (ints N))), (5, .own i5 (.sl true 1 (ints R))), (6, .own i6 (.sl true 1 (ints W))), (7, vI (bB0 l)), (9, .own id (.sl true 1 (ints (fm (F3 l) i ++ fm (F2 l i) k)))), (10, vI ((i : Int) + 1)), (11, vI (sc l i)), (12, vI ((k : Int) + 1))]) (fun k => k ≤ (nN l (i + 1) - 1).toNat ∧ (fm (F3 l) i ++ fm (F2 l i) k).length ≤ 400) (fun k => (nN l (i + 1) - 1).toNat - k) 0 _ ⟨by omega, by simpa [fm_zero] using hi.2⟩ ⟨rfl, rfl, rfl, xR_, xR_, xR_, rfl, by exact own_ints (by simp [fm_zero]), rfl, int_eq q1, rfl, trivial⟩ ?_
    intro k id s nx hk
    by_cases hlk : k < (nN l (i + 1) - 1).toNat
    ·repeat' (first | (guard_target =~ WpA _ _ _ _ _ _; first | refine WpA.seq ?_ | refine WpA.drawU ?_ | refine WpA.regionU ?_ | refine WpA.block ?_ | refine WpA.ret ?_ | refine WpA.skip ?_ | refine WpA.exit ?_ | refine WpA.cond_true rfl ?_ | refine WpA.cond_false rfl ?_ | refine WpA.cond_ntrue rfl ?_ | refine WpA.cond_dec rfl (fun _ => ?_) (fun _ => ?_) | refine WpA.cond_not rfl (fun _ => ?_) (fun _ => ?_) | refine WpA.cond rfl (fun _ => ?_) (fun _ => ?_)) | (guard_target =~ RunU _ _ _ _ [] _ _ _ _; first | refine RunU.nilL ?_ | refine RunU.nilD (by kernel_rfl) ?_) | (guard_target =~ RunU _ _ _ _ (Oper.mk _ _ _ _ _ none :: _) _ _ _ _; refine RunU.cons step_any ?_) | refine Then.next ?_ | refine InBlock.next ?_ | refine Done.ret (.cell inferInstance rfl rfl (.one (by first | exact .c rfl | exact .own rfl | exact .als rfl rfl | exact .ptr rfl rfl | exact .part rfl rfl rfl) .nil)) (.sh .nil) ?_ rfl)
     all_goals try (exfalso; omega)
     refine WpA.loop_slots2 (fun q id => [(1, .own 1 (.pt true [.sl false 1 (ints l)])), (2, .own 2 (.pt true [dI 0, dL []])), (3, vI 0), (4, .own i4 (.sl true 1 (ints N))), (5, .own i5 (.sl true 1 (ints R))), (6, .own i6 (.sl true 1 (ints W))), (7, vI (bB0 l)), (9, .own id (.sl true 1 (ints (fm (F3 l) i ++ fm (F2 l i) k ++ fm (F1 l i k) q)))), (10, vI ((i : Int) + 1)), (11, vI (sc l i)), (12, vI ((k : Int) + 1)), (13, vI ((q : Int) + 1))]) (fun q => q ≤ cL l i k ∧ (fm (F3 l) i ++ fm (F2 l i) k ++ fm (F1 l i k) q).length ≤ 400) (fun q => cL l i k - q) 0 _ ⟨by omega, by simpa [fm_zero] using hk.2⟩ ⟨rfl, rfl, rfl, xR_, xR_, xR_, rfl, by exact own_ints (by simp [fm_zero]), rfl, rfl, rfl, rfl, trivial⟩ ?_
     intro q id s nx hq
     have hcl : ((k : Int) + 1) * W.getD ((i + 1) * 1) 0 + ((q : Int) + 1) * N.getD ((i + 1) * 1) 0 < N.getD ((i + 1) * 1) 0 * W.getD ((i + 1) * 1) 0 ↔ q < cL l i k := by
      rw [n1, w1]; exact cL_iff h
     have g1 := cL_bnd h hli hlk hq.1
     rw [← n1, ← w1] at g1
     by_cases hlq : q < cL l i k
     ·have hc' := hcl.2 hlq
      clear hcl
      repeat' (first | (guard_target =~ WpA _ _ _ _ _ _; first | refine WpA.seq ?_ | refine WpA.drawU ?_ | refine WpA.regionU ?_ | refine WpA.block ?_ | refine WpA.ret ?_ | refine WpA.skip ?_ | refine WpA.exit ?_ | refine WpA.cond_true rfl ?_ | refine WpA.cond_false rfl ?_ | refine WpA.cond_ntrue rfl ?_ | refine WpA.cond_dec rfl (fun _ => ?_) (fun _ => ?_) | refine WpA.cond_not rfl (fun _ => ?_) (fun _ => ?_) | refine WpA.cond rfl (fun _ => ?_) (fun _ => ?_)) | (guard_target =~ RunU _ _ _ _ [] _ _ _ _; first | refine RunU.nilL ?_ | refine RunU.nilD (by kernel_rfl) ?_) | (guard_target =~ RunU _ _ _ _ (Oper.mk _ _ _ _ _ none :: _) _ _ _ _; refine RunU.cons step_any ?_) | refine Then.next ?_ | refine InBlock.next ?_ | refine Done.ret (.cell inferInstance rfl rfl (.one (by first | exact .c rfl | exact .own rfl | exact .als rfl rfl | exact .ptr rfl rfl | exact .part rfl rfl rfl) .nil)) (.sh .nil) ?_ rfl)
      all_goals try (exfalso; omega)
      refine WpA.loop_slots2 (fun s id => [(1, .own 1 (.pt true [.sl false 1 (ints l)])), (2, .own 2 (.pt true [dI 0, dL []])), (3, vI 0), (4, .own i4 (.sl true 1 (ints N))), (5, .own i5 (.sl true 1 (ints R))), (6, .own i6 (.sl true 1 (ints W))), (7, vI (bB0 l)), (9, .own id (.sl true 1 (ints (fm (F3 l) i ++ fm (F2 l i) k ++ fm (F1 l i k) q ++ fm (F0 l i k q) s)))), (10, vI ((i : Int) + 1)), (11, vI (sc l i)), (12, vI ((k : Int) + 1)), (13, vI ((q : Int) + 1)), (111, vI (eE l (i + 1))), (112, vI s)]) (fun s => s ≤ (eE l (i + 1)).toNat) (fun s => (eE l (i + 1)).toNat - s) 0 _ (by omega) ⟨rfl, rfl, rfl, xR_, xR_, xR_, rfl, by exact own_ints (by simp [fm_zero]), rfl, rfl, rfl, rfl, int_eq r1, rfl, trivial⟩ ?_
      intro z id s nx hz
      have z1 : (fm (F0 l i k q) z).length = 2 * z := fm_len (F := F0 l i k q) (c := 2) (fun _ => rfl) z
      have z2 := place_le l (i := i) (k := k) (q := q) (s := z) (by omega) hlk hlq hz
      have z3 : (fm (F3 l) i ++ fm (F2 l i) k ++ fm (F1 l i k) q ++ fm (F0 l i k q) z).length ≤ 600 := by
       rw [List.length_append, z1]; omega
      have z4 : z ≤ 64 := by have := h.e (i + 1); omega
      by_cases hlz : z < (eE l (i + 1)).toNat
      ·have t1 := tops_in h hb hli hlk hlq hlz
       have ht : (((k : Int) + 1) * W.getD ((i + 1) * 1) 0 + ((q : Int) + 1) * N.getD ((i + 1) * 1) 0 + (z : Int) * N.getD ((i + 1) * 1) 0 * W.getD ((i + 1) * 1) 0) * sc l i = tT l i k q z := by rw [n1, w1]; rfl
       have t2 := t1.2.2.2.2
       rw [← ht] at t2
       rw [← n1, ← w1] at t1
       have e3 : fm (F3 l) i ++ fm (F2 l i) k ++ fm (F1 l i k) q ++ fm (F0 l i k q) z ++ [(((k : Int) + 1) * W.getD ((i + 1) * 1) 0 + ((q : Int) + 1) * N.getD ((i + 1) * 1) 0 + (z : Int) * N.getD ((i + 1) * 1) 0 * W.getD ((i + 1) * 1) 0) * sc l i, 2 * bB0 l - (((k : Int) + 1) * W.getD ((i + 1) * 1) 0 + ((q : Int) + 1) * N.getD ((i + 1) * 1) 0 + (z : Int) * N.getD ((i + 1) * 1) 0 * W.getD ((i + 1) * 1) 0) * sc l i] = fm (F3 l) i ++ fm (F2 l i) k ++ fm (F1 l i k) q ++ fm (F0 l i k q) (z + 1) := by
        rw [ht, fm_step (F0 l i k q), List.append_assoc, List.append_assoc, List.append_assoc]
        simp only [List.append_assoc]
        rfl
       generalize hA : fm (F3 l) i ++ fm (F2 l i) k ++ fm (F1 l i k) q ++ fm (F0 l i k q) z = A at *
       clear hN hW hR lR hi n1 w1 r1 m1 x1 n2 n3 e2 s1 s2 s4 s5 q1 hk hlk hq g1 hlq hc' ht z1 z2 hlt h7 h0
       repeat' (first | (guard_target =~ WpA _ _ _ _ _ _; first | refine WpA.seq ?_ | refine WpA.drawU ?_ | refine WpA.regionU ?_ | refine WpA.block ?_ | refine WpA.ret ?_ | refine WpA.skip ?_ | refine WpA.exit ?_ | refine WpA.cond_true rfl ?_ | refine WpA.cond_false rfl ?_ | refine WpA.cond_ntrue rfl ?_ | refine WpA.cond_dec rfl (fun _ => ?_) (fun _ => ?_) | refine WpA.cond_not rfl (fun _ => ?_) (fun _ => ?_) | refine WpA.cond rfl (fun _ => ?_) (fun _ => ?_)) | (guard_target =~ RunU _ _ _ _ [] _ _ _ _; first | refine RunU.nilL ?_ | refine RunU.nilD (by kernel_rfl) ?_) | (guard_target =~ RunU _ _ _ _ (Oper.mk _ _ _ _ _ none :: _) _ _ _ _; refine RunU.cons step_any ?_) | refine Then.next ?_ | refine InBlock.next ?_ | refine Done.ret (.cell inferInstance rfl rfl (.one (by first | exact .c rfl | exact .own rfl | exact .als rfl rfl | exact .ptr rfl rfl | exact .part rfl rfl rfl) .nil)) (.sh .nil) ?_ rfl)
       all_goals try (exfalso; omega)
       exact ⟨z + 1, by omega, ⟨_, rfl, rfl, rfl, xR_, xR_, xR_, rfl, by exact own_ints e3, rfl, rfl, rfl, rfl, rfl, int_eq (by omega), trivial⟩, by omega⟩
      ·have ez : z = (eE l (i + 1)).toNat := by omega
       have e3 : fm (F3 l) i ++ fm (F2 l i) k ++ fm (F1 l i k) q ++ fm (F0 l i k q) z = fm (F3 l) i ++ fm (F2 l i) k ++ fm (F1 l i k) (q + 1) := by
        rw [fm_step (F1 l i k) q, ez]; simp only [List.append_assoc]; rfl
       rw [e3] at z2 z3 ⊢
       repeat' (first | (guard_target =~ WpA _ _ _ _ _ _; first | refine WpA.seq ?_ | refine WpA.drawU ?_ | refine WpA.regionU ?_ | refine WpA.block ?_ | refine WpA.ret ?_ | refine WpA.skip ?_ | refine WpA.exit ?_ | refine WpA.cond_true rfl ?_ | refine WpA.cond_false rfl ?_ | refine WpA.cond_ntrue rfl ?_ | refine WpA.cond_dec rfl (fun _ => ?_) (fun _ => ?_) | refine WpA.cond_not rfl (fun _ => ?_) (fun _ => ?_) | refine WpA.cond rfl (fun _ => ?_) (fun _ => ?_)) | (guard_target =~ RunU _ _ _ _ [] _ _ _ _; first | refine RunU.nilL ?_ | refine RunU.nilD (by kernel_rfl) ?_) | (guard_target =~ RunU _ _ _ _ (Oper.mk _ _ _ _ _ none :: _) _ _ _ _; refine RunU.cons step_any ?_) | refine Then.next ?_ | refine InBlock.next ?_ | refine Done.ret (.cell inferInstance rfl rfl (.one (by first | exact .c rfl | exact .own rfl | exact .als rfl rfl | exact .ptr rfl rfl | exact .part rfl rfl rfl) .nil)) (.sh .nil) ?_ rfl)
       all_goals try (exfalso; omega)
       case refine_2.refine_1 h5 h6 =>
        obtain ⟨p1, p2, p3⟩ := bs_many h hb (by omega)
        rw [p1, p2, p3]; rfl
       case refine_2.refine_2 h5 h6 => exact ⟨q + 1, ⟨by omega, by omega⟩, ⟨_, rfl, rfl, rfl, xR_, xR_, xR_, rfl, xR_, rfl, rfl, rfl, int_eq (by omega), trivial⟩, by omega⟩
     ·have eq : q = cL l i k := by omega
      have hc' : ¬ _ := fun x => hlq (hcl.1 x)
      clear hcl
      repeat' (first | (guard_target =~ WpA _ _ _ _ _ _; first | refine WpA.seq ?_ | refine WpA.drawU ?_ | refine WpA.regionU ?_ | refine WpA.block ?_ | refine WpA.ret ?_ | refine WpA.skip ?_ | refine WpA.exit ?_ | refine WpA.cond_true rfl ?_ | refine WpA.cond_false rfl ?_ | refine WpA.cond_ntrue rfl ?_ | refine WpA.cond_dec rfl (fun _ => ?_) (fun _ => ?_) | refine WpA.cond_not rfl (fun _ => ?_) (fun _ => ?_) | refine WpA.cond rfl (fun _ => ?_) (fun _ => ?_)) | (guard_target =~ RunU _ _ _ _ [] _ _ _ _; first | refine RunU.nilL ?_ | refine RunU.nilD (by kernel_rfl) ?_) | (guard_target =~ RunU _ _ _ _ (Oper.mk _ _ _ _ _ none :: _) _ _ _ _; refine RunU.cons step_any ?_) | refine Then.next ?_ | refine InBlock.next ?_ | refine Done.ret (.cell inferInstance rfl rfl (.one (by first | exact .c rfl | exact .own rfl | exact .als rfl rfl | exact .ptr rfl rfl | exact .part rfl rfl rfl) .nil)) (.sh .nil) ?_ rfl)
      all_goals try (exfalso; omega)
      have e5 : fm (F3 l) i ++ fm (F2 l i) k ++ fm (F1 l i k) q = fm (F3 l) i ++ fm (F2 l i) (k + 1) := by
       rw [fm_step (F2 l i) k, eq, ← List.append_assoc]; rfl
      exact ⟨k + 1, ⟨by omega, by rw [← e5]; exact hq.2⟩, ⟨_, rfl, rfl, rfl, xR_, xR_, xR_, rfl, by exact own_ints e5, rfl, rfl, int_eq (by omega), trivial⟩, by omega⟩
    ·have ek : k = (nN l (i + 1) - 1).toNat := by omega
     repeat' (first | (guard_target =~ WpA _ _ _ _ _ _; first | refine WpA.seq ?_ | refine WpA.drawU ?_ | refine WpA.regionU ?_ | refine WpA.block ?_ | refine WpA.ret ?_ | refine WpA.skip ?_ | refine WpA.exit ?_ | refine WpA.cond_true rfl ?_ | refine WpA.cond_false rfl ?_ | refine WpA.cond_ntrue rfl ?_ | refine WpA.cond_dec rfl (fun _ => ?_) (fun _ => ?_) | refine WpA.cond_not rfl (fun _ => ?_) (fun _ => ?_) | refine WpA.cond rfl (fun _ => ?_) (fun _ => ?_)) | (guard_target =~ RunU _ _ _ _ [] _ _ _ _; first | refine RunU.nilL ?_ | refine RunU.nilD (by kernel_rfl) ?_) | (guard_target =~ RunU _ _ _ _ (Oper.mk _ _ _ _ _ none :: _) _ _ _ _; refine RunU.cons step_any ?_) | refine Then.next ?_ | refine InBlock.next ?_ | refine Done.ret (.cell inferInstance rfl rfl (.one (by first | exact .c rfl | exact .own rfl | exact .als rfl rfl | exact .ptr rfl rfl | exact .part rfl rfl rfl) .nil)) (.sh .nil) ?_ rfl)
     all_goals try (exfalso; omega)
     have e6 : fm (F3 l) i ++ fm (F2 l i) k = fm (F3 l) (i + 1) := by
      rw [fm_step (F3 l) i, ek]; rfl
     exact ⟨i + 1, ⟨by omega, by rw [← e6]; exact hk.2⟩, ⟨_, rfl, rfl, rfl, xR_, xR_, xR_, rfl, by exact own_ints e6, int_eq (by omega), trivial⟩, by omega⟩
   ·have ei : i = l.length - 1 := by omega
    have hlim := limited_c (bB0 l) (top l) (by omega) (by omega) (by rw [top, ← ei]; omega) (top_tops h hb)
    rw [top, ← ei] at hlim
    repeat' (first | (guard_target =~ WpA _ _ _ _ _ _; first | refine WpA.seq ?_ | refine WpA.drawU ?_ | refine WpA.regionU ?_ | refine WpA.block ?_ | refine WpA.ret ?_ | refine WpA.skip ?_ | refine WpA.exit ?_ | refine WpA.cond_true rfl ?_ | refine WpA.cond_false rfl ?_ | refine WpA.cond_ntrue rfl ?_ | refine WpA.cond_dec rfl (fun _ => ?_) (fun _ => ?_) | refine WpA.cond_not rfl (fun _ => ?_) (fun _ => ?_) | refine WpA.cond rfl (fun _ => ?_) (fun _ => ?_)) | (guard_target =~ RunU _ _ _ _ [] _ _ _ _; first | refine RunU.nilL ?_ | refine RunU.nilD (by kernel_rfl) ?_) | (guard_target =~ RunU _ _ _ _ (Oper.mk _ (Op.call ⟨Callee.value _, _, _⟩) _ _ _ none :: _) _ _ _ _; first | refine RunU.cons (sC_ (hlim) (.sh (.sh .nil)) (.sh wS_ (.sh wS_ .nil)) rfl) ?_) | (guard_target =~ RunU _ _ _ _ (Oper.mk _ _ _ _ _ none :: _) _ _ _ _; refine RunU.cons step_any ?_) | refine Then.next ?_ | refine InBlock.next ?_ | refine Done.ret (.cell inferInstance rfl rfl (.one (by first | exact .c rfl | exact .own rfl | exact .als rfl rfl | exact .ptr rfl rfl | exact .part rfl rfl rfl) .nil)) (.sh .nil) ?_ rfl)
    all_goals try (exfalso; omega)
    obtain ⟨p1, p2, p3⟩ := bs_yes h hb
    have p4 := make_eq (bB0 l) (top l)
    rw [p1, p2, p3, ← p4.1, ← p4.2, top, ← ei]; rfl
 ·repeat' (first | (guard_target =~ WpA _ _ _ _ _ _; first | refine WpA.seq ?_ | refine WpA.drawU ?_ | refine WpA.regionU ?_ | refine WpA.block ?_ | refine WpA.ret ?_ | refine WpA.skip ?_ | refine WpA.exit ?_ | refine WpA.cond_true rfl ?_ | refine WpA.cond_false rfl ?_ | refine WpA.cond_ntrue rfl ?_ | refine WpA.cond_dec rfl (fun _ => ?_) (fun _ => ?_) | refine WpA.cond_not rfl (fun _ => ?_) (fun _ => ?_) | refine WpA.cond rfl (fun _ => ?_) (fun _ => ?_)) | (guard_target =~ RunU _ _ _ _ [] _ _ _ _; first | refine RunU.nilL ?_ | refine RunU.nilD (by kernel_rfl) ?_) | (guard_target =~ RunU _ _ _ _ (Oper.mk _ (Op.call ⟨Callee.value _, _, _⟩) _ _ _ none :: _) _ _ _ _; first | refine RunU.cons (sC_ (hbr) (.sh .nil) (.shAgg rfl gA_ .nil) rfl) ?_) | (guard_target =~ RunU _ _ _ _ (Oper.mk _ _ _ _ _ none :: _) _ _ _ _; refine RunU.cons step_any ?_) | refine Then.next ?_ | refine InBlock.next ?_ | refine Done.ret (.cell inferInstance rfl rfl (.one (by first | exact .c rfl | exact .own rfl | exact .als rfl rfl | exact .ptr rfl rfl | exact .part rfl rfl rfl) .nil)) (.sh .nil) ?_ rfl)
  all_goals try (exact absurd ‹_› h)
  obtain ⟨q1, q2, q3⟩ := bs_no h
  rw [q1, q2, q3]; rfl
end Go.Proofs.Ytohhkbbjdjibgaa
