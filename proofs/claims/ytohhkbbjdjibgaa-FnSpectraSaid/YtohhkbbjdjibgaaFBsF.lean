/- The spectrum of a branch, by the reference. No condition. -/
import Derived.Test.YtohhkbbjdjibgaaFSqB
import Derived.Test.YtohhkbbjdjibgaaFBsC
set_option linter.unusedVariables false
set_option linter.unusedSimpArgs false
namespace Go.Proofs.Ytohhkbbjdjibgaa
set_option maxHeartbeats 20000000
open Go.Pv
open Go.ChangeShapes Go.WideShapes Go.ChangeAt Go.RowKit
attribute [local irreducible] RunU WpA Step CallG CallNG Done DoneN
def fm (F : Nat → List Int) (j : Nat) : List Int := (List.range j).flatMap F
theorem fm_zero (F : Nat → List Int) : fm F 0 = [] := rfl
theorem fm_step (F : Nat → List Int) (j : Nat) : fm F (j + 1) = fm F j ++ F j := by
 simp [fm, List.range_succ]
theorem fm_le (F : Nat → List Int) {i : Nat} : ∀ {g : Nat}, i ≤ g → (fm F i).length ≤ (fm F g).length := by
 intro g h
 induction g with
 | zero => rw [Nat.le_zero.1 h]; exact Nat.le_refl _
 | succ g ih =>
  rcases Nat.lt_or_ge i (g + 1) with h1 | h1
  ·have := ih (by omega)
   rw [fm_step, List.length_append]
   omega
  ·rw [Nat.le_antisymm h h1]; exact Nat.le_refl _
theorem fm_more (F : Nat → List Int) {i g : Nat} (h : i < g) : (fm F i).length + (F i).length ≤ (fm F g).length := by
 have := fm_le F (i := i + 1) (g := g) h
 rw [fm_step, List.length_append] at this
 exact this
theorem fm_len {F : Nat → List Int} {c : Nat} (h : ∀ i, (F i).length = c) : ∀ j, (fm F j).length = c * j
 | 0 => by simp [fm]
 | j + 1 => by rw [fm_step, List.length_append, fm_len h j, h, Nat.mul_succ]
def x3 (l : List Int) (i : Nat) : Int := nN l (i + 1) * wW l (i + 1) * eE l (i + 1)
def bot (l : List Int) : Nat → Int
 | 0 => 1
 | i + 1 => cmu (bot l i) (x3 l i)
def big (l : List Int) : Prop := ∃ i, i < l.length ∧ bot l i > 1000000
instance decBig (l : List Int) : Decidable (big l) := by unfold big; infer_instance
theorem IsBr.bot_pos {l : List Int} (h : IsBr l) : ∀ i, i < l.length → 0 < bot l i
 | 0, _ => by simp [bot]
 | i + 1, hi => by
  have h1 := h.bot_pos i (by omega)
  have h2 := h.nwr hi
  obtain ⟨f1, f2, f3, f4, f5, f6⟩ := cmu_facts (a := bot l i) (b := x3 l i) h1 (by unfold x3; omega)
  rw [bot, f1]
  exact Int.mul_pos h1 f3
theorem IsBr.x3dvd {l : List Int} (h : IsBr l) {i : Nat} : ∀ {k : Nat}, i + 1 ≤ k → k < l.length → x3 l i ∣ bot l k
 | 0, hk, _ => absurd hk (by omega)
 | k + 1, hk, hl => by
  have h1 := h.bot_pos k (by omega)
  have h2 := h.nwr hl
  obtain ⟨f1, f2, _⟩ := cmu_facts (a := bot l k) (b := x3 l k) h1 (by unfold x3; omega)
  rcases Nat.lt_or_ge i k with h3 | h3
  ·rw [bot, f1]
   exact Int.dvd_trans (h.x3dvd (k := k) (by omega) (by omega)) (Int.dvd_mul_right ..)
  ·obtain rfl : i = k := by omega
   rw [bot, f2]
   exact Int.dvd_mul_right ..
def bB0 (l : List Int) : Int := bot l (l.length - 1)
def sc (l : List Int) (i : Nat) : Int := bB0 l / x3 l i
def cL (l : List Int) (i k : Nat) : Nat := ((nN l (i + 1) * wW l (i + 1) - ((k : Int) + 1) * wW l (i + 1) - 1) / nN l (i + 1)).toNat
def tT (l : List Int) (i k q s : Nat) : Int := (((k : Int) + 1) * wW l (i + 1) + ((q : Int) + 1) * nN l (i + 1) + (s : Int) * nN l (i + 1) * wW l (i + 1)) * sc l i
def F0 (l : List Int) (i k q s : Nat) : List Int := [tT l i k q s, 2 * bB0 l - tT l i k q s]
def F1 (l : List Int) (i k q : Nat) : List Int := fm (F0 l i k q) (eE l (i + 1)).toNat
def F2 (l : List Int) (i k : Nat) : List Int := fm (F1 l i k) (cL l i k)
def F3 (l : List Int) (i : Nat) : List Int := fm (F2 l i) (nN l (i + 1) - 1).toNat
def top (l : List Int) : List Int := fm (F3 l) (l.length - 1)
theorem place_le (l : List Int) {i k q s : Nat} (hi : i < l.length - 1) (hk : k < (nN l (i + 1) - 1).toNat) (hq : q < cL l i k) (hs : s ≤ (eE l (i + 1)).toNat) :
  (fm (F3 l) i ++ fm (F2 l i) k ++ fm (F1 l i k) q ++ fm (F0 l i k q) s).length ≤ (top l).length := by
 have h1 := fm_more (F3 l) hi
 have h2 := fm_more (F2 l i) hk
 have h3 := fm_more (F1 l i k) hq
 have h4 := fm_le (F0 l i k q) hs
 have e3 : F3 l i = fm (F2 l i) (nN l (i + 1) - 1).toNat := rfl
 have e2 : F2 l i k = fm (F1 l i k) (cL l i k) := rfl
 have e1 : F1 l i k q = fm (F0 l i k q) (eE l (i + 1)).toNat := rfl
 rw [e3] at h1
 rw [e2] at h2
 rw [e1] at h3
 have e0 : top l = fm (F3 l) (l.length - 1) := rfl
 rw [e0]
 simp only [List.length_append]
 omega
theorem cL_iff {l : List Int} (h : IsBr l) {i k q : Nat} : ((k : Int) + 1) * wW l (i + 1) + ((q : Int) + 1) * nN l (i + 1) < nN l (i + 1) * wW l (i + 1) ↔ q < cL l i k := by
 have hn := h.npos i
 unfold cL
 have e : ((q : Int) + 1) ≤ (nN l (i + 1) * wW l (i + 1) - ((k : Int) + 1) * wW l (i + 1) - 1) / nN l (i + 1) ↔ ((q : Int) + 1) * nN l (i + 1) ≤ nN l (i + 1) * wW l (i + 1) - ((k : Int) + 1) * wW l (i + 1) - 1 := Int.le_ediv_iff_mul_le (by omega)
 omega
theorem IsBr.sc_facts {l : List Int} (h : IsBr l) (hb : ¬ big l) {i : Nat} (hi : i + 1 < l.length) : x3 l i * sc l i = bB0 l ∧ 1 ≤ bB0 l ∧ bB0 l ≤ 1000000 ∧ 1 ≤ sc l i ∧ sc l i ≤ 1000000 := by
 have h1 := h.bot_pos (l.length - 1) (by omega)
 have h2 := h.nwr hi
 have h3 := h.x3dvd (i := i) (k := l.length - 1) (by omega) (by omega)
 have h4 : ¬ bB0 l > 1000000 := fun q => hb ⟨l.length - 1, by omega, q⟩
 have hx : 1 ≤ x3 l i := h2.1
 have e1 : x3 l i * sc l i = bB0 l := Int.mul_ediv_cancel' h3
 have h5 : 1 ≤ bB0 l := h1
 have h6 : 0 < sc l i := pos_of_mul (g := x3 l i) (by omega) (by omega)
 have h7 := Int.mul_le_mul_of_nonneg_right hx (show 0 ≤ sc l i by omega)
 refine ⟨e1, h5, by omega, h6, by omega⟩
theorem tops_in {l : List Int} (h : IsBr l) (hb : ¬ big l) {i k q s : Nat} (hi : i + 1 < l.length) (hk : k < (nN l (i + 1) - 1).toNat) (hq : q < cL l i k) (hs : s < (eE l (i + 1)).toNat) :
  (0 ≤ ((k : Int) + 1) * wW l (i + 1) ∧ ((k : Int) + 1) * wW l (i + 1) ≤ 256000) ∧ (0 ≤ ((q : Int) + 1) * nN l (i + 1) ∧ ((q : Int) + 1) * nN l (i + 1) ≤ 256000) ∧ (0 ≤ (s : Int) * nN l (i + 1) ∧ (s : Int) * nN l (i + 1) ≤ 4096) ∧ (0 ≤ (s : Int) * nN l (i + 1) * wW l (i + 1) ∧ (s : Int) * nN l (i + 1) * wW l (i + 1) ≤ 16384000)
  ∧ (0 ≤ tT l i k q s ∧ tT l i k q s ≤ bB0 l) := by
 have hn := h.npos i
 have hn2 := h.n (i + 1)
 have hw := h.wpos i hi
 have he := h.e (i + 1)
 have hx := h.nwr hi
 have hc := (cL_iff h).2 hq
 obtain ⟨s1, s2, s3, s4, s5⟩ := h.sc_facts hb hi
 have a1 : 0 ≤ ((k : Int) + 1) * wW l (i + 1) := Int.mul_nonneg (by omega) (by omega)
 have a2 : 0 ≤ ((q : Int) + 1) * nN l (i + 1) := Int.mul_nonneg (by omega) (by omega)
 have a3 : 0 ≤ (s : Int) * nN l (i + 1) := Int.mul_nonneg (by omega) (by omega)
 have a4 : (s : Int) * nN l (i + 1) ≤ 64 * 64 := Int.mul_le_mul (by omega) (by omega) (by omega) (by omega)
 have a5 : 0 ≤ (s : Int) * nN l (i + 1) * wW l (i + 1) := Int.mul_nonneg a3 (by omega)
 have a6 : (s : Int) * nN l (i + 1) * wW l (i + 1) = (s : Int) * (nN l (i + 1) * wW l (i + 1)) := Int.mul_assoc ..
 have a7 : (s : Int) * (nN l (i + 1) * wW l (i + 1)) ≤ 64 * 256000 := Int.mul_le_mul (by omega) (by omega) (by omega) (by omega)
 have a8 : (s : Int) * (nN l (i + 1) * wW l (i + 1)) ≤ (eE l (i + 1) - 1) * (nN l (i + 1) * wW l (i + 1)) := Int.mul_le_mul_of_nonneg_right (by omega) (by omega)
 have a9 : (eE l (i + 1) - 1) * (nN l (i + 1) * wW l (i + 1)) = x3 l i - nN l (i + 1) * wW l (i + 1) := by
  rw [Int.sub_mul, Int.one_mul, x3, Int.mul_comm (eE l (i + 1))]
 refine ⟨⟨a1, by omega⟩, ⟨a2, by omega⟩, ⟨a3, by omega⟩, ⟨a5, by omega⟩, ?_, ?_⟩
 ·exact Int.mul_nonneg (by omega) (by omega)
 ·rw [← s1]
  exact Int.mul_le_mul_of_nonneg_right (by omega) (by omega)
theorem top_tops {l : List Int} (h : IsBr l) (hb : ¬ big l) : Tops (top l) := by
 refine tops_of fun x hx => ?_
 simp only [top, F3, F2, F1, F0, fm, List.mem_flatMap, List.mem_range] at hx
 obtain ⟨i, hi, k, hk, q, hq, s, hs, hx⟩ := hx
 have h1 := (tops_in h hb (i := i) (by omega) hk hq hs).2.2.2.2
 have h2 := (h.sc_facts hb (i := i) (by omega)).2.2.1
 simp only [List.mem_cons, List.not_mem_nil, or_false] at hx
 omega
def bsB (l : List Int) : Int := if IsBr l then if big l then 0 else mkB (bB0 l) (top l) else 0
def bsS (l : List Int) : List Int := if IsBr l then if big l then [] else mkS (bB0 l) (top l) else []
def bsC (l : List Int) : Int := if IsBr l then if big l then 3 else mkC (bB0 l) (top l) else 1
theorem big_def (l : List Int) : big l ↔ ∃ i, i < l.length ∧ bot l i > 1000000 := Iff.rfl
theorem cL_bnd {l : List Int} (h : IsBr l) {i k q : Nat} (hi : i + 1 < l.length) (hk : k < (nN l (i + 1) - 1).toNat) (hq : q ≤ cL l i k) :
  (0 ≤ ((k : Int) + 1) * wW l (i + 1) ∧ ((k : Int) + 1) * wW l (i + 1) ≤ 256000) ∧ (0 ≤ ((q : Int) + 1) * nN l (i + 1) ∧ ((q : Int) + 1) * nN l (i + 1) ≤ 512000) ∧ q ≤ 256000 := by
 have hn := h.npos i
 have hn2 := h.n (i + 1)
 have hw := h.wpos i hi
 have hx := h.nwr hi
 have a1 : 0 ≤ ((k : Int) + 1) * wW l (i + 1) := Int.mul_nonneg (by omega) (by omega)
 have a2 : ((k : Int) + 1) * wW l (i + 1) ≤ nN l (i + 1) * wW l (i + 1) := Int.mul_le_mul_of_nonneg_right (by omega) (by omega)
 have b1 : 0 ≤ (q : Int) * nN l (i + 1) := Int.mul_nonneg (by omega) (by omega)
 have b2 : (q : Int) * nN l (i + 1) ≤ nN l (i + 1) * wW l (i + 1) := by
  rcases Nat.eq_zero_or_pos q with e | e
  ·subst e; rw [Int.natCast_zero, Int.zero_mul]; omega
  ·have := (cL_iff h (k := k) (q := q - 1) (i := i)).2 (by omega)
   have e2 : (((q - 1 : Nat) : Int) + 1) = q := by omega
   rw [e2] at this
   omega
 have b3 : (q : Int) * 1 ≤ (q : Int) * nN l (i + 1) := Int.mul_le_mul_of_nonneg_left hn (by omega)
 have b4 : ((q : Int) + 1) * nN l (i + 1) = (q : Int) * nN l (i + 1) + nN l (i + 1) := by rw [Int.add_mul, Int.one_mul]
 omega
theorem IsBr.pos {l : List Int} (h : IsBr l) : 0 < l.length := h.1
theorem bs_no {l : List Int} (h : ¬ IsBr l) : bsB l = 0 ∧ bsS l = [] ∧ bsC l = 1 := by
 simp only [bsB, bsS, bsC, if_neg h, and_self]
theorem bs_big {l : List Int} (h : IsBr l) (hb : big l) : bsB l = 0 ∧ bsS l = [] ∧ bsC l = 3 := by
 simp only [bsB, bsS, bsC, if_pos h, if_pos hb, and_self]
theorem bs_many {l : List Int} (h : IsBr l) (hb : ¬ big l) (hm : 400 < (top l).length) : bsB l = 0 ∧ bsS l = [] ∧ bsC l = 3 := by
 simp only [bsB, bsS, bsC, if_pos h, if_neg hb, mkB, mkS, mkC, if_pos (show bB0 l > 1000000 ∨ (top l).length > 400 from .inr hm), and_self]
theorem bs_yes {l : List Int} (h : IsBr l) (hb : ¬ big l) : bsB l = mkB (bB0 l) (top l) ∧ bsS l = mkS (bB0 l) (top l) ∧ bsC l = mkC (bB0 l) (top l) := by
 simp only [bsB, bsS, bsC, if_pos h, if_neg hb, and_self]
theorem l18Pairs_c (l : List Int) (h : IsBr l) : CallA Try.prog 38 [.sh (.agg [.sl false 1 (ints l)])] [rLL (uptoL (wP l) (l.length - 1))] [] := by
 have h7 := h.short
 have h0 := h.1
 have b0 := h.2.1
 have z0 : l.getD 0 0 = eE l 0 := by simp only [eE, divTo, Int.gcd_zero_left]; omega
 refine cA_ _ Try.func38 rfl Try.ntmps38 (by first | exact ⟨rfl, rfl⟩ | (simp only [List.all_cons, List.all_nil, V.solid, D.solid, D.solids, solids_ints, solids_bools, solids_LL, Bool.and_self, Bool.and_true, and_self]; done) | simp [V.solid, D.solid, D.solids, solids_lits, solids_ints, solids_bools, solids_LL]) ?_
 repeat' (first | (guard_target =~ WpA _ _ _ _ _ _; first | refine WpA.seq ?_ | refine WpA.drawU ?_ | refine WpA.regionU ?_ | refine WpA.block ?_ | refine WpA.ret ?_ | refine WpA.skip ?_ | refine WpA.exit ?_ | refine WpA.cond_true rfl ?_ | refine WpA.cond_false rfl ?_ | refine WpA.cond_ntrue rfl ?_ | refine WpA.cond_dec rfl (fun _ => ?_) (fun _ => ?_) | refine WpA.cond_not rfl (fun _ => ?_) (fun _ => ?_) | refine WpA.cond rfl (fun _ => ?_) (fun _ => ?_)) | (guard_target =~ RunU _ _ _ _ [] _ _ _ _; first | refine RunU.nilL ?_ | refine RunU.nilD (by kernel_rfl) ?_) | (guard_target =~ RunU _ _ _ _ (Oper.mk _ _ _ _ _ none :: _) _ _ _ _; refine RunU.cons step_any ?_) | refine Then.next ?_ | refine InBlock.next ?_ | refine Done.ret (.one (by first | exact .c rfl | exact .own rfl | exact .als rfl rfl | exact .ptr rfl rfl | exact .part rfl rfl rfl) .nil) (.sh .nil) ?_ rfl)
 refine WpA.loop_slots2 (fun j id => [(1, .own 1 (.pt true [.sl false 1 (ints l)])), (3, .own id (.sl true 1 (LL (uptoL (wP l) j)))), (4, vI (eE l j)), (5, vI (wW l j)), (6, vI (if j = 0 then 1 else nN l j)), (7, vI ((j : Int) + 1))]) (fun j => j + 1 ≤ l.length) (fun j => l.length - j) 0 _ (by omega) ⟨rfl, by exact own_LL (l := []) rfl, int_eq (by rw [Nat.zero_mul]; exact z0), rfl, rfl, rfl, trivial⟩ ?_
 intro j id s nx hj
 have hll := uptoL_len (wP l) j
 by_cases hlt : j + 1 < l.length
 ·have e1 : (j + 1) * 1 = j + 1 := by omega
  have e2 : ((j : Int) + 1 - 1).toNat * 1 = j := by omega
  have k1 := h.e j
  have k2 := h.e (j + 1)
  have t1 := h.term hlt
  have t2 := h.term (i := j) (by omega)
  have m1 := h.wn (i := j) (by omega)
  have m2 := h.c hlt
  have c1 := h.cbound hlt
  have g1 : ((Int.gcd (eE l j) (l.getD ((j + 1) * 1) 0) : Nat) : Int) = eE l (j + 1) := by rw [e1]; rfl
  have n1 : eE l j / eE l (j + 1) = nN l (j + 1) := rfl
  have w1 : wW l j * (if j = 0 then 1 else nN l j) = wW l j * nN l j := by
   split
   ·rename_i e; subst e; simp [wW]
   ·rfl
  generalize hnn : (if j = 0 then 1 else nN l j) = nn at *
  have gc := gcd_c (eE l j) (l.getD ((j + 1) * 1) 0) (by omega) (by rw [e1]; omega)
  rw [g1] at gc
  rw [← n1] at m1
  rw [← w1] at m1
  by_cases q : 1 < j + 1
  ·have cc : cC l (j + 1) = l.getD ((j + 1) * 1) 0 - l.getD (((j : Int) + 1 - 1).toNat * 1) 0 := by rw [e1, e2, cC, if_pos q]; rfl
   rw [cc] at c1 m2
   repeat' (first | (guard_target =~ WpA _ _ _ _ _ _; first | refine WpA.seq ?_ | refine WpA.drawU ?_ | refine WpA.regionU ?_ | refine WpA.block ?_ | refine WpA.ret ?_ | refine WpA.skip ?_ | refine WpA.exit ?_ | refine WpA.cond_true rfl ?_ | refine WpA.cond_false rfl ?_ | refine WpA.cond_ntrue rfl ?_ | refine WpA.cond_dec rfl (fun _ => ?_) (fun _ => ?_) | refine WpA.cond_not rfl (fun _ => ?_) (fun _ => ?_) | refine WpA.cond rfl (fun _ => ?_) (fun _ => ?_)) | (guard_target =~ RunU _ _ _ _ [] _ _ _ _; first | refine RunU.nilL ?_ | refine RunU.nilD (by kernel_rfl) ?_) | (guard_target =~ RunU _ _ _ _ (Oper.mk _ (Op.call ⟨Callee.value _, _, _⟩) _ _ _ none :: _) _ _ _ _; first | refine RunU.cons (sC_ (gc) (.sh (.sh .nil)) (.sh wS_ (.sh wS_ .nil)) rfl) ?_) | (guard_target =~ RunU _ _ _ _ (Oper.mk _ _ _ _ _ none :: _) _ _ _ _; refine RunU.cons step_any ?_) | refine Then.next ?_ | refine InBlock.next ?_ | refine Done.ret (.one (by first | exact .c rfl | exact .own rfl | exact .als rfl rfl | exact .ptr rfl rfl | exact .part rfl rfl rfl) .nil) (.sh .nil) ?_ rfl)
   all_goals try (exfalso; omega)
   have w2 : wW l j * nn * (eE l j / eE l (j + 1)) + (l.getD ((j + 1) * 1) 0 - l.getD (((j : Int) + 1 - 1).toNat * 1) 0) / eE l (j + 1) = wW l (j + 1) := by
    rw [← cc, w1, n1]; rfl
   have e3 : uptoL (wP l) j ++ [[eE l j / eE l (j + 1), wW l j * nn * (eE l j / eE l (j + 1)) + (l.getD ((j + 1) * 1) 0 - l.getD (((j : Int) + 1 - 1).toNat * 1) 0) / eE l (j + 1), eE l (j + 1)]] = uptoL (wP l) (j + 1) := by
    rw [uptoL_step, w2, n1]; rfl
   exact ⟨j + 1, by omega, ⟨_, rfl, by exact own_LL e3, rfl, int_eq w2, int_eq (by rw [if_neg (by omega)]; exact n1), int_eq (by omega), trivial⟩, by omega⟩
  ·have cc : cC l (j + 1) = l.getD ((j + 1) * 1) 0 - 0 := by rw [e1, cC, if_neg q, Int.sub_zero]
   rw [cc] at c1 m2
   repeat' (first | (guard_target =~ WpA _ _ _ _ _ _; first | refine WpA.seq ?_ | refine WpA.drawU ?_ | refine WpA.regionU ?_ | refine WpA.block ?_ | refine WpA.ret ?_ | refine WpA.skip ?_ | refine WpA.exit ?_ | refine WpA.cond_true rfl ?_ | refine WpA.cond_false rfl ?_ | refine WpA.cond_ntrue rfl ?_ | refine WpA.cond_dec rfl (fun _ => ?_) (fun _ => ?_) | refine WpA.cond_not rfl (fun _ => ?_) (fun _ => ?_) | refine WpA.cond rfl (fun _ => ?_) (fun _ => ?_)) | (guard_target =~ RunU _ _ _ _ [] _ _ _ _; first | refine RunU.nilL ?_ | refine RunU.nilD (by kernel_rfl) ?_) | (guard_target =~ RunU _ _ _ _ (Oper.mk _ (Op.call ⟨Callee.value _, _, _⟩) _ _ _ none :: _) _ _ _ _; first | refine RunU.cons (sC_ (gc) (.sh (.sh .nil)) (.sh wS_ (.sh wS_ .nil)) rfl) ?_) | (guard_target =~ RunU _ _ _ _ (Oper.mk _ _ _ _ _ none :: _) _ _ _ _; refine RunU.cons step_any ?_) | refine Then.next ?_ | refine InBlock.next ?_ | refine Done.ret (.one (by first | exact .c rfl | exact .own rfl | exact .als rfl rfl | exact .ptr rfl rfl | exact .part rfl rfl rfl) .nil) (.sh .nil) ?_ rfl)
   all_goals try (exfalso; omega)
   have w2 : wW l j * nn * (eE l j / eE l (j + 1)) + (l.getD ((j + 1) * 1) 0 - 0) / eE l (j + 1) = wW l (j + 1) := by
    rw [← cc, w1, n1]; rfl
   have e3 : uptoL (wP l) j ++ [[eE l j / eE l (j + 1), wW l j * nn * (eE l j / eE l (j + 1)) + (l.getD ((j + 1) * 1) 0 - 0) / eE l (j + 1), eE l (j + 1)]] = uptoL (wP l) (j + 1) := by
    rw [uptoL_step, w2, n1]; rfl
   exact ⟨j + 1, by omega, ⟨_, rfl, by exact own_LL e3, rfl, int_eq w2, int_eq (by rw [if_neg (by omega)]; exact n1), int_eq (by omega), trivial⟩, by omega⟩
 ·have e0 : j + 1 = l.length := by omega
  repeat' (first | (guard_target =~ WpA _ _ _ _ _ _; first | refine WpA.seq ?_ | refine WpA.drawU ?_ | refine WpA.regionU ?_ | refine WpA.block ?_ | refine WpA.ret ?_ | refine WpA.skip ?_ | refine WpA.exit ?_ | refine WpA.cond_true rfl ?_ | refine WpA.cond_false rfl ?_ | refine WpA.cond_ntrue rfl ?_ | refine WpA.cond_dec rfl (fun _ => ?_) (fun _ => ?_) | refine WpA.cond_not rfl (fun _ => ?_) (fun _ => ?_) | refine WpA.cond rfl (fun _ => ?_) (fun _ => ?_)) | (guard_target =~ RunU _ _ _ _ [] _ _ _ _; first | refine RunU.nilL ?_ | refine RunU.nilD (by kernel_rfl) ?_) | (guard_target =~ RunU _ _ _ _ (Oper.mk _ _ _ _ _ none :: _) _ _ _ _; refine RunU.cons step_any ?_) | refine Then.next ?_ | refine InBlock.next ?_ | refine Done.ret (.one (by first | exact .c rfl | exact .own rfl | exact .als rfl rfl | exact .ptr rfl rfl | exact .part rfl rfl rfl) .nil) (.sh .nil) ?_ rfl)
  all_goals try (exfalso; omega)
  rw [← e0, Nat.add_sub_cancel]
instance fnOk13 : FnOk Try.prog 13 := ⟨_, Try.func13, rfl, by decide⟩
attribute [local irreducible] decIsBr IsBr big decBig
theorem specBranchSpectrum_c (l : List Int) (hl : l.length ≤ 1000000000) : CallA Try.prog 13 [.sh (.agg [.sl false 1 (ints l)])] [rSp (bsB l) (bsS l), rI (bsC l)] [] := by
 refine cA_ _ Try.func13 rfl Try.ntmps13 (by first | exact ⟨rfl, rfl⟩ | (simp only [List.all_cons, List.all_nil, V.solid, D.solid, D.solids, solids_ints, solids_bools, solids_LL, Bool.and_self, Bool.and_true, and_self]; done) | simp [V.solid, D.solid, D.solids, solids_lits, solids_ints, solids_bools, solids_LL]) ?_
 have hbr := specIsBr_c l hl
 by_cases h : IsBr l
 ·have h7 := h.short
  have h0 := h.pos
  have hpa := l18Pairs_c l h
  have hP0 : ∀ i, i < l.length - 1 → ((uptoL (wP l) (l.length - 1)).getD i []).getD 0 0 = nN l (i + 1) := fun i hi => by rw [uptoL_at _ hi]; rfl
  have hP1 : ∀ i, i < l.length - 1 → ((uptoL (wP l) (l.length - 1)).getD i []).getD 1 0 = wW l (i + 1) := fun i hi => by rw [uptoL_at _ hi]; rfl
  have hP2 : ∀ i, i < l.length - 1 → ((uptoL (wP l) (l.length - 1)).getD i []).getD 2 0 = eE l (i + 1) := fun i hi => by rw [uptoL_at _ hi]; rfl
  have hP3 : ∀ i, i < l.length - 1 → ((uptoL (wP l) (l.length - 1)).getD i []).length = 3 := fun i hi => by rw [uptoL_at _ hi]; rfl
  have lP := uptoL_len (wP l) (l.length - 1)
  generalize uptoL (wP l) (l.length - 1) = P at *
  repeat' (first | (guard_target =~ WpA _ _ _ _ _ _; first | refine WpA.seq ?_ | refine WpA.drawU ?_ | refine WpA.regionU ?_ | refine WpA.block ?_ | refine WpA.ret ?_ | refine WpA.skip ?_ | refine WpA.exit ?_ | refine WpA.cond_true rfl ?_ | refine WpA.cond_false rfl ?_ | refine WpA.cond_ntrue rfl ?_ | refine WpA.cond_dec rfl (fun _ => ?_) (fun _ => ?_) | refine WpA.cond_not rfl (fun _ => ?_) (fun _ => ?_) | refine WpA.cond rfl (fun _ => ?_) (fun _ => ?_)) | (guard_target =~ RunU _ _ _ _ [] _ _ _ _; first | refine RunU.nilL ?_ | refine RunU.nilD (by kernel_rfl) ?_) | (guard_target =~ RunU _ _ _ _ (Oper.mk _ (Op.call ⟨Callee.value _, _, _⟩) _ _ _ none :: _) _ _ _ _; first | refine RunU.cons (sC_ (hbr) (.sh .nil) (.shAgg rfl gA_ .nil) rfl) ?_ | refine RunU.cons (sC_ (hpa) (.sh .nil) (.shAgg rfl gA_ .nil) rfl) ?_) | (guard_target =~ RunU _ _ _ _ (Oper.mk _ _ _ _ _ none :: _) _ _ _ _; refine RunU.cons step_any ?_) | (guard_target =~ RunU _ _ _ _ (Oper.mk _ _ _ _ _ (some _) :: _) _ _ _ _; first | refine RunU.pass rfl rfl rfl rfl ?_ | refine RunU.pass_undef rfl rfl rfl ?_ | (guard_target =~ RunU _ _ _ _ (Oper.mk _ (Op.call ⟨Callee.value _, _, _⟩) _ _ _ _ :: _) _ _ _ _; first | refine RunU.doit rfl rfl (sC_ (hbr) (.sh .nil) (.shAgg rfl gA_ .nil) rfl) ?_ | refine RunU.doit rfl rfl (sC_ (hpa) (.sh .nil) (.shAgg rfl gA_ .nil) rfl) ?_) | refine RunU.doit rfl rfl step_any ?_ | ((fail_if_success (refine RunU.doit (rd := []) (up := []) rfl rfl ?_ ?_)); first | refine RunU.guard_dec rfl rfl (fun _ => ?_) (fun _ => ?_) | refine RunU.guard_not rfl rfl (fun _ => ?_) (fun _ => ?_) | refine RunU.guard rfl rfl (fun _ => ?_) (fun _ => ?_))) | refine Then.next ?_ | refine InBlock.next ?_ | refine Done.ret (.cell inferInstance rfl rfl (.one (by first | exact .c rfl | exact .own rfl | exact .als rfl rfl | exact .ptr rfl rfl | exact .part rfl rfl rfl) .nil)) (.sh .nil) ?_ rfl)
  all_goals try (exact absurd h ‹_›)
  refine WpA.loop_slots2 (fun j i4 => [(1, .own 1 (.pt true [.sl false 1 (ints l)])), (2, .own 2 (.pt true [dI 0, dL []])), (3, vI 0), (4, .own i4 (.sl true 1 (LL P))), (5, vI (bot l j)), (6, vI j)]) (fun j => j + 1 ≤ l.length ∧ ∀ i, i ≤ j → bot l i ≤ 1000000) (fun j => l.length - j) 0 _ ⟨by omega, fun i hi => by rw [Nat.le_zero.1 hi]; simp [bot]⟩ ⟨rfl, rfl, rfl, xR_, rfl, rfl, trivial⟩ ?_
  intro j i4 s nx hj
  have b1 := h.bot_pos j (by omega)
  have b2 := hj.2 j (Nat.le_refl _)
  by_cases hlt : j + 1 < l.length
  ·have n1 : (P.getD (j * 1) []).getD (0 * 1) 0 = nN l (j + 1) := by rw [Nat.mul_one]; exact hP0 _ (by omega)
   have w1 : (P.getD (j * 1) []).getD (1 * 1) 0 = wW l (j + 1) := by rw [Nat.mul_one]; exact hP1 _ (by omega)
   have r1 : (P.getD (j * 1) []).getD (2 * 1) 0 = eE l (j + 1) := by rw [Nat.mul_one]; exact hP2 _ (by omega)
   have p3 : (P.getD (j * 1) []).length = 3 := by rw [Nat.mul_one]; exact hP3 _ (by omega)
   have m1 := h.nwr hlt
   have x1 : (P.getD (j * 1) []).getD (0 * 1) 0 * (P.getD (j * 1) []).getD (1 * 1) 0 * (P.getD (j * 1) []).getD (2 * 1) 0 = x3 l j := by rw [n1, w1, r1]; rfl
   have hm : CallA Try.prog 27 [aI (bot l j), aI ((P.getD (j * 1) []).getD (0 * 1) 0 * (P.getD (j * 1) []).getD (1 * 1) 0 * (P.getD (j * 1) []).getD (2 * 1) 0)] [rI (if bot l (j + 1) > 1000000 then 1000001 else bot l (j + 1))] [] := by
    have x2 : 0 < x3 l j ∧ x3 l j ≤ 1000000 := by unfold x3; omega
    have := common_c (bot l j) (x3 l j) (by omega) x2
    rw [cmn_eq (by omega) (by omega)] at this
    rw [x1]
    exact this
   rw [← n1, ← w1, ← r1] at m1
   by_cases hbig : bot l (j + 1) > 1000000
   ·rw [if_pos hbig] at hm
    repeat' (first | (guard_target =~ WpA _ _ _ _ _ _; first | refine WpA.seq ?_ | refine WpA.drawU ?_ | refine WpA.regionU ?_ | refine WpA.block ?_ | refine WpA.ret ?_ | refine WpA.skip ?_ | refine WpA.exit ?_ | refine WpA.cond_true rfl ?_ | refine WpA.cond_false rfl ?_ | refine WpA.cond_ntrue rfl ?_ | refine WpA.cond_dec rfl (fun _ => ?_) (fun _ => ?_) | refine WpA.cond_not rfl (fun _ => ?_) (fun _ => ?_) | refine WpA.cond rfl (fun _ => ?_) (fun _ => ?_)) | (guard_target =~ RunU _ _ _ _ [] _ _ _ _; first | refine RunU.nilL ?_ | refine RunU.nilD (by kernel_rfl) ?_) | (guard_target =~ RunU _ _ _ _ (Oper.mk _ (Op.call ⟨Callee.value _, _, _⟩) _ _ _ none :: _) _ _ _ _; first | refine RunU.cons (sC_ (hm) (.sh (.sh .nil)) (.sh wS_ (.sh wS_ .nil)) rfl) ?_) | (guard_target =~ RunU _ _ _ _ (Oper.mk _ _ _ _ _ none :: _) _ _ _ _; refine RunU.cons step_any ?_) | (guard_target =~ RunU _ _ _ _ (Oper.mk _ _ _ _ _ (some _) :: _) _ _ _ _; first | refine RunU.pass rfl rfl rfl rfl ?_ | refine RunU.pass_undef rfl rfl rfl ?_ | (guard_target =~ RunU _ _ _ _ (Oper.mk _ (Op.call ⟨Callee.value _, _, _⟩) _ _ _ _ :: _) _ _ _ _; first | refine RunU.doit rfl rfl (sC_ (hm) (.sh (.sh .nil)) (.sh wS_ (.sh wS_ .nil)) rfl) ?_) | refine RunU.doit rfl rfl step_any ?_ | ((fail_if_success (refine RunU.doit (rd := []) (up := []) rfl rfl ?_ ?_)); first | refine RunU.guard_dec rfl rfl (fun _ => ?_) (fun _ => ?_) | refine RunU.guard_not rfl rfl (fun _ => ?_) (fun _ => ?_) | refine RunU.guard rfl rfl (fun _ => ?_) (fun _ => ?_))) | refine Then.next ?_ | refine InBlock.next ?_ | refine Done.ret (.cell inferInstance rfl rfl (.one (by first | exact .c rfl | exact .own rfl | exact .als rfl rfl | exact .ptr rfl rfl | exact .part rfl rfl rfl) .nil)) (.sh .nil) ?_ rfl)
    all_goals try (exfalso; omega)
    obtain ⟨q1, q2, q3⟩ := bs_big h ((big_def l).2 ⟨j + 1, hlt, hbig⟩)
    rw [q1, q2, q3]; rfl
   ·rw [if_neg hbig] at hm
    repeat' (first | (guard_target =~ WpA _ _ _ _ _ _; first | refine WpA.seq ?_ | refine WpA.drawU ?_ | refine WpA.regionU ?_ | refine WpA.block ?_ | refine WpA.ret ?_ | refine WpA.skip ?_ | refine WpA.exit ?_ | refine WpA.cond_true rfl ?_ | refine WpA.cond_false rfl ?_ | refine WpA.cond_ntrue rfl ?_ | refine WpA.cond_dec rfl (fun _ => ?_) (fun _ => ?_) | refine WpA.cond_not rfl (fun _ => ?_) (fun _ => ?_) | refine WpA.cond rfl (fun _ => ?_) (fun _ => ?_)) | (guard_target =~ RunU _ _ _ _ [] _ _ _ _; first | refine RunU.nilL ?_ | refine RunU.nilD (by kernel_rfl) ?_) | (guard_target =~ RunU _ _ _ _ (Oper.mk _ (Op.call ⟨Callee.value _, _, _⟩) _ _ _ none :: _) _ _ _ _; first | refine RunU.cons (sC_ (hm) (.sh (.sh .nil)) (.sh wS_ (.sh wS_ .nil)) rfl) ?_) | (guard_target =~ RunU _ _ _ _ (Oper.mk _ _ _ _ _ none :: _) _ _ _ _; refine RunU.cons step_any ?_) | (guard_target =~ RunU _ _ _ _ (Oper.mk _ _ _ _ _ (some _) :: _) _ _ _ _; first | refine RunU.pass rfl rfl rfl rfl ?_ | refine RunU.pass_undef rfl rfl rfl ?_ | (guard_target =~ RunU _ _ _ _ (Oper.mk _ (Op.call ⟨Callee.value _, _, _⟩) _ _ _ _ :: _) _ _ _ _; first | refine RunU.doit rfl rfl (sC_ (hm) (.sh (.sh .nil)) (.sh wS_ (.sh wS_ .nil)) rfl) ?_) | refine RunU.doit rfl rfl step_any ?_ | ((fail_if_success (refine RunU.doit (rd := []) (up := []) rfl rfl ?_ ?_)); first | refine RunU.guard_dec rfl rfl (fun _ => ?_) (fun _ => ?_) | refine RunU.guard_not rfl rfl (fun _ => ?_) (fun _ => ?_) | refine RunU.guard rfl rfl (fun _ => ?_) (fun _ => ?_))) | refine Then.next ?_ | refine InBlock.next ?_ | refine Done.ret (.cell inferInstance rfl rfl (.one (by first | exact .c rfl | exact .own rfl | exact .als rfl rfl | exact .ptr rfl rfl | exact .part rfl rfl rfl) .nil)) (.sh .nil) ?_ rfl)
    all_goals try (exfalso; omega)
    refine ⟨j + 1, ⟨by omega, fun i hi => ?_⟩, ⟨_, rfl, rfl, rfl, xR_, rfl, int_eq (by omega), trivial⟩, by omega⟩
    rcases Nat.lt_or_ge i (j + 1) with k | k
    ·exact hj.2 i (by omega)
    ·rw [Nat.le_antisymm hi k]; omega
  ·have e0 : j = l.length - 1 := by omega
   have hB : bot l j = bB0 l := by rw [e0]; rfl
   have hb : ¬ big l := by
    rw [big_def]
    rintro ⟨i, hi, hi2⟩
    have := hj.2 i (by omega)
    omega
   rw [hB] at b1 b2 ⊢
   clear hbr hpa hj e0 hB
   repeat' (first | (guard_target =~ WpA _ _ _ _ _ _; first | refine WpA.seq ?_ | refine WpA.drawU ?_ | refine WpA.regionU ?_ | refine WpA.block ?_ | refine WpA.ret ?_ | refine WpA.skip ?_ | refine WpA.exit ?_ | refine WpA.cond_true rfl ?_ | refine WpA.cond_false rfl ?_ | refine WpA.cond_ntrue rfl ?_ | refine WpA.cond_dec rfl (fun _ => ?_) (fun _ => ?_) | refine WpA.cond_not rfl (fun _ => ?_) (fun _ => ?_) | refine WpA.cond rfl (fun _ => ?_) (fun _ => ?_)) | (guard_target =~ RunU _ _ _ _ [] _ _ _ _; first | refine RunU.nilL ?_ | refine RunU.nilD (by kernel_rfl) ?_) | (guard_target =~ RunU _ _ _ _ (Oper.mk _ _ _ _ _ none :: _) _ _ _ _; refine RunU.cons step_any ?_) | (guard_target =~ RunU _ _ _ _ (Oper.mk _ _ _ _ _ (some _) :: _) _ _ _ _; first | refine RunU.pass rfl rfl rfl rfl ?_ | refine RunU.pass_undef rfl rfl rfl ?_ | refine RunU.doit rfl rfl step_any ?_ | ((fail_if_success (refine RunU.doit (rd := []) (up := []) rfl rfl ?_ ?_)); first | refine RunU.guard_dec rfl rfl (fun _ => ?_) (fun _ => ?_) | refine RunU.guard_not rfl rfl (fun _ => ?_) (fun _ => ?_) | refine RunU.guard rfl rfl (fun _ => ?_) (fun _ => ?_))) | refine Then.next ?_ | refine InBlock.next ?_ | refine Done.ret (.cell inferInstance rfl rfl (.one (by first | exact .c rfl | exact .own rfl | exact .als rfl rfl | exact .ptr rfl rfl | exact .part rfl rfl rfl) .nil)) (.sh .nil) ?_ rfl)
   all_goals try (exfalso; omega)
   refine WpA.loop_slots2 (fun i id => [(1, .own 1 (.pt true [.sl false 1 (ints l)])), (2, .own 2 (.pt true [dI 0, dL []])), (3, vI 0), (4, .own i4 (.sl true 1 (LL P))), (5, vI (bB0 l)), (10, .own id (.sl true 1 (ints (fm (F3 l) i)))), (11, vI i)]) (fun i => i + 1 ≤ l.length ∧ (fm (F3 l) i).length ≤ 400) (fun i => l.length - i) 0 _ ⟨by omega, by simp [fm]⟩ ⟨rfl, rfl, rfl, xR_, rfl, by exact own_ints (l := []) rfl, rfl, trivial⟩ ?_
   intro i id s nx hi
   by_cases hli : i + 1 < l.length
   ·have n1 : (P.getD (i * 1) []).getD (0 * 1) 0 = nN l (i + 1) := by rw [Nat.mul_one]; exact hP0 _ (by omega)
    have w1 : (P.getD (i * 1) []).getD (1 * 1) 0 = wW l (i + 1) := by rw [Nat.mul_one]; exact hP1 _ (by omega)
    have r1 : (P.getD (i * 1) []).getD (2 * 1) 0 = eE l (i + 1) := by rw [Nat.mul_one]; exact hP2 _ (by omega)
    have p3 : (P.getD (i * 1) []).length = 3 := by rw [Nat.mul_one]; exact hP3 _ (by omega)
    have m1 := h.nwr hli
    have x1 : (P.getD (i * 1) []).getD (0 * 1) 0 * (P.getD (i * 1) []).getD (1 * 1) 0 * (P.getD (i * 1) []).getD (2 * 1) 0 = x3 l i := by rw [n1, w1, r1]; rfl
    have n2 := h.n (i + 1)
    have n3 := h.npos i
    have e2 := h.e (i + 1)
    have w2 := h.wpos i hli
    obtain ⟨s1, s2, s3, s4, s5⟩ := h.sc_facts hb hli
    have q1 : bB0 l / ((P.getD (i * 1) []).getD (0 * 1) 0 * (P.getD (i * 1) []).getD (1 * 1) 0 * (P.getD (i * 1) []).getD (2 * 1) 0) = sc l i := by rw [x1]; rfl
    have m2 := m1
    rw [← n1, ← w1, ← r1] at m2
    repeat' (first | (guard_target =~ WpA _ _ _ _ _ _; first | refine WpA.seq ?_ | refine WpA.drawU ?_ | refine WpA.regionU ?_ | refine WpA.block ?_ | refine WpA.ret ?_ | refine WpA.skip ?_ | refine WpA.exit ?_ | refine WpA.cond_true rfl ?_ | refine WpA.cond_false rfl ?_ | refine WpA.cond_ntrue rfl ?_ | refine WpA.cond_dec rfl (fun _ => ?_) (fun _ => ?_) | refine WpA.cond_not rfl (fun _ => ?_) (fun _ => ?_) | refine WpA.cond rfl (fun _ => ?_) (fun _ => ?_)) | (guard_target =~ RunU _ _ _ _ [] _ _ _ _; first | refine RunU.nilL ?_ | refine RunU.nilD (by kernel_rfl) ?_) | (guard_target =~ RunU _ _ _ _ (Oper.mk _ _ _ _ _ none :: _) _ _ _ _; refine RunU.cons step_any ?_) | (guard_target =~ RunU _ _ _ _ (Oper.mk _ _ _ _ _ (some _) :: _) _ _ _ _; first | refine RunU.pass rfl rfl rfl rfl ?_ | refine RunU.pass_undef rfl rfl rfl ?_ | refine RunU.doit rfl rfl step_any ?_ | ((fail_if_success (refine RunU.doit (rd := []) (up := []) rfl rfl ?_ ?_)); first | refine RunU.guard_dec rfl rfl (fun _ => ?_) (fun _ => ?_) | refine RunU.guard_not rfl rfl (fun _ => ?_) (fun _ => ?_) | refine RunU.guard rfl rfl (fun _ => ?_) (fun _ => ?_))) | refine Then.next ?_ | refine InBlock.next ?_ | refine Done.ret (.cell inferInstance rfl rfl (.one (by first | exact .c rfl | exact .own rfl | exact .als rfl rfl | exact .ptr rfl rfl | exact .part rfl rfl rfl) .nil)) (.sh .nil) ?_ rfl)
    all_goals try (exfalso; omega)
    refine WpA.loop_slots2 (fun k id => [(1, .own 1 (.pt true [.sl false 1 (ints l)])), (2, .own 2 (.pt true [dI 0, dL []])), (3, vI 0), (4, .own i4 (.sl true 1 (LL P))), (5, vI (bB0 l)), (10, .own id (.sl true 1 (ints (fm (F3 l) i ++ fm (F2 l i) k)))), (11, vI i), (12, vI (nN l (i + 1))), (13, vI (wW l (i + 1))), (14, vI (eE l (i + 1))), (15, vI (sc l i)), (16, vI ((k : Int) + 1))]) (fun k => k ≤ (nN l (i + 1) - 1).toNat ∧ (fm (F3 l) i ++ fm (F2 l i) k).length ≤ 400) (fun k => (nN l (i + 1) - 1).toNat - k) 0 _ ⟨by omega, by simpa [fm_zero] using hi.2⟩ ⟨rfl, rfl, rfl, xR_, rfl, by exact own_ints (by simp [fm_zero]), rfl, int_eq n1, int_eq w1, int_eq r1, int_eq q1, rfl, trivial⟩ ?_
    intro k id s nx hk
    by_cases hlk : k < (nN l (i + 1) - 1).toNat
    ·clear n1 w1 r1 x1 q1 m2 p3
     repeat' (first | (guard_target =~ WpA _ _ _ _ _ _; first | refine WpA.seq ?_ | refine WpA.drawU ?_ | refine WpA.regionU ?_ | refine WpA.block ?_ | refine WpA.ret ?_ | refine WpA.skip ?_ | refine WpA.exit ?_ | refine WpA.cond_true rfl ?_ | refine WpA.cond_false rfl ?_ | refine WpA.cond_ntrue rfl ?_ | refine WpA.cond_dec rfl (fun _ => ?_) (fun _ => ?_) | refine WpA.cond_not rfl (fun _ => ?_) (fun _ => ?_) | refine WpA.cond rfl (fun _ => ?_) (fun _ => ?_)) | (guard_target =~ RunU _ _ _ _ [] _ _ _ _; first | refine RunU.nilL ?_ | refine RunU.nilD (by kernel_rfl) ?_) | (guard_target =~ RunU _ _ _ _ (Oper.mk _ _ _ _ _ none :: _) _ _ _ _; refine RunU.cons step_any ?_) | (guard_target =~ RunU _ _ _ _ (Oper.mk _ _ _ _ _ (some _) :: _) _ _ _ _; first | refine RunU.pass rfl rfl rfl rfl ?_ | refine RunU.pass_undef rfl rfl rfl ?_ | refine RunU.doit rfl rfl step_any ?_ | ((fail_if_success (refine RunU.doit (rd := []) (up := []) rfl rfl ?_ ?_)); first | refine RunU.guard_dec rfl rfl (fun _ => ?_) (fun _ => ?_) | refine RunU.guard_not rfl rfl (fun _ => ?_) (fun _ => ?_) | refine RunU.guard rfl rfl (fun _ => ?_) (fun _ => ?_))) | refine Then.next ?_ | refine InBlock.next ?_ | refine Done.ret (.cell inferInstance rfl rfl (.one (by first | exact .c rfl | exact .own rfl | exact .als rfl rfl | exact .ptr rfl rfl | exact .part rfl rfl rfl) .nil)) (.sh .nil) ?_ rfl)
     all_goals try (exfalso; omega)
     refine WpA.loop_slots2 (fun q id => [(1, .own 1 (.pt true [.sl false 1 (ints l)])), (2, .own 2 (.pt true [dI 0, dL []])), (3, vI 0), (4, .own i4 (.sl true 1 (LL P))), (5, vI (bB0 l)), (10, .own id (.sl true 1 (ints (fm (F3 l) i ++ fm (F2 l i) k ++ fm (F1 l i k) q)))), (11, vI i), (12, vI (nN l (i + 1))), (13, vI (wW l (i + 1))), (14, vI (eE l (i + 1))), (15, vI (sc l i)), (16, vI ((k : Int) + 1)), (17, vI ((q : Int) + 1))]) (fun q => q ≤ cL l i k ∧ (fm (F3 l) i ++ fm (F2 l i) k ++ fm (F1 l i k) q).length ≤ 400) (fun q => cL l i k - q) 0 _ ⟨by omega, by simpa [fm_zero] using hk.2⟩ ⟨rfl, rfl, rfl, xR_, rfl, by exact own_ints (by simp [fm_zero]), rfl, rfl, rfl, rfl, rfl, rfl, rfl, trivial⟩ ?_
     intro q id s nx hq
     have hcl : ((k : Int) + 1) * wW l (i + 1) + ((q : Int) + 1) * nN l (i + 1) < nN l (i + 1) * wW l (i + 1) ↔ q < cL l i k := cL_iff h
     have g1 := cL_bnd h hli hlk hq.1
     by_cases hlq : q < cL l i k
     ·have hc' := hcl.2 hlq
      have hqw : ((q : Int) + 1) < wW l (i + 1) := by
       rcases Int.lt_or_le ((q : Int) + 1) (wW l (i + 1)) with x | x
       ·exact x
       ·have y := Int.mul_le_mul_of_nonneg_left x (show 0 ≤ nN l (i + 1) by omega)
        have z := Int.mul_comm (nN l (i + 1)) ((q : Int) + 1)
        omega
      clear hcl
      repeat' (first | (guard_target =~ WpA _ _ _ _ _ _; first | refine WpA.seq ?_ | refine WpA.drawU ?_ | refine WpA.regionU ?_ | refine WpA.block ?_ | refine WpA.ret ?_ | refine WpA.skip ?_ | refine WpA.exit ?_ | refine WpA.cond_true rfl ?_ | refine WpA.cond_false rfl ?_ | refine WpA.cond_ntrue rfl ?_ | refine WpA.cond_dec rfl (fun _ => ?_) (fun _ => ?_) | refine WpA.cond_not rfl (fun _ => ?_) (fun _ => ?_) | refine WpA.cond rfl (fun _ => ?_) (fun _ => ?_)) | (guard_target =~ RunU _ _ _ _ [] _ _ _ _; first | refine RunU.nilL ?_ | refine RunU.nilD (by kernel_rfl) ?_) | (guard_target =~ RunU _ _ _ _ (Oper.mk _ _ _ _ _ none :: _) _ _ _ _; refine RunU.cons step_any ?_) | (guard_target =~ RunU _ _ _ _ (Oper.mk _ _ _ _ _ (some _) :: _) _ _ _ _; first | refine RunU.pass rfl rfl rfl rfl ?_ | refine RunU.pass_undef rfl rfl rfl ?_ | refine RunU.doit rfl rfl step_any ?_ | ((fail_if_success (refine RunU.doit (rd := []) (up := []) rfl rfl ?_ ?_)); first | refine RunU.guard_dec rfl rfl (fun _ => ?_) (fun _ => ?_) | refine RunU.guard_not rfl rfl (fun _ => ?_) (fun _ => ?_) | refine RunU.guard rfl rfl (fun _ => ?_) (fun _ => ?_))) | refine Then.next ?_ | refine InBlock.next ?_ | refine Done.ret (.cell inferInstance rfl rfl (.one (by first | exact .c rfl | exact .own rfl | exact .als rfl rfl | exact .ptr rfl rfl | exact .part rfl rfl rfl) .nil)) (.sh .nil) ?_ rfl)
      all_goals try (exfalso; omega)
      refine WpA.loop_slots2 (fun s id => [(1, .own 1 (.pt true [.sl false 1 (ints l)])), (2, .own 2 (.pt true [dI 0, dL []])), (3, vI 0), (4, .own i4 (.sl true 1 (LL P))), (5, vI (bB0 l)), (10, .own id (.sl true 1 (ints (fm (F3 l) i ++ fm (F2 l i) k ++ fm (F1 l i k) q ++ fm (F0 l i k q) s)))), (11, vI i), (12, vI (nN l (i + 1))), (13, vI (wW l (i + 1))), (14, vI (eE l (i + 1))), (15, vI (sc l i)), (16, vI ((k : Int) + 1)), (17, vI ((q : Int) + 1)), (18, vI s)]) (fun s => s ≤ (eE l (i + 1)).toNat ∧ (fm (F3 l) i ++ fm (F2 l i) k ++ fm (F1 l i k) q ++ fm (F0 l i k q) s).length ≤ 400) (fun s => (eE l (i + 1)).toNat - s) 0 _ ⟨by omega, by simpa [fm_zero] using hq.2⟩ ⟨rfl, rfl, rfl, xR_, rfl, by exact own_ints (by simp [fm_zero]), rfl, rfl, rfl, rfl, rfl, rfl, rfl, rfl, trivial⟩ ?_
      intro z id s nx hz
      have z4 : z ≤ 64 := by omega
      by_cases hlz : z < (eE l (i + 1)).toNat
      ·have t1 := tops_in h hb hli hlk hlq hlz
       have z2 := place_le l (i := i) (k := k) (q := q) (s := z + 1) (by omega) hlk hlq hlz
       have u1 : bB0 l / eE l (i + 1) = nN l (i + 1) * wW l (i + 1) * sc l i := by
        rw [← s1, x3]
        exact Int.ediv_eq_of_eq_mul_left (by omega) (by rw [Int.mul_right_comm])
       have ht : (((k : Int) + 1) * wW l (i + 1) + ((q : Int) + 1) * nN l (i + 1)) * sc l i + (z : Int) * (bB0 l / eE l (i + 1)) = tT l i k q z := by
        rw [u1, ← Int.mul_assoc, ← Int.add_mul, ← Int.mul_assoc]; rfl
       have t2 := t1.2.2.2.2
       rw [← ht] at t2
       have t3 : 0 ≤ (((k : Int) + 1) * wW l (i + 1) + ((q : Int) + 1) * nN l (i + 1)) * sc l i := Int.mul_nonneg (by omega) (by omega)
       have t4 : 0 ≤ bB0 l / eE l (i + 1) := Int.ediv_nonneg (by omega) (by omega)
       have t5 : 0 ≤ (z : Int) * (bB0 l / eE l (i + 1)) := Int.mul_nonneg (by omega) t4
       have e3 : fm (F3 l) i ++ fm (F2 l i) k ++ fm (F1 l i k) q ++ fm (F0 l i k q) z ++ [(((k : Int) + 1) * wW l (i + 1) + ((q : Int) + 1) * nN l (i + 1)) * sc l i + (z : Int) * (bB0 l / eE l (i + 1)), 2 * bB0 l - ((((k : Int) + 1) * wW l (i + 1) + ((q : Int) + 1) * nN l (i + 1)) * sc l i + (z : Int) * (bB0 l / eE l (i + 1)))] = fm (F3 l) i ++ fm (F2 l i) k ++ fm (F1 l i k) q ++ fm (F0 l i k q) (z + 1) := by
        rw [ht, fm_step (F0 l i k q)]
        simp only [List.append_assoc]
        rfl
       have hz2 := hz.2
       generalize hA : fm (F3 l) i ++ fm (F2 l i) k ++ fm (F1 l i k) q ++ fm (F0 l i k q) z = A at *
       generalize hA' : fm (F3 l) i ++ fm (F2 l i) k ++ fm (F1 l i k) q ++ fm (F0 l i k q) (z + 1) = A' at *
       have e4 : A'.length = A.length + 2 := by rw [← e3]; simp
       clear hP0 hP1 hP2 hP3 hi m1 s1 s4 s5 u1 ht hk hlk hq hlq g1 hlt h7 h0 hz
       repeat' (first | (guard_target =~ WpA _ _ _ _ _ _; first | refine WpA.seq ?_ | refine WpA.drawU ?_ | refine WpA.regionU ?_ | refine WpA.block ?_ | refine WpA.ret ?_ | refine WpA.skip ?_ | refine WpA.exit ?_ | refine WpA.cond_true rfl ?_ | refine WpA.cond_false rfl ?_ | refine WpA.cond_ntrue rfl ?_ | refine WpA.cond_dec rfl (fun _ => ?_) (fun _ => ?_) | refine WpA.cond_not rfl (fun _ => ?_) (fun _ => ?_) | refine WpA.cond rfl (fun _ => ?_) (fun _ => ?_)) | (guard_target =~ RunU _ _ _ _ [] _ _ _ _; first | refine RunU.nilL ?_ | refine RunU.nilD (by kernel_rfl) ?_) | (guard_target =~ RunU _ _ _ _ (Oper.mk _ _ _ _ _ none :: _) _ _ _ _; refine RunU.cons step_any ?_) | (guard_target =~ RunU _ _ _ _ (Oper.mk _ _ _ _ _ (some _) :: _) _ _ _ _; first | refine RunU.pass rfl rfl rfl rfl ?_ | refine RunU.pass_undef rfl rfl rfl ?_ | refine RunU.doit rfl rfl step_any ?_ | ((fail_if_success (refine RunU.doit (rd := []) (up := []) rfl rfl ?_ ?_)); first | refine RunU.guard_dec rfl rfl (fun _ => ?_) (fun _ => ?_) | refine RunU.guard_not rfl rfl (fun _ => ?_) (fun _ => ?_) | refine RunU.guard rfl rfl (fun _ => ?_) (fun _ => ?_))) | refine Then.next ?_ | refine InBlock.next ?_ | refine Done.ret (.cell inferInstance rfl rfl (.one (by first | exact .c rfl | exact .own rfl | exact .als rfl rfl | exact .ptr rfl rfl | exact .part rfl rfl rfl) .nil)) (.sh .nil) ?_ rfl)
       all_goals try (exfalso; omega)
       case refine_1.refine_1 h5 h6 =>
        rw [e3] at h6
        obtain ⟨p1, p2, p3⟩ := bs_many h hb (by omega)
        rw [p1, p2, p3]; rfl
       case refine_1.refine_2 h5 h6 =>
        rw [e3] at h6
        exact ⟨z + 1, ⟨by omega, by rw [hA']; omega⟩, ⟨_, rfl, rfl, rfl, xR_, rfl, by exact own_ints (e3.trans hA'.symm), rfl, rfl, rfl, rfl, rfl, rfl, rfl, int_eq (by omega), trivial⟩, by omega⟩
      ·have ez : z = (eE l (i + 1)).toNat := by omega
       have e3 : fm (F3 l) i ++ fm (F2 l i) k ++ fm (F1 l i k) q ++ fm (F0 l i k q) z = fm (F3 l) i ++ fm (F2 l i) k ++ fm (F1 l i k) (q + 1) := by
        rw [fm_step (F1 l i k) q, ez]; simp only [List.append_assoc]; rfl
       have hz2 := hz.2
       rw [e3] at hz2 ⊢
       clear hP0 hP1 hP2 hP3 hz
       repeat' (first | (guard_target =~ WpA _ _ _ _ _ _; first | refine WpA.seq ?_ | refine WpA.drawU ?_ | refine WpA.regionU ?_ | refine WpA.block ?_ | refine WpA.ret ?_ | refine WpA.skip ?_ | refine WpA.exit ?_ | refine WpA.cond_true rfl ?_ | refine WpA.cond_false rfl ?_ | refine WpA.cond_ntrue rfl ?_ | refine WpA.cond_dec rfl (fun _ => ?_) (fun _ => ?_) | refine WpA.cond_not rfl (fun _ => ?_) (fun _ => ?_) | refine WpA.cond rfl (fun _ => ?_) (fun _ => ?_)) | (guard_target =~ RunU _ _ _ _ [] _ _ _ _; first | refine RunU.nilL ?_ | refine RunU.nilD (by kernel_rfl) ?_) | (guard_target =~ RunU _ _ _ _ (Oper.mk _ _ _ _ _ none :: _) _ _ _ _; refine RunU.cons step_any ?_) | (guard_target =~ RunU _ _ _ _ (Oper.mk _ _ _ _ _ (some _) :: _) _ _ _ _; first | refine RunU.pass rfl rfl rfl rfl ?_ | refine RunU.pass_undef rfl rfl rfl ?_ | refine RunU.doit rfl rfl step_any ?_ | ((fail_if_success (refine RunU.doit (rd := []) (up := []) rfl rfl ?_ ?_)); first | refine RunU.guard_dec rfl rfl (fun _ => ?_) (fun _ => ?_) | refine RunU.guard_not rfl rfl (fun _ => ?_) (fun _ => ?_) | refine RunU.guard rfl rfl (fun _ => ?_) (fun _ => ?_))) | refine Then.next ?_ | refine InBlock.next ?_ | refine Done.ret (.cell inferInstance rfl rfl (.one (by first | exact .c rfl | exact .own rfl | exact .als rfl rfl | exact .ptr rfl rfl | exact .part rfl rfl rfl) .nil)) (.sh .nil) ?_ rfl)
       all_goals try (exfalso; omega)
       exact ⟨q + 1, ⟨by omega, by omega⟩, ⟨_, rfl, rfl, rfl, xR_, rfl, xR_, rfl, rfl, rfl, rfl, rfl, rfl, int_eq (by omega), trivial⟩, by omega⟩
     ·have eq : q = cL l i k := by omega
      have e5 : fm (F3 l) i ++ fm (F2 l i) k ++ fm (F1 l i k) q = fm (F3 l) i ++ fm (F2 l i) (k + 1) := by
       rw [fm_step (F2 l i) k, eq, ← List.append_assoc]; rfl
      have hc' : ¬ _ := fun x => hlq (hcl.1 x)
      clear hcl
      repeat' (first | (guard_target =~ WpA _ _ _ _ _ _; first | refine WpA.seq ?_ | refine WpA.drawU ?_ | refine WpA.regionU ?_ | refine WpA.block ?_ | refine WpA.ret ?_ | refine WpA.skip ?_ | refine WpA.exit ?_ | refine WpA.cond_true rfl ?_ | refine WpA.cond_false rfl ?_ | refine WpA.cond_ntrue rfl ?_ | refine WpA.cond_dec rfl (fun _ => ?_) (fun _ => ?_) | refine WpA.cond_not rfl (fun _ => ?_) (fun _ => ?_) | refine WpA.cond rfl (fun _ => ?_) (fun _ => ?_)) | (guard_target =~ RunU _ _ _ _ [] _ _ _ _; first | refine RunU.nilL ?_ | refine RunU.nilD (by kernel_rfl) ?_) | (guard_target =~ RunU _ _ _ _ (Oper.mk _ _ _ _ _ none :: _) _ _ _ _; refine RunU.cons step_any ?_) | (guard_target =~ RunU _ _ _ _ (Oper.mk _ _ _ _ _ (some _) :: _) _ _ _ _; first | refine RunU.pass rfl rfl rfl rfl ?_ | refine RunU.pass_undef rfl rfl rfl ?_ | refine RunU.doit rfl rfl step_any ?_ | ((fail_if_success (refine RunU.doit (rd := []) (up := []) rfl rfl ?_ ?_)); first | refine RunU.guard_dec rfl rfl (fun _ => ?_) (fun _ => ?_) | refine RunU.guard_not rfl rfl (fun _ => ?_) (fun _ => ?_) | refine RunU.guard rfl rfl (fun _ => ?_) (fun _ => ?_))) | refine Then.next ?_ | refine InBlock.next ?_ | refine Done.ret (.cell inferInstance rfl rfl (.one (by first | exact .c rfl | exact .own rfl | exact .als rfl rfl | exact .ptr rfl rfl | exact .part rfl rfl rfl) .nil)) (.sh .nil) ?_ rfl)
      all_goals try (exfalso; omega)
      all_goals exact ⟨k + 1, ⟨by omega, by rw [← e5]; exact hq.2⟩, ⟨_, rfl, rfl, rfl, xR_, rfl, by exact own_ints e5, rfl, rfl, rfl, rfl, rfl, int_eq (by omega), trivial⟩, by omega⟩
    ·have ek : k = (nN l (i + 1) - 1).toNat := by omega
     repeat' (first | (guard_target =~ WpA _ _ _ _ _ _; first | refine WpA.seq ?_ | refine WpA.drawU ?_ | refine WpA.regionU ?_ | refine WpA.block ?_ | refine WpA.ret ?_ | refine WpA.skip ?_ | refine WpA.exit ?_ | refine WpA.cond_true rfl ?_ | refine WpA.cond_false rfl ?_ | refine WpA.cond_ntrue rfl ?_ | refine WpA.cond_dec rfl (fun _ => ?_) (fun _ => ?_) | refine WpA.cond_not rfl (fun _ => ?_) (fun _ => ?_) | refine WpA.cond rfl (fun _ => ?_) (fun _ => ?_)) | (guard_target =~ RunU _ _ _ _ [] _ _ _ _; first | refine RunU.nilL ?_ | refine RunU.nilD (by kernel_rfl) ?_) | (guard_target =~ RunU _ _ _ _ (Oper.mk _ _ _ _ _ none :: _) _ _ _ _; refine RunU.cons step_any ?_) | (guard_target =~ RunU _ _ _ _ (Oper.mk _ _ _ _ _ (some _) :: _) _ _ _ _; first | refine RunU.pass rfl rfl rfl rfl ?_ | refine RunU.pass_undef rfl rfl rfl ?_ | refine RunU.doit rfl rfl step_any ?_ | ((fail_if_success (refine RunU.doit (rd := []) (up := []) rfl rfl ?_ ?_)); first | refine RunU.guard_dec rfl rfl (fun _ => ?_) (fun _ => ?_) | refine RunU.guard_not rfl rfl (fun _ => ?_) (fun _ => ?_) | refine RunU.guard rfl rfl (fun _ => ?_) (fun _ => ?_))) | refine Then.next ?_ | refine InBlock.next ?_ | refine Done.ret (.cell inferInstance rfl rfl (.one (by first | exact .c rfl | exact .own rfl | exact .als rfl rfl | exact .ptr rfl rfl | exact .part rfl rfl rfl) .nil)) (.sh .nil) ?_ rfl)
     all_goals try (exfalso; omega)
     have e6 : fm (F3 l) i ++ fm (F2 l i) k = fm (F3 l) (i + 1) := by
      rw [fm_step (F3 l) i, ek]; rfl
     exact ⟨i + 1, ⟨by omega, by rw [← e6]; exact hk.2⟩, ⟨_, rfl, rfl, rfl, xR_, rfl, by exact own_ints e6, int_eq (by omega), trivial⟩, by omega⟩
   ·have ei : i = l.length - 1 := by omega
    have hlim := l18Make_c (bB0 l) (top l) (by omega) (by omega) (by rw [top, ← ei]; omega) (top_tops h hb)
    rw [top, ← ei] at hlim
    repeat' (first | (guard_target =~ WpA _ _ _ _ _ _; first | refine WpA.seq ?_ | refine WpA.drawU ?_ | refine WpA.regionU ?_ | refine WpA.block ?_ | refine WpA.ret ?_ | refine WpA.skip ?_ | refine WpA.exit ?_ | refine WpA.cond_true rfl ?_ | refine WpA.cond_false rfl ?_ | refine WpA.cond_ntrue rfl ?_ | refine WpA.cond_dec rfl (fun _ => ?_) (fun _ => ?_) | refine WpA.cond_not rfl (fun _ => ?_) (fun _ => ?_) | refine WpA.cond rfl (fun _ => ?_) (fun _ => ?_)) | (guard_target =~ RunU _ _ _ _ [] _ _ _ _; first | refine RunU.nilL ?_ | refine RunU.nilD (by kernel_rfl) ?_) | (guard_target =~ RunU _ _ _ _ (Oper.mk _ (Op.call ⟨Callee.value _, _, _⟩) _ _ _ none :: _) _ _ _ _; first | refine RunU.cons (sC_ (hlim) (.sh (.sh .nil)) (.sh wS_ (.sh wS_ .nil)) rfl) ?_) | (guard_target =~ RunU _ _ _ _ (Oper.mk _ _ _ _ _ none :: _) _ _ _ _; refine RunU.cons step_any ?_) | (guard_target =~ RunU _ _ _ _ (Oper.mk _ _ _ _ _ (some _) :: _) _ _ _ _; first | refine RunU.pass rfl rfl rfl rfl ?_ | refine RunU.pass_undef rfl rfl rfl ?_ | (guard_target =~ RunU _ _ _ _ (Oper.mk _ (Op.call ⟨Callee.value _, _, _⟩) _ _ _ _ :: _) _ _ _ _; first | refine RunU.doit rfl rfl (sC_ (hlim) (.sh (.sh .nil)) (.sh wS_ (.sh wS_ .nil)) rfl) ?_) | refine RunU.doit rfl rfl step_any ?_ | ((fail_if_success (refine RunU.doit (rd := []) (up := []) rfl rfl ?_ ?_)); first | refine RunU.guard_dec rfl rfl (fun _ => ?_) (fun _ => ?_) | refine RunU.guard_not rfl rfl (fun _ => ?_) (fun _ => ?_) | refine RunU.guard rfl rfl (fun _ => ?_) (fun _ => ?_))) | refine Then.next ?_ | refine InBlock.next ?_ | refine Done.ret (.cell inferInstance rfl rfl (.one (by first | exact .c rfl | exact .own rfl | exact .als rfl rfl | exact .ptr rfl rfl | exact .part rfl rfl rfl) .nil)) (.sh .nil) ?_ rfl)
    all_goals try (exfalso; omega)
    obtain ⟨p1, p2, p3⟩ := bs_yes h hb
    rw [p1, p2, p3, top, ← ei]; rfl
 ·repeat' (first | (guard_target =~ WpA _ _ _ _ _ _; first | refine WpA.seq ?_ | refine WpA.drawU ?_ | refine WpA.regionU ?_ | refine WpA.block ?_ | refine WpA.ret ?_ | refine WpA.skip ?_ | refine WpA.exit ?_ | refine WpA.cond_true rfl ?_ | refine WpA.cond_false rfl ?_ | refine WpA.cond_ntrue rfl ?_ | refine WpA.cond_dec rfl (fun _ => ?_) (fun _ => ?_) | refine WpA.cond_not rfl (fun _ => ?_) (fun _ => ?_) | refine WpA.cond rfl (fun _ => ?_) (fun _ => ?_)) | (guard_target =~ RunU _ _ _ _ [] _ _ _ _; first | refine RunU.nilL ?_ | refine RunU.nilD (by kernel_rfl) ?_) | (guard_target =~ RunU _ _ _ _ (Oper.mk _ (Op.call ⟨Callee.value _, _, _⟩) _ _ _ none :: _) _ _ _ _; first | refine RunU.cons (sC_ (hbr) (.sh .nil) (.shAgg rfl gA_ .nil) rfl) ?_) | (guard_target =~ RunU _ _ _ _ (Oper.mk _ _ _ _ _ none :: _) _ _ _ _; refine RunU.cons step_any ?_) | (guard_target =~ RunU _ _ _ _ (Oper.mk _ _ _ _ _ (some _) :: _) _ _ _ _; first | refine RunU.pass rfl rfl rfl rfl ?_ | refine RunU.pass_undef rfl rfl rfl ?_ | (guard_target =~ RunU _ _ _ _ (Oper.mk _ (Op.call ⟨Callee.value _, _, _⟩) _ _ _ _ :: _) _ _ _ _; first | refine RunU.doit rfl rfl (sC_ (hbr) (.sh .nil) (.shAgg rfl gA_ .nil) rfl) ?_) | refine RunU.doit rfl rfl step_any ?_ | ((fail_if_success (refine RunU.doit (rd := []) (up := []) rfl rfl ?_ ?_)); first | refine RunU.guard_dec rfl rfl (fun _ => ?_) (fun _ => ?_) | refine RunU.guard_not rfl rfl (fun _ => ?_) (fun _ => ?_) | refine RunU.guard rfl rfl (fun _ => ?_) (fun _ => ?_))) | refine Then.next ?_ | refine InBlock.next ?_ | refine Done.ret (.cell inferInstance rfl rfl (.one (by first | exact .c rfl | exact .own rfl | exact .als rfl rfl | exact .ptr rfl rfl | exact .part rfl rfl rfl) .nil)) (.sh .nil) ?_ rfl)
  all_goals try (exact absurd ‹_› h)
  obtain ⟨q1, q2, q3⟩ := bs_no h
  rw [q1, q2, q3]; rfl
end Go.Proofs.Ytohhkbbjdjibgaa
