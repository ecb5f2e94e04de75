/- The spectrum of a branch in plain words, and the reference's triples. No condition. -/
import Derived.Test.YtljhfjfccbpddaaRBsE
import Derived.Test.YtljhfjfccbpddaaRSqB
import Derived.Test.YtljhfjfccbpddaaRBsC
import Derived.Test.YtljhfjfccbpddaaRBsD
namespace Go.Proofs.Ytljhfjfccbpddaa
set_option maxHeartbeats 20000000
set_option linter.unusedVariables false
set_option linter.unusedSimpArgs false
open Go.Pv
open Go.ChangeShapes Go.WideShapes Go.ChangeAt Go.RowKit
attribute [local irreducible] RunU WpA Step CallG CallNG Done DoneN
def fm (F : Nat → List Int) (j : Nat) : List Int := (List.range j).flatMap F
theorem fm_zero (F : Nat → List Int) : fm F 0 = [] := rfl
theorem fm_step (F : Nat → List Int) (j : Nat) : fm F (j + 1) = fm F j ++ F j := by
  simp [fm, List.range_succ]
theorem fm_le (F : Nat → List Int) {i : Nat} : ∀ {g : Nat}, i ≤ g → (fm F i).length ≤ (fm F g).length := by
  intro g h
  induction g with
  | zero => rw [Nat.le_zero.1 h]; exact Nat.le_refl _
  | succ g ih =>
    rcases Nat.lt_or_ge i (g + 1) with h1 | h1
    · have := ih (by omega)
      rw [fm_step, List.length_append]
      omega
    · rw [Nat.le_antisymm h h1]; exact Nat.le_refl _
theorem fm_more (F : Nat → List Int) {i g : Nat} (h : i < g) : (fm F i).length + (F i).length ≤ (fm F g).length := by
  have := fm_le F (i := i + 1) (g := g) h
  rw [fm_step, List.length_append] at this
  exact this
def x3 (l : List Int) (i : Nat) : Int := nN l (i + 1) * wW l (i + 1) * eE l (i + 1)
def bot (l : List Int) : Nat → Int
  | 0 => 1
  | i + 1 => cmu (bot l i) (x3 l i)
def big (l : List Int) : Prop := ∃ i, i < l.length ∧ bot l i > 1000000
instance decBig (l : List Int) : Decidable (big l) := by unfold big; infer_instance
theorem IsBr.bot_pos {l : List Int} (h : IsBr l) : ∀ i, i < l.length → 0 < bot l i
  | 0, _ => by simp [bot]
  | i + 1, hi => by
    have h1 := h.bot_pos i (by omega)
    have h2 := h.nwr hi
    obtain ⟨f1, f2, f3, f4, f5, f6⟩ := cmu_facts (a := bot l i) (b := x3 l i) h1 (by unfold x3; omega)
    rw [bot, f1]
    exact Int.mul_pos h1 f3
theorem IsBr.x3dvd {l : List Int} (h : IsBr l) {i : Nat} : ∀ {k : Nat}, i + 1 ≤ k → k < l.length → x3 l i ∣ bot l k
  | 0, hk, _ => absurd hk (by omega)
  | k + 1, hk, hl => by
    have h1 := h.bot_pos k (by omega)
    have h2 := h.nwr hl
    obtain ⟨f1, f2, _⟩ := cmu_facts (a := bot l k) (b := x3 l k) h1 (by unfold x3; omega)
    rcases Nat.lt_or_ge i k with h3 | h3
    · rw [bot, f1]
      exact Int.dvd_trans (h.x3dvd (k := k) (by omega) (by omega)) (Int.dvd_mul_right ..)
    · obtain rfl : i = k := by omega
      rw [bot, f2]
      exact Int.dvd_mul_right ..
def bB0 (l : List Int) : Int := bot l (l.length - 1)
def sc (l : List Int) (i : Nat) : Int := bB0 l / x3 l i
def cL (l : List Int) (i k : Nat) : Nat := ((nN l (i + 1) * wW l (i + 1) - ((k : Int) + 1) * wW l (i + 1) - 1) / nN l (i + 1)).toNat
def tT (l : List Int) (i k q s : Nat) : Int := (((k : Int) + 1) * wW l (i + 1) + ((q : Int) + 1) * nN l (i + 1) + (s : Int) * nN l (i + 1) * wW l (i + 1)) * sc l i
def F0 (l : List Int) (i k q s : Nat) : List Int := [tT l i k q s, 2 * bB0 l - tT l i k q s]
def F1 (l : List Int) (i k q : Nat) : List Int := fm (F0 l i k q) (eE l (i + 1)).toNat
def F2 (l : List Int) (i k : Nat) : List Int := fm (F1 l i k) (cL l i k)
def F3 (l : List Int) (i : Nat) : List Int := fm (F2 l i) (nN l (i + 1) - 1).toNat
def top (l : List Int) : List Int := fm (F3 l) (l.length - 1)
theorem place_le (l : List Int) {i k q s : Nat} (hi : i < l.length - 1) (hk : k < (nN l (i + 1) - 1).toNat) (hq : q < cL l i k) (hs : s ≤ (eE l (i + 1)).toNat) :
    (fm (F3 l) i ++ fm (F2 l i) k ++ fm (F1 l i k) q ++ fm (F0 l i k q) s).length ≤ (top l).length := by
  have h1 := fm_more (F3 l) hi
  have h2 := fm_more (F2 l i) hk
  have h3 := fm_more (F1 l i k) hq
  have h4 := fm_le (F0 l i k q) hs
  have e3 : F3 l i = fm (F2 l i) (nN l (i + 1) - 1).toNat := rfl
  have e2 : F2 l i k = fm (F1 l i k) (cL l i k) := rfl
  have e1 : F1 l i k q = fm (F0 l i k q) (eE l (i + 1)).toNat := rfl
  rw [e3] at h1
  rw [e2] at h2
  rw [e1] at h3
  have e0 : top l = fm (F3 l) (l.length - 1) := rfl
  rw [e0]
  simp only [List.length_append]
  omega
theorem cL_iff {l : List Int} (h : IsBr l) {i k q : Nat} : ((k : Int) + 1) * wW l (i + 1) + ((q : Int) + 1) * nN l (i + 1) < nN l (i + 1) * wW l (i + 1) ↔ q < cL l i k := by
  have hn := h.npos i
  unfold cL
  have e : ((q : Int) + 1) ≤ (nN l (i + 1) * wW l (i + 1) - ((k : Int) + 1) * wW l (i + 1) - 1) / nN l (i + 1) ↔ ((q : Int) + 1) * nN l (i + 1) ≤ nN l (i + 1) * wW l (i + 1) - ((k : Int) + 1) * wW l (i + 1) - 1 := Int.le_ediv_iff_mul_le (by omega)
  omega
theorem IsBr.sc_facts {l : List Int} (h : IsBr l) (hb : ¬ big l) {i : Nat} (hi : i + 1 < l.length) : x3 l i * sc l i = bB0 l ∧ 1 ≤ bB0 l ∧ bB0 l ≤ 1000000 ∧ 1 ≤ sc l i ∧ sc l i ≤ 1000000 := by
  have h1 := h.bot_pos (l.length - 1) (by omega)
  have h2 := h.nwr hi
  have h3 := h.x3dvd (i := i) (k := l.length - 1) (by omega) (by omega)
  have h4 : ¬ bB0 l > 1000000 := fun q => hb ⟨l.length - 1, by omega, q⟩
  have hx : 1 ≤ x3 l i := h2.1
  have e1 : x3 l i * sc l i = bB0 l := Int.mul_ediv_cancel' h3
  have h5 : 1 ≤ bB0 l := h1
  have h6 : 0 < sc l i := pos_of_mul (g := x3 l i) (by omega) (by omega)
  have h7 := Int.mul_le_mul_of_nonneg_right hx (show 0 ≤ sc l i by omega)
  refine ⟨e1, h5, by omega, h6, by omega⟩
theorem tops_in {l : List Int} (h : IsBr l) (hb : ¬ big l) {i k q s : Nat} (hi : i + 1 < l.length) (hk : k < (nN l (i + 1) - 1).toNat) (hq : q < cL l i k) (hs : s < (eE l (i + 1)).toNat) :
    (0 ≤ ((k : Int) + 1) * wW l (i + 1) ∧ ((k : Int) + 1) * wW l (i + 1) ≤ 256000) ∧ (0 ≤ ((q : Int) + 1) * nN l (i + 1) ∧ ((q : Int) + 1) * nN l (i + 1) ≤ 256000) ∧ (0 ≤ (s : Int) * nN l (i + 1) ∧ (s : Int) * nN l (i + 1) ≤ 4096) ∧ (0 ≤ (s : Int) * nN l (i + 1) * wW l (i + 1) ∧ (s : Int) * nN l (i + 1) * wW l (i + 1) ≤ 16384000)
    ∧ (0 ≤ tT l i k q s ∧ tT l i k q s ≤ bB0 l) := by
  have hn := h.npos i
  have hn2 := h.n (i + 1)
  have hw := h.wpos i hi
  have he := h.e (i + 1)
  have hx := h.nwr hi
  have hc := (cL_iff h).2 hq
  obtain ⟨s1, s2, s3, s4, s5⟩ := h.sc_facts hb hi
  have a1 : 0 ≤ ((k : Int) + 1) * wW l (i + 1) := Int.mul_nonneg (by omega) (by omega)
  have a2 : 0 ≤ ((q : Int) + 1) * nN l (i + 1) := Int.mul_nonneg (by omega) (by omega)
  have a3 : 0 ≤ (s : Int) * nN l (i + 1) := Int.mul_nonneg (by omega) (by omega)
  have a4 : (s : Int) * nN l (i + 1) ≤ 64 * 64 := Int.mul_le_mul (by omega) (by omega) (by omega) (by omega)
  have a5 : 0 ≤ (s : Int) * nN l (i + 1) * wW l (i + 1) := Int.mul_nonneg a3 (by omega)
  have a6 : (s : Int) * nN l (i + 1) * wW l (i + 1) = (s : Int) * (nN l (i + 1) * wW l (i + 1)) := Int.mul_assoc ..
  have a7 : (s : Int) * (nN l (i + 1) * wW l (i + 1)) ≤ 64 * 256000 := Int.mul_le_mul (by omega) (by omega) (by omega) (by omega)
  have a8 : (s : Int) * (nN l (i + 1) * wW l (i + 1)) ≤ (eE l (i + 1) - 1) * (nN l (i + 1) * wW l (i + 1)) := Int.mul_le_mul_of_nonneg_right (by omega) (by omega)
  have a9 : (eE l (i + 1) - 1) * (nN l (i + 1) * wW l (i + 1)) = x3 l i - nN l (i + 1) * wW l (i + 1) := by
    rw [Int.sub_mul, Int.one_mul, x3, Int.mul_comm (eE l (i + 1))]
  refine ⟨⟨a1, by omega⟩, ⟨a2, by omega⟩, ⟨a3, by omega⟩, ⟨a5, by omega⟩, ?_, ?_⟩
  · exact Int.mul_nonneg (by omega) (by omega)
  · rw [← s1]
    exact Int.mul_le_mul_of_nonneg_right (by omega) (by omega)
theorem top_tops {l : List Int} (h : IsBr l) (hb : ¬ big l) : Tops (top l) := by
  refine tops_of fun x hx => ?_
  simp only [top, F3, F2, F1, F0, fm, List.mem_flatMap, List.mem_range] at hx
  obtain ⟨i, hi, k, hk, q, hq, s, hs, hx⟩ := hx
  have h1 := (tops_in h hb (i := i) (by omega) hk hq hs).2.2.2.2
  have h2 := (h.sc_facts hb (i := i) (by omega)).2.2.1
  simp only [List.mem_cons, List.not_mem_nil, or_false] at hx
  omega
def bsB (l : List Int) : Int := if IsBr l then if big l then 0 else mkB (bB0 l) (top l) else 0
def bsS (l : List Int) : List Int := if IsBr l then if big l then [] else mkS (bB0 l) (top l) else []
def bsC (l : List Int) : Int := if IsBr l then if big l then 3 else mkC (bB0 l) (top l) else 1
theorem big_def (l : List Int) : big l ↔ ∃ i, i < l.length ∧ bot l i > 1000000 := Iff.rfl
theorem cL_bnd {l : List Int} (h : IsBr l) {i k q : Nat} (hi : i + 1 < l.length) (hk : k < (nN l (i + 1) - 1).toNat) (hq : q ≤ cL l i k) :
    (0 ≤ ((k : Int) + 1) * wW l (i + 1) ∧ ((k : Int) + 1) * wW l (i + 1) ≤ 256000) ∧ (0 ≤ ((q : Int) + 1) * nN l (i + 1) ∧ ((q : Int) + 1) * nN l (i + 1) ≤ 512000) ∧ q ≤ 256000 := by
  have hn := h.npos i
  have hn2 := h.n (i + 1)
  have hw := h.wpos i hi
  have hx := h.nwr hi
  have a1 : 0 ≤ ((k : Int) + 1) * wW l (i + 1) := Int.mul_nonneg (by omega) (by omega)
  have a2 : ((k : Int) + 1) * wW l (i + 1) ≤ nN l (i + 1) * wW l (i + 1) := Int.mul_le_mul_of_nonneg_right (by omega) (by omega)
  have b1 : 0 ≤ (q : Int) * nN l (i + 1) := Int.mul_nonneg (by omega) (by omega)
  have b2 : (q : Int) * nN l (i + 1) ≤ nN l (i + 1) * wW l (i + 1) := by
    rcases Nat.eq_zero_or_pos q with e | e
    · subst e; rw [Int.natCast_zero, Int.zero_mul]; omega
    · have := (cL_iff h (k := k) (q := q - 1) (i := i)).2 (by omega)
      have e2 : (((q - 1 : Nat) : Int) + 1) = q := by omega
      rw [e2] at this
      omega
  have b3 : (q : Int) * 1 ≤ (q : Int) * nN l (i + 1) := Int.mul_le_mul_of_nonneg_left hn (by omega)
  have b4 : ((q : Int) + 1) * nN l (i + 1) = (q : Int) * nN l (i + 1) + nN l (i + 1) := by rw [Int.add_mul, Int.one_mul]
  omega
theorem IsBr.pos {l : List Int} (h : IsBr l) : 0 < l.length := h.1
theorem bs_no {l : List Int} (h : ¬ IsBr l) : bsB l = 0 ∧ bsS l = [] ∧ bsC l = 1 := by
  simp only [bsB, bsS, bsC, if_neg h, and_self]
theorem bs_big {l : List Int} (h : IsBr l) (hb : big l) : bsB l = 0 ∧ bsS l = [] ∧ bsC l = 3 := by
  simp only [bsB, bsS, bsC, if_pos h, if_pos hb, and_self]
theorem bs_many {l : List Int} (h : IsBr l) (hb : ¬ big l) (hm : 400 < (top l).length) : bsB l = 0 ∧ bsS l = [] ∧ bsC l = 3 := by
  simp only [bsB, bsS, bsC, if_pos h, if_neg hb, mkB, mkS, mkC, if_pos (show bB0 l > 1000000 ∨ (top l).length > 400 from .inr hm), and_self]
theorem bs_yes {l : List Int} (h : IsBr l) (hb : ¬ big l) : bsB l = mkB (bB0 l) (top l) ∧ bsS l = mkS (bB0 l) (top l) ∧ bsC l = mkC (bB0 l) (top l) := by
  simp only [bsB, bsS, bsC, if_pos h, if_neg hb, and_self]
theorem l18Pairs_c (l : List Int) (h : IsBr l) : CallA Try.prog 86 [.sh (.agg [.sl false 1 (ints l)])] [rLL (uptoL (wP l) (l.length - 1))] [] := by
  have h7 := h.short
  have h0 := h.1
  have b0 := h.2.1
  have z0 : l.getD 0 0 = eE l 0 := by simp only [eE, divTo, Int.gcd_zero_left]; omega
  refine callA_of _ Try.func86 rfl Try.ntmps86 (by first | exact ⟨rfl, rfl⟩ | (simp only [List.all_cons, List.all_nil, V.solid, D.solid, D.solids, solids_ints, solids_bools, solids_LL, Bool.and_self, Bool.and_true, and_self]; done) | simp [V.solid, D.solid, D.solids, solids_lits, solids_ints, solids_bools, solids_LL]) ?_
  repeat' (first | (guard_target =~ WpA _ _ _ _ _ _; first | refine WpA.seq ?_ | refine WpA.drawU ?_ | refine WpA.regionU ?_ | refine WpA.block ?_ | refine WpA.ret ?_ | refine WpA.skip ?_ | refine WpA.exit ?_ | refine WpA.cond_true rfl ?_ | refine WpA.cond_false rfl ?_ | refine WpA.cond_ntrue rfl ?_ | refine WpA.cond_dec rfl (fun _ => ?_) (fun _ => ?_) | refine WpA.cond_not rfl (fun _ => ?_) (fun _ => ?_) | refine WpA.cond rfl (fun _ => ?_) (fun _ => ?_)) | (guard_target =~ RunU _ _ _ _ [] _ _ _ _; first | refine RunU.nilL ?_ | refine RunU.nilD (by kernel_rfl) ?_) | (guard_target =~ RunU _ _ _ _ (Oper.mk _ _ _ _ _ none :: _) _ _ _ _; refine RunU.cons step_any ?_) | refine Then.next ?_ | refine InBlock.next ?_ | refine Done.ret (.one (by first | exact .c rfl | exact .own rfl | exact .als rfl rfl | exact .ptr rfl rfl | exact .part rfl rfl rfl) .nil) (.sh .nil) ?_ rfl)
  refine WpA.loop_slots2 (fun j id => [(1, .own 1 (.pt true [.sl false 1 (ints l)])), (3, .own id (.sl true 1 (LL (uptoL (wP l) j)))), (4, vI (eE l j)), (5, vI (wW l j)), (6, vI (if j = 0 then 1 else nN l j)), (7, vI ((j : Int) + 1))]) (fun j => j + 1 ≤ l.length) (fun j => l.length - j) 0 _ (by omega) ⟨rfl, by exact own_LL (l := []) rfl, int_eq (by rw [Nat.zero_mul]; exact z0), rfl, rfl, rfl, trivial⟩ ?_
  intro j id s nx hj
  have hll := uptoL_len (wP l) j
  by_cases hlt : j + 1 < l.length
  · have e1 : (j + 1) * 1 = j + 1 := by omega
    have e2 : ((j : Int) + 1 - 1).toNat * 1 = j := by omega
    have k1 := h.e j
    have k2 := h.e (j + 1)
    have t1 := h.term hlt
    have t2 := h.term (i := j) (by omega)
    have m1 := h.wn (i := j) (by omega)
    have m2 := h.c hlt
    have c1 := h.cbound hlt
    have g1 : ((Int.gcd (eE l j) (l.getD ((j + 1) * 1) 0) : Nat) : Int) = eE l (j + 1) := by rw [e1]; rfl
    have n1 : eE l j / eE l (j + 1) = nN l (j + 1) := rfl
    have w1 : wW l j * (if j = 0 then 1 else nN l j) = wW l j * nN l j := by
      split
      · rename_i e; subst e; simp [wW]
      · rfl
    generalize hnn : (if j = 0 then 1 else nN l j) = nn at *
    have gc := gcd_c (eE l j) (l.getD ((j + 1) * 1) 0) (by omega) (by rw [e1]; omega)
    rw [g1] at gc
    rw [← n1] at m1
    rw [← w1] at m1
    by_cases q : 1 < j + 1
    · have cc : cC l (j + 1) = l.getD ((j + 1) * 1) 0 - l.getD (((j : Int) + 1 - 1).toNat * 1) 0 := by rw [e1, e2, cC, if_pos q]; rfl
      rw [cc] at c1 m2
      repeat' (first | (guard_target =~ WpA _ _ _ _ _ _; first | refine WpA.seq ?_ | refine WpA.drawU ?_ | refine WpA.regionU ?_ | refine WpA.block ?_ | refine WpA.ret ?_ | refine WpA.skip ?_ | refine WpA.exit ?_ | refine WpA.cond_true rfl ?_ | refine WpA.cond_false rfl ?_ | refine WpA.cond_ntrue rfl ?_ | refine WpA.cond_dec rfl (fun _ => ?_) (fun _ => ?_) | refine WpA.cond_not rfl (fun _ => ?_) (fun _ => ?_) | refine WpA.cond rfl (fun _ => ?_) (fun _ => ?_)) | (guard_target =~ RunU _ _ _ _ [] _ _ _ _; first | refine RunU.nilL ?_ | refine RunU.nilD (by kernel_rfl) ?_) | (guard_target =~ RunU _ _ _ _ (Oper.mk _ (Op.call ⟨Callee.value _, _, _⟩) _ _ _ none :: _) _ _ _ _; first | refine RunU.cons (step_call (gc) (.sh (.sh .nil)) (.sh shows_any (.sh shows_any .nil)) rfl) ?_) | (guard_target =~ RunU _ _ _ _ (Oper.mk _ _ _ _ _ none :: _) _ _ _ _; refine RunU.cons step_any ?_) | refine Then.next ?_ | refine InBlock.next ?_ | refine Done.ret (.one (by first | exact .c rfl | exact .own rfl | exact .als rfl rfl | exact .ptr rfl rfl | exact .part rfl rfl rfl) .nil) (.sh .nil) ?_ rfl)
      all_goals try (exfalso; omega)
      have w2 : wW l j * nn * (eE l j / eE l (j + 1)) + (l.getD ((j + 1) * 1) 0 - l.getD (((j : Int) + 1 - 1).toNat * 1) 0) / eE l (j + 1) = wW l (j + 1) := by
        rw [← cc, w1, n1]; rfl
      have e3 : uptoL (wP l) j ++ [[eE l j / eE l (j + 1), wW l j * nn * (eE l j / eE l (j + 1)) + (l.getD ((j + 1) * 1) 0 - l.getD (((j : Int) + 1 - 1).toNat * 1) 0) / eE l (j + 1), eE l (j + 1)]] = uptoL (wP l) (j + 1) := by
        rw [uptoL_step, w2, n1]; rfl
      exact ⟨j + 1, by omega, ⟨_, rfl, by exact own_LL e3, rfl, int_eq w2, int_eq (by rw [if_neg (by omega)]; exact n1), int_eq (by omega), trivial⟩, by omega⟩
    · have cc : cC l (j + 1) = l.getD ((j + 1) * 1) 0 - 0 := by rw [e1, cC, if_neg q, Int.sub_zero]
      rw [cc] at c1 m2
      repeat' (first | (guard_target =~ WpA _ _ _ _ _ _; first | refine WpA.seq ?_ | refine WpA.drawU ?_ | refine WpA.regionU ?_ | refine WpA.block ?_ | refine WpA.ret ?_ | refine WpA.skip ?_ | refine WpA.exit ?_ | refine WpA.cond_true rfl ?_ | refine WpA.cond_false rfl ?_ | refine WpA.cond_ntrue rfl ?_ | refine WpA.cond_dec rfl (fun _ => ?_) (fun _ => ?_) | refine WpA.cond_not rfl (fun _ => ?_) (fun _ => ?_) | refine WpA.cond rfl (fun _ => ?_) (fun _ => ?_)) | (guard_target =~ RunU _ _ _ _ [] _ _ _ _; first | refine RunU.nilL ?_ | refine RunU.nilD (by kernel_rfl) ?_) | (guard_target =~ RunU _ _ _ _ (Oper.mk _ (Op.call ⟨Callee.value _, _, _⟩) _ _ _ none :: _) _ _ _ _; first | refine RunU.cons (step_call (gc) (.sh (.sh .nil)) (.sh shows_any (.sh shows_any .nil)) rfl) ?_) | (guard_target =~ RunU _ _ _ _ (Oper.mk _ _ _ _ _ none :: _) _ _ _ _; refine RunU.cons step_any ?_) | refine Then.next ?_ | refine InBlock.next ?_ | refine Done.ret (.one (by first | exact .c rfl | exact .own rfl | exact .als rfl rfl | exact .ptr rfl rfl | exact .part rfl rfl rfl) .nil) (.sh .nil) ?_ rfl)
      all_goals try (exfalso; omega)
      have w2 : wW l j * nn * (eE l j / eE l (j + 1)) + (l.getD ((j + 1) * 1) 0 - 0) / eE l (j + 1) = wW l (j + 1) := by
        rw [← cc, w1, n1]; rfl
      have e3 : uptoL (wP l) j ++ [[eE l j / eE l (j + 1), wW l j * nn * (eE l j / eE l (j + 1)) + (l.getD ((j + 1) * 1) 0 - 0) / eE l (j + 1), eE l (j + 1)]] = uptoL (wP l) (j + 1) := by
        rw [uptoL_step, w2, n1]; rfl
      exact ⟨j + 1, by omega, ⟨_, rfl, by exact own_LL e3, rfl, int_eq w2, int_eq (by rw [if_neg (by omega)]; exact n1), int_eq (by omega), trivial⟩, by omega⟩
  · have e0 : j + 1 = l.length := by omega
    repeat' (first | (guard_target =~ WpA _ _ _ _ _ _; first | refine WpA.seq ?_ | refine WpA.drawU ?_ | refine WpA.regionU ?_ | refine WpA.block ?_ | refine WpA.ret ?_ | refine WpA.skip ?_ | refine WpA.exit ?_ | refine WpA.cond_true rfl ?_ | refine WpA.cond_false rfl ?_ | refine WpA.cond_ntrue rfl ?_ | refine WpA.cond_dec rfl (fun _ => ?_) (fun _ => ?_) | refine WpA.cond_not rfl (fun _ => ?_) (fun _ => ?_) | refine WpA.cond rfl (fun _ => ?_) (fun _ => ?_)) | (guard_target =~ RunU _ _ _ _ [] _ _ _ _; first | refine RunU.nilL ?_ | refine RunU.nilD (by kernel_rfl) ?_) | (guard_target =~ RunU _ _ _ _ (Oper.mk _ _ _ _ _ none :: _) _ _ _ _; refine RunU.cons step_any ?_) | refine Then.next ?_ | refine InBlock.next ?_ | refine Done.ret (.one (by first | exact .c rfl | exact .own rfl | exact .als rfl rfl | exact .ptr rfl rfl | exact .part rfl rfl rfl) .nil) (.sh .nil) ?_ rfl)
    all_goals try (exfalso; omega)
    rw [← e0, Nat.add_sub_cancel]
end Go.Proofs.Ytljhfjfccbpddaa
