/- The numbers w of a branch, by the program and by the reference. No condition. -/
import Derived.Test.YtfkhngjkpjcdfaaBsB
import Derived.Test.YtfkhngjkpjcdfaaSqB
namespace Go.Proofs.Ytfkhngjkpjcdfaa
set_option maxHeartbeats 2000000
set_option linter.unusedVariables false
set_option linter.unusedSimpArgs false
open Go.Pv
open Go.ChangeShapes Go.WideShapes Go.ChangeAt Go.RowKit
attribute [local irreducible] RunU WpA Step CallG Done
theorem IsBr.dvd {l : List Int} (h : IsBr l) (i : Nat) : nN l (i + 1) * eE l (i + 1) = eE l i := by
  have h2 := h.e (i + 1)
  have h3 : eE l (i + 1) ∣ eE l i := by
    unfold eE
    conv => lhs; rw [divTo]
    exact Int.gcd_dvd_left ..
  exact Int.ediv_mul_cancel h3
/-- The generators. -/
def bB (l : List Int) (i : Nat) : Int := wW l i * eE l i
theorem IsBr.cbound {l : List Int} (h : IsBr l) {i : Nat} (hi : i + 1 < l.length) : 0 ≤ cC l (i + 1) ∧ cC l (i + 1) ≤ 2000 := by
  have ht := h.term hi
  unfold cC
  split
  · have := h.2.2.1 (i + 1) hi (by omega)
    have ht2 := h.term (i := i + 1 - 1) (by omega)
    omega
  · omega
theorem IsBr.gen {l : List Int} (h : IsBr l) {i : Nat} (hi : i + 1 < l.length) : bB l (i + 1) ≤ nN l i * bB l i + 2000 ∧ 0 ≤ bB l (i + 1) := by
  have hc := h.cbound hi
  have he := h.e (i + 1)
  have hw := h.w (i + 1) hi
  have hd := h.dvd i
  refine ⟨?_, Int.mul_nonneg hw.1 (by omega)⟩
  have h1 : cC l (i + 1) / eE l (i + 1) * eE l (i + 1) ≤ cC l (i + 1) := Int.ediv_mul_le _ (by omega)
  have h2 : bB l (i + 1) = wW l i * nN l i * (nN l (i + 1) * eE l (i + 1)) + cC l (i + 1) / eE l (i + 1) * eE l (i + 1) := by
    rw [bB, wW, Int.add_mul, Int.mul_assoc (wW l i * nN l i)]
  have h3 : wW l i * nN l i * eE l i = nN l i * bB l i := by
    rw [bB, Int.mul_comm (wW l i), Int.mul_assoc]
  rw [h2, hd, h3]
  omega
theorem IsBr.le_e {l : List Int} (h : IsBr l) (i : Nat) : nN l (i + 1) ≤ eE l i := by
  have h1 := h.dvd i
  have h2 := h.e (i + 1)
  have h3 := h.n (i + 1)
  have := Int.mul_le_mul_of_nonneg_left (show 1 ≤ eE l (i + 1) by omega) h3.1
  omega
theorem IsBr.small {l : List Int} (h : IsBr l) : ∀ i, i + 1 < l.length → bB l (i + 1) * eE l i + 4000 * eE l (i + 1) ≤ 256000
  | 0, hi => by
    have h1 := h.gen hi
    have h2 := h.e 0
    have h3 := h.half hi
    have h4 : bB l 0 = 0 := by simp [bB, wW]
    rw [h4, Int.mul_zero] at h1
    have := Int.mul_le_mul_of_nonneg_right (show bB l (0 + 1) ≤ 2000 by omega) (show 0 ≤ eE l 0 by omega)
    omega
  | i + 1, hi => by
    have ih := h.small i (by omega)
    have h1 := h.gen hi
    have h2 := h.e (i + 1)
    have h3 := h.half hi
    have h4 := h.dvd i
    have h5 := Int.mul_le_mul_of_nonneg_right h1.1 (show 0 ≤ eE l (i + 1) by omega)
    have h6 : (nN l (i + 1) * bB l (i + 1) + 2000) * eE l (i + 1) = bB l (i + 1) * eE l i + 2000 * eE l (i + 1) := by
      rw [Int.add_mul, Int.mul_comm (nN l (i + 1)), Int.mul_assoc, h4]
    omega
theorem IsBr.npos {l : List Int} (h : IsBr l) (i : Nat) : 1 ≤ nN l (i + 1) := by
  have h1 := h.dvd i
  have h2 := h.e i
  have h3 := h.n (i + 1)
  rcases Int.lt_or_le 0 (nN l (i + 1)) with h4 | h4
  · omega
  · have : nN l (i + 1) = 0 := by omega
    rw [this, Int.zero_mul] at h1
    omega
theorem IsBr.wpos {l : List Int} (h : IsBr l) : ∀ i, i + 1 < l.length → 1 ≤ wW l (i + 1)
  | 0, hi => by
    have h1 := h.term hi
    have h2 : 0 < eE l (0 + 1) := (h.e (0 + 1)).1
    have h3 : eE l (0 + 1) ≤ l.getD (0 + 1) 0 := by
      unfold eE
      rw [divTo]
      have := Int.gcd_le_right (a := divTo l 1) (show 0 < l.getD (0 + 1) 0 by omega)
      exact this
    have h4 : 1 ≤ cC l (0 + 1) / eE l (0 + 1) := by
      rw [cC, if_neg (by omega)]
      exact (Int.le_ediv_iff_mul_le h2).2 (by omega)
    rw [wW, wW, Int.zero_mul, Int.zero_mul, Int.zero_add]
    exact h4
  | i + 1, hi => by
    have ih := h.wpos i (by omega)
    have h1 := h.npos i
    have h2 := h.npos (i + 1)
    have h3 := h.c hi
    have h4 := Int.mul_le_mul ih h1 (by omega) (by omega)
    have h5 := Int.mul_le_mul h4 h2 (by omega) (by omega)
    rw [wW]
    omega
/-- The numbers n w r. -/
theorem IsBr.nwr {l : List Int} (h : IsBr l) {i : Nat} (hi : i + 1 < l.length) : 1 ≤ nN l (i + 1) * wW l (i + 1) * eE l (i + 1) ∧ nN l (i + 1) * wW l (i + 1) * eE l (i + 1) ≤ 256000 ∧ 1 ≤ nN l (i + 1) * wW l (i + 1) ∧ nN l (i + 1) * wW l (i + 1) ≤ 256000 ∧ wW l (i + 1) ≤ 256000 := by
  have h1 := h.small i hi
  have h2 := h.le_e i
  have h3 := h.npos i
  have h4 := h.wpos i hi
  have h5 := h.e (i + 1)
  have h6 := h.gen hi
  have h7 := Int.mul_le_mul_of_nonneg_left h2 h6.2
  have e1 : nN l (i + 1) * wW l (i + 1) * eE l (i + 1) = bB l (i + 1) * nN l (i + 1) := by rw [bB, Int.mul_assoc, Int.mul_comm]
  have h8 := Int.mul_le_mul h3 h4 (by omega) (by omega)
  have h9 := Int.mul_le_mul h8 (show 1 ≤ eE l (i + 1) by omega) (by omega) (by omega)
  have h10 := Int.mul_le_mul_of_nonneg_left (show 1 ≤ eE l (i + 1) by omega) (show 0 ≤ nN l (i + 1) * wW l (i + 1) by omega)
  have h11 := Int.mul_le_mul_of_nonneg_right h3 (show 0 ≤ wW l (i + 1) by omega)
  omega
theorem IsBr.w2 {l : List Int} (h : IsBr l) {i : Nat} (hi : i < l.length) : 0 ≤ wW l i ∧ wW l i ≤ 256000 := by
  cases i with
  | zero => simp [wW]
  | succ i =>
    have := h.nwr hi
    have := h.wpos i hi
    omega
theorem IsBr.wn {l : List Int} (h : IsBr l) {i : Nat} (hi : i < l.length) : (0 ≤ wW l i * nN l i ∧ wW l i * nN l i ≤ 17000000) ∧ (0 ≤ wW l i * nN l i * nN l (i + 1) ∧ wW l i * nN l i * nN l (i + 1) ≤ 1100000000) := by
  have h1 := h.w2 hi
  have h2 := h.n i
  have h3 := h.n (i + 1)
  have a1 := Int.mul_le_mul h1.2 h2.2 h2.1 (by omega)
  have a2 := Int.mul_nonneg h1.1 h2.1
  have a3 := Int.mul_le_mul (show wW l i * nN l i ≤ 17000000 by omega) h3.2 h3.1 (by omega)
  have a4 := Int.mul_nonneg a2 h3.1
  omega
theorem uptoL_two (g : Nat → List Int) {j i : Nat} (h : i < j) (k : Nat) : ((uptoL g j).getD i []).getD k 0 = (g i).getD k 0 := by rw [uptoL_at g h]
theorem zetaNumbers_c (l : List Int) (h : IsBr l) : CallA Try.prog 75 [.sh (.agg [.sl false 1 (ints l)])] [rL (upto (wW l) l.length)] [] := by
  have h7 := h.short
  have h0 := h.1
  refine callA_of _ Try.func75 rfl Try.ntmps75 (by first | exact ⟨rfl, rfl⟩ | (simp only [List.all_cons, List.all_nil, V.solid, D.solid, D.solids, solids_ints, solids_LL, Bool.and_self, Bool.and_true, and_self]; done) | simp [V.solid, D.solid, D.solids, solids_lits, solids_ints, solids_LL]) ?_
  have hll := uptoL_len (nP l) (l.length - 1)
  repeat' (first
      | (guard_target =~ WpA _ _ _ _ _ _; first
        | refine WpA.seq ?_
        | refine WpA.drawU ?_
        | refine WpA.regionU ?_
        | refine WpA.block ?_
        | refine WpA.ret ?_
        | refine WpA.skip ?_
        | refine WpA.exit ?_
        | refine WpA.cond_true rfl ?_
        | refine WpA.cond_false rfl ?_
        | refine WpA.cond_ntrue rfl ?_
        | refine WpA.cond_dec rfl (fun _ => ?_) (fun _ => ?_)
        | refine WpA.cond_not rfl (fun _ => ?_) (fun _ => ?_)
        | refine WpA.cond rfl (fun _ => ?_) (fun _ => ?_)
        )
      | (guard_target =~ RunU _ _ _ _ [] _ _ _ _; first
        | refine RunU.nilL ?_
        | refine RunU.nilD (by kernel_rfl) ?_
        )
      | (guard_target =~ RunU _ _ _ _ (Oper.mk _ (Op.call ⟨Callee.value _, _, _⟩) _ _ _ none :: _) _ _ _ _; first
        | refine RunU.cons (step_call (newton_c l h) (.sh .nil) (.shAgg rfl aggs_any .nil) rfl) ?_
        )
      | (guard_target =~ RunU _ _ _ _ (Oper.mk _ _ _ _ _ none :: _) _ _ _ _; refine RunU.cons step_any ?_)
      | (guard_target =~ RunU _ _ _ _ (Oper.mk _ _ _ _ _ (some _) :: _) _ _ _ _; first
        | refine RunU.pass rfl rfl rfl rfl ?_
        | refine RunU.pass_undef rfl rfl rfl ?_
        | (guard_target =~ RunU _ _ _ _ (Oper.mk _ (Op.call ⟨Callee.value _, _, _⟩) _ _ _ _ :: _) _ _ _ _; first
          | refine RunU.doit rfl rfl (step_call (newton_c l h) (.sh .nil) (.shAgg rfl aggs_any .nil) rfl) ?_
          )
        | refine RunU.doit rfl rfl step_any ?_
        | ((fail_if_success (refine RunU.doit (rd := []) (up := []) rfl rfl ?_ ?_)); first
          | refine RunU.guard_dec rfl rfl (fun _ => ?_) (fun _ => ?_)
          | refine RunU.guard_not rfl rfl (fun _ => ?_) (fun _ => ?_)
          | refine RunU.guard rfl rfl (fun _ => ?_) (fun _ => ?_))
        )
      | refine Then.next ?_
      | refine InBlock.next ?_
      | refine Done.ret (.one (by first | exact .c rfl | exact .own rfl | exact .als rfl rfl | exact .ptr rfl rfl | exact .part rfl rfl rfl) .nil) (.sh .nil) ?_ rfl
      | refine Done.normal (.one (by first | exact .c rfl | exact .own rfl | exact .als rfl rfl | exact .ptr rfl rfl | exact .part rfl rfl rfl) .nil) (.sh .nil) ?_ rfl)
  refine WpA.loop_ids2 (fun j i3 i4 => [(3, .own i3 (.sl true 1 (ints (upto (wW l) (j + 1))))), (4, .own i4 (.sl true 1 (LL (uptoL (nP l) (l.length - 1))))), (11, .als 4 i4 []), (12, vI ((l.length : Int) - 1)), (13, vI j)]) (fun j => j + 1 ≤ l.length) (fun j => l.length - j) 0 _ _ (by omega) ⟨by exact rfl, by exact rfl, rfl, int_eq (by omega), rfl, trivial⟩ ?_
  intro j i3 i4 s nx hj
  have hul := upto_len (wW l) (j + 1)
  by_cases hlt : j + 1 < l.length
  · have d1 : (upto (wW l) (j + 1)).getD (j * 1) 0 = wW l j := by rw [Nat.mul_one]; exact upto_at _ (by omega)
    have d2 : ((uptoL (nP l) (l.length - 1)).getD (j * 1) []).getD (1 * 1) 0 = nN l (j + 1) := by rw [Nat.mul_one, uptoL_two _ (by omega)]; rfl
    have d3 : ((uptoL (nP l) (l.length - 1)).getD (j * 1) []).getD (0 * 1) 0 = cC l (j + 1) / eE l (j + 1) := by rw [Nat.mul_one, uptoL_two _ (by omega)]; rfl
    have l1 : ((uptoL (nP l) (l.length - 1)).getD (j * 1) []).length = 2 := by rw [Nat.mul_one, uptoL_at _ (by omega)]; rfl
    have l2 : 0 < j → ((uptoL (nP l) (l.length - 1)).getD (((j : Int) - 1).toNat * 1) []).length = 2 := fun q => by rw [Nat.mul_one, uptoL_at _ (by omega)]; rfl
    have d4 : 0 < j → ((uptoL (nP l) (l.length - 1)).getD (((j : Int) - 1).toNat * 1) []).getD (1 * 1) 0 = nN l j := fun q => by
      obtain ⟨k, rfl⟩ : ∃ k, j = k + 1 := ⟨j - 1, by omega⟩
      rw [Nat.mul_one, uptoL_two _ (by omega), show ((((k + 1 : Nat) : Int) - 1).toNat) = k by omega]; rfl
    have m1 := h.wn (i := j) (by omega)
    have m2 := h.c hlt
    by_cases q : 0 < j
    · have m3 : (0 ≤ (upto (wW l) (j + 1)).getD (j * 1) 0 * ((uptoL (nP l) (l.length - 1)).getD (((j : Int) - 1).toNat * 1) []).getD (1 * 1) 0 ∧ (upto (wW l) (j + 1)).getD (j * 1) 0 * ((uptoL (nP l) (l.length - 1)).getD (((j : Int) - 1).toNat * 1) []).getD (1 * 1) 0 ≤ 17000000) ∧ (0 ≤ (upto (wW l) (j + 1)).getD (j * 1) 0 * ((uptoL (nP l) (l.length - 1)).getD (((j : Int) - 1).toNat * 1) []).getD (1 * 1) 0 * ((uptoL (nP l) (l.length - 1)).getD (j * 1) []).getD (1 * 1) 0 ∧ (upto (wW l) (j + 1)).getD (j * 1) 0 * ((uptoL (nP l) (l.length - 1)).getD (((j : Int) - 1).toNat * 1) []).getD (1 * 1) 0 * ((uptoL (nP l) (l.length - 1)).getD (j * 1) []).getD (1 * 1) 0 ≤ 1100000000) := by
        rw [d1, d2, d4 q]; exact m1
      have l3 := l2 q
      repeat' (first
          | (guard_target =~ WpA _ _ _ _ _ _; first
            | refine WpA.seq ?_
            | refine WpA.drawU ?_
            | refine WpA.regionU ?_
            | refine WpA.block ?_
            | refine WpA.ret ?_
            | refine WpA.skip ?_
            | refine WpA.exit ?_
            | refine WpA.cond_true rfl ?_
            | refine WpA.cond_false rfl ?_
            | refine WpA.cond_ntrue rfl ?_
            | refine WpA.cond_dec rfl (fun _ => ?_) (fun _ => ?_)
            | refine WpA.cond_not rfl (fun _ => ?_) (fun _ => ?_)
            | refine WpA.cond rfl (fun _ => ?_) (fun _ => ?_)
            )
          | (guard_target =~ RunU _ _ _ _ [] _ _ _ _; first
            | refine RunU.nilL ?_
            | refine RunU.nilD (by kernel_rfl) ?_
            )
          | (guard_target =~ RunU _ _ _ _ (Oper.mk _ _ _ _ _ none :: _) _ _ _ _; refine RunU.cons step_any ?_)
          | (guard_target =~ RunU _ _ _ _ (Oper.mk _ _ _ _ _ (some _) :: _) _ _ _ _; first
            | refine RunU.pass rfl rfl rfl rfl ?_
            | refine RunU.pass_undef rfl rfl rfl ?_
            | refine RunU.doit rfl rfl step_any ?_
            | ((fail_if_success (refine RunU.doit (rd := []) (up := []) rfl rfl ?_ ?_)); first
              | refine RunU.guard_dec rfl rfl (fun _ => ?_) (fun _ => ?_)
              | refine RunU.guard_not rfl rfl (fun _ => ?_) (fun _ => ?_)
              | refine RunU.guard rfl rfl (fun _ => ?_) (fun _ => ?_))
            )
          | refine Then.next ?_
          | refine InBlock.next ?_
          | refine Done.ret (.one (by first | exact .c rfl | exact .own rfl | exact .als rfl rfl | exact .ptr rfl rfl | exact .part rfl rfl rfl) .nil) (.sh .nil) ?_ rfl
          | refine Done.normal (.one (by first | exact .c rfl | exact .own rfl | exact .als rfl rfl | exact .ptr rfl rfl | exact .part rfl rfl rfl) .nil) (.sh .nil) ?_ rfl)
      all_goals try (exfalso; omega)
      have e3 : upto (wW l) (j + 1) ++ [((uptoL (nP l) (l.length - 1)).getD (j * 1) []).getD (0 * 1) 0 + (upto (wW l) (j + 1)).getD (j * 1) 0 * ((uptoL (nP l) (l.length - 1)).getD (((j : Int) - 1).toNat * 1) []).getD (1 * 1) 0 * ((uptoL (nP l) (l.length - 1)).getD (j * 1) []).getD (1 * 1) 0] = upto (wW l) (j + 1 + 1) := by
        rw [upto_step _ (j + 1), d1, d2, d3, d4 q, Int.add_comm]; rfl
      exact ⟨j + 1, by omega, ⟨_, _, by exact own_ints e3, rfl, rfl, rfl, int_eq (by omega), trivial⟩, by omega⟩
    · obtain rfl : j = 0 := by omega
      repeat' (first
          | (guard_target =~ WpA _ _ _ _ _ _; first
            | refine WpA.seq ?_
            | refine WpA.drawU ?_
            | refine WpA.regionU ?_
            | refine WpA.block ?_
            | refine WpA.ret ?_
            | refine WpA.skip ?_
            | refine WpA.exit ?_
            | refine WpA.cond_true rfl ?_
            | refine WpA.cond_false rfl ?_
            | refine WpA.cond_ntrue rfl ?_
            | refine WpA.cond_dec rfl (fun _ => ?_) (fun _ => ?_)
            | refine WpA.cond_not rfl (fun _ => ?_) (fun _ => ?_)
            | refine WpA.cond rfl (fun _ => ?_) (fun _ => ?_)
            )
          | (guard_target =~ RunU _ _ _ _ [] _ _ _ _; first
            | refine RunU.nilL ?_
            | refine RunU.nilD (by kernel_rfl) ?_
            )
          | (guard_target =~ RunU _ _ _ _ (Oper.mk _ _ _ _ _ none :: _) _ _ _ _; refine RunU.cons step_any ?_)
          | (guard_target =~ RunU _ _ _ _ (Oper.mk _ _ _ _ _ (some _) :: _) _ _ _ _; first
            | refine RunU.pass rfl rfl rfl rfl ?_
            | refine RunU.pass_undef rfl rfl rfl ?_
            | refine RunU.doit rfl rfl step_any ?_
            | ((fail_if_success (refine RunU.doit (rd := []) (up := []) rfl rfl ?_ ?_)); first
              | refine RunU.guard_dec rfl rfl (fun _ => ?_) (fun _ => ?_)
              | refine RunU.guard_not rfl rfl (fun _ => ?_) (fun _ => ?_)
              | refine RunU.guard rfl rfl (fun _ => ?_) (fun _ => ?_))
            )
          | refine Then.next ?_
          | refine InBlock.next ?_
          | refine Done.ret (.one (by first | exact .c rfl | exact .own rfl | exact .als rfl rfl | exact .ptr rfl rfl | exact .part rfl rfl rfl) .nil) (.sh .nil) ?_ rfl
          | refine Done.normal (.one (by first | exact .c rfl | exact .own rfl | exact .als rfl rfl | exact .ptr rfl rfl | exact .part rfl rfl rfl) .nil) (.sh .nil) ?_ rfl)
      all_goals try (exfalso; omega)
      have e3 : upto (wW l) (0 + 1) ++ [((uptoL (nP l) (l.length - 1)).getD (0 * 1) []).getD (0 * 1) 0] = upto (wW l) (0 + 1 + 1) := by
        rw [upto_step _ (0 + 1), d3, wW, wW, Int.zero_mul, Int.zero_mul, Int.zero_add]
      exact ⟨0 + 1, by omega, ⟨_, _, by exact own_ints e3, rfl, rfl, rfl, int_eq (by omega), trivial⟩, by omega⟩
  · have e0 : j + 1 = l.length := by omega
    repeat' (first
        | (guard_target =~ WpA _ _ _ _ _ _; first
          | refine WpA.seq ?_
          | refine WpA.drawU ?_
          | refine WpA.regionU ?_
          | refine WpA.block ?_
          | refine WpA.ret ?_
          | refine WpA.skip ?_
          | refine WpA.exit ?_
          | refine WpA.cond_true rfl ?_
          | refine WpA.cond_false rfl ?_
          | refine WpA.cond_ntrue rfl ?_
          | refine WpA.cond_dec rfl (fun _ => ?_) (fun _ => ?_)
          | refine WpA.cond_not rfl (fun _ => ?_) (fun _ => ?_)
          | refine WpA.cond rfl (fun _ => ?_) (fun _ => ?_)
          )
        | (guard_target =~ RunU _ _ _ _ [] _ _ _ _; first
          | refine RunU.nilL ?_
          | refine RunU.nilD (by kernel_rfl) ?_
          )
        | (guard_target =~ RunU _ _ _ _ (Oper.mk _ _ _ _ _ none :: _) _ _ _ _; refine RunU.cons step_any ?_)
        | (guard_target =~ RunU _ _ _ _ (Oper.mk _ _ _ _ _ (some _) :: _) _ _ _ _; first
          | refine RunU.pass rfl rfl rfl rfl ?_
          | refine RunU.pass_undef rfl rfl rfl ?_
          | refine RunU.doit rfl rfl step_any ?_
          | ((fail_if_success (refine RunU.doit (rd := []) (up := []) rfl rfl ?_ ?_)); first
            | refine RunU.guard_dec rfl rfl (fun _ => ?_) (fun _ => ?_)
            | refine RunU.guard_not rfl rfl (fun _ => ?_) (fun _ => ?_)
            | refine RunU.guard rfl rfl (fun _ => ?_) (fun _ => ?_))
          )
        | refine Then.next ?_
        | refine InBlock.next ?_
        | refine Done.ret (.one (by first | exact .c rfl | exact .own rfl | exact .als rfl rfl | exact .ptr rfl rfl | exact .part rfl rfl rfl) .nil) (.sh .nil) ?_ rfl
        | refine Done.normal (.one (by first | exact .c rfl | exact .own rfl | exact .als rfl rfl | exact .ptr rfl rfl | exact .part rfl rfl rfl) .nil) (.sh .nil) ?_ rfl)
    all_goals try (exfalso; omega)
    rw [e0]
end Go.Proofs.Ytfkhngjkpjcdfaa
