/- The numbers of a branch: ratios, Newton pairs, the numbers w. No condition. -/
import Derived.Test.YtfkhngjkpjcdfaaBsA
import Derived.Test.YtfkhngjkpjcdfaaBrC
import Derived.Test.YtfkhngjkpjcdfaaPvX
namespace Go.Proofs.Ytfkhngjkpjcdfaa
set_option maxHeartbeats 2000000
set_option linter.unusedVariables false
set_option linter.unusedSimpArgs false
open Go.Pv
open Go.ChangeShapes Go.WideShapes Go.ChangeAt Go.RowKit
attribute [local irreducible] RunU WpA Step CallG Done
instance fnOk73 : FnOk Try.prog 73 := ⟨_, Try.func73, rfl, by decide⟩
instance fnOk133 : FnOk Try.prog 133 := ⟨_, Try.func133, rfl, by decide⟩
instance fnOk75 : FnOk Try.prog 75 := ⟨_, Try.func75, rfl, by decide⟩
instance fnOk69 : FnOk Try.prog 69 := ⟨_, Try.func69, rfl, by decide⟩
/-- The divisors, the ratios, the differences of terms, the numbers w. -/
def eE (l : List Int) (i : Nat) : Int := divTo l (i + 1)
def nN (l : List Int) : Nat → Int
  | 0 => 0
  | i + 1 => eE l i / eE l (i + 1)
def cC (l : List Int) (i : Nat) : Int := if i > 1 then l.getD i 0 - l.getD (i - 1) 0 else l.getD i 0
def wW (l : List Int) : Nat → Int
  | 0 => 0
  | i + 1 => wW l i * nN l i * nN l (i + 1) + cC l (i + 1) / eE l (i + 1)
def upto (g : Nat → Int) (j : Nat) : List Int := (List.range j).map g
theorem upto_len (g : Nat → Int) (j : Nat) : (upto g j).length = j := by simp [upto]
theorem upto_step (g : Nat → Int) (j : Nat) : upto g (j + 1) = upto g j ++ [g j] := by simp [upto, List.range_succ]
theorem upto_at (g : Nat → Int) {j i : Nat} (h : i < j) : (upto g j).getD i 0 = g i := by
  simp [upto, List.getD, h]
def uptoL (g : Nat → List Int) (j : Nat) : List (List Int) := (List.range j).map g
theorem uptoL_len (g : Nat → List Int) (j : Nat) : (uptoL g j).length = j := by simp [uptoL]
theorem uptoL_step (g : Nat → List Int) (j : Nat) : uptoL g (j + 1) = uptoL g j ++ [g j] := by simp [uptoL, List.range_succ]
theorem uptoL_at (g : Nat → List Int) {j i : Nat} (h : i < j) : (uptoL g j).getD i [] = g i := by
  simp [uptoL, List.getD, h]
theorem IsBr.term {l : List Int} (h : IsBr l) {i : Nat} (hi : i < l.length) : 1 ≤ l.getD i 0 ∧ l.getD i 0 ≤ 2000 := h.2.2.2.1 i hi
theorem IsBr.bound {l : List Int} (h : IsBr l) : ∀ i, 0 ≤ l.getD i 0 ∧ l.getD i 0 ≤ 1000000000 := within_bound h.2.2.2.1 (by omega) (by omega)
theorem IsBr.e {l : List Int} (h : IsBr l) (i : Nat) : 0 < eE l i ∧ eE l i ≤ 64 := by
  have h0 := h.2.1
  refine ⟨divTo_ge (by omega) i, ?_⟩
  induction i with
  | zero => simp only [eE, divTo, Int.gcd_zero_left]; omega
  | succ i ih =>
    have := divTo_down (l := l) (by omega) i
    simp only [eE] at *
    omega
theorem IsBr.n {l : List Int} (h : IsBr l) (i : Nat) : 0 ≤ nN l i ∧ nN l i ≤ 64 := by
  cases i with
  | zero => simp [nN]
  | succ i =>
    have h1 := h.e i
    have h2 := h.e (i + 1)
    simp only [nN]
    exact ⟨Int.ediv_nonneg (by omega) (by omega), Int.le_trans (Int.ediv_le_self _ (by omega)) (by omega)⟩
theorem IsBr.half {l : List Int} (h : IsBr l) {i : Nat} (hi : i + 1 < l.length) : 2 * eE l (i + 1) ≤ eE l i := by
  have h1 := h.e i
  have h2 := h.2.2.2.2.1 (i + 1) hi (by omega)
  exact next_half (b := l.getD (i + 1) 0) h1.1 h2
theorem IsBr.short {l : List Int} (h : IsBr l) : l.length ≤ 7 := by
  have key : ∀ i, i < l.length → 2 ^ i * eE l i ≤ 64 := by
    intro i
    induction i with
    | zero => intro _; have := h.e 0; omega
    | succ i ih =>
      intro hi
      have h1 := ih (by omega)
      have h2 := h.half hi
      have h3 : (2 : Int) ^ (i + 1) * eE l (i + 1) = 2 ^ i * (2 * eE l (i + 1)) := by rw [Int.pow_succ, Int.mul_assoc]
      have h4 : (2 : Int) ^ i * (2 * eE l (i + 1)) ≤ 2 ^ i * eE l i := Int.mul_le_mul_of_nonneg_left h2 (Int.pow_nonneg (by omega))
      omega
  rcases Nat.lt_or_ge 7 l.length with h7 | h7
  · have := key 7 h7
    have h2 := h.e 7
    omega
  · exact h7
theorem IsBr.nn {l : List Int} (h : IsBr l) (i : Nat) : 0 ≤ nN l i * nN l (i + 1) ∧ nN l i * nN l (i + 1) ≤ 64 := by
  have h1 := h.n i
  have h2 := h.n (i + 1)
  refine ⟨Int.mul_nonneg h1.1 h2.1, ?_⟩
  cases i with
  | zero => simp [nN]
  | succ i =>
    have k0 := h.e i
    have k1 := h.e (i + 1)
    have k2 := h.e (i + 1 + 1)
    have a1 : nN l (i + 1) * eE l (i + 1) ≤ eE l i := Int.ediv_mul_le _ (by omega)
    have a2 : nN l (i + 1 + 1) * eE l (i + 1 + 1) ≤ eE l (i + 1) := Int.ediv_mul_le _ (by omega)
    have a3 : nN l (i + 1 + 1) ≤ nN l (i + 1 + 1) * eE l (i + 1 + 1) := by
      have := Int.mul_le_mul_of_nonneg_left (show 1 ≤ eE l (i + 1 + 1) by omega) h2.1
      omega
    have a4 : nN l (i + 1) * nN l (i + 1 + 1) ≤ nN l (i + 1) * eE l (i + 1) := Int.mul_le_mul_of_nonneg_left (by omega) h1.1
    show nN l (i + 1) * nN l (i + 1 + 1) ≤ 64
    omega
theorem IsBr.ne {l : List Int} (h : IsBr l) (i : Nat) : 0 ≤ nN l (i + 1) * eE l (i + 1) ∧ nN l (i + 1) * eE l (i + 1) ≤ 64 := by
  have h2 := h.n (i + 1)
  have k0 := h.e i
  have k1 := h.e (i + 1)
  have a1 : nN l (i + 1) * eE l (i + 1) ≤ eE l i := Int.ediv_mul_le _ (by omega)
  exact ⟨Int.mul_nonneg h2.1 (by omega), by omega⟩
theorem IsBr.c {l : List Int} (h : IsBr l) {i : Nat} (hi : i + 1 < l.length) : 0 ≤ cC l (i + 1) / eE l (i + 1) ∧ cC l (i + 1) / eE l (i + 1) ≤ 2000 := by
  have h3 := h.e (i + 1)
  have ht := h.term hi
  have hc : 0 ≤ cC l (i + 1) ∧ cC l (i + 1) ≤ 2000 := by
    unfold cC
    split
    · have := h.2.2.1 (i + 1) hi (by omega)
      have ht2 := h.term (i := i + 1 - 1) (by omega)
      omega
    · omega
  exact ⟨Int.ediv_nonneg hc.1 (by omega), Int.le_trans (Int.ediv_le_self _ hc.1) hc.2⟩
theorem IsBr.w {l : List Int} (h : IsBr l) : ∀ i, i < l.length → 0 ≤ wW l i ∧ wW l i ≤ 2000 * 65 ^ i
  | 0, _ => by simp [wW]
  | i + 1, hi => by
    have ih := h.w i (by omega)
    have m1 := h.nn i
    have hq := h.c hi
    have m2 : 0 ≤ wW l i * (nN l i * nN l (i + 1)) ∧ wW l i * (nN l i * nN l (i + 1)) ≤ 2000 * 65 ^ i * 64 :=
      ⟨Int.mul_nonneg ih.1 m1.1, Int.mul_le_mul ih.2 m1.2 m1.1 (by omega)⟩
    have hp : (1 : Int) ≤ 65 ^ i := by
      have : (0 : Int) < 65 ^ i := Int.pow_pos (by omega)
      omega
    simp only [wW, Int.mul_assoc]
    rw [Int.pow_succ]
    omega
theorem IsBr.w' {l : List Int} (h : IsBr l) {i : Nat} (hi : i < l.length) : 0 ≤ wW l i ∧ wW l i ≤ 200000000000000 := by
  have h1 := h.w i hi
  have h7 := h.short
  have hp : ((65 ^ i : Nat) : Int) ≤ ((65 ^ 6 : Nat) : Int) := Int.ofNat_le.2 (Nat.pow_le_pow_right (by omega) (by omega))
  have : (65 : Nat) ^ 6 = 75418890625 := by decide
  rw [this, Int.natCast_pow] at hp
  have hp' : (65 : Int) ^ i ≤ 75418890625 := hp
  omega
theorem ratios_c (l : List Int) (h : IsBr l) : CallA Try.prog 73 [.sh (.agg [.sl false 1 (ints l)])] [rL (upto (nN l) l.length)] [] := by
  have h7 := h.short
  have h0 := h.1
  refine callA_of _ Try.func73 rfl Try.ntmps73 (by first | exact ⟨rfl, rfl⟩ | (simp only [List.all_cons, List.all_nil, V.solid, D.solid, D.solids, solids_ints, solids_LL, Bool.and_self, Bool.and_true, and_self]; done) | simp [V.solid, D.solid, D.solids, solids_lits, solids_ints, solids_LL]) ?_
  have hdl := divs_len l l.length
  repeat' (first
      | (guard_target =~ WpA _ _ _ _ _ _; first
        | refine WpA.seq ?_
        | refine WpA.drawU ?_
        | refine WpA.regionU ?_
        | refine WpA.block ?_
        | refine WpA.ret ?_
        | refine WpA.skip ?_
        | refine WpA.exit ?_
        | refine WpA.cond_true rfl ?_
        | refine WpA.cond_false rfl ?_
        | refine WpA.cond_ntrue rfl ?_
        | refine WpA.cond_dec rfl (fun _ => ?_) (fun _ => ?_)
        | refine WpA.cond_not rfl (fun _ => ?_) (fun _ => ?_)
        | refine WpA.cond rfl (fun _ => ?_) (fun _ => ?_)
        )
      | (guard_target =~ RunU _ _ _ _ [] _ _ _ _; first
        | refine RunU.nilL ?_
        | refine RunU.nilD (by kernel_rfl) ?_
        )
      | (guard_target =~ RunU _ _ _ _ (Oper.mk _ (Op.call ⟨Callee.value _, _, _⟩) _ _ _ none :: _) _ _ _ _; first
        | refine RunU.cons (step_call (divisors_c l (by omega) h.bound) (.sh .nil) (.sh shows_any .nil) rfl) ?_
        )
      | (guard_target =~ RunU _ _ _ _ (Oper.mk _ _ _ _ _ none :: _) _ _ _ _; refine RunU.cons step_any ?_)
      | (guard_target =~ RunU _ _ _ _ (Oper.mk _ _ _ _ _ (some _) :: _) _ _ _ _; first
        | refine RunU.pass rfl rfl rfl rfl ?_
        | refine RunU.pass_undef rfl rfl rfl ?_
        | (guard_target =~ RunU _ _ _ _ (Oper.mk _ (Op.call ⟨Callee.value _, _, _⟩) _ _ _ _ :: _) _ _ _ _; first
          | refine RunU.doit rfl rfl (step_call (divisors_c l (by omega) h.bound) (.sh .nil) (.sh shows_any .nil) rfl) ?_
          )
        | refine RunU.doit rfl rfl step_any ?_
        | ((fail_if_success (refine RunU.doit (rd := []) (up := []) rfl rfl ?_ ?_)); first
          | refine RunU.guard_dec rfl rfl (fun _ => ?_) (fun _ => ?_)
          | refine RunU.guard_not rfl rfl (fun _ => ?_) (fun _ => ?_)
          | refine RunU.guard rfl rfl (fun _ => ?_) (fun _ => ?_))
        )
      | refine Then.next ?_
      | refine InBlock.next ?_
      | refine Done.ret (.one (by first | exact .c rfl | exact .own rfl | exact .als rfl rfl | exact .ptr rfl rfl | exact .part rfl rfl rfl) .nil) (.sh .nil) ?_ rfl
      | refine Done.normal (.one (by first | exact .c rfl | exact .own rfl | exact .als rfl rfl | exact .ptr rfl rfl | exact .part rfl rfl rfl) .nil) (.sh .nil) ?_ rfl)
  refine WpA.loop_ids2 (fun j i3 i4 => [(3, .own i3 (.sl true 1 (ints (divs l l.length)))), (4, .own i4 (.sl true 1 (ints (upto (nN l) (j + 1))))), (5, vI ((j : Int) + 1))]) (fun j => j + 1 ≤ l.length) (fun j => l.length - j) 0 _ _ (by omega) ⟨by exact rfl, by exact rfl, rfl, trivial⟩ ?_
  intro j i3 i4 s nx hj
  have e1 : (j + 1) * 1 = j + 1 := by omega
  have e2 : ((j : Int) + 1 - 1).toNat * 1 = j := by omega
  have hul := upto_len (nN l) (j + 1)
  by_cases hlt : j + 1 < l.length
  · have d1 : (divs l l.length).getD ((j + 1) * 1) 0 = eE l (j + 1) := by rw [e1]; exact divs_at l l.length (j + 1) hlt
    have d2 : (divs l l.length).getD (((j : Int) + 1 - 1).toNat * 1) 0 = eE l j := by rw [e2]; exact divs_at l l.length j (by omega)
    have k1 := h.e j
    have k2 := h.e (j + 1)
    repeat' (first
        | (guard_target =~ WpA _ _ _ _ _ _; first
          | refine WpA.seq ?_
          | refine WpA.drawU ?_
          | refine WpA.regionU ?_
          | refine WpA.block ?_
          | refine WpA.ret ?_
          | refine WpA.skip ?_
          | refine WpA.exit ?_
          | refine WpA.cond_true rfl ?_
          | refine WpA.cond_false rfl ?_
          | refine WpA.cond_ntrue rfl ?_
          | refine WpA.cond_dec rfl (fun _ => ?_) (fun _ => ?_)
          | refine WpA.cond_not rfl (fun _ => ?_) (fun _ => ?_)
          | refine WpA.cond rfl (fun _ => ?_) (fun _ => ?_)
          )
        | (guard_target =~ RunU _ _ _ _ [] _ _ _ _; first
          | refine RunU.nilL ?_
          | refine RunU.nilD (by kernel_rfl) ?_
          )
        | (guard_target =~ RunU _ _ _ _ (Oper.mk _ _ _ _ _ none :: _) _ _ _ _; refine RunU.cons step_any ?_)
        | (guard_target =~ RunU _ _ _ _ (Oper.mk _ _ _ _ _ (some _) :: _) _ _ _ _; first
          | refine RunU.pass rfl rfl rfl rfl ?_
          | refine RunU.pass_undef rfl rfl rfl ?_
          | refine RunU.doit rfl rfl step_any ?_
          | ((fail_if_success (refine RunU.doit (rd := []) (up := []) rfl rfl ?_ ?_)); first
            | refine RunU.guard_dec rfl rfl (fun _ => ?_) (fun _ => ?_)
            | refine RunU.guard_not rfl rfl (fun _ => ?_) (fun _ => ?_)
            | refine RunU.guard rfl rfl (fun _ => ?_) (fun _ => ?_))
          )
        | refine Then.next ?_
        | refine InBlock.next ?_
        | refine Done.ret (.one (by first | exact .c rfl | exact .own rfl | exact .als rfl rfl | exact .ptr rfl rfl | exact .part rfl rfl rfl) .nil) (.sh .nil) ?_ rfl
        | refine Done.normal (.one (by first | exact .c rfl | exact .own rfl | exact .als rfl rfl | exact .ptr rfl rfl | exact .part rfl rfl rfl) .nil) (.sh .nil) ?_ rfl)
    all_goals try (exfalso; omega)
    have e3 : upto (nN l) (j + 1) ++ [(divs l l.length).getD (((j : Int) + 1 - 1).toNat * 1) 0 / (divs l l.length).getD ((j + 1) * 1) 0] = upto (nN l) (j + 1 + 1) := by
      rw [upto_step _ (j + 1), d1, d2]; rfl
    exact ⟨j + 1, by omega, ⟨_, _, rfl, by exact own_ints e3, int_eq (by omega), trivial⟩, by omega⟩
  · have e0 : j + 1 = l.length := by omega
    repeat' (first
        | (guard_target =~ WpA _ _ _ _ _ _; first
          | refine WpA.seq ?_
          | refine WpA.drawU ?_
          | refine WpA.regionU ?_
          | refine WpA.block ?_
          | refine WpA.ret ?_
          | refine WpA.skip ?_
          | refine WpA.exit ?_
          | refine WpA.cond_true rfl ?_
          | refine WpA.cond_false rfl ?_
          | refine WpA.cond_ntrue rfl ?_
          | refine WpA.cond_dec rfl (fun _ => ?_) (fun _ => ?_)
          | refine WpA.cond_not rfl (fun _ => ?_) (fun _ => ?_)
          | refine WpA.cond rfl (fun _ => ?_) (fun _ => ?_)
          )
        | (guard_target =~ RunU _ _ _ _ [] _ _ _ _; first
          | refine RunU.nilL ?_
          | refine RunU.nilD (by kernel_rfl) ?_
          )
        | (guard_target =~ RunU _ _ _ _ (Oper.mk _ _ _ _ _ none :: _) _ _ _ _; refine RunU.cons step_any ?_)
        | (guard_target =~ RunU _ _ _ _ (Oper.mk _ _ _ _ _ (some _) :: _) _ _ _ _; first
          | refine RunU.pass rfl rfl rfl rfl ?_
          | refine RunU.pass_undef rfl rfl rfl ?_
          | refine RunU.doit rfl rfl step_any ?_
          | ((fail_if_success (refine RunU.doit (rd := []) (up := []) rfl rfl ?_ ?_)); first
            | refine RunU.guard_dec rfl rfl (fun _ => ?_) (fun _ => ?_)
            | refine RunU.guard_not rfl rfl (fun _ => ?_) (fun _ => ?_)
            | refine RunU.guard rfl rfl (fun _ => ?_) (fun _ => ?_))
          )
        | refine Then.next ?_
        | refine InBlock.next ?_
        | refine Done.ret (.one (by first | exact .c rfl | exact .own rfl | exact .als rfl rfl | exact .ptr rfl rfl | exact .part rfl rfl rfl) .nil) (.sh .nil) ?_ rfl
        | refine Done.normal (.one (by first | exact .c rfl | exact .own rfl | exact .als rfl rfl | exact .ptr rfl rfl | exact .part rfl rfl rfl) .nil) (.sh .nil) ?_ rfl)
    all_goals try (exfalso; omega)
    rw [e0]
def nP (l : List Int) (i : Nat) : List Int := [cC l (i + 1) / eE l (i + 1), nN l (i + 1)]
def wP (l : List Int) (i : Nat) : List Int := [nN l (i + 1), wW l (i + 1), eE l (i + 1)]
theorem newton_c (l : List Int) (h : IsBr l) : CallA Try.prog 133 [.sh (.agg [.sl false 1 (ints l)])] [rLL (uptoL (nP l) (l.length - 1))] [] := by
  have h7 := h.short
  have h0 := h.1
  refine callA_of _ Try.func133 rfl Try.ntmps133 (by first | exact ⟨rfl, rfl⟩ | (simp only [List.all_cons, List.all_nil, V.solid, D.solid, D.solids, solids_ints, solids_LL, Bool.and_self, Bool.and_true, and_self]; done) | simp [V.solid, D.solid, D.solids, solids_lits, solids_ints, solids_LL]) ?_
  have hdl := divs_len l l.length
  have hul := upto_len (nN l) l.length
  repeat' (first
      | (guard_target =~ WpA _ _ _ _ _ _; first
        | refine WpA.seq ?_
        | refine WpA.drawU ?_
        | refine WpA.regionU ?_
        | refine WpA.block ?_
        | refine WpA.ret ?_
        | refine WpA.skip ?_
        | refine WpA.exit ?_
        | refine WpA.cond_true rfl ?_
        | refine WpA.cond_false rfl ?_
        | refine WpA.cond_ntrue rfl ?_
        | refine WpA.cond_dec rfl (fun _ => ?_) (fun _ => ?_)
        | refine WpA.cond_not rfl (fun _ => ?_) (fun _ => ?_)
        | refine WpA.cond rfl (fun _ => ?_) (fun _ => ?_)
        )
      | (guard_target =~ RunU _ _ _ _ [] _ _ _ _; first
        | refine RunU.nilL ?_
        | refine RunU.nilD (by kernel_rfl) ?_
        )
      | (guard_target =~ RunU _ _ _ _ (Oper.mk _ (Op.call ⟨Callee.value _, _, _⟩) _ _ _ none :: _) _ _ _ _; first
        | refine RunU.cons (step_call (divisors_c l (by omega) h.bound) (.sh .nil) (.sh shows_any .nil) rfl) ?_
        | refine RunU.cons (step_call (ratios_c l h) (.sh .nil) (.shAgg rfl aggs_any .nil) rfl) ?_
        )
      | (guard_target =~ RunU _ _ _ _ (Oper.mk _ _ _ _ _ none :: _) _ _ _ _; refine RunU.cons step_any ?_)
      | (guard_target =~ RunU _ _ _ _ (Oper.mk _ _ _ _ _ (some _) :: _) _ _ _ _; first
        | refine RunU.pass rfl rfl rfl rfl ?_
        | refine RunU.pass_undef rfl rfl rfl ?_
        | (guard_target =~ RunU _ _ _ _ (Oper.mk _ (Op.call ⟨Callee.value _, _, _⟩) _ _ _ _ :: _) _ _ _ _; first
          | refine RunU.doit rfl rfl (step_call (divisors_c l (by omega) h.bound) (.sh .nil) (.sh shows_any .nil) rfl) ?_
          | refine RunU.doit rfl rfl (step_call (ratios_c l h) (.sh .nil) (.shAgg rfl aggs_any .nil) rfl) ?_
          )
        | refine RunU.doit rfl rfl step_any ?_
        | ((fail_if_success (refine RunU.doit (rd := []) (up := []) rfl rfl ?_ ?_)); first
          | refine RunU.guard_dec rfl rfl (fun _ => ?_) (fun _ => ?_)
          | refine RunU.guard_not rfl rfl (fun _ => ?_) (fun _ => ?_)
          | refine RunU.guard rfl rfl (fun _ => ?_) (fun _ => ?_))
        )
      | refine Then.next ?_
      | refine InBlock.next ?_
      | refine Done.ret (.one (by first | exact .c rfl | exact .own rfl | exact .als rfl rfl | exact .ptr rfl rfl | exact .part rfl rfl rfl) .nil) (.sh .nil) ?_ rfl
      | refine Done.normal (.one (by first | exact .c rfl | exact .own rfl | exact .als rfl rfl | exact .ptr rfl rfl | exact .part rfl rfl rfl) .nil) (.sh .nil) ?_ rfl)
  refine WpA.loop_ids3 (fun j i3 i4 i5 => [(1, .own 1 (.pt true [.sl false 1 (ints l)])), (3, .own i3 (.sl true 1 (ints (divs l l.length)))), (4, .own i4 (.sl true 1 (ints (upto (nN l) l.length)))), (5, .own i5 (.sl true 1 (LL (uptoL (nP l) j)))), (6, vI ((j : Int) + 1))]) (fun j => j + 1 ≤ l.length) (fun j => l.length - j) 0 _ _ _ (by omega) ⟨rfl, by exact rfl, by exact rfl, by exact own_LL (l := []) rfl, rfl, trivial⟩ ?_
  intro j i3 i4 i5 s nx hj
  have e1 : (j + 1) * 1 = j + 1 := by omega
  have e2 : ((j : Int) + 1 - 1).toNat * 1 = j := by omega
  have hll := uptoL_len (nP l) j
  by_cases hlt : j + 1 < l.length
  · have d1 : (divs l l.length).getD ((j + 1) * 1) 0 = eE l (j + 1) := by rw [e1]; exact divs_at l l.length (j + 1) hlt
    have d2 : (upto (nN l) l.length).getD ((j + 1) * 1) 0 = nN l (j + 1) := by rw [e1]; exact upto_at _ hlt
    have k2 := h.e (j + 1)
    have t1 := h.term hlt
    have t2 := h.term (i := j) (by omega)
    have t3 := h.2.2.1 (j + 1) hlt (by omega)
    simp only [Nat.add_sub_cancel] at t3
    have t4 : l.getD (((j : Int) + 1 - 1).toNat * 1) 0 < l.getD ((j + 1) * 1) 0 := by rw [e1, e2]; exact t3
    rw [← e1] at t1
    rw [← e2] at t2
    repeat' (first
        | (guard_target =~ WpA _ _ _ _ _ _; first
          | refine WpA.seq ?_
          | refine WpA.drawU ?_
          | refine WpA.regionU ?_
          | refine WpA.block ?_
          | refine WpA.ret ?_
          | refine WpA.skip ?_
          | refine WpA.exit ?_
          | refine WpA.cond_true rfl ?_
          | refine WpA.cond_false rfl ?_
          | refine WpA.cond_ntrue rfl ?_
          | refine WpA.cond_dec rfl (fun _ => ?_) (fun _ => ?_)
          | refine WpA.cond_not rfl (fun _ => ?_) (fun _ => ?_)
          | refine WpA.cond rfl (fun _ => ?_) (fun _ => ?_)
          )
        | (guard_target =~ RunU _ _ _ _ [] _ _ _ _; first
          | refine RunU.nilL ?_
          | refine RunU.nilD (by kernel_rfl) ?_
          )
        | (guard_target =~ RunU _ _ _ _ (Oper.mk _ _ _ _ _ none :: _) _ _ _ _; refine RunU.cons step_any ?_)
        | (guard_target =~ RunU _ _ _ _ (Oper.mk _ _ _ _ _ (some _) :: _) _ _ _ _; first
          | refine RunU.pass rfl rfl rfl rfl ?_
          | refine RunU.pass_undef rfl rfl rfl ?_
          | refine RunU.doit rfl rfl step_any ?_
          | ((fail_if_success (refine RunU.doit (rd := []) (up := []) rfl rfl ?_ ?_)); first
            | refine RunU.guard_dec rfl rfl (fun _ => ?_) (fun _ => ?_)
            | refine RunU.guard_not rfl rfl (fun _ => ?_) (fun _ => ?_)
            | refine RunU.guard rfl rfl (fun _ => ?_) (fun _ => ?_))
          )
        | refine Then.next ?_
        | refine InBlock.next ?_
        | refine Done.ret (.one (by first | exact .c rfl | exact .own rfl | exact .als rfl rfl | exact .ptr rfl rfl | exact .part rfl rfl rfl) .nil) (.sh .nil) ?_ rfl
        | refine Done.normal (.one (by first | exact .c rfl | exact .own rfl | exact .als rfl rfl | exact .ptr rfl rfl | exact .part rfl rfl rfl) .nil) (.sh .nil) ?_ rfl)
    all_goals try (exfalso; omega)

    case refine_1.refine_1 h1 h2 =>
      have e3 : uptoL (nP l) j ++ [[(l.getD ((j + 1) * 1) 0 - l.getD (((j : Int) + 1 - 1).toNat * 1) 0) / (divs l l.length).getD ((j + 1) * 1) 0, (upto (nN l) l.length).getD ((j + 1) * 1) 0]] = uptoL (nP l) (j + 1) := by
        rw [uptoL_step, d1, d2, e1, e2, nP, cC, if_pos (by omega)]; rfl
      exact ⟨j + 1, by omega, ⟨_, _, _, rfl, rfl, rfl, by exact own_LL e3, int_eq (by omega), trivial⟩, by omega⟩
    case refine_1.refine_2 h1 h2 =>
      have e3 : uptoL (nP l) j ++ [[l.getD ((j + 1) * 1) 0 / (divs l l.length).getD ((j + 1) * 1) 0, (upto (nN l) l.length).getD ((j + 1) * 1) 0]] = uptoL (nP l) (j + 1) := by
        rw [uptoL_step, d1, d2, e1, nP, cC, if_neg (by omega)]
      exact ⟨j + 1, by omega, ⟨_, _, _, rfl, rfl, rfl, by exact own_LL e3, int_eq (by omega), trivial⟩, by omega⟩
  · have e0 : j + 1 = l.length := by omega
    repeat' (first
        | (guard_target =~ WpA _ _ _ _ _ _; first
          | refine WpA.seq ?_
          | refine WpA.drawU ?_
          | refine WpA.regionU ?_
          | refine WpA.block ?_
          | refine WpA.ret ?_
          | refine WpA.skip ?_
          | refine WpA.exit ?_
          | refine WpA.cond_true rfl ?_
          | refine WpA.cond_false rfl ?_
          | refine WpA.cond_ntrue rfl ?_
          | refine WpA.cond_dec rfl (fun _ => ?_) (fun _ => ?_)
          | refine WpA.cond_not rfl (fun _ => ?_) (fun _ => ?_)
          | refine WpA.cond rfl (fun _ => ?_) (fun _ => ?_)
          )
        | (guard_target =~ RunU _ _ _ _ [] _ _ _ _; first
          | refine RunU.nilL ?_
          | refine RunU.nilD (by kernel_rfl) ?_
          )
        | (guard_target =~ RunU _ _ _ _ (Oper.mk _ _ _ _ _ none :: _) _ _ _ _; refine RunU.cons step_any ?_)
        | (guard_target =~ RunU _ _ _ _ (Oper.mk _ _ _ _ _ (some _) :: _) _ _ _ _; first
          | refine RunU.pass rfl rfl rfl rfl ?_
          | refine RunU.pass_undef rfl rfl rfl ?_
          | refine RunU.doit rfl rfl step_any ?_
          | ((fail_if_success (refine RunU.doit (rd := []) (up := []) rfl rfl ?_ ?_)); first
            | refine RunU.guard_dec rfl rfl (fun _ => ?_) (fun _ => ?_)
            | refine RunU.guard_not rfl rfl (fun _ => ?_) (fun _ => ?_)
            | refine RunU.guard rfl rfl (fun _ => ?_) (fun _ => ?_))
          )
        | refine Then.next ?_
        | refine InBlock.next ?_
        | refine Done.ret (.one (by first | exact .c rfl | exact .own rfl | exact .als rfl rfl | exact .ptr rfl rfl | exact .part rfl rfl rfl) .nil) (.sh .nil) ?_ rfl
        | refine Done.normal (.one (by first | exact .c rfl | exact .own rfl | exact .als rfl rfl | exact .ptr rfl rfl | exact .part rfl rfl rfl) .nil) (.sh .nil) ?_ rfl)
    all_goals try (exfalso; omega)
    rw [← e0, Nat.add_sub_cancel]
end Go.Proofs.Ytfkhngjkpjcdfaa
