/- Milnor numbers of branches from below. No condition. -/
import Derived.Test.YtlfffahomddigaaZBsA
import Derived.Test.YtlfffahomddigaaZAbB
namespace Go.Proofs.Ytlfffahomddigaa
set_option maxHeartbeats 20000000
set_option linter.unusedVariables false
set_option linter.unusedSimpArgs false
open Go.Pv
open Go.ChangeShapes Go.WideShapes Go.ChangeAt Go.RowKit
attribute [local irreducible] RunU WpA Step CallG CallNG Done DoneN
theorem two_hf2 (m : Int) : 2 * hf2 m = m * (m - 1) := by
  unfold hf2
  have h : (m * (m - 1)) % 2 = 0 := by
    rw [Int.mul_emod]
    have h1 : m % 2 = 0 ∨ m % 2 = 1 := by omega
    rcases h1 with h | h
    · rw [h]; simp
    · have : (m - 1) % 2 = 0 := by omega
      rw [this]; simp
  generalize m * (m - 1) = x at *
  omega
theorem sum_run (q b : Int) (hq : 0 ≤ q) (R : List (List Int)) : sumL hf2 (runL ([q, b] :: R)) = q * hf2 b + sumL hf2 (runL R) := by
  have : runL ([q, b] :: R) = List.replicate q.toNat b ++ runL R := by simp [runL]
  rw [this, sumL_app, sumL_rep, Int.toNat_of_nonneg hq]
theorem eS_eq : ∀ (f : Nat) (a b : Int), 0 ≤ a → 0 ≤ b → b ≤ f → 2 * sumL hf2 (runL (stp f a b)) = (a - 1) * (b - 1) + (Int.gcd a b : Int) - 1
  | 0, a, b, ha, hb, hf => by
    have : b = 0 := by simp at hf; omega
    subst this
    rw [Int.gcd_zero_right, Int.natAbs_of_nonneg ha]
    simp [stp, runL, sumL]
    omega
  | f + 1, a, b, ha, hb, hf => by
    rw [stp]
    by_cases h : 0 < b
    · rw [if_pos h]
      have hm := Int.emod_nonneg a (show b ≠ 0 by omega)
      have hl := Int.emod_lt_of_pos a h
      have hq := Int.ediv_nonneg ha hb
      have hd := Int.mul_ediv_add_emod a b
      rw [sum_run _ _ hq]
      have ih := eS_eq f b (a % b) hb hm (by omega)
      have hg : (Int.gcd b (a % b) : Int) = (Int.gcd a b : Int) := by
        have : a % b = a - b * (a / b) := by omega
        rw [Int.gcd_comm b, this, Int.gcd_sub_right_left_of_dvd a ⟨a / b, rfl⟩]
      rw [hg] at ih
      have h2 := two_hf2 b
      have e1 : 2 * (a / b * hf2 b) = a / b * (b * (b - 1)) := by rw [← h2, ← Int.mul_assoc, Int.mul_comm 2, Int.mul_assoc]
      have e2 : (a - 1) * (b - 1) = a / b * (b * (b - 1)) + (b - 1) * (a % b - 1) := by
        have k1 : a - 1 = b * (a / b) + (a % b - 1) := by omega
        rw [k1, Int.add_mul, Int.mul_comm (a % b - 1), ← Int.mul_assoc (a / b), Int.mul_comm (a / b) b]
      generalize a / b * (b * (b - 1)) = x at *
      generalize (b - 1) * (a % b - 1) = y at *
      generalize (a - 1) * (b - 1) = z at *
      generalize a / b * hf2 b = u at *
      omega
    · have : b = 0 := by omega
      subst this
      rw [if_neg h, Int.gcd_zero_right, Int.natAbs_of_nonneg ha]
      simp [runL, sumL]
      omega
def muP (l : List Int) (j : Nat) : Int := 2 * sumL hf2 (seqL l j)
theorem divTo_nn (l : List Int) : ∀ j, 0 ≤ divTo l j
  | 0 => Int.le_refl _
  | j + 1 => by rw [divTo]; omega
theorem run_nn {l : List Int} (h : IsBr l) {j : Nat} (hj : j + 1 < l.length) : 1 ≤ runK l j := by
  have h1 := h.2.2.1 (j + 1) hj (by omega)
  have h2 := h.2.2.2.1 (j + 1) hj
  rw [Nat.add_sub_cancel] at h1
  unfold runK
  split <;> omega
theorem muP_step {l : List Int} (h : IsBr l) {j : Nat} (hj : j + 1 < l.length) : muP l (j + 1) = muP l j + (runK l j - 1) * (divTo l (j + 1) - 1) + divTo l (j + 2) - 1 := by
  have hr := run_nn h hj
  have hd := divTo_nn l (j + 1)
  have e0 : (divs l l.length).getD j 0 = divTo l (j + 1) := divs_at l l.length j (by omega)
  have hg : (Int.gcd (runK l j) (divTo l (j + 1)) : Int) = divTo l (j + 2) := by
    show _ = (Int.gcd (divTo l (j + 1)) (l.getD (j + 1) 0) : Int)
    rw [Int.gcd_comm (divTo l (j + 1))]
    unfold runK
    by_cases h0 : j = 0
    · rw [if_pos h0, Int.sub_zero]
    · rw [if_neg h0, Int.gcd_sub_right_left_of_dvd]
      rw [divTo]
      exact Int.gcd_dvd_right ..
  unfold muP
  rw [seqL, sumL_app, e0]
  have := eS_eq (divTo l (j + 1)).toNat (runK l j) (divTo l (j + 1)) (by omega) hd (by omega)
  rw [hg] at this
  generalize (runK l j - 1) * (divTo l (j + 1) - 1) = x at *
  omega
theorem falls_two {l : List Int} (h : IsBr l) {j : Nat} (hj : j + 1 < l.length) : 2 ≤ divTo l (j + 1) := by
  have h1 : divTo l (j + 2) < divTo l (j + 1) := h.2.2.2.2.1 (j + 1) hj (by omega)
  have h2 : 1 ≤ divTo l (j + 2) := by
    have h3 := divTo_nn l (j + 2)
    rcases Int.lt_or_le 0 (divTo l (j + 2)) with h4 | h4
    · omega
    · exfalso
      have h5 : divTo l (j + 2) = 0 := by omega
      have h6 : l.getD (j + 1) 0 = 0 := by
        have : (Int.gcd (divTo l (j + 1)) (l.getD (j + 1) 0) : Int) = 0 := h5
        have := Int.gcd_eq_zero_iff.1 (by omega : Int.gcd (divTo l (j + 1)) (l.getD (j + 1) 0) = 0)
        exact this.2
      have := h.2.2.2.1 (j + 1) hj
      omega
  omega
theorem muP_low {l : List Int} (h : IsBr l) : ∀ j, j + 2 ≤ l.length → (l.getD 0 0 - 1) * (l.getD 1 0 - 1) + (l.getD (j + 1) 0 - l.getD 1 0) + (divTo l (j + 2) - 1) ≤ muP l (j + 1)
  | 0, hj => by
    have := muP_step h (j := 0) (by omega)
    rw [show muP l 0 = 0 from rfl] at this
    have e0 : divTo l 1 = l.getD 0 0 := by
      have := h.2.1
      show (Int.gcd 0 (l.getD 0 0) : Int) = _
      rw [Int.gcd_zero_left]
      omega
    have e1 : runK l 0 = l.getD 1 0 := by simp [runK]
    rw [e1] at this
    rw [show (0 : Nat) + 1 = 1 from rfl, e0, Int.mul_comm] at this
    rw [show (0 : Nat) + 1 = 1 from rfl, show (0 : Nat) + 2 = 2 from rfl] at *
    omega
  | j + 1, hj => by
    have ih := muP_low h j (by omega)
    have h1 := muP_step h (j := j + 1) (by omega)
    have h2 := falls_two h (j := j + 1) (by omega)
    have h3 := run_nn h (j := j + 1) (by omega)
    have e1 : runK l (j + 1) = l.getD (j + 2) 0 - l.getD (j + 1) 0 := by simp [runK]
    have h4 : runK l (j + 1) - 1 + (divTo l (j + 1 + 1) - 1) ≤ (runK l (j + 1) - 1) * (divTo l (j + 1 + 1) - 1) + (divTo l (j + 1 + 1) - 1) := by
      have : (runK l (j + 1) - 1) * 1 ≤ (runK l (j + 1) - 1) * (divTo l (j + 1 + 1) - 1) := Int.mul_le_mul_of_nonneg_left (by omega) (by omega)
      omega
    rw [show j + 1 + 2 = j + 3 from rfl, show j + 1 + 1 = j + 2 from rfl] at *
    generalize (runK l (j + 1) - 1) * (divTo l (j + 2) - 1) = x at *
    generalize (l.getD 0 0 - 1) * (l.getD 1 0 - 1) = y at *
    omega
theorem muI_low {l : List Int} (h : IsBr l) (h2 : 2 ≤ l.length) : (l.getD 0 0 - 1) * (l.getD 1 0 - 1) + (l.getD (l.length - 1) 0 - l.getD 1 0) ≤ muI l := by
  have hm := muP_low h (l.length - 2) (by omega)
  have e : muI l = muP l (l.length - 2 + 1) := by
    unfold muI muP
    rw [dltTo_sum _ _ (Nat.le_refl _), List.take_length]
    unfold seqI
    rw [if_neg (by omega), show l.length - 2 + 1 = l.length - 1 by omega]
  have e2 : divTo l (l.length - 2 + 2) = 1 := by rw [show l.length - 2 + 2 = l.length by omega]; exact h.2.2.2.2.2
  rw [e2, show l.length - 2 + 1 = l.length - 1 by omega] at hm
  rw [e, show l.length - 2 + 1 = l.length - 1 by omega]
  omega
end Go.Proofs.Ytlfffahomddigaa
