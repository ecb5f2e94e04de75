/- The numbers w of a branch, by the program and by the reference. No condition. -/
import Derived.Test.YtljhfjfccbpddaaRBsB
import Derived.Test.YtljhfjfccbpddaaRSqB
namespace Go.Proofs.Ytljhfjfccbpddaa
set_option maxHeartbeats 20000000
set_option linter.unusedVariables false
set_option linter.unusedSimpArgs false
open Go.Pv
open Go.ChangeShapes Go.WideShapes Go.ChangeAt Go.RowKit
attribute [local irreducible] RunU WpA Step CallG CallNG Done DoneN
theorem IsBr.dvd {l : List Int} (h : IsBr l) (i : Nat) : nN l (i + 1) * eE l (i + 1) = eE l i := by
  have h2 := h.e (i + 1)
  have h3 : eE l (i + 1) ∣ eE l i := by
    unfold eE
    conv => lhs; rw [divTo]
    exact Int.gcd_dvd_left ..
  exact Int.ediv_mul_cancel h3
def bB (l : List Int) (i : Nat) : Int := wW l i * eE l i
theorem IsBr.cbound {l : List Int} (h : IsBr l) {i : Nat} (hi : i + 1 < l.length) : 0 ≤ cC l (i + 1) ∧ cC l (i + 1) ≤ 2000 := by
  have ht := h.term hi
  unfold cC
  split
  · have := h.2.2.1 (i + 1) hi (by omega)
    have ht2 := h.term (i := i + 1 - 1) (by omega)
    omega
  · omega
theorem IsBr.gen {l : List Int} (h : IsBr l) {i : Nat} (hi : i + 1 < l.length) : bB l (i + 1) ≤ nN l i * bB l i + 2000 ∧ 0 ≤ bB l (i + 1) := by
  have hc := h.cbound hi
  have he := h.e (i + 1)
  have hw := h.w (i + 1) hi
  have hd := h.dvd i
  refine ⟨?_, Int.mul_nonneg hw.1 (by omega)⟩
  have h1 : cC l (i + 1) / eE l (i + 1) * eE l (i + 1) ≤ cC l (i + 1) := Int.ediv_mul_le _ (by omega)
  have h2 : bB l (i + 1) = wW l i * nN l i * (nN l (i + 1) * eE l (i + 1)) + cC l (i + 1) / eE l (i + 1) * eE l (i + 1) := by
    rw [bB, wW, Int.add_mul, Int.mul_assoc (wW l i * nN l i)]
  have h3 : wW l i * nN l i * eE l i = nN l i * bB l i := by
    rw [bB, Int.mul_comm (wW l i), Int.mul_assoc]
  rw [h2, hd, h3]
  omega
theorem IsBr.le_e {l : List Int} (h : IsBr l) (i : Nat) : nN l (i + 1) ≤ eE l i := by
  have h1 := h.dvd i
  have h2 := h.e (i + 1)
  have h3 := h.n (i + 1)
  have := Int.mul_le_mul_of_nonneg_left (show 1 ≤ eE l (i + 1) by omega) h3.1
  omega
theorem IsBr.small {l : List Int} (h : IsBr l) : ∀ i, i + 1 < l.length → bB l (i + 1) * eE l i + 4000 * eE l (i + 1) ≤ 256000
  | 0, hi => by
    have h1 := h.gen hi
    have h2 := h.e 0
    have h3 := h.half hi
    have h4 : bB l 0 = 0 := by simp [bB, wW]
    rw [h4, Int.mul_zero] at h1
    have := Int.mul_le_mul_of_nonneg_right (show bB l (0 + 1) ≤ 2000 by omega) (show 0 ≤ eE l 0 by omega)
    omega
  | i + 1, hi => by
    have ih := h.small i (by omega)
    have h1 := h.gen hi
    have h2 := h.e (i + 1)
    have h3 := h.half hi
    have h4 := h.dvd i
    have h5 := Int.mul_le_mul_of_nonneg_right h1.1 (show 0 ≤ eE l (i + 1) by omega)
    have h6 : (nN l (i + 1) * bB l (i + 1) + 2000) * eE l (i + 1) = bB l (i + 1) * eE l i + 2000 * eE l (i + 1) := by
      rw [Int.add_mul, Int.mul_comm (nN l (i + 1)), Int.mul_assoc, h4]
    omega
theorem IsBr.npos {l : List Int} (h : IsBr l) (i : Nat) : 1 ≤ nN l (i + 1) := by
  have h1 := h.dvd i
  have h2 := h.e i
  have h3 := h.n (i + 1)
  rcases Int.lt_or_le 0 (nN l (i + 1)) with h4 | h4
  · omega
  · have : nN l (i + 1) = 0 := by omega
    rw [this, Int.zero_mul] at h1
    omega
theorem IsBr.wpos {l : List Int} (h : IsBr l) : ∀ i, i + 1 < l.length → 1 ≤ wW l (i + 1)
  | 0, hi => by
    have h1 := h.term hi
    have h2 : 0 < eE l (0 + 1) := (h.e (0 + 1)).1
    have h3 : eE l (0 + 1) ≤ l.getD (0 + 1) 0 := by
      unfold eE
      rw [divTo]
      have := Int.gcd_le_right (a := divTo l 1) (show 0 < l.getD (0 + 1) 0 by omega)
      exact this
    have h4 : 1 ≤ cC l (0 + 1) / eE l (0 + 1) := by
      rw [cC, if_neg (by omega)]
      exact (Int.le_ediv_iff_mul_le h2).2 (by omega)
    rw [wW, wW, Int.zero_mul, Int.zero_mul, Int.zero_add]
    exact h4
  | i + 1, hi => by
    have ih := h.wpos i (by omega)
    have h1 := h.npos i
    have h2 := h.npos (i + 1)
    have h3 := h.c hi
    have h4 := Int.mul_le_mul ih h1 (by omega) (by omega)
    have h5 := Int.mul_le_mul h4 h2 (by omega) (by omega)
    rw [wW]
    omega
theorem IsBr.nwr {l : List Int} (h : IsBr l) {i : Nat} (hi : i + 1 < l.length) : 1 ≤ nN l (i + 1) * wW l (i + 1) * eE l (i + 1) ∧ nN l (i + 1) * wW l (i + 1) * eE l (i + 1) ≤ 256000 ∧ 1 ≤ nN l (i + 1) * wW l (i + 1) ∧ nN l (i + 1) * wW l (i + 1) ≤ 256000 ∧ wW l (i + 1) ≤ 256000 := by
  have h1 := h.small i hi
  have h2 := h.le_e i
  have h3 := h.npos i
  have h4 := h.wpos i hi
  have h5 := h.e (i + 1)
  have h6 := h.gen hi
  have h7 := Int.mul_le_mul_of_nonneg_left h2 h6.2
  have e1 : nN l (i + 1) * wW l (i + 1) * eE l (i + 1) = bB l (i + 1) * nN l (i + 1) := by rw [bB, Int.mul_assoc, Int.mul_comm]
  have h8 := Int.mul_le_mul h3 h4 (by omega) (by omega)
  have h9 := Int.mul_le_mul h8 (show 1 ≤ eE l (i + 1) by omega) (by omega) (by omega)
  have h10 := Int.mul_le_mul_of_nonneg_left (show 1 ≤ eE l (i + 1) by omega) (show 0 ≤ nN l (i + 1) * wW l (i + 1) by omega)
  have h11 := Int.mul_le_mul_of_nonneg_right h3 (show 0 ≤ wW l (i + 1) by omega)
  omega
theorem IsBr.w2 {l : List Int} (h : IsBr l) {i : Nat} (hi : i < l.length) : 0 ≤ wW l i ∧ wW l i ≤ 256000 := by
  cases i with
  | zero => simp [wW]
  | succ i =>
    have := h.nwr hi
    have := h.wpos i hi
    omega
theorem IsBr.wn {l : List Int} (h : IsBr l) {i : Nat} (hi : i < l.length) : (0 ≤ wW l i * nN l i ∧ wW l i * nN l i ≤ 17000000) ∧ (0 ≤ wW l i * nN l i * nN l (i + 1) ∧ wW l i * nN l i * nN l (i + 1) ≤ 1100000000) := by
  have h1 := h.w2 hi
  have h2 := h.n i
  have h3 := h.n (i + 1)
  have a1 := Int.mul_le_mul h1.2 h2.2 h2.1 (by omega)
  have a2 := Int.mul_nonneg h1.1 h2.1
  have a3 := Int.mul_le_mul (show wW l i * nN l i ≤ 17000000 by omega) h3.2 h3.1 (by omega)
  have a4 := Int.mul_nonneg a2 h3.1
  omega
end Go.Proofs.Ytljhfjfccbpddaa
