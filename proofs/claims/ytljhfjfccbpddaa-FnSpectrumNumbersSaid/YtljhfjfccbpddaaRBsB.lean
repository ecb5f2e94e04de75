/- The numbers of a branch: ratios, Newton pairs, the numbers w. No condition. -/
import Derived.Test.YtljhfjfccbpddaaRBsA
import Derived.Test.YtljhfjfccbpddaaRBrC
import Derived.Test.YtljhfjfccbpddaaRPvX
namespace Go.Proofs.Ytljhfjfccbpddaa
set_option maxHeartbeats 20000000
set_option linter.unusedVariables false
set_option linter.unusedSimpArgs false
open Go.Pv
open Go.ChangeShapes Go.WideShapes Go.ChangeAt Go.RowKit
attribute [local irreducible] RunU WpA Step CallG CallNG Done DoneN
instance fnOk86 : FnOk Try.prog 86 := ⟨_, Try.func86, rfl, by decide⟩
def eE (l : List Int) (i : Nat) : Int := divTo l (i + 1)
def nN (l : List Int) : Nat → Int
  | 0 => 0
  | i + 1 => eE l i / eE l (i + 1)
def cC (l : List Int) (i : Nat) : Int := if i > 1 then l.getD i 0 - l.getD (i - 1) 0 else l.getD i 0
def wW (l : List Int) : Nat → Int
  | 0 => 0
  | i + 1 => wW l i * nN l i * nN l (i + 1) + cC l (i + 1) / eE l (i + 1)
def uptoL (g : Nat → List Int) (j : Nat) : List (List Int) := (List.range j).map g
theorem uptoL_len (g : Nat → List Int) (j : Nat) : (uptoL g j).length = j := by simp [uptoL]
theorem uptoL_step (g : Nat → List Int) (j : Nat) : uptoL g (j + 1) = uptoL g j ++ [g j] := by simp [uptoL, List.range_succ]
theorem uptoL_at (g : Nat → List Int) {j i : Nat} (h : i < j) : (uptoL g j).getD i [] = g i := by
  simp [uptoL, List.getD, h]
theorem IsBr.term {l : List Int} (h : IsBr l) {i : Nat} (hi : i < l.length) : 1 ≤ l.getD i 0 ∧ l.getD i 0 ≤ 2000 := h.2.2.2.1 i hi
theorem IsBr.bound {l : List Int} (h : IsBr l) : ∀ i, 0 ≤ l.getD i 0 ∧ l.getD i 0 ≤ 1000000000 := within_bound h.2.2.2.1 (by omega) (by omega)
theorem IsBr.e {l : List Int} (h : IsBr l) (i : Nat) : 0 < eE l i ∧ eE l i ≤ 64 := by
  have h0 := h.2.1
  refine ⟨divTo_ge (by omega) i, ?_⟩
  induction i with
  | zero => simp only [eE, divTo, Int.gcd_zero_left]; omega
  | succ i ih =>
    have := divTo_down (l := l) (by omega) i
    simp only [eE] at *
    omega
theorem IsBr.n {l : List Int} (h : IsBr l) (i : Nat) : 0 ≤ nN l i ∧ nN l i ≤ 64 := by
  cases i with
  | zero => simp [nN]
  | succ i =>
    have h1 := h.e i
    have h2 := h.e (i + 1)
    simp only [nN]
    exact ⟨Int.ediv_nonneg (by omega) (by omega), Int.le_trans (Int.ediv_le_self _ (by omega)) (by omega)⟩
theorem IsBr.half {l : List Int} (h : IsBr l) {i : Nat} (hi : i + 1 < l.length) : 2 * eE l (i + 1) ≤ eE l i := by
  have h1 := h.e i
  have h2 := h.2.2.2.2.1 (i + 1) hi (by omega)
  exact next_half (b := l.getD (i + 1) 0) h1.1 h2
theorem IsBr.short {l : List Int} (h : IsBr l) : l.length ≤ 7 := by
  have key : ∀ i, i < l.length → 2 ^ i * eE l i ≤ 64 := by
    intro i
    induction i with
    | zero => intro _; have := h.e 0; omega
    | succ i ih =>
      intro hi
      have h1 := ih (by omega)
      have h2 := h.half hi
      have h3 : (2 : Int) ^ (i + 1) * eE l (i + 1) = 2 ^ i * (2 * eE l (i + 1)) := by rw [Int.pow_succ, Int.mul_assoc]
      have h4 : (2 : Int) ^ i * (2 * eE l (i + 1)) ≤ 2 ^ i * eE l i := Int.mul_le_mul_of_nonneg_left h2 (Int.pow_nonneg (by omega))
      omega
  rcases Nat.lt_or_ge 7 l.length with h7 | h7
  · have := key 7 h7
    have h2 := h.e 7
    omega
  · exact h7
theorem IsBr.nn {l : List Int} (h : IsBr l) (i : Nat) : 0 ≤ nN l i * nN l (i + 1) ∧ nN l i * nN l (i + 1) ≤ 64 := by
  have h1 := h.n i
  have h2 := h.n (i + 1)
  refine ⟨Int.mul_nonneg h1.1 h2.1, ?_⟩
  cases i with
  | zero => simp [nN]
  | succ i =>
    have k0 := h.e i
    have k1 := h.e (i + 1)
    have k2 := h.e (i + 1 + 1)
    have a1 : nN l (i + 1) * eE l (i + 1) ≤ eE l i := Int.ediv_mul_le _ (by omega)
    have a2 : nN l (i + 1 + 1) * eE l (i + 1 + 1) ≤ eE l (i + 1) := Int.ediv_mul_le _ (by omega)
    have a3 : nN l (i + 1 + 1) ≤ nN l (i + 1 + 1) * eE l (i + 1 + 1) := by
      have := Int.mul_le_mul_of_nonneg_left (show 1 ≤ eE l (i + 1 + 1) by omega) h2.1
      omega
    have a4 : nN l (i + 1) * nN l (i + 1 + 1) ≤ nN l (i + 1) * eE l (i + 1) := Int.mul_le_mul_of_nonneg_left (by omega) h1.1
    show nN l (i + 1) * nN l (i + 1 + 1) ≤ 64
    omega
theorem IsBr.c {l : List Int} (h : IsBr l) {i : Nat} (hi : i + 1 < l.length) : 0 ≤ cC l (i + 1) / eE l (i + 1) ∧ cC l (i + 1) / eE l (i + 1) ≤ 2000 := by
  have h3 := h.e (i + 1)
  have ht := h.term hi
  have hc : 0 ≤ cC l (i + 1) ∧ cC l (i + 1) ≤ 2000 := by
    unfold cC
    split
    · have := h.2.2.1 (i + 1) hi (by omega)
      have ht2 := h.term (i := i + 1 - 1) (by omega)
      omega
    · omega
  exact ⟨Int.ediv_nonneg hc.1 (by omega), Int.le_trans (Int.ediv_le_self _ hc.1) hc.2⟩
theorem IsBr.w {l : List Int} (h : IsBr l) : ∀ i, i < l.length → 0 ≤ wW l i ∧ wW l i ≤ 2000 * 65 ^ i
  | 0, _ => by simp [wW]
  | i + 1, hi => by
    have ih := h.w i (by omega)
    have m1 := h.nn i
    have hq := h.c hi
    have m2 : 0 ≤ wW l i * (nN l i * nN l (i + 1)) ∧ wW l i * (nN l i * nN l (i + 1)) ≤ 2000 * 65 ^ i * 64 :=
      ⟨Int.mul_nonneg ih.1 m1.1, Int.mul_le_mul ih.2 m1.2 m1.1 (by omega)⟩
    have hp : (1 : Int) ≤ 65 ^ i := by
      have : (0 : Int) < 65 ^ i := Int.pow_pos (by omega)
      omega
    simp only [wW, Int.mul_assoc]
    rw [Int.pow_succ]
    omega
def wP (l : List Int) (i : Nat) : List Int := [nN l (i + 1), wW l (i + 1), eE l (i + 1)]
end Go.Proofs.Ytljhfjfccbpddaa
