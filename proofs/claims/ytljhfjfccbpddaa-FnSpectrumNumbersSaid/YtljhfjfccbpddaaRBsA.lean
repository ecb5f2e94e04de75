/- What a branch is: the program's test and the reference's are the same. No condition. -/
import Derived.Test.YtljhfjfccbpddaaRBrA
import Derived.Test.YtljhfjfccbpddaaRNuA
namespace Go.Proofs.Ytljhfjfccbpddaa
set_option maxHeartbeats 20000000
set_option linter.unusedVariables false
set_option linter.unusedSimpArgs false
open Go.Pv
open Go.ChangeShapes Go.WideShapes Go.ChangeAt Go.RowKit
attribute [local irreducible] RunU WpA Step CallG CallNG Done DoneN
def Strict (l : List Int) : Prop := ∀ i, i < l.length → 0 < i → l.getD (i - 1) 0 < l.getD i 0
instance decStrict (l : List Int) : Decidable (Strict l) := by unfold Strict; infer_instance
def Falls (l : List Int) : Prop := (∀ i, i < l.length → 0 < i → divTo l (i + 1) < divTo l i) ∧ divTo l l.length = 1
instance decFalls (l : List Int) : Decidable (Falls l) := by unfold Falls; infer_instance
def IsBr (l : List Int) : Prop := 0 < l.length ∧ (1 ≤ l.getD 0 0 ∧ l.getD 0 0 ≤ 64) ∧ Strict l ∧ Within l 1 2000 ∧ Falls l
instance decIsBr (l : List Int) : Decidable (IsBr l) := by unfold IsBr; infer_instance
theorem divs_at (l : List Int) : ∀ j i, i < j → (divs l j).getD i 0 = divTo l (i + 1)
  | j + 1, i, h => by
    have hl := divs_len l j
    simp only [divs, List.getD_eq_getElem?_getD]
    by_cases hi : i < j
    · rw [List.getElem?_append_left (by omega), ← List.getD_eq_getElem?_getD, divs_at l j i hi]
    · obtain rfl : i = j := by omega
      rw [List.getElem?_append_right (by omega), hl]
      simp
theorem within_bound {l : List Int} {a b : Int} (h : Within l a b) (ha : 0 ≤ a) (hb : b ≤ 1000000000) : ∀ i, 0 ≤ l.getD i 0 ∧ l.getD i 0 ≤ 1000000000 := by
  intro i
  by_cases hi : i < l.length
  · have := h i hi
    omega
  · rw [List.getD_eq_getElem?_getD, List.getElem?_eq_none (by omega)]; simp
theorem divTo_ge {l : List Int} (h0 : 0 < l.getD 0 0) : ∀ j, 0 < divTo l (j + 1)
  | 0 => by
    simp only [divTo, Int.gcd_zero_left]
    omega
  | j + 1 => by
    have := Int.gcd_pos_of_ne_zero_left (l.getD (j + 1) 0) (show divTo l (j + 1) ≠ 0 by have := divTo_ge h0 j; omega)
    rw [divTo]
    omega
theorem divTo_down {l : List Int} (h0 : 0 < l.getD 0 0) (j : Nat) : divTo l (j + 1 + 1) ≤ divTo l (j + 1) := by
  have := Int.gcd_le_left (b := l.getD (j + 1) 0) (divTo_ge h0 j)
  rw [divTo]
  omega
theorem isBr_iff (l : List Int) : IsBr l ↔ 0 < l.length ∧ (1 ≤ l.getD 0 0 ∧ l.getD 0 0 ≤ 64) ∧ (∀ i, i < l.length → 0 < i → (l.getD (i - 1) 0 + 1 ≤ l.getD i 0 ∧ l.getD i 0 ≤ 2000) ∧ divTo l (i + 1) ≠ divTo l i) ∧ divTo l l.length = 1 := by
  constructor
  · rintro ⟨h1, h2, h3, h4, h5, h6⟩
    refine ⟨h1, h2, fun i hi h0 => ⟨⟨?_, (h4 i hi).2⟩, ?_⟩, h6⟩
    · have := h3 i hi h0; omega
    · have := h5 i hi h0; omega
  · rintro ⟨h1, h2, h3, h4⟩
    have hw : ∀ i, i < l.length → 1 ≤ l.getD i 0 ∧ l.getD i 0 ≤ 2000 := by
      intro i
      induction i with
      | zero => intro _; omega
      | succ i ih =>
        intro hi
        have := ih (by omega)
        have h5 := (h3 (i + 1) hi (by omega)).1
        simp only [Nat.add_sub_cancel] at h5
        omega
    refine ⟨h1, h2, fun i hi h0 => ?_, hw, fun i hi h0 => ?_, h4⟩
    · have := (h3 i hi h0).1; omega
    · have h5 := (h3 i hi h0).2
      obtain ⟨k, rfl⟩ : ∃ k, i = k + 1 := ⟨i - 1, by omega⟩
      have := divTo_down (l := l) (by omega) k
      omega
end Go.Proofs.Ytljhfjfccbpddaa
