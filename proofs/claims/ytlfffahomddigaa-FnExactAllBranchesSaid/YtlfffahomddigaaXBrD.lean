/- The walks of the lists of branches within bounds. No condition. -/
import Derived.Test.YtlfffahomddigaaXBrC
namespace Go.Proofs.Ytlfffahomddigaa
set_option maxHeartbeats 20000000
set_option linter.unusedVariables false
set_option linter.unusedSimpArgs false
open Go.Pv
open Go.ChangeShapes Go.WideShapes Go.ChangeAt Go.RowKit
attribute [local irreducible] RunU WpA Step CallG CallNG Done DoneN
theorem flat_len {α β : Type} (g : α → List β) (c B : Nat) : ∀ l : List α, (∀ a ∈ l, c * (g a).length ≤ B) → c * (l.flatMap g).length ≤ l.length * B
  | [], _ => by simp
  | a :: l, h => by
    have h1 := h a (by simp)
    have h2 := flat_len g c B l fun a ha => h a (by simp [ha])
    simp only [List.flatMap_cons, List.length_append, List.length_cons, Nat.mul_add, Nat.add_mul, Nat.one_mul]
    omega
theorem getD_snoc (l : List Int) (b : Int) (i : Nat) : (l ++ [b]).getD i 0 = l.getD i 0 ∨ (l ++ [b]).getD i 0 = b := by
  simp only [List.getD_eq_getElem?_getD]
  rcases Nat.lt_or_ge i l.length with h | h
  · left; rw [List.getElem?_append_left h]
  · rw [List.getElem?_append_right h]
    rcases Nat.eq_zero_or_pos (i - l.length) with h0 | h0
    · right; rw [h0]; rfl
    · left; rw [List.getElem?_eq_none (by simp; omega), List.getElem?_eq_none h]
theorem divTo_pos {l : List Int} (h : 0 < l.length) (h1 : ∀ i, i < l.length → 0 < l.getD i 0) : 0 < divTo l l.length := by
  obtain ⟨n, hn⟩ : ∃ n, l.length = n + 1 := ⟨l.length - 1, by omega⟩
  rw [hn, divTo]
  have := Int.gcd_pos_of_ne_zero_right (divTo l n) (show l.getD n 0 ≠ 0 by have := h1 n (by omega); omega)
  omega
theorem divs_last (l : List Int) (h : 0 < l.length) : (divs l l.length).getD (((l.length : Int) - 1).toNat * 1) 0 = divTo l l.length := by
  obtain ⟨n, hn⟩ : ∃ n, l.length = n + 1 := ⟨l.length - 1, by omega⟩
  rw [hn, show (((n + 1 : Nat) : Int) - 1).toNat * 1 = n by omega, divs]
  have := divs_len l n
  rw [List.getD_eq_getElem?_getD, List.getElem?_append_right (by omega), this]
  simp
def Terms (l : List Int) : Prop := 0 < l.length ∧ (∀ i, 0 ≤ l.getD i 0 ∧ l.getD i 0 ≤ 1000000000) ∧ (∀ i, i < l.length → 0 < l.getD i 0)
theorem Terms.snoc {l : List Int} (h : Terms l) {b : Int} (hb : 0 < b) (hb2 : b ≤ 1000000000) : Terms (l ++ [b]) := by
  refine ⟨by simp, fun i => ?_, fun i hi => ?_⟩
  · rcases getD_snoc l b i with e | e <;> rw [e]
    · exact h.2.1 i
    · omega
  · by_cases h1 : i < l.length
    · rw [List.getD_eq_getElem?_getD, List.getElem?_append_left h1, ← List.getD_eq_getElem?_getD]; exact h.2.2 i h1
    · have : i = l.length := by simp at hi; omega
      subst this
      simp [hb]
theorem Terms.last {l : List Int} (h : Terms l) : 0 < lastOf l := h.2.2 _ (by have := h.1; omega)
end Go.Proofs.Ytlfffahomddigaa
