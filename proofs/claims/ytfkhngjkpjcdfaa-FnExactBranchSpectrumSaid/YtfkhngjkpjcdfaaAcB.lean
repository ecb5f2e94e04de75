/- The lists of codes: the program and its reference make the same list. No condition. -/
import Derived.Test.YtfkhngjkpjcdfaaAcA
namespace Go.Proofs.Ytfkhngjkpjcdfaa
set_option maxHeartbeats 2000000
set_option linter.unusedVariables false
set_option linter.unusedSimpArgs false
open Go.Pv
open Go.ChangeShapes Go.WideShapes Go.ChangeAt Go.RowKit
attribute [local irreducible] RunU WpA Step CallG Done
theorem getD_get {l : List Int} {i : Nat} (h : i < l.length) : l.getD i 0 = l[i] := by simp [List.getD, h]
def lastOf (l : List Int) : Int := l.getD (l.length - 1) 0
theorem last_snoc (l : List Int) (c : Int) : lastOf (l ++ [c]) = c := by simp [lastOf]
theorem last_eq (l : List Int) : l.getD (((l.length : Int) - 1).toNat * 1) 0 = lastOf l := by
  rw [lastOf, Nat.mul_one, show ((l.length : Int) - 1).toNat = l.length - 1 by omega]
def codesS : Nat → List Int → List (List Int)
  | 0, l => [l]
  | m + 1, l => codesS m (l ++ [0]) ++ (if 0 < l.length then codesS m (l ++ [2]) ++ (if 0 < lastOf l then codesS m (l ++ [lastOf l + 1]) else []) else [])
def nexts (l : List Int) : List Int := if l.length = 0 then [0] else if lastOf l = 0 then [0, 2] else [0, 2, lastOf l + 1]
def codesI : Nat → List Int → List (List Int)
  | 0, l => [l]
  | m + 1, l => (nexts l).flatMap fun c => codesI m (l ++ [c])
theorem codes_eq : ∀ (m : Nat) (l : List Int), 0 ≤ lastOf l → codesI m l = codesS m l
  | 0, _, _ => rfl
  | m + 1, l, h => by
    have e : ∀ c, 0 ≤ c → codesI m (l ++ [c]) = codesS m (l ++ [c]) := fun c hc => codes_eq m (l ++ [c]) (by rw [last_snoc]; exact hc)
    by_cases h0 : l.length = 0
    · simp only [codesI, codesS, nexts, if_pos h0, if_neg (show ¬ 0 < l.length by omega), List.flatMap_cons, List.flatMap_nil, e 0 (Int.le_refl 0)]
    · by_cases h1 : lastOf l = 0
      · simp only [codesI, codesS, nexts, if_neg h0, if_pos (show 0 < l.length by omega), if_pos h1, if_neg (show ¬ 0 < lastOf l by omega), List.flatMap_cons, List.flatMap_nil, e 0 (Int.le_refl 0), e 2 (by omega)]
      · simp only [codesI, codesS, nexts, if_neg h0, if_pos (show 0 < l.length by omega), if_neg h1, if_pos (show 0 < lastOf l by omega), List.flatMap_cons, List.flatMap_nil, e 0 (Int.le_refl 0), e 2 (by omega), e (lastOf l + 1) (by omega), List.append_nil]
theorem codesS_len : ∀ (m : Nat) (l : List Int), (codesS m l).length ≤ 3 ^ m
  | 0, _ => by simp [codesS]
  | m + 1, l => by
    have h1 := codesS_len m (l ++ [0])
    have h2 := codesS_len m (l ++ [2])
    have h3 := codesS_len m (l ++ [lastOf l + 1])
    simp only [codesS, List.length_append, Nat.pow_succ]
    split
    · split <;> simp only [List.length_append, List.length_nil] <;> omega
    · simp only [List.length_nil]; omega
theorem codesS_rows : ∀ (m : Nat) (l : List Int), ∀ x ∈ codesS m l, x.length = l.length + m
  | 0, l, x, h => by simp [codesS] at h; subst h; rfl
  | m + 1, l, x, h => by
    have e : ∀ c, ∀ x ∈ codesS m (l ++ [c]), x.length = l.length + (m + 1) := fun c x hx => by
      have := codesS_rows m (l ++ [c]) x hx
      simp at this; omega
    simp only [codesS, List.mem_append] at h
    rcases h with h | h
    · exact e _ x h
    · split at h
      · rw [List.mem_append] at h
        rcases h with h | h
        · exact e _ x h
        · split at h
          · exact e _ x h
          · simp at h
      · simp at h

theorem nexts_nonneg (l : List Int) (h : 0 ≤ lastOf l) : ∀ c ∈ nexts l, 0 ≤ c ∧ c ≤ lastOf l + 2 := by
  intro c hc
  unfold nexts at hc
  split at hc
  · simp at hc; omega
  · split at hc <;> simp at hc <;> omega
theorem nexts_len (l : List Int) : (nexts l).length ≤ 3 := by
  unfold nexts
  split
  · simp
  · split <;> simp
/-- What the first j numbers give. -/
def upTo (m : Nat) (l : List Int) (j : Nat) : List (List Int) := ((nexts l).take j).flatMap fun c => codesI m (l ++ [c])
theorem upTo_step (m : Nat) (l : List Int) (j : Nat) (h : j < (nexts l).length) : upTo m l (j + 1) = upTo m l j ++ codesI m (l ++ [(nexts l).getD j 0]) := by
  unfold upTo
  rw [List.take_add_one, List.getElem?_eq_getElem h, List.flatMap_append]
  simp [List.getD, h]
theorem codesI_len (m : Nat) (l : List Int) (h : 0 ≤ lastOf l) : (codesI m l).length ≤ 3 ^ m := by rw [codes_eq m l h]; exact codesS_len m l
theorem upTo_len (m : Nat) (l : List Int) (h : 0 ≤ lastOf l) : ∀ j, j ≤ (nexts l).length → (upTo m l j).length ≤ j * 3 ^ m
  | 0, _ => by simp [upTo]
  | j + 1, hj => by
    have hc : 0 ≤ (nexts l).getD j 0 := by
      rw [getD_get (by omega)]; exact (nexts_nonneg l h _ (List.getElem_mem _)).1
    have h1 := upTo_len m l h j (by omega)
    have h2 := codesI_len m (l ++ [(nexts l).getD j 0]) (by rw [last_snoc]; exact hc)
    rw [upTo_step m l j (by omega), List.length_append, Nat.succ_mul]
    omega
def allC (k : Int) : List (List Int) := if 0 ≤ k ∧ k ≤ 8 then codesS k.toNat [] else []
def allCode (k : Int) : Int := if 0 ≤ k ∧ k ≤ 8 then 0 else 2
theorem pow_8 {m : Nat} (h : m ≤ 8) : 3 ^ m ≤ 6561 := by
  have : 3 ^ m ≤ 3 ^ 8 := Nat.pow_le_pow_right (by omega) h
  omega
theorem allC_len (k : Int) : (allC k).length ≤ 6561 := by
  unfold allC
  split
  · have := codesS_len k.toNat []
    have := pow_8 (m := k.toNat) (by omega)
    omega
  · simp
theorem allC_row (k : Int) (i : Nat) : ((allC k).getD i []).length ≤ 1000 := by
  unfold allC
  split
  · rename_i h
    by_cases hi : i < (codesS k.toNat []).length
    · have := codesS_rows k.toNat [] ((codesS k.toNat [])[i]) (List.getElem_mem hi)
      simp only [List.length_nil] at this
      rw [List.getD_eq_getElem?_getD, List.getElem?_eq_getElem hi, Option.getD_some]
      omega
    · rw [List.getD_eq_getElem?_getD, List.getElem?_eq_none (by omega)]
      simp
  · simp
end Go.Proofs.Ytfkhngjkpjcdfaa
