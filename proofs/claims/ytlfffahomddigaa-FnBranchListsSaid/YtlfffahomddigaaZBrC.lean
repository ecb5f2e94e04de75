/- Lists of branches within bounds: the program and its reference make the same list. No condition. -/
import Derived.Test.YtlfffahomddigaaZBrB
import Derived.Test.YtlfffahomddigaaZAcB
namespace Go.Proofs.Ytlfffahomddigaa
set_option maxHeartbeats 20000000
set_option linter.unusedVariables false
set_option linter.unusedSimpArgs false
open Go.Pv
open Go.ChangeShapes Go.WideShapes Go.ChangeAt Go.RowKit
attribute [local irreducible] RunU WpA Step CallG CallNG Done DoneN
instance fnOk54 : FnOk Try.prog 54 := ⟨_, Try.func54, rfl, by decide⟩
instance fnOk53 : FnOk Try.prog 53 := ⟨_, Try.func53, rfl, by decide⟩
instance fnOk27 : FnOk Try.prog 27 := ⟨_, Try.func27, rfl, by decide⟩
instance fnOk26 : FnOk Try.prog 26 := ⟨_, Try.func26, rfl, by decide⟩
def rng (lo hi : Int) : List Int := (List.range (hi - lo + 1).toNat).map fun i : Nat => lo + (i : Int)
def within : Nat → List Int → Int → Int → List (List Int)
  | 0, _, _, _ => []
  | f + 1, l, e, t => if e = 1 then [l] else (rng (lastOf l + 1) t).flatMap fun b => if (Int.gcd e b : Int) < e then within f (l ++ [b]) (Int.gcd e b) t else []
theorem divTo_take (l : List Int) (b : Int) : ∀ j, j ≤ l.length → divTo (l ++ [b]) j = divTo l j
  | 0, _ => rfl
  | j + 1, h => by
    simp only [divTo, divTo_take l b j (by omega)]
    congr 2
    simp only [List.getD_eq_getElem?_getD]
    rw [List.getElem?_append_left (by omega)]
theorem divTo_snoc (l : List Int) (b : Int) : divTo (l ++ [b]) (l ++ [b]).length = (Int.gcd (divTo l l.length) b : Int) := by
  rw [List.length_append, List.length_singleton, divTo, divTo_take l b _ (Nat.le_refl _)]
  congr 2
  simp
theorem gcd_less {e b : Int} (he : 0 < e) : (Int.gcd e b : Int) < e ↔ b % e ≠ 0 := by
  have h1 : (Int.gcd e b : Int) ∣ e := Int.gcd_dvd_left ..
  have h2 : (Int.gcd e b : Int) ∣ b := Int.gcd_dvd_right ..
  have h3 : (Int.gcd e b : Int) ≤ e := Int.le_of_dvd he h1
  constructor
  · intro h h0
    have : e ∣ (Int.gcd e b : Int) := Int.dvd_coe_gcd (Int.dvd_refl e) (Int.dvd_of_emod_eq_zero h0)
    have hp : 0 < (Int.gcd e b : Int) := by
      have := Int.gcd_pos_of_ne_zero_left b (show e ≠ 0 by omega)
      omega
    have := Int.le_of_dvd hp this
    omega
  · intro h
    rcases Int.lt_or_eq_of_le h3 with h4 | h4
    · exact h4
    · rw [h4] at h2
      exact absurd (Int.emod_eq_zero_of_dvd h2) h
theorem rng_len (lo hi : Int) : (rng lo hi).length = (hi - lo + 1).toNat := by simp [rng]
theorem rng_at (lo hi : Int) (j : Nat) (h : j < (rng lo hi).length) : (rng lo hi).getD j 0 = lo + j := by
  rw [rng_len] at h
  simp [rng, List.getD, h]
theorem next_half {e b : Int} (he : 0 < e) (h : (Int.gcd e b : Int) < e) : 2 * (Int.gcd e b : Int) ≤ e := by
  have h1 : (Int.gcd e b : Int) ∣ e := Int.gcd_dvd_left ..
  obtain ⟨k, hk⟩ := h1
  have hp : 0 < (Int.gcd e b : Int) := by
    have := Int.gcd_pos_of_ne_zero_left b (show e ≠ 0 by omega)
    omega
  have hk1 : 1 < k := by
    rcases Int.lt_or_le 1 k with h2 | h2
    · exact h2
    · have := Int.mul_le_mul_of_nonneg_left h2 (Int.le_of_lt hp)
      rw [← hk] at this
      omega
  have := Int.mul_le_mul_of_nonneg_left (show 2 ≤ k by omega) (Int.le_of_lt hp)
  rw [← hk] at this
  omega
def wTo (f : Nat) (l : List Int) (e t : Int) (j : Nat) : List (List Int) := ((rng (lastOf l + 1) t).take j).flatMap fun b => if (Int.gcd e b : Int) < e then within f (l ++ [b]) (Int.gcd e b) t else []
theorem wTo_step (f : Nat) (l : List Int) (e t : Int) (j : Nat) (h : j < (rng (lastOf l + 1) t).length) : wTo f l e t (j + 1) = wTo f l e t j ++ (if (Int.gcd e (lastOf l + 1 + j) : Int) < e then within f (l ++ [lastOf l + 1 + j]) (Int.gcd e (lastOf l + 1 + j)) t else []) := by
  have hg := rng_at (lastOf l + 1) t j h
  rw [getD_get h] at hg
  unfold wTo
  rw [List.take_add_one, List.getElem?_eq_getElem h, List.flatMap_append, hg]
  simp
end Go.Proofs.Ytlfffahomddigaa
