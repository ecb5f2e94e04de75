/- Numbers of spectra: what the law asks of reduced, merged and shortened spectra, in plain. No condition. -/
import Derived.Test.YtljhfjfccbpddaaRRsB
import Derived.Test.YtljhfjfccbpddaaRSpB
namespace Go.Proofs.Ytljhfjfccbpddaa
set_option maxHeartbeats 20000000
set_option linter.unusedVariables false
set_option linter.unusedSimpArgs false
open Go.Pv
open Go.ChangeShapes Go.WideShapes Go.ChangeAt Go.RowKit
attribute [local irreducible] RunU WpA Step CallG CallNG Done DoneN
theorem cnt_sum (b top bot : Int) (hb : 1 ≤ b) (l : List Int) : ∀ j, cntTo (fun x => x * bot < top * b) l j + cntTo (fun x => x * bot = top * b) l j ≤ cntTo (fun x => x * bot < (top + 1) * b) l j
  | 0 => by simp [cntTo]
  | j + 1 => by
    have ih := cnt_sum b top bot hb l j
    have e : (top + 1) * b = top * b + b := by rw [Int.add_mul, Int.one_mul]
    simp only [cntTo, e] at ih ⊢
    split <;> split <;> split <;> omega
theorem gTo_dvd {b : Int} {l : List Int} : ∀ j, gTo b l j ∣ b
  | 0 => Int.dvd_refl _
  | j + 1 => Int.dvd_trans (Int.gcd_dvd_left ..) (gTo_dvd j)
theorem gTo_dvd' {b : Int} {l : List Int} : ∀ j i, i < j → gTo b l j ∣ l.getD i 0
  | j + 1, i, h => by
    by_cases e : i = j
    · subst e; exact Int.gcd_dvd_right ..
    · exact Int.dvd_trans (Int.gcd_dvd_left ..) (gTo_dvd' j i (by omega))
def divL (g : Int) (l : List Int) : List Int := l.map fun x => x / g
theorem divL_at (g : Int) (l : List Int) (i : Nat) : (divL g l).getD i 0 = l.getD i 0 / g := by
  simp only [divL, List.getD_eq_getElem?_getD, List.getElem?_map]
  cases l[i]? <;> simp
theorem divL_len (g : Int) (l : List Int) : (divL g l).length = l.length := by simp [divL]
theorem gTo_div {b g : Int} {l : List Int} (hg : 0 < g) : ∀ j, g ∣ gTo b l j → gTo (b / g) (divL g l) j = gTo b l j / g
  | 0, _ => rfl
  | j + 1, h => by
    have h1 : g ∣ gTo b l j := Int.dvd_trans h (Int.gcd_dvd_left ..)
    have h2 : g ∣ l.getD j 0 := Int.dvd_trans h (Int.gcd_dvd_right ..)
    simp only [gTo]
    rw [gTo_div hg j h1, divL_at, Int.gcd_ediv h1 h2]
    obtain ⟨n, rfl⟩ := Int.eq_ofNat_of_zero_le (Int.le_of_lt hg)
    simp
theorem posOf_top {l : List Int} {x : Int} : ∀ k, (∀ i, i < k → l.getD i 0 ≤ x) → posOf l x k = k
  | 0, _ => rfl
  | k + 1, h => by
    have := h k (by omega)
    simp only [posOf]
    rw [if_neg (by omega)]
theorem insTo_asc {g : Int} (hg : 0 < g) {l : List Int} (h : Asc l) : ∀ j, j ≤ l.length → insTo g l j = divL g (l.take j)
  | 0, _ => by simp [insTo, divL]
  | j + 1, hj => by
    have ih := insTo_asc hg h j (by omega)
    have hmono : ∀ i, i ≤ j → l.getD i 0 ≤ l.getD j 0 := fun i hi => by
      obtain ⟨k, rfl⟩ : ∃ k, j = i + k := ⟨j - i, by omega⟩
      clear hi ih
      induction k with
      | zero => exact Int.le_refl _
      | succ k ih2 =>
        have h1 := ih2 (by omega)
        have h2 := h (i + (k + 1)) (by omega) (by omega)
        rw [show i + (k + 1) - 1 = i + k by omega] at h2
        omega
    have hlen : (divL g (l.take j)).length = j := by rw [divL_len, List.length_take]; omega
    rw [insTo, ih, insAt, hlen, posOf_top j (fun i hi => ?_)]
    · rw [List.take_of_length_le (by omega), List.drop_of_length_le (by omega), List.take_add_one, List.getElem?_eq_getElem (by omega)]
      simp [divL, List.getD_eq_getElem?_getD, List.getElem?_eq_getElem (show j < l.length by omega)]
      rw [List.take_add_one, List.getElem?_map, List.getElem?_eq_getElem (show j < l.length by omega)]
      rfl
    · rw [divL_at]
      refine Int.ediv_le_ediv hg ?_
      have := hmono i (by omega)
      rwa [List.getD_eq_getElem?_getD, List.getElem?_take, if_pos hi, ← List.getD_eq_getElem?_getD]
theorem gTo_pos {b : Int} {l : List Int} (h : IsSp b l) (j : Nat) : 0 < gTo b l j := (gTo_bound l (by have := h.1; omega) j).1
theorem rs_eq {b : Int} {l : List Int} (h : IsSp b l) : rsB b l = b / gTo b l l.length ∧ rsS b l = divL (gTo b l l.length) l := by
  have hn := h.in_ l (Nat.le_refl _)
  constructor
  · rw [rsB, if_pos h, mkB, if_neg hn]
  · rw [rsS, if_pos h, mkS, if_neg hn, insTo_asc (gTo_pos h _) h.2.2.2 _ (Nat.le_refl _), List.take_length]
theorem rs_same {b : Int} {l : List Int} (h : IsSp b l) {i : Nat} (hi : i < l.length) : (rsS b l).getD i 0 * b = l.getD i 0 * rsB b l := by
  obtain ⟨e1, e2⟩ := rs_eq h
  rw [e1, e2, divL_at]
  have hg := gTo_pos h l.length
  obtain ⟨c, hc⟩ := gTo_dvd (b := b) (l := l) l.length
  obtain ⟨d, hd⟩ := gTo_dvd' (b := b) (l := l) l.length i hi
  generalize gTo b l l.length = g at *
  rw [hd, hc, Int.mul_ediv_cancel_left _ (by omega), Int.mul_ediv_cancel_left _ (by omega)]
  rw [← Int.mul_assoc, Int.mul_comm d g]
theorem rs_sp {b : Int} {l : List Int} (h : IsSp b l) : IsSp (rsB b l) (rsS b l) := by
  obtain ⟨e1, e2⟩ := rs_eq h
  rw [e1, e2]
  have hb := h.1
  have hg := gTo_pos h l.length
  have hle := (gTo_bound l (show 0 < b by omega) l.length).2
  have hd := gTo_dvd (b := b) (l := l) l.length
  have hd2 := fun i hi => gTo_dvd' (b := b) (l := l) l.length i hi
  generalize gTo b l l.length = g at *
  obtain ⟨c, hc⟩ := hd
  have ec : b / g = c := by rw [hc, Int.mul_ediv_cancel_left _ (by omega)]
  rw [ec]
  have c1 : 1 ≤ c := by
    have : 0 < c := Int.pos_of_mul_pos_left (show 0 < c * g by rw [Int.mul_comm]; omega) hg
    omega
  have c2 : c ≤ b := by rw [← ec]; exact Int.ediv_le_self _ (by omega)
  refine ⟨by omega, by rw [divL_len]; exact h.2.1, fun i hi => ?_, fun i hi h0 => ?_⟩
  · rw [divL_len] at hi
    rw [divL_at]
    have h1 := h.2.2.1 i hi
    obtain ⟨d, hd⟩ := hd2 i hi
    have ed : l.getD i 0 / g = d := by rw [hd, Int.mul_ediv_cancel_left _ (by omega)]
    rw [ed]
    rw [hd] at h1
    constructor
    · have : 0 < d := Int.pos_of_mul_pos_left (show 0 < d * g by rw [Int.mul_comm]; omega) hg
      omega
    · have h2 : g * d < g * (2 * c) := by
        rw [Int.mul_left_comm, ← hc]; omega
      have := Int.lt_of_mul_lt_mul_left h2 (by omega)
      omega
  · rw [divL_len] at hi
    rw [divL_at, divL_at]
    exact Int.ediv_le_ediv hg (h.2.2.2 i hi h0)
theorem rs_again {b : Int} {l : List Int} (h : IsSp b l) : rsB (rsB b l) (rsS b l) = rsB b l ∧ rsS (rsB b l) (rsS b l) = rsS b l := by
  have h2 := rs_sp h
  obtain ⟨e1, e2⟩ := rs_eq h
  obtain ⟨f1, f2⟩ := rs_eq h2
  have hg := gTo_pos h l.length
  have hone : gTo (rsB b l) (rsS b l) (rsS b l).length = 1 := by
    rw [e1, e2, divL_len, gTo_div hg _ (Int.dvd_refl _), Int.ediv_self (by omega)]
  rw [hone] at f1 f2
  rw [f1, f2]
  exact ⟨Int.ediv_one _, by simp [divL]⟩
theorem rs_len {b : Int} {l : List Int} (h : IsSp b l) : (rsS b l).length = l.length := by rw [(rs_eq h).2, divL_len]
theorem mg_len {b1 b2 : Int} {l1 l2 : List Int} (h : mgC b1 l1 b2 l2 = 0) : (mgS b1 l1 b2 l2).length = l1.length + l2.length := by
  unfold mgC at h
  unfold mgS
  split at h
  · rename_i hb
    rw [if_pos hb]
    unfold mkC at h
    unfold mkS
    split at h
    · cases h
    · rename_i hn
      rw [if_neg hn, insTo_len, mgL, List.length_append, mTo_len _ _ _ (Nat.le_refl _), mTo_len _ _ _ (Nat.le_refl _)]
  · cases h
theorem insTo_lt {g b : Int} {l : List Int} (h : ∀ i, i < l.length → l.getD i 0 / g < b) : ∀ j, j ≤ l.length → ∀ x ∈ insTo g l j, x < b
  | 0, _, x, hx => by simp [insTo] at hx
  | j + 1, hj, x, hx => by
    rw [insTo, insAt] at hx
    rcases List.mem_append.1 hx with hx | hx
    · exact insTo_lt h j (by omega) x (List.mem_of_mem_take hx)
    · rcases List.mem_cons.1 hx with rfl | hx
      · exact h j (by omega)
      · exact insTo_lt h j (by omega) x (List.mem_of_mem_drop hx)
theorem fp_lt (b : Int) (l : List Int) {i : Nat} (hi : i < (fpS b l).length) : (fpS b l).getD i 0 < fpB b l := by
  have hm : (fpS b l).getD i 0 ∈ fpS b l := by rw [List.getD_eq_getElem?_getD, List.getElem?_eq_getElem hi]; exact List.getElem_mem hi
  generalize (fpS b l).getD i 0 = x at hm
  unfold fpS at hm hi
  split at hm
  · rename_i h
    have hb := h.1.1
    have hfl := fpTo_len b l l.length (Nat.le_refl _)
    have hn := h.1.in_ (fpTo b l l.length) (by omega)
    unfold fpB
    rw [if_pos h, mkB, if_neg hn]
    unfold mkS at hm
    rw [if_neg hn] at hm
    have hg := (gTo_bound (fpTo b l l.length) (show 0 < b by omega) (fpTo b l l.length).length).1
    have hd := gTo_dvd (b := b) (l := fpTo b l l.length) (fpTo b l l.length).length
    generalize gTo b (fpTo b l l.length) (fpTo b l l.length).length = g at *
    refine insTo_lt (fun k hk => ?_) _ (Nat.le_refl _) x hm
    rw [fpTo_at b l _ k (by omega) (Nat.le_refl _)]
    have h1 := h.1.at' (i := k) (by omega)
    have h2 : l.getD k 0 ≠ b := fun e => h.2 ⟨k, by omega, e⟩
    refine Int.ediv_lt_of_lt_mul hg ?_
    rw [Int.ediv_mul_cancel hd]
    unfold fp
    split <;> omega
  · simp at hm
end Go.Proofs.Ytljhfjfccbpddaa
