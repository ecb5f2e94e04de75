/- Reduced spectra: what stands in them, counted in the list that they come from. No condition. -/
import Derived.Test.YtohhkbbjdjibgaaFSqC
import Derived.Test.YtohhkbbjdjibgaaFBsF
import Derived.Test.YtohhkbbjdjibgaaFAbA
import Derived.Test.YtohhkbbjdjibgaaFTy
import Derived.Test.YtohhkbbjdjibgaaFDrD
set_option linter.unusedVariables false
set_option linter.unusedSimpArgs false
namespace Go.Ct
def cN (m d : Nat) : Nat := if d ∣ m then phiN d else 0
def isO (m d j : Nat) : Nat := if ordN m j = d then 1 else 0
theorem sum_isO {m : Nat} (hm : 0 < m) (d : Nat) : sumN (isO m d) m = cN m d := ord_count hm d
theorem ordN_mul {k m j : Nat} (hk : 0 < k) : ordN (k * m) (k * j) = ordN m j := by
 unfold ordN
 rw [Nat.gcd_mul_left, Nat.mul_div_mul_left _ _ hk]
theorem ordN_mod (m j : Nat) : ordN m (j % m) = ordN m j := by
 unfold ordN
 rw [← Nat.gcd_rec, Nat.gcd_comm]
theorem u_row (x y b s : Nat) : 0 * y + b * x + s * (x * y) = x * (s * y + b) := by
 rw [Nat.zero_mul, Nat.mul_add, Nat.mul_comm b, Nat.mul_left_comm s]; omega
theorem u_col (x y a s : Nat) : a * y + 0 * x + s * (x * y) = y * (s * x + a) := by
 rw [Nat.zero_mul, Nat.mul_add, Nat.mul_comm a, Nat.mul_comm x y, Nat.mul_left_comm s]; omega
section
variable {n w r : Nat}
theorem box_in (hn : 0 < n) (hw : 0 < w) (hr : 0 < r) (hc : Nat.gcd n w = 1) (d : Nat) :
  sumN (fun a => sumN (fun b => sumN (fun s => isO (n * w * r) d (uN n w (a + 1) (b + 1) s % (n * w * r))) r) (w - 1)) (n - 1) + cN (w * r) d + cN (n * r) d = cN (n * w * r) d + cN r d := by
 have hN : 0 < n * w * r := Nat.mul_pos (Nat.mul_pos hn hw) hr
 have hall := box_all (n := n) (w := w) (r := r) hc (isO (n * w * r) d)
 rw [sum_isO hN] at hall
 obtain ⟨n', rfl⟩ : ∃ n', n = 1 + n' := ⟨n - 1, by omega⟩
 obtain ⟨w', rfl⟩ : ∃ w', w = 1 + w' := ⟨w - 1, by omega⟩
 generalize hF : isO ((1 + n') * (1 + w') * r) d = F at *
 generalize hG : (fun a b => sumN (fun s => F (uN (1 + n') (1 + w') a b s % ((1 + n') * (1 + w') * r))) r) = G
 have hG' : ∀ a b, sumN (fun s => F (uN (1 + n') (1 + w') a b s % ((1 + n') * (1 + w') * r))) r = G a b := fun a b => by rw [← hG]
 -- the row, the column, the corner
 have hcor : G 0 0 = cN r d := by
  rw [← hG', ← sum_isO hr]
  refine sum_congr r fun s hs => ?_
  rw [← hF]
  unfold isO
  rw [ordN_mod]
  unfold uN
  rw [show 0 * (1 + w') + 0 * (1 + n') + s * ((1 + n') * (1 + w')) = (1 + n') * (1 + w') * s by rw [Nat.zero_mul, Nat.zero_mul, Nat.mul_comm s]; omega, ordN_mul (Nat.mul_pos hn hw)]
 have hrow : sumN (fun b => G 0 b) (1 + w') = cN ((1 + w') * r) d := by
  have e : sumN (fun b => G 0 b) (1 + w') = sumN (fun b => sumN (fun s => isO (r * (1 + w')) d (s * (1 + w') + b)) r) (1 + w') := sum_congr _ fun b _ => by
   rw [← hG']
   refine sum_congr r fun s _ => ?_
   rw [← hF]
   unfold isO
   rw [ordN_mod]
   unfold uN
   have q1 : 0 * (1 + w') + b * (1 + n') + s * ((1 + n') * (1 + w')) = (1 + n') * (s * (1 + w') + b) := u_row _ _ _ _
   have q2 : (1 + n') * (1 + w') * r = (1 + n') * (r * (1 + w')) := by rw [Nat.mul_assoc, Nat.mul_comm r]
   rw [q1, q2, ordN_mul hn]
  rw [e, sum_swap, ← sum_mul (isO (r * (1 + w')) d), sum_isO (Nat.mul_pos hr hw), Nat.mul_comm]
 have hcol : sumN (fun a => G a 0) (1 + n') = cN ((1 + n') * r) d := by
  have e : sumN (fun a => G a 0) (1 + n') = sumN (fun a => sumN (fun s => isO (r * (1 + n')) d (s * (1 + n') + a)) r) (1 + n') := sum_congr _ fun a _ => by
   rw [← hG']
   refine sum_congr r fun s _ => ?_
   rw [← hF]
   unfold isO
   rw [ordN_mod]
   unfold uN
   have q1 : a * (1 + w') + 0 * (1 + n') + s * ((1 + n') * (1 + w')) = (1 + w') * (s * (1 + n') + a) := u_col _ _ _ _
   have q2 : (1 + n') * (1 + w') * r = (1 + w') * (r * (1 + n')) := by rw [Nat.mul_comm (1 + n'), Nat.mul_assoc, Nat.mul_comm r]
   rw [q1, q2, ordN_mul hw]
  rw [e, sum_swap, ← sum_mul (isO (r * (1 + n')) d), sum_isO (Nat.mul_pos hr hn), Nat.mul_comm]
 have hsp : sumN (fun a => sumN (fun b => G a b) (1 + w')) (1 + n') = cN ((1 + n') * (1 + w') * r) d := by
  rw [← hall]
  exact sum_congr _ fun a _ => sum_congr _ fun b _ => (hG' a b).symm
 have hin : sumN (fun a => sumN (fun b => sumN (fun s => F (uN (1 + n') (1 + w') (a + 1) (b + 1) s % ((1 + n') * (1 + w') * r))) r) (1 + w' - 1)) (1 + n' - 1) = sumN (fun a => sumN (fun b => G (a + 1) (b + 1)) w') n' := by
  rw [show 1 + w' - 1 = w' by omega, show 1 + n' - 1 = n' by omega]
  exact sum_congr _ fun a _ => sum_congr _ fun b _ => hG' _ _
 rw [hin]
 rw [sum_one_add] at hsp hrow hcol
 rw [sum_one_add] at hsp
 rw [sum_congr n' (g := fun a => G (a + 1) 0 + sumN (fun b => G (a + 1) (b + 1)) w') (fun a _ => sum_one_add _ _), sum_add] at hsp
 omega
def hN (n w a b : Nat) : Prop := (a + 1) * w + (b + 1) * n < n * w
instance decHN (n w a b : Nat) : Decidable (hN n w a b) := by unfold hN; infer_instance
theorem h_ne (hn : 0 < n) (hc : Nat.gcd n w = 1) {a b : Nat} (ha : a < n - 1) : (a + 1) * w + (b + 1) * n ≠ n * w := fun e => by
 have h1 : n ∣ (a + 1) * w := by
  have h2 : n ∣ (b + 1) * n + (a + 1) * w := by rw [Nat.add_comm, e]; exact Nat.dvd_mul_right _ _
  exact (Nat.dvd_add_right (Nat.dvd_mul_left _ _)).1 h2
 have h3 := Nat.Coprime.dvd_of_dvd_mul_right hc h1
 have := Nat.le_of_dvd (by omega) h3
 omega
theorem gcd_neg {x y m : Nat} (h : m ∣ x + y) : Nat.gcd x m = Nat.gcd y m := by
 refine Nat.dvd_antisymm (Nat.dvd_gcd ?_ (Nat.gcd_dvd_right _ _)) (Nat.dvd_gcd ?_ (Nat.gcd_dvd_right _ _))
 ·exact (Nat.dvd_add_right (Nat.gcd_dvd_left x m)).1 (Nat.dvd_trans (Nat.gcd_dvd_right x m) h)
 ·have h2 : Nat.gcd y m ∣ y + x := Nat.dvd_trans (Nat.gcd_dvd_right y m) (by rw [Nat.add_comm]; exact h)
  exact (Nat.dvd_add_right (Nat.gcd_dvd_left y m)).1 h2
theorem isO_neg {x y m d : Nat} (h : m ∣ x + y) : isO m d x = isO m d y := by unfold isO ordN; rw [gcd_neg h]
theorem sum_rev (f : Nat → Nat) (n : Nat) : sumN (fun i => f (n - 1 - i)) n = sumN f n :=
 sum_perm f (fun i => n - 1 - i) n (fun i hi => by omega) (fun i k hi hk e => by omega)
theorem opp (hn : 0 < n) (hw : 0 < w) (hr : 0 < r) (d : Nat) {a b : Nat} (ha : a < n - 1) (hb : b < w - 1) :
  sumN (fun s => isO (n * w * r) d (uN n w (n - 1 - 1 - a + 1) (w - 1 - 1 - b + 1) s % (n * w * r))) r = sumN (fun s => isO (n * w * r) d (uN n w (a + 1) (b + 1) s % (n * w * r))) r := by
 rw [← sum_perm (fun s => isO (n * w * r) d (uN n w (a + 1) (b + 1) s % (n * w * r))) (fun s => (3 * r - 2 - s) % r) r (fun s _ => Nat.mod_lt _ hr) (fun i k hi hk e => by
  have h1 := dvd_of_mod e
  refine (small_dvd hk hi ?_).symm
  have e1 : ((3 * r - 2 - i : Nat) : Int) = 3 * r - 2 - i := by omega
  have e2 : ((3 * r - 2 - k : Nat) : Int) = 3 * r - 2 - k := by omega
  rw [e1, e2] at h1
  rwa [show (3 * (r : Int) - 2 - i) - (3 * r - 2 - k) = k - i by omega] at h1)]
 refine sum_congr r fun s hs => ?_
 have hd := Nat.div_add_mod (3 * r - 2 - s) r
 generalize (3 * r - 2 - s) / r = q at hd
 generalize (3 * r - 2 - s) % r = t at *
 have e1 : isO (n * w * r) d (uN n w (n - 1 - 1 - a + 1) (w - 1 - 1 - b + 1) s) = isO (n * w * r) d (uN n w (a + 1) (b + 1) t) := by
  refine isO_neg ?_
  obtain ⟨p, hp⟩ : ∃ p, n - 1 - 1 - a + 1 = p ∧ n = p + (a + 1) := ⟨_, rfl, by omega⟩
  obtain ⟨o, ho⟩ : ∃ o, w - 1 - 1 - b + 1 = o ∧ w = o + (b + 1) := ⟨_, rfl, by omega⟩
  rw [hp.1, ho.1]
  have hsum : uN n w p o s + uN n w (a + 1) (b + 1) t = n * w * (2 + s + t) := by
   unfold uN
   have f1 : p * w + (a + 1) * w = n * w := by rw [← Nat.add_mul, ← hp.2]
   have f2 : o * n + (b + 1) * n = n * w := by rw [← Nat.add_mul, ← ho.2, Nat.mul_comm]
   have f3 : n * w * (2 + s + t) = n * w + n * w + s * (n * w) + t * (n * w) := by
    rw [Nat.mul_add, Nat.mul_add, Nat.mul_comm (n * w) s, Nat.mul_comm (n * w) t, Nat.mul_comm (n * w) 2]; omega
   omega
  rw [hsum]
  refine Nat.mul_dvd_mul_left _ ⟨3 - q, ?_⟩
  have hq : r * q ≤ 3 * r := by omega
  rw [Nat.mul_sub, Nat.mul_comm r 3]
  omega
 unfold isO at e1 ⊢
 rw [ordN_mod, ordN_mod]
 exact e1
theorem half_in (hn : 0 < n) (hw : 0 < w) (hr : 0 < r) (hc : Nat.gcd n w = 1) (d : Nat) :
  2 * sumN (fun a => sumN (fun b => if hN n w a b then sumN (fun s => isO (n * w * r) d (uN n w (a + 1) (b + 1) s % (n * w * r))) r else 0) (w - 1)) (n - 1) = sumN (fun a => sumN (fun b => sumN (fun s => isO (n * w * r) d (uN n w (a + 1) (b + 1) s % (n * w * r))) r) (w - 1)) (n - 1) := by
 generalize hG : (fun a b => sumN (fun s => isO (n * w * r) d (uN n w (a + 1) (b + 1) s % (n * w * r))) r) = G
 have hG' : ∀ a b, sumN (fun s => isO (n * w * r) d (uN n w (a + 1) (b + 1) s % (n * w * r))) r = G a b := fun a b => by rw [← hG]
 have hop : ∀ a b, a < n - 1 → b < w - 1 → G (n - 1 - 1 - a) (w - 1 - 1 - b) = G a b := fun a b ha hb => by
  rw [← hG', ← hG']
  exact opp hn hw hr d ha hb
 have hfl : ∀ a b, a < n - 1 → b < w - 1 → (hN n w (n - 1 - 1 - a) (w - 1 - 1 - b) ↔ ¬ hN n w a b) := fun a b ha hb => by
  unfold hN
  have hne := h_ne (w := w) (b := b) hn hc ha
  obtain ⟨p, hp⟩ : ∃ p, n - 1 - 1 - a + 1 = p ∧ n = p + (a + 1) := ⟨_, rfl, by omega⟩
  obtain ⟨o, ho⟩ : ∃ o, w - 1 - 1 - b + 1 = o ∧ w = o + (b + 1) := ⟨_, rfl, by omega⟩
  rw [hp.1, ho.1]
  have f1 : p * w + (a + 1) * w = n * w := by rw [← Nat.add_mul, ← hp.2]
  have f2 : o * n + (b + 1) * n = n * w := by rw [← Nat.add_mul, ← ho.2, Nat.mul_comm]
  omega
 have e1 : sumN (fun a => sumN (fun b => if hN n w a b then G a b else 0) (w - 1)) (n - 1) = sumN (fun a => sumN (fun b => if hN n w a b then 0 else G a b) (w - 1)) (n - 1) := by
  rw [← sum_rev (fun a => sumN (fun b => if hN n w a b then G a b else 0) (w - 1)) (n - 1)]
  refine sum_congr _ fun a ha => ?_
  rw [← sum_rev (fun b => if hN n w (n - 1 - 1 - a) b then G (n - 1 - 1 - a) b else 0) (w - 1)]
  refine sum_congr _ fun b hb => ?_
  have h1 := hfl a b ha hb
  by_cases h : hN n w a b
  ·rw [if_neg (fun q => h1.1 q h), if_pos h]
  ·rw [if_pos (h1.2 h), if_neg h, hop a b ha hb]
 have e2 : sumN (fun a => sumN (fun b => G a b) (w - 1)) (n - 1) = sumN (fun a => sumN (fun b => if hN n w a b then G a b else 0) (w - 1)) (n - 1) + sumN (fun a => sumN (fun b => if hN n w a b then 0 else G a b) (w - 1)) (n - 1) := by
  rw [← sum_add]
  refine sum_congr _ fun a _ => ?_
  rw [← sum_add]
  refine sum_congr _ fun b _ => ?_
  by_cases h : hN n w a b <;> simp [h]
 have e3 : sumN (fun a => sumN (fun b => if hN n w a b then sumN (fun s => isO (n * w * r) d (uN n w (a + 1) (b + 1) s % (n * w * r))) r else 0) (w - 1)) (n - 1) = sumN (fun a => sumN (fun b => if hN n w a b then G a b else 0) (w - 1)) (n - 1) :=
  sum_congr _ fun a _ => sum_congr _ fun b _ => by rw [hG']
 have e4 : sumN (fun a => sumN (fun b => sumN (fun s => isO (n * w * r) d (uN n w (a + 1) (b + 1) s % (n * w * r))) r) (w - 1)) (n - 1) = sumN (fun a => sumN (fun b => G a b) (w - 1)) (n - 1) :=
  sum_congr _ fun a _ => sum_congr _ fun b _ => hG' a b
 rw [e3, e4, e2, ← e1]
 omega
end
end Go.Ct
namespace Go.Proofs.Ytohhkbbjdjibgaa
open Go.Pv Go.Ct
theorem eE_dvd (l : List Int) (i : Nat) : eE l i ∣ l.getD i 0 := by
 unfold eE divTo
 exact Int.gcd_dvd_right ..
theorem eE_dvd2 (l : List Int) (i : Nat) : eE l (i + 1) ∣ eE l i := by
 have : eE l (i + 1) = (Int.gcd (divTo l (i + 1)) (l.getD (i + 1) 0) : Int) := rfl
 rw [this]
 exact Int.gcd_dvd_left ..
theorem cC_dvd {l : List Int} {i : Nat} {g : Int} (h1 : g ∣ eE l i) (h2 : g ∣ cC l (i + 1)) : g ∣ l.getD (i + 1) 0 := by
 unfold cC at h2
 by_cases hi : i + 1 > 1
 ·rw [if_pos hi, Nat.add_sub_cancel] at h2
  have h3 := Int.dvd_trans h1 (eE_dvd l i)
  have := Int.dvd_add h2 h3
  rwa [Int.sub_add_cancel] at this
 ·rw [if_neg hi] at h2
  exact h2
theorem eE_dvdC (l : List Int) (i : Nat) : eE l (i + 1) ∣ cC l (i + 1) := by
 unfold cC
 by_cases hi : i + 1 > 1
 ·rw [if_pos hi, Nat.add_sub_cancel]
  exact Int.dvd_sub (eE_dvd l (i + 1)) (Int.dvd_trans (eE_dvd2 l i) (eE_dvd l i))
 ·rw [if_neg hi]
  exact eE_dvd l (i + 1)
theorem cop_nw {l : List Int} (h : IsBr l) {i : Nat} (hi : i + 1 < l.length) : Nat.gcd (nN l (i + 1)).toNat (wW l (i + 1)).toNat = 1 := by
 have he := h.e (i + 1)
 have hn := h.npos i
 generalize hg : Nat.gcd (nN l (i + 1)).toNat (wW l (i + 1)).toNat = g
 have g1 : (g : Int) ∣ nN l (i + 1) := by
  have : g ∣ (nN l (i + 1)).toNat := by rw [← hg]; exact Nat.gcd_dvd_left _ _
  have := Int.natCast_dvd_natCast.2 this
  rwa [Int.toNat_of_nonneg (by omega)] at this
 have g0 : 0 < g := by
  rw [← hg]
  exact Nat.gcd_pos_of_pos_left _ (by omega)
 by_cases hw : 0 ≤ wW l (i + 1)
 ·have g2 : (g : Int) ∣ wW l (i + 1) := by
   have : g ∣ (wW l (i + 1)).toNat := by rw [← hg]; exact Nat.gcd_dvd_right _ _
   have := Int.natCast_dvd_natCast.2 this
   rwa [Int.toNat_of_nonneg hw] at this
  have g3 : (g : Int) ∣ cC l (i + 1) / eE l (i + 1) := by
   have e : wW l (i + 1) = wW l i * nN l i * nN l (i + 1) + cC l (i + 1) / eE l (i + 1) := rfl
   rw [e] at g2
   have := Int.dvd_sub g2 (Int.dvd_mul_of_dvd_right (b := wW l i * nN l i) g1)
   have e3 : wW l i * nN l i * nN l (i + 1) + cC l (i + 1) / eE l (i + 1) - wW l i * nN l i * nN l (i + 1) = cC l (i + 1) / eE l (i + 1) := by omega
   rwa [e3] at this
  have k1 : (g : Int) * eE l (i + 1) ∣ eE l i := by
   rw [← h.dvd i]
   exact Int.mul_dvd_mul_right _ g1
  have k2 : (g : Int) * eE l (i + 1) ∣ cC l (i + 1) := by
   have : cC l (i + 1) = cC l (i + 1) / eE l (i + 1) * eE l (i + 1) := (Int.ediv_mul_cancel (eE_dvdC l i)).symm
   rw [this]
   exact Int.mul_dvd_mul_right _ g3
  have k3 := cC_dvd k1 k2
  have k4 : (g : Int) * eE l (i + 1) ∣ eE l (i + 1) := by
   have : eE l (i + 1) = (Int.gcd (eE l i) (l.getD (i + 1) 0) : Int) := rfl
   have k5 : (g : Int) * eE l (i + 1) ∣ (Int.gcd (eE l i) (l.getD (i + 1) 0) : Int) := Int.dvd_coe_gcd k1 k3
   rwa [← this] at k5
  have k6 := Int.le_of_dvd he.1 k4
  have k7 : (g : Int) * eE l (i + 1) ≤ 1 * eE l (i + 1) := by omega
  have := Int.le_of_mul_le_mul_right k7 he.1
  omega
 ·have := h.wpos i hi
  omega
theorem count_fm (p : Int → Bool) (F : Nat → List Int) : ∀ j, (fm F j).countP p = sumN (fun i => (F i).countP p) j
 | 0 => rfl
 | j + 1 => by
  have : fm F (j + 1) = fm F j ++ F j := by simp [fm, List.range_succ]
  rw [this, List.countP_append, count_fm p F j, sumN]
theorem sum_cut (f : Nat → Nat) {c : Nat} (P : Nat → Prop) [DecidablePred P] : ∀ m, c ≤ m → (∀ i, i < m → (P i ↔ i < c)) → sumN (fun i => if P i then f i else 0) m = sumN f c
 | 0, hc, _ => by rw [show c = 0 by omega]; rfl
 | m + 1, hc, h => by
  rw [sumN]
  by_cases e : c = m + 1
  ·subst e
   rw [if_pos ((h m (by omega)).2 (by omega)), sumN, sum_congr m (g := f) fun i hi => if_pos ((h i (by omega)).2 (by omega))]
  ·rw [sum_cut f P m (by omega) (fun i hi => h i (by omega)), if_neg (fun q => by have := (h m (by omega)).1 q; omega)]
   rfl
theorem sum_two (f : Nat → Nat) : ∀ n, sumN (fun i => 2 * f i) n = 2 * sumN f n
 | 0 => rfl
 | n + 1 => by rw [sumN, sumN, sum_two f n]; omega
def ordB (b : Int) (d : Nat) (t : Int) : Bool := decide (ordN b.toNat t.toNat = d)
theorem ordB_neg {b t : Int} (h0 : 0 ≤ t) (h1 : t ≤ b) (d : Nat) : ordB b d (2 * b - t) = ordB b d t := by
 unfold ordB ordN
 have : b.toNat ∣ (2 * b - t).toNat + t.toNat := ⟨2, by omega⟩
 rw [gcd_neg this]
theorem count_F3 {l : List Int} (h : IsBr l) (hb : ¬ big l) {i : Nat} (hi : i + 1 < l.length) (d : Nat) :
  (F3 l i).countP (ordB (bB0 l) d) + cN ((wW l (i + 1)).toNat * (eE l (i + 1)).toNat) d + cN ((nN l (i + 1)).toNat * (eE l (i + 1)).toNat) d = cN ((nN l (i + 1)).toNat * (wW l (i + 1)).toNat * (eE l (i + 1)).toNat) d + cN (eE l (i + 1)).toNat d := by
 have hcop := cop_nw h hi
 have hn := h.npos i
 have hw := h.wpos i hi
 have he := h.e (i + 1)
 obtain ⟨s1, s2, _, s4, _⟩ := h.sc_facts hb hi
 obtain ⟨n, hn'⟩ : ∃ n : Nat, nN l (i + 1) = n := ⟨_, (Int.toNat_of_nonneg (by omega)).symm⟩
 obtain ⟨w, hw'⟩ : ∃ w : Nat, wW l (i + 1) = w := ⟨_, (Int.toNat_of_nonneg (by omega)).symm⟩
 obtain ⟨r, hr'⟩ : ∃ r : Nat, eE l (i + 1) = r := ⟨_, (Int.toNat_of_nonneg (by omega)).symm⟩
 obtain ⟨c, hc'⟩ : ∃ c : Nat, sc l i = c := ⟨_, (Int.toNat_of_nonneg (by omega)).symm⟩
 rw [hn', hw', Int.toNat_natCast, Int.toNat_natCast] at hcop
 rw [hn', hw', hr', Int.toNat_natCast, Int.toNat_natCast, Int.toNat_natCast]
 have hx : x3 l i = ((n * w * r : Nat) : Int) := by unfold x3; rw [hn', hw', hr']; simp
 have hB : (bB0 l).toNat = c * (n * w * r) := by
  rw [← s1, hx, hc', ← Int.natCast_mul, Int.toNat_natCast, Nat.mul_comm]
 have hcell : ∀ k q s, k < n - 1 → q < cL l i k → s < r → (F0 l i k q s).countP (ordB (bB0 l) d) = 2 * isO (n * w * r) d (uN n w (k + 1) (q + 1) s % (n * w * r)) := fun k q s hk hq hs => by
  have hin := (tops_in h hb hi (k := k) (by omega) hq (s := s) (by omega)).2.2.2.2
  have ht : (tT l i k q s).toNat = c * uN n w (k + 1) (q + 1) s := by
   unfold tT
   rw [hn', hw', hc']
   have : ((k : Int) + 1) * w + ((q : Int) + 1) * n + (s : Int) * n * w = ((uN n w (k + 1) (q + 1) s : Nat) : Int) := by
    unfold uN
    simp [Int.mul_assoc]
   rw [this, ← Int.natCast_mul, Int.toNat_natCast, Nat.mul_comm]
  have e1 : ordB (bB0 l) d (tT l i k q s) = decide (ordN (n * w * r) (uN n w (k + 1) (q + 1) s) = d) := by
   unfold ordB
   rw [hB, ht, ordN_mul (by omega)]
  have e2 := ordB_neg (d := d) hin.1 hin.2
  unfold F0
  simp only [List.countP_cons, List.countP_nil]
  rw [e2, e1]
  unfold isO
  rw [ordN_mod]
  by_cases hd : ordN (n * w * r) (uN n w (k + 1) (q + 1) s) = d <;> simp [hd]
 have e3 : (F3 l i).countP (ordB (bB0 l) d) = sumN (fun k => sumN (fun q => sumN (fun s => 2 * isO (n * w * r) d (uN n w (k + 1) (q + 1) s % (n * w * r))) r) (cL l i k)) (n - 1) := by
  have f3 : F3 l i = fm (F2 l i) (n - 1) := by unfold F3; rw [hn']; congr 1; omega
  rw [f3, count_fm]
  refine sum_congr _ fun k hk => ?_
  have f2 : F2 l i k = fm (F1 l i k) (cL l i k) := rfl
  rw [f2, count_fm]
  refine sum_congr _ fun q hq => ?_
  have f1 : F1 l i k q = fm (F0 l i k q) r := by unfold F1; rw [hr', Int.toNat_natCast]
  rw [f1, count_fm]
  exact sum_congr _ fun s hs => hcell k q s hk hq hs
 have hcl : ∀ k q, (hN n w k q ↔ q < cL l i k) := fun k q => by
  rw [← cL_iff h, hn', hw']
  unfold hN
  constructor
  ·intro q1
   have := Int.ofNat_lt.2 q1
   simpa using this
  ·intro q1
   refine Int.ofNat_lt.1 ?_
   simpa using q1
 have hcle : ∀ k, k < n - 1 → cL l i k ≤ w - 1 := fun k hk => by
  by_cases hlt : cL l i k ≤ w - 1
  ·exact hlt
  ·exfalso
   have := (hcl k (w - 1)).2 (by omega)
   unfold hN at this
   rw [show w - 1 + 1 = w by omega, Nat.mul_comm w n] at this
   omega
 have e4 : (F3 l i).countP (ordB (bB0 l) d) = 2 * sumN (fun a => sumN (fun b => if hN n w a b then sumN (fun s => isO (n * w * r) d (uN n w (a + 1) (b + 1) s % (n * w * r))) r else 0) (w - 1)) (n - 1) := by
  rw [e3, ← sum_two]
  refine sum_congr _ fun k hk => ?_
  rw [sum_cut _ (fun q => hN n w k q) (w - 1) (hcle k hk) (fun q _ => hcl k q), ← sum_two]
  exact sum_congr _ fun q _ => sum_two _ _
 rw [e4, half_in (by omega) (by omega) (by omega) hcop]
 exact box_in (by omega) (by omega) (by omega) hcop d
end Go.Proofs.Ytohhkbbjdjibgaa
namespace Go.Proofs.Ytohhkbbjdjibgaa
open Go.Pv Go.Ct
theorem sum_tele (g : Nat → Nat) : ∀ m, sumN (fun i => g (i + 1)) m + g 0 = sumN g m + g m
 | 0 => rfl
 | m + 1 => by
  have := sum_tele g m
  rw [sumN, sumN]
  omega
theorem eE_last {l : List Int} (h : IsBr l) : eE l (l.length - 1) = 1 := by
 have h1 := h.1
 have := h.2.2.2.2.2
 unfold eE
 rwa [show l.length - 1 + 1 = l.length by omega]
theorem eE_first {l : List Int} (h : IsBr l) : eE l 0 = l.getD 0 0 := by
 have := h.2.1
 simp only [eE, divTo, Int.gcd_zero_left]
 omega
theorem count_top {l : List Int} (h : IsBr l) (hb : ¬ big l) (d : Nat) :
  (top l).countP (ordB (bB0 l) d) + sumN (fun i => cN ((wW l (i + 1)).toNat * (eE l (i + 1)).toNat) d) (l.length - 1) + cN (l.getD 0 0).toNat d = sumN (fun i => cN ((nN l (i + 1)).toNat * (wW l (i + 1)).toNat * (eE l (i + 1)).toNat) d) (l.length - 1) + cN 1 d := by
 have e0 : top l = fm (F3 l) (l.length - 1) := rfl
 rw [e0, count_fm]
 have hs : sumN (fun i => (F3 l i).countP (ordB (bB0 l) d) + cN ((wW l (i + 1)).toNat * (eE l (i + 1)).toNat) d + cN (eE l i).toNat d) (l.length - 1) = sumN (fun i => cN ((nN l (i + 1)).toNat * (wW l (i + 1)).toNat * (eE l (i + 1)).toNat) d + cN (eE l (i + 1)).toNat d) (l.length - 1) :=
  sum_congr _ fun i hi => by
   have hc := count_F3 h hb (i := i) (by omega) d
   have hn := h.npos i
   have he := h.e (i + 1)
   have : (nN l (i + 1)).toNat * (eE l (i + 1)).toNat = (eE l i).toNat := by
    rw [← h.dvd i]
    obtain ⟨a, ha⟩ : ∃ a : Nat, nN l (i + 1) = a := ⟨_, (Int.toNat_of_nonneg (by omega)).symm⟩
    obtain ⟨b, hb⟩ : ∃ b : Nat, eE l (i + 1) = b := ⟨_, (Int.toNat_of_nonneg (by omega)).symm⟩
    rw [ha, hb, ← Int.natCast_mul]
    rfl
   rw [this] at hc
   exact hc
 rw [sum_add, sum_add, sum_add] at hs
 have ht : sumN (fun i => cN (eE l (i + 1)).toNat d) (l.length - 1) + cN (eE l 0).toNat d = sumN (fun i => cN (eE l i).toNat d) (l.length - 1) + cN (eE l (l.length - 1)).toNat d :=
  sum_tele (fun i => cN (eE l i).toNat d) (l.length - 1)
 rw [eE_last h, eE_first h] at ht
 simp only [Int.toNat_one] at ht
 omega
def sq1 (L : List Int) : Int := (L.map fun m => m * (m - 1)).sum
theorem two_half (m : Int) : 2 * (m * (m - 1) / 2) = m * (m - 1) := by
 have : m * (m - 1) % 2 = 0 := by
  have h : m % 2 = 0 ∨ m % 2 = 1 := by omega
  rcases h with h | h
  ·rw [Int.mul_emod, h]; simp
  ·have : (m - 1) % 2 = 0 := by omega
   rw [Int.mul_emod, this]; simp
 omega
theorem sq1_app (a b : List Int) : sq1 (a ++ b) = sq1 a + sq1 b := by simp [sq1]
theorem dlt_take (L : List Int) : ∀ j, j ≤ L.length → 2 * dltTo L j = sq1 (L.take j)
 | 0, _ => by simp [dltTo, sq1]
 | j + 1, h => by
  have hj : j < L.length := by omega
  rw [dltTo, Int.mul_add, dlt_take L j (by omega), two_half, List.take_add_one, sq1_app, List.getD_eq_getElem?_getD, List.getElem?_eq_getElem hj]
  simp [sq1]
theorem dlt_sq (L : List Int) : 2 * dltTo L L.length = sq1 L := by
 rw [dlt_take L _ (Nat.le_refl _), List.take_length]
theorem sq1_rep (x : Int) (n : Nat) : sq1 (List.replicate n x) = n * (x * (x - 1)) := by
 induction n with
 | zero => simp [sq1]
 | succ n ih =>
  unfold sq1 at *
  rw [List.replicate_succ, List.map_cons, List.sum_cons, ih]
  rw [show ((n + 1 : Nat) : Int) = n + 1 by omega, Int.add_mul, Int.one_mul]
  omega
theorem sq1_stp : ∀ (f : Nat) (a b : Int), 0 ≤ a → 0 ≤ b → b ≤ f → sq1 (runL (stp f a b)) = a * b - a - b + (Int.gcd a b : Int)
 | 0, a, b, ha, hb, hf => by
  obtain rfl : b = 0 := by omega
  have : sq1 (runL (stp 0 a 0)) = 0 := rfl
  rw [this, Int.gcd_zero_right]
  omega
 | f + 1, a, b, ha, hb, hf => by
  rw [stp]
  by_cases h : 0 < b
  ·rw [if_pos h]
   have hm := Int.emod_lt_of_pos a h
   have hm0 := Int.emod_nonneg a (show b ≠ 0 by omega)
   have ih := sq1_stp f b (a % b) hb hm0 (by omega)
   have hq : 0 ≤ a / b := Int.ediv_nonneg ha (by omega)
   have e : runL ([a / b, b] :: stp f b (a % b)) = List.replicate (a / b).toNat b ++ runL (stp f b (a % b)) := by
    simp [runL]
   rw [e, sq1_app, sq1_rep, ih, Int.toNat_of_nonneg hq]
   have hg : (Int.gcd b (a % b) : Int) = Int.gcd a b := by
    obtain ⟨x, rfl⟩ : ∃ x : Nat, a = x := ⟨_, (Int.toNat_of_nonneg ha).symm⟩
    obtain ⟨y, rfl⟩ : ∃ y : Nat, b = y := ⟨_, (Int.toNat_of_nonneg hb).symm⟩
    rw [← Int.natCast_emod, Int.gcd_natCast_natCast, Int.gcd_natCast_natCast, Nat.gcd_comm x y, Nat.gcd_rec y x, Nat.gcd_comm]
   rw [hg]
   have hd := Int.mul_ediv_add_emod a b
   have e1 : a / b * (b * (b - 1)) = b * (b * (a / b)) - b * (a / b) := by
    rw [Int.mul_sub, Int.mul_one, Int.mul_sub, Int.mul_left_comm, Int.mul_comm (a / b) b]
   have e2 : b * (b * (a / b)) = b * a - b * (a % b) := by
    have : b * (a / b) = a - a % b := by omega
    rw [this, Int.mul_sub]
   rw [e1, e2, Int.mul_comm a b]
   omega
  ·rw [if_neg h]
   obtain rfl : b = 0 := by omega
   have : sq1 (runL []) = 0 := rfl
   rw [this, Int.gcd_zero_right]
   omega
end Go.Proofs.Ytohhkbbjdjibgaa
namespace Go.Proofs.Ytohhkbbjdjibgaa
set_option maxHeartbeats 20000000
open Go.Pv
open Go.ChangeShapes Go.WideShapes Go.ChangeAt Go.RowKit
attribute [local irreducible] RunU WpA Step CallG CallNG Done DoneN
instance fnOk15 : FnOk Try.prog 15 := ⟨_, Try.func15, rfl, by decide⟩
instance fnOk40 : FnOk Try.prog 40 := ⟨_, Try.func40, rfl, by decide⟩
instance fnOk56 : FnOk Try.prog 56 := ⟨_, Try.func56, rfl, by decide⟩
instance fnOk16 : FnOk Try.prog 16 := ⟨_, Try.func16, rfl, by decide⟩
def cntTo (p : Int → Prop) [DecidablePred p] (l : List Int) : Nat → Int
 | 0 => 0
 | j + 1 => cntTo p l j + if p (l.getD j 0) then 1 else 0
theorem cntTo_le (p : Int → Prop) [DecidablePred p] (l : List Int) : ∀ j, 0 ≤ cntTo p l j ∧ cntTo p l j ≤ j
 | 0 => by simp [cntTo]
 | j + 1 => by
  have := cntTo_le p l j
  simp only [cntTo]
  split <;> omega
theorem cntTo_yes {p : Int → Prop} [DecidablePred p] {l : List Int} {j : Nat} (h : p (l.getD j 0)) : cntTo p l j + 1 = cntTo p l (j + 1) := by simp only [cntTo, if_pos h]
theorem cntTo_no {p : Int → Prop} [DecidablePred p] {l : List Int} {j : Nat} (h : ¬ p (l.getD j 0)) : cntTo p l j = cntTo p l (j + 1) := by simp only [cntTo, if_neg h]; omega
theorem IsSp.at {b : Int} {l : List Int} (h : IsSp b l) {i : Nat} (hi : i < l.length) : 1 ≤ l.getD i 0 ∧ l.getD i 0 ≤ 1999999 := by
 have h1 := h.1.2
 have := h.2.2.1 i hi
 omega
theorem mul_bound {x y : Int} (hx : 0 ≤ x) (hx' : x ≤ 2000000) (hy : 0 ≤ y) (hy' : y ≤ 1000000) : 0 ≤ x * y ∧ x * y ≤ 2000000000000 := by
 refine ⟨Int.mul_nonneg hx hy, ?_⟩
 have := Int.mul_le_mul hx' hy' hy (by omega)
 omega
def genus (b : Int) (l : List Int) : Int := if IsSp b l then cntTo (fun x => x ≤ b) l l.length else 0
def invalid (b : Int) (l : List Int) : Int := if IsSp b l then 0 else 1
theorem implGenus_c (b : Int) (l : List Int) (hl : l.length ≤ 9223372036854775807) : CallA Try.prog 15 [aSp b l] [rI (genus b l), rI (invalid b l)] [] := by
 refine cA_ _ Try.func15 rfl Try.ntmps15 (by first | exact ⟨rfl, rfl⟩ | (simp only [List.all_cons, List.all_nil, V.solid, D.solid, D.solids, solids_ints, solids_bools, solids_LL, Bool.and_self, Bool.and_true, and_self]; done) | simp [V.solid, D.solid, D.solids, solids_lits, solids_ints, solids_bools, solids_LL]) ?_
 repeat' (first | (guard_target =~ WpA _ _ _ _ _ _; first | refine WpA.seq ?_ | refine WpA.drawU ?_ | refine WpA.regionU ?_ | refine WpA.block ?_ | refine WpA.ret ?_ | refine WpA.skip ?_ | refine WpA.exit ?_ | refine WpA.cond_true rfl ?_ | refine WpA.cond_false rfl ?_ | refine WpA.cond_ntrue rfl ?_ | refine WpA.cond_dec rfl (fun _ => ?_) (fun _ => ?_) | refine WpA.cond_not rfl (fun _ => ?_) (fun _ => ?_) | refine WpA.cond rfl (fun _ => ?_) (fun _ => ?_)) | (guard_target =~ RunU _ _ _ _ [] _ _ _ _; first | refine RunU.nilL ?_ | refine RunU.nilD (by kernel_rfl) ?_) | (guard_target =~ RunU _ _ _ _ (Oper.mk _ (Op.call ⟨Callee.value _, _, _⟩) _ _ _ none :: _) _ _ _ _; first | refine RunU.cons (sC_ (implIsSp_c b l hl) (.sh .nil) (.shAgg rfl gA_ .nil) rfl) ?_) | (guard_target =~ RunU _ _ _ _ (Oper.mk _ _ _ _ _ none :: _) _ _ _ _; refine RunU.cons step_any ?_) | refine Then.next ?_ | refine InBlock.next ?_ | refine Done.ret (.one (by first | exact .c rfl | exact .own rfl | exact .als rfl rfl | exact .ptr rfl rfl | exact .part rfl rfl rfl) (.one (by first | exact .c rfl | exact .own rfl | exact .als rfl rfl | exact .ptr rfl rfl | exact .part rfl rfl rfl) .nil)) (.sh .nil) ?_ rfl)
 case refine_1 h => simp [genus, invalid, h]
 case refine_2 h =>
  refine WpA.loop_slots (ι := Nat) (fun j => [(1, .own 1 (.pt true [.lit (.int .i64 b), .sl false 1 (ints l)])), (11, .c (.sl false 1 (ints l))), (12, .c (.lit (.int .i64 l.length))), (4, .c (.lit (.int .i64 (cntTo (fun x => x ≤ b) l j)))), (13, .c (.lit (.int .i64 (j : Int))))]) (fun j => j ≤ l.length) (fun j => l.length - j) 0 (by simp) ⟨(by first | exact rfl | exact int_eq (by first | omega | assumption) | exact bool_eq (by simp [*]) | exact own_ints (by first | assumption | (simp [*]; done)) | exact own_LL (by first | assumption | (simp [*]; done)) | exact c_ints (by simp [*])), (by first | exact rfl | exact int_eq (by first | omega | assumption) | exact bool_eq (by simp [*]) | exact own_ints (by first | assumption | (simp [*]; done)) | exact own_LL (by first | assumption | (simp [*]; done)) | exact c_ints (by simp [*])), (by first | exact rfl | exact int_eq (by first | omega | assumption) | exact bool_eq (by simp [*]) | exact own_ints (by first | assumption | (simp [*]; done)) | exact own_LL (by first | assumption | (simp [*]; done)) | exact c_ints (by simp [*])), (by first | exact rfl | exact int_eq (by first | omega | assumption) | exact bool_eq (by simp [*]) | exact own_ints (by first | assumption | (simp [*]; done)) | exact own_LL (by first | assumption | (simp [*]; done)) | exact c_ints (by simp [*])), (by first | exact rfl | exact int_eq (by first | omega | assumption) | exact bool_eq (by simp [*]) | exact own_ints (by first | assumption | (simp [*]; done)) | exact own_LL (by first | assumption | (simp [*]; done)) | exact c_ints (by simp [*])), trivial⟩ ?_
  intro j s nx hj
  have hc := cntTo_le (fun x => x ≤ b) l j
  repeat' (first | (guard_target =~ WpA _ _ _ _ _ _; first | refine WpA.seq ?_ | refine WpA.drawU ?_ | refine WpA.regionU ?_ | refine WpA.block ?_ | refine WpA.ret ?_ | refine WpA.skip ?_ | refine WpA.exit ?_ | refine WpA.cond_true rfl ?_ | refine WpA.cond_false rfl ?_ | refine WpA.cond_ntrue rfl ?_ | refine WpA.cond_dec rfl (fun _ => ?_) (fun _ => ?_) | refine WpA.cond_not rfl (fun _ => ?_) (fun _ => ?_) | refine WpA.cond rfl (fun _ => ?_) (fun _ => ?_)) | (guard_target =~ RunU _ _ _ _ [] _ _ _ _; first | refine RunU.nilL ?_ | refine RunU.nilD (by kernel_rfl) ?_) | (guard_target =~ RunU _ _ _ _ (Oper.mk _ _ _ _ _ none :: _) _ _ _ _; refine RunU.cons step_any ?_) | refine Then.next ?_ | refine InBlock.next ?_ | refine Done.ret (.one (by first | exact .c rfl | exact .own rfl | exact .als rfl rfl | exact .ptr rfl rfl | exact .part rfl rfl rfl) (.one (by first | exact .c rfl | exact .own rfl | exact .als rfl rfl | exact .ptr rfl rfl | exact .part rfl rfl rfl) .nil)) (.sh .nil) ?_ rfl)
  case refine_1.refine_1 h3 h4 => exact ⟨j + 1, by omega, ⟨rfl, rfl, rfl, int_eq (cntTo_yes (by simpa using h4)), int_eq (by omega), trivial⟩, by omega⟩
  case refine_1.refine_2 h3 h4 => exact ⟨j + 1, by omega, ⟨rfl, rfl, rfl, int_eq (cntTo_no (by simpa using h4)), int_eq (by omega), trivial⟩, by omega⟩
  case refine_2 h3 =>
   have e : j = l.length := by omega
   subst e
   simp [genus, invalid, h]
def InR (top bot : Int) : Prop := (0 ≤ top ∧ top ≤ 1000000) ∧ 1 ≤ bot ∧ bot ≤ 1000000
instance (top bot : Int) : Decidable (InR top bot) := by unfold InR; infer_instance
def spCode (b : Int) (l : List Int) (top bot : Int) : Int := if IsSp b l then if InR top bot then 0 else 2 else 1
def spCount (p : Int → Prop) [DecidablePred p] (b : Int) (l : List Int) (top bot : Int) : Int := if IsSp b l ∧ InR top bot then cntTo p l l.length else 0
theorem compared_c (x y : Int) : CallA Try.prog 56 [aI x, aI y] [rI (if x < y then -1 else if y < x then 1 else 0)] [] := by
 refine cA_ _ Try.func56 rfl Try.ntmps56 (by first | exact ⟨rfl, rfl⟩ | (simp only [List.all_cons, List.all_nil, V.solid, D.solid, D.solids, solids_ints, solids_bools, solids_LL, Bool.and_self, Bool.and_true, and_self]; done) | simp [V.solid, D.solid, D.solids, solids_lits, solids_ints, solids_bools, solids_LL]) ?_
 repeat' (first | (guard_target =~ WpA _ _ _ _ _ _; first | refine WpA.seq ?_ | refine WpA.drawU ?_ | refine WpA.regionU ?_ | refine WpA.block ?_ | refine WpA.ret ?_ | refine WpA.skip ?_ | refine WpA.exit ?_ | refine WpA.cond_true rfl ?_ | refine WpA.cond_false rfl ?_ | refine WpA.cond_ntrue rfl ?_ | refine WpA.cond_dec rfl (fun _ => ?_) (fun _ => ?_) | refine WpA.cond_not rfl (fun _ => ?_) (fun _ => ?_) | refine WpA.cond rfl (fun _ => ?_) (fun _ => ?_)) | (guard_target =~ RunU _ _ _ _ [] _ _ _ _; first | refine RunU.nilL ?_ | refine RunU.nilD (by kernel_rfl) ?_) | (guard_target =~ RunU _ _ _ _ (Oper.mk _ _ _ _ _ none :: _) _ _ _ _; refine RunU.cons step_any ?_) | refine Then.next ?_ | refine InBlock.next ?_ | refine Done.ret (.one (by first | exact .c rfl | exact .own rfl | exact .als rfl rfl | exact .ptr rfl rfl | exact .part rfl rfl rfl) .nil) (.sh (.sh .nil)) ?_ rfl)
 all_goals simp [*]
theorem countWhere_c (b : Int) (l : List Int) (top bot want : Int) (hl : l.length ≤ 9223372036854775807) : CallA Try.prog 40 [aSp b l, aI top, aI bot, aI want] [rI (spCount (fun x => (if x * bot < top * b then -1 else if top * b < x * bot then 1 else 0) = want) b l top bot), rI (spCode b l top bot)] [] := by
 refine cA_ _ Try.func40 rfl Try.ntmps40 (by first | exact ⟨rfl, rfl⟩ | (simp only [List.all_cons, List.all_nil, V.solid, D.solid, D.solids, solids_ints, solids_bools, solids_LL, Bool.and_self, Bool.and_true, and_self]; done) | simp [V.solid, D.solid, D.solids, solids_lits, solids_ints, solids_bools, solids_LL]) ?_
 repeat' (first | (guard_target =~ WpA _ _ _ _ _ _; first | refine WpA.seq ?_ | refine WpA.drawU ?_ | refine WpA.regionU ?_ | refine WpA.block ?_ | refine WpA.ret ?_ | refine WpA.skip ?_ | refine WpA.exit ?_ | refine WpA.cond_true rfl ?_ | refine WpA.cond_false rfl ?_ | refine WpA.cond_ntrue rfl ?_ | refine WpA.cond_dec rfl (fun _ => ?_) (fun _ => ?_) | refine WpA.cond_not rfl (fun _ => ?_) (fun _ => ?_) | refine WpA.cond rfl (fun _ => ?_) (fun _ => ?_)) | (guard_target =~ RunU _ _ _ _ [] _ _ _ _; first | refine RunU.nilL ?_ | refine RunU.nilD (by kernel_rfl) ?_) | (guard_target =~ RunU _ _ _ _ (Oper.mk _ (Op.call ⟨Callee.value _, _, _⟩) _ _ _ none :: _) _ _ _ _; first | refine RunU.cons (sC_ (implIsSp_c b l hl) (.sh .nil) (.shAgg rfl gA_ .nil) rfl) ?_ | refine RunU.cons (sC_ (inRange_c _ _ _) (.sh (.sh (.sh .nil))) (.sh wS_ (.sh wS_ (.sh wS_ .nil))) rfl) ?_) | (guard_target =~ RunU _ _ _ _ (Oper.mk _ _ _ _ _ none :: _) _ _ _ _; refine RunU.cons step_any ?_) | (guard_target =~ RunU _ _ _ _ (Oper.mk _ _ _ _ _ (some _) :: _) _ _ _ _; first | refine RunU.pass rfl rfl rfl rfl ?_ | refine RunU.pass_undef rfl rfl rfl ?_ | (guard_target =~ RunU _ _ _ _ (Oper.mk _ (Op.call ⟨Callee.value _, _, _⟩) _ _ _ _ :: _) _ _ _ _; first | refine RunU.doit rfl rfl (sC_ (implIsSp_c b l hl) (.sh .nil) (.shAgg rfl gA_ .nil) rfl) ?_ | refine RunU.doit rfl rfl (sC_ (inRange_c _ _ _) (.sh (.sh (.sh .nil))) (.sh wS_ (.sh wS_ (.sh wS_ .nil))) rfl) ?_) | refine RunU.doit rfl rfl step_any ?_ | ((fail_if_success (refine RunU.doit (rd := []) (up := []) rfl rfl ?_ ?_)); first | refine RunU.guard_dec rfl rfl (fun _ => ?_) (fun _ => ?_) | refine RunU.guard_not rfl rfl (fun _ => ?_) (fun _ => ?_) | refine RunU.guard rfl rfl (fun _ => ?_) (fun _ => ?_))) | refine Then.next ?_ | refine InBlock.next ?_ | refine Done.ret (.one (by first | exact .c rfl | exact .own rfl | exact .als rfl rfl | exact .ptr rfl rfl | exact .part rfl rfl rfl) (.one (by first | exact .c rfl | exact .own rfl | exact .als rfl rfl | exact .ptr rfl rfl | exact .part rfl rfl rfl) .nil)) (.sh (.sh (.sh (.sh .nil)))) ?_ rfl)
 case refine_1 h => simp [spCount, spCode, h]
 case refine_2.refine_1 h1 h2 => simp [spCount, spCode, InR, h1, h2]
 case refine_2.refine_2.refine_1 h1 h2 h3 => simp [spCount, spCode, InR, h1, h3]
 case refine_2.refine_2.refine_2 h0 h2 h3 =>
  have h1 : IsSp b l ∧ InR top bot := ⟨h0, h2, h3⟩
  refine WpA.loop_slots (ι := Nat) (fun j => [(4, .own 4 (.pt true [.lit (.int .i64 b), .sl false 1 (ints l)])), (1, .c (.lit (.int .i64 top))), (2, .c (.lit (.int .i64 bot))), (3, .c (.lit (.int .i64 want))), (25, .c (.sl false 1 (ints l))), (26, .c (.lit (.int .i64 l.length))), (10, .c (.lit (.int .i64 (cntTo (fun x => (if x * bot < top * b then -1 else if top * b < x * bot then 1 else 0) = want) l j)))), (27, .c (.lit (.int .i64 (j : Int))))]) (fun j => j ≤ l.length) (fun j => l.length - j) 0 (by simp) ⟨(by first | exact rfl | exact int_eq (by first | omega | assumption) | exact bool_eq (by simp [*]) | exact own_ints (by first | assumption | (simp [*]; done)) | exact own_LL (by first | assumption | (simp [*]; done)) | exact c_ints (by simp [*])), (by first | exact rfl | exact int_eq (by first | omega | assumption) | exact bool_eq (by simp [*]) | exact own_ints (by first | assumption | (simp [*]; done)) | exact own_LL (by first | assumption | (simp [*]; done)) | exact c_ints (by simp [*])), (by first | exact rfl | exact int_eq (by first | omega | assumption) | exact bool_eq (by simp [*]) | exact own_ints (by first | assumption | (simp [*]; done)) | exact own_LL (by first | assumption | (simp [*]; done)) | exact c_ints (by simp [*])), (by first | exact rfl | exact int_eq (by first | omega | assumption) | exact bool_eq (by simp [*]) | exact own_ints (by first | assumption | (simp [*]; done)) | exact own_LL (by first | assumption | (simp [*]; done)) | exact c_ints (by simp [*])), (by first | exact rfl | exact int_eq (by first | omega | assumption) | exact bool_eq (by simp [*]) | exact own_ints (by first | assumption | (simp [*]; done)) | exact own_LL (by first | assumption | (simp [*]; done)) | exact c_ints (by simp [*])), (by first | exact rfl | exact int_eq (by first | omega | assumption) | exact bool_eq (by simp [*]) | exact own_ints (by first | assumption | (simp [*]; done)) | exact own_LL (by first | assumption | (simp [*]; done)) | exact c_ints (by simp [*])), (by first | exact rfl | exact int_eq (by first | omega | assumption) | exact bool_eq (by simp [*]) | exact own_ints (by first | assumption | (simp [*]; done)) | exact own_LL (by first | assumption | (simp [*]; done)) | exact c_ints (by simp [*])), (by first | exact rfl | exact int_eq (by first | omega | assumption) | exact bool_eq (by simp [*]) | exact own_ints (by first | assumption | (simp [*]; done)) | exact own_LL (by first | assumption | (simp [*]; done)) | exact c_ints (by simp [*])), trivial⟩ ?_
  intro j s nx hj
  have hc := cntTo_le (fun x => (if x * bot < top * b then -1 else if top * b < x * bot then 1 else 0) = want) l j
  have hb := h1.1.1
  have hp : (j : Int) < l.length → 0 ≤ l.getD (j * 1) 0 * bot ∧ l.getD (j * 1) 0 * bot ≤ 2000000000000 := fun hlt => by
   have := h1.1.at (i := j * 1) (by omega)
   exact mul_bound (by omega) (by omega) (by omega) (by omega)
  have hq : 0 ≤ top * b ∧ top * b ≤ 2000000000000 := mul_bound (by omega) (by omega) (by omega) (by omega)
  repeat' (first | (guard_target =~ WpA _ _ _ _ _ _; first | refine WpA.seq ?_ | refine WpA.drawU ?_ | refine WpA.regionU ?_ | refine WpA.block ?_ | refine WpA.ret ?_ | refine WpA.skip ?_ | refine WpA.exit ?_ | refine WpA.cond_true rfl ?_ | refine WpA.cond_false rfl ?_ | refine WpA.cond_ntrue rfl ?_ | refine WpA.cond_dec rfl (fun _ => ?_) (fun _ => ?_) | refine WpA.cond_not rfl (fun _ => ?_) (fun _ => ?_) | refine WpA.cond rfl (fun _ => ?_) (fun _ => ?_)) | (guard_target =~ RunU _ _ _ _ [] _ _ _ _; first | refine RunU.nilL ?_ | refine RunU.nilD (by kernel_rfl) ?_) | (guard_target =~ RunU _ _ _ _ (Oper.mk _ (Op.call ⟨Callee.value _, _, _⟩) _ _ _ none :: _) _ _ _ _; first | refine RunU.cons (sC_ (compared_c _ _) (.sh (.sh .nil)) (.sh wS_ (.sh wS_ .nil)) rfl) ?_) | (guard_target =~ RunU _ _ _ _ (Oper.mk _ _ _ _ _ none :: _) _ _ _ _; refine RunU.cons step_any ?_) | (guard_target =~ RunU _ _ _ _ (Oper.mk _ _ _ _ _ (some _) :: _) _ _ _ _; first | refine RunU.pass rfl rfl rfl rfl ?_ | refine RunU.pass_undef rfl rfl rfl ?_ | (guard_target =~ RunU _ _ _ _ (Oper.mk _ (Op.call ⟨Callee.value _, _, _⟩) _ _ _ _ :: _) _ _ _ _; first | refine RunU.doit rfl rfl (sC_ (compared_c _ _) (.sh (.sh .nil)) (.sh wS_ (.sh wS_ .nil)) rfl) ?_) | refine RunU.doit rfl rfl step_any ?_ | ((fail_if_success (refine RunU.doit (rd := []) (up := []) rfl rfl ?_ ?_)); first | refine RunU.guard_dec rfl rfl (fun _ => ?_) (fun _ => ?_) | refine RunU.guard_not rfl rfl (fun _ => ?_) (fun _ => ?_) | refine RunU.guard rfl rfl (fun _ => ?_) (fun _ => ?_))) | refine Then.next ?_ | refine InBlock.next ?_ | refine Done.ret (.one (by first | exact .c rfl | exact .own rfl | exact .als rfl rfl | exact .ptr rfl rfl | exact .part rfl rfl rfl) (.one (by first | exact .c rfl | exact .own rfl | exact .als rfl rfl | exact .ptr rfl rfl | exact .part rfl rfl rfl) .nil)) (.sh (.sh (.sh (.sh .nil)))) ?_ rfl)
  case refine_1.refine_1 h3 h4 => exact ⟨j + 1, by omega, ⟨rfl, rfl, rfl, rfl, rfl, rfl, int_eq (cntTo_yes (by simpa using h4)), int_eq (by omega), trivial⟩, by omega⟩
  case refine_1.refine_2 h3 h4 => exact ⟨j + 1, by omega, ⟨rfl, rfl, rfl, rfl, rfl, rfl, int_eq (cntTo_no (by simpa using h4)), int_eq (by omega), trivial⟩, by omega⟩
  case refine_2 h3 =>
   have e : j = l.length := by omega
   subst e
   simp [spCount, spCode, h1]
theorem cntTo_congr {p q : Int → Prop} [DecidablePred p] [DecidablePred q] (h : ∀ x, p x ↔ q x) (l : List Int) : ∀ j, cntTo p l j = cntTo q l j
 | 0 => rfl
 | j + 1 => by simp only [cntTo, cntTo_congr h l j, h]
theorem implBelow_c (b : Int) (l : List Int) (top bot : Int) (hl : l.length ≤ 9223372036854775807) : CallA Try.prog 16 [aSp b l, aI top, aI bot] [rI (spCount (fun x => x * bot < top * b) b l top bot), rI (spCode b l top bot)] [] := by
 refine cA_ _ Try.func16 rfl Try.ntmps16 (by first | exact ⟨rfl, rfl⟩ | (simp only [List.all_cons, List.all_nil, V.solid, D.solid, D.solids, solids_ints, solids_bools, solids_LL, Bool.and_self, Bool.and_true, and_self]; done) | simp [V.solid, D.solid, D.solids, solids_lits, solids_ints, solids_bools, solids_LL]) ?_
 repeat' (first | (guard_target =~ WpA _ _ _ _ _ _; first | refine WpA.seq ?_ | refine WpA.drawU ?_ | refine WpA.regionU ?_ | refine WpA.block ?_ | refine WpA.ret ?_ | refine WpA.skip ?_ | refine WpA.exit ?_ | refine WpA.cond_true rfl ?_ | refine WpA.cond_false rfl ?_ | refine WpA.cond_ntrue rfl ?_ | refine WpA.cond_dec rfl (fun _ => ?_) (fun _ => ?_) | refine WpA.cond_not rfl (fun _ => ?_) (fun _ => ?_) | refine WpA.cond rfl (fun _ => ?_) (fun _ => ?_)) | (guard_target =~ RunU _ _ _ _ [] _ _ _ _; first | refine RunU.nilL ?_ | refine RunU.nilD (by kernel_rfl) ?_) | (guard_target =~ RunU _ _ _ _ (Oper.mk _ (Op.call ⟨Callee.value _, _, _⟩) _ _ _ none :: _) _ _ _ _; first | refine RunU.cons (sC_ (countWhere_c b l top bot (-1) hl) (.sh (.sh (.sh (.sh .nil)))) (.shAgg rfl gA_ (.sh wS_ (.sh wS_ (.sh wS_ .nil)))) rfl) ?_) | (guard_target =~ RunU _ _ _ _ (Oper.mk _ _ _ _ _ none :: _) _ _ _ _; refine RunU.cons step_any ?_) | refine Then.next ?_ | refine InBlock.next ?_ | refine Done.ret (.one (by first | exact .c rfl | exact .own rfl | exact .als rfl rfl | exact .ptr rfl rfl | exact .part rfl rfl rfl) (.one (by first | exact .c rfl | exact .own rfl | exact .als rfl rfl | exact .ptr rfl rfl | exact .part rfl rfl rfl) .nil)) (.sh (.sh (.sh .nil))) ?_ rfl)
 simp only [spCount]
 rw [cntTo_congr (q := fun x => x * bot < top * b) (fun x => by
  constructor
  ·intro h
   split at h
   ·assumption
   ·split at h <;> simp at h
  ·intro h; simp [h])]
instance fnOk9 : FnOk Try.prog 9 := ⟨_, Try.func9, rfl, by decide⟩
theorem Asc.le {l : List Int} (h : Asc l) (i : Nat) : ∀ d, i + d < l.length → l.getD i 0 ≤ l.getD (i + d) 0
 | 0, _ => Int.le_refl _
 | d + 1, hd => by
  have h1 := Asc.le h i d (by omega)
  have h2 := h (i + (d + 1)) hd (by omega)
  rw [show i + (d + 1) - 1 = i + d by omega] at h2
  omega
theorem getD_get {l : List Int} {i : Nat} (h : i < l.length) : l.getD i 0 = l[i] := by simp [List.getD, h]
theorem Asc.pairwise {l : List Int} (h : Asc l) : l.Pairwise (· ≤ ·) := by
 rw [List.pairwise_iff_getElem]
 intro i j hi hj hij
 have := h.le i (j - i) (by omega)
 rw [show i + (j - i) = j by omega, getD_get hi, getD_get hj] at this
 exact this
theorem cntTo_eq (v : Int) (l : List Int) : ∀ j, j ≤ l.length → cntTo (fun x => x = v) l j = ((l.take j).count v : Nat)
 | 0, _ => by simp [cntTo]
 | j + 1, h => by
  rw [List.take_add_one, List.count_append, cntTo, cntTo_eq v l j (by omega), List.getElem?_eq_getElem (by omega), getD_get (by omega)]
  simp only [Option.toList_some, List.count_singleton, beq_iff_eq]
  split <;> simp
def tms (l : List Int) (v : Int) : Int := cntTo (fun x => x = v) l l.length
theorem tms_eq (l : List Int) (v : Int) : tms l v = (l.count v : Nat) := by
 rw [tms, cntTo_eq v l _ (Nat.le_refl _), List.take_length]
def SymS (b : Int) (l : List Int) : Prop := ∀ i, i < l.length → tms l (l.getD i 0) = tms l (2 * b - l.getD i 0)
def SymI (b : Int) (l : List Int) : Prop := ∀ i, i < l.length → l.getD i 0 + l.getD (l.length - 1 - i) 0 = 2 * b
theorem count_flip (c v : Int) : ∀ l : List Int, (l.map fun x => c - x).count v = l.count (c - v)
 | [] => rfl
 | a :: l => by
  rw [List.map_cons, List.count_cons, List.count_cons, count_flip c v l]
  congr 1
  have : (c - a == v) = (a == c - v) := by
   rw [Bool.eq_iff_iff, beq_iff_eq, beq_iff_eq]; omega
  rw [this]
theorem flip_get (b : Int) (l : List Int) {i : Nat} (h : i < l.length) : ((l.map fun x => 2 * b - x).reverse).getD i 0 = 2 * b - l.getD (l.length - 1 - i) 0 := by
 rw [getD_get (by simpa using h), getD_get (by omega), List.getElem_reverse, List.getElem_map]
 congr 2
 simp
theorem sym_iff {b : Int} {l : List Int} (h : Asc l) : SymS b l ↔ SymI b l := by
 constructor
 ·intro hs
  have hall : ∀ v, l.count v = l.count (2 * b - v) := by
   have one : ∀ v, v ∈ l → l.count v = l.count (2 * b - v) := by
    intro v hv
    obtain ⟨i, hi, rfl⟩ := List.getElem_of_mem hv
    have := hs i hi
    rw [tms_eq, tms_eq, getD_get hi] at this
    omega
   intro v
   by_cases hv : v ∈ l
   ·exact one v hv
   ·by_cases hw : 2 * b - v ∈ l
    ·have := one _ hw
     rw [show 2 * b - (2 * b - v) = v by omega] at this
     exact this.symm
    ·rw [List.count_eq_zero_of_not_mem hv, List.count_eq_zero_of_not_mem hw]
  have hp : l.Perm (l.map fun x => 2 * b - x).reverse := by
   refine (List.perm_iff_count.2 fun v => ?_).trans (List.reverse_perm _).symm
   rw [count_flip, hall v]
  have hm : ((l.map fun x => 2 * b - x).reverse).Pairwise (· ≤ ·) := by
   rw [List.pairwise_reverse, List.pairwise_map]
   exact h.pairwise.imp fun {a c} hac => by omega
  have e := hp.eq_of_pairwise (fun a c _ _ h1 h2 => Int.le_antisymm h1 h2) h.pairwise hm
  intro i hi
  have h1 := flip_get b l hi
  rw [← e] at h1
  omega
 ·intro hs
  have e : l = (l.map fun x => 2 * b - x).reverse := list_ext (by simp) fun i hi => by
   rw [flip_get b l hi]
   have := hs i hi
   omega
  intro i hi
  have h2 : l.count (l.getD i 0) = ((l.map fun x => 2 * b - x).reverse).count (l.getD i 0) := by rw [← e]
  rw [(List.reverse_perm _).count_eq, count_flip] at h2
  rw [tms_eq, tms_eq, h2]
instance (b : Int) (l : List Int) : Decidable (SymS b l) := by unfold SymS; infer_instance
instance (b : Int) (l : List Int) : Decidable (SymI b l) := by unfold SymI; infer_instance
def symm (b : Int) (l : List Int) : Bool := decide (IsSp b l ∧ SymS b l)
theorem implSym_c (b : Int) (l : List Int) (hl : l.length ≤ 9223372036854775807) : CallA Try.prog 9 [aSp b l] [rB (symm b l), rI (invalid b l)] [] := by
 refine cA_ _ Try.func9 rfl Try.ntmps9 (by first | exact ⟨rfl, rfl⟩ | (simp only [List.all_cons, List.all_nil, V.solid, D.solid, D.solids, solids_ints, solids_bools, solids_LL, Bool.and_self, Bool.and_true, and_self]; done) | simp [V.solid, D.solid, D.solids, solids_lits, solids_ints, solids_bools, solids_LL]) ?_
 repeat' (first | (guard_target =~ WpA _ _ _ _ _ _; first | refine WpA.seq ?_ | refine WpA.drawU ?_ | refine WpA.regionU ?_ | refine WpA.block ?_ | refine WpA.ret ?_ | refine WpA.skip ?_ | refine WpA.exit ?_ | refine WpA.cond_true rfl ?_ | refine WpA.cond_false rfl ?_ | refine WpA.cond_ntrue rfl ?_ | refine WpA.cond_dec rfl (fun _ => ?_) (fun _ => ?_) | refine WpA.cond_not rfl (fun _ => ?_) (fun _ => ?_) | refine WpA.cond rfl (fun _ => ?_) (fun _ => ?_)) | (guard_target =~ RunU _ _ _ _ [] _ _ _ _; first | refine RunU.nilL ?_ | refine RunU.nilD (by kernel_rfl) ?_) | (guard_target =~ RunU _ _ _ _ (Oper.mk _ (Op.call ⟨Callee.value _, _, _⟩) _ _ _ none :: _) _ _ _ _; first | refine RunU.cons (sC_ (implIsSp_c b l hl) (.sh .nil) (.shAgg rfl gA_ .nil) rfl) ?_) | (guard_target =~ RunU _ _ _ _ (Oper.mk _ _ _ _ _ none :: _) _ _ _ _; refine RunU.cons step_any ?_) | refine Then.next ?_ | refine InBlock.next ?_ | refine Done.ret (.one (by first | exact .c rfl | exact .own rfl | exact .als rfl rfl | exact .ptr rfl rfl | exact .part rfl rfl rfl) (.one (by first | exact .c rfl | exact .own rfl | exact .als rfl rfl | exact .ptr rfl rfl | exact .part rfl rfl rfl) .nil)) (.sh .nil) ?_ rfl)
 case refine_1 h => simp [symm, invalid, h]
 case refine_2 h =>
  have hsi := sym_iff (b := b) h.2.2.2
  refine WpA.loop_slots (ι := Nat) (fun j => [(1, .own 1 (.pt true [.lit (.int .i64 b), .sl false 1 (ints l)])), (10, .c (.sl false 1 (ints l))), (11, .c (.lit (.int .i64 l.length))), (12, .c (.lit (.int .i64 (j : Int))))]) (fun j => j ≤ l.length ∧ ∀ i, i < j → l.getD i 0 + l.getD (l.length - 1 - i) 0 = 2 * b) (fun j => l.length - j) 0 (by simp) ⟨(by first | exact rfl | exact int_eq (by first | omega | assumption) | exact bool_eq (by simp [*]) | exact own_ints (by first | assumption | (simp [*]; done)) | exact own_LL (by first | assumption | (simp [*]; done)) | exact c_ints (by simp [*])), (by first | exact rfl | exact int_eq (by first | omega | assumption) | exact bool_eq (by simp [*]) | exact own_ints (by first | assumption | (simp [*]; done)) | exact own_LL (by first | assumption | (simp [*]; done)) | exact c_ints (by simp [*])), (by first | exact rfl | exact int_eq (by first | omega | assumption) | exact bool_eq (by simp [*]) | exact own_ints (by first | assumption | (simp [*]; done)) | exact own_LL (by first | assumption | (simp [*]; done)) | exact c_ints (by simp [*])), (by first | exact rfl | exact int_eq (by first | omega | assumption) | exact bool_eq (by simp [*]) | exact own_ints (by first | assumption | (simp [*]; done)) | exact own_LL (by first | assumption | (simp [*]; done)) | exact c_ints (by simp [*])), trivial⟩ ?_
  intro j s nx hj
  have hb := h.1
  have hlj : (j : Int) < l.length → 1 ≤ l.getD (j * 1) 0 ∧ l.getD (j * 1) 0 ≤ 1999999 := fun hlt => h.at (by omega)
  have hlk : (j : Int) < l.length → 1 ≤ l.getD (((l.length : Int) - 1 - (j : Int)).toNat * 1) 0 ∧ l.getD (((l.length : Int) - 1 - (j : Int)).toNat * 1) 0 ≤ 1999999 := fun hlt => h.at (by omega)
  repeat' (first | (guard_target =~ WpA _ _ _ _ _ _; first | refine WpA.seq ?_ | refine WpA.drawU ?_ | refine WpA.regionU ?_ | refine WpA.block ?_ | refine WpA.ret ?_ | refine WpA.skip ?_ | refine WpA.exit ?_ | refine WpA.cond_true rfl ?_ | refine WpA.cond_false rfl ?_ | refine WpA.cond_ntrue rfl ?_ | refine WpA.cond_dec rfl (fun _ => ?_) (fun _ => ?_) | refine WpA.cond_not rfl (fun _ => ?_) (fun _ => ?_) | refine WpA.cond rfl (fun _ => ?_) (fun _ => ?_)) | (guard_target =~ RunU _ _ _ _ [] _ _ _ _; first | refine RunU.nilL ?_ | refine RunU.nilD (by kernel_rfl) ?_) | (guard_target =~ RunU _ _ _ _ (Oper.mk _ _ _ _ _ none :: _) _ _ _ _; refine RunU.cons step_any ?_) | refine Then.next ?_ | refine InBlock.next ?_ | refine Done.ret (.one (by first | exact .c rfl | exact .own rfl | exact .als rfl rfl | exact .ptr rfl rfl | exact .part rfl rfl rfl) (.one (by first | exact .c rfl | exact .own rfl | exact .als rfl rfl | exact .ptr rfl rfl | exact .part rfl rfl rfl) .nil)) (.sh .nil) ?_ rfl)
  case refine_1.refine_1 h3 h4 =>
   have : ¬ SymS b l := fun hs => h4 (by
    have := hsi.1 hs j (by omega)
    rw [show ((l.length : Int) - 1 - (j : Int)).toNat = l.length - 1 - j by omega]
    simpa using this)
   simp [symm, invalid, h, this]
  case refine_1.refine_2 h3 h4 =>
   refine ⟨j + 1, ⟨by omega, fun i hi => ?_⟩, ⟨rfl, rfl, rfl, int_eq (by omega), trivial⟩, by omega⟩
   by_cases e : i = j
   ·subst e
    rw [show ((l.length : Int) - 1 - (i : Int)).toNat = l.length - 1 - i by omega] at h4
    simpa using h4
   ·exact hj.2 i (by omega)
  case refine_2 h3 =>
   have : SymS b l := hsi.2 fun i hi => hj.2 i (by omega)
   simp [symm, invalid, h, this]
end Go.Proofs.Ytohhkbbjdjibgaa
namespace Go.Proofs.Ytohhkbbjdjibgaa
open Go.Pv Go.Ct
theorem gTo_dvdC (b : Int) (l : List Int) : ∀ j i, i ≤ j → gTo b l j ∣ gTo b l i
 | 0, i, h => by rw [show i = 0 by omega]; exact Int.dvd_refl _
 | j + 1, i, h => by
  by_cases e : i = j + 1
  ·rw [e]; exact Int.dvd_refl _
  ·refine Int.dvd_trans ?_ (gTo_dvdC b l j i (by omega))
   rw [gTo]
   exact Int.gcd_dvd_left ..
theorem gTo_all (b : Int) (l : List Int) : gTo b l l.length ∣ b ∧ ∀ t ∈ l, gTo b l l.length ∣ t := by
 refine ⟨gTo_dvdC b l l.length 0 (by omega), fun t ht => ?_⟩
 obtain ⟨i, hi, rfl⟩ := List.getElem_of_mem ht
 have h1 := gTo_dvdC b l l.length (i + 1) (by omega)
 refine Int.dvd_trans h1 ?_
 rw [gTo, List.getD_eq_getElem?_getD, List.getElem?_eq_getElem hi]
 exact Int.gcd_dvd_right ..
def Tgd (B : Int) (L : List Int) : Prop := (1 ≤ B ∧ B ≤ 1000000) ∧ L.length ≤ 400 ∧ ∀ t ∈ L, 1 ≤ t ∧ t ≤ 2 * B - 1
theorem red_perm {B : Int} {L : List Int} (h : Tgd B L) : (mkS B L).Perm (L.map fun t => t / gTo B L L.length) := by
 unfold mkS
 rw [if_neg (by have := h.1; have := h.2.1; omega)]
 refine (insTo_perm _ L L.length (Nat.le_refl _)).trans ?_
 unfold qTo
 rw [List.take_length]
theorem red_B {B : Int} {L : List Int} (h : Tgd B L) : mkB B L = B / gTo B L L.length := by
 unfold mkB
 rw [if_neg (by have := h.1; have := h.2.1; omega)]
theorem red_g {B : Int} {L : List Int} (h : Tgd B L) : ∃ g b : Int, 0 < g ∧ 1 ≤ b ∧ B = g * b ∧ mkB B L = b ∧ (mkS B L).Perm (L.map fun t => t / g) ∧ ∀ t ∈ L, t = g * (t / g) := by
 obtain ⟨g0, g1⟩ := gTo_bound L (show 0 < B by have := h.1; omega) L.length
 obtain ⟨d1, d2⟩ := gTo_all B L
 have e1 := red_perm h
 have e2 := red_B h
 generalize gTo B L L.length = g at *
 obtain ⟨b, hb⟩ := d1
 have hb1 : B / g = b := by rw [hb]; exact Int.mul_ediv_cancel_left b (by omega)
 refine ⟨g, b, g0, ?_, hb, by rw [e2, hb1], e1, fun t ht => (Int.mul_ediv_cancel' (d2 t ht)).symm⟩
 by_cases h0 : 1 ≤ b
 ·exact h0
 ·have := Int.mul_le_mul_of_nonneg_left (show b ≤ 0 by omega) (show 0 ≤ g by omega)
  rw [Int.mul_zero, ← hb] at this
  have := h.1
  omega
theorem count_map {p q : Int → Bool} {f : Int → Int} : ∀ {L : List Int}, (∀ t ∈ L, p (f t) = q t) → (L.map f).countP p = L.countP q
 | [], _ => rfl
 | a :: L, h => by
  rw [List.map_cons, List.countP_cons, List.countP_cons, count_map (fun t ht => h t (by simp [ht])), h a (by simp)]
theorem red_len {B : Int} {L : List Int} (h : Tgd B L) : (mkS B L).length = L.length := by
 rw [(red_perm h).length_eq, List.length_map]
theorem red_sp {B : Int} {L : List Int} (h : Tgd B L) : IsSp (mkB B L) (mkS B L) := by
 have hl := red_len h
 have hs : (mkS B L).Pairwise (· ≤ ·) := by
  unfold mkS
  rw [if_neg (by have := h.1; have := h.2.1; omega)]
  exact insTo_sorted _ _ _
 obtain ⟨g, b, g0, b1, hB, e1, e2, e3⟩ := red_g h
 rw [e1]
 have hmem : ∀ x ∈ mkS B L, 1 ≤ x ∧ x ≤ 2 * b - 1 := fun x hx => by
  obtain ⟨t, ht, rfl⟩ := List.mem_map.1 (e2.mem_iff.1 hx)
  have h1 := h.2.2 t ht
  have h2 := e3 t ht
  generalize t / g = y at *
  constructor
  ·by_cases h3 : 1 ≤ y
   ·exact h3
   ·have := Int.mul_le_mul_of_nonneg_left (show y ≤ 0 by omega) (show 0 ≤ g by omega)
    omega
  ·by_cases h3 : y ≤ 2 * b - 1
   ·exact h3
   ·have := Int.mul_le_mul_of_nonneg_left (show 2 * b ≤ y by omega) (show 0 ≤ g by omega)
    rw [Int.mul_left_comm, ← hB] at this
    omega
 have hbB : b ≤ B := by
  have := Int.mul_le_mul_of_nonneg_right (show 1 ≤ g by omega) (show 0 ≤ b by omega)
  omega
 refine ⟨⟨b1, by have := h.1; omega⟩, by have := h.2.1; omega, fun i hi => ?_, fun i hi h0 => pw_getD hs (by omega) hi⟩
 refine hmem _ ?_
 rw [List.getD_eq_getElem?_getD, List.getElem?_eq_getElem hi]
 exact List.getElem_mem hi
theorem red_sym {B : Int} {L : List Int} (h : Tgd B L) (hp : L.Perm (L.map fun t => 2 * B - t)) : SymS (mkB B L) (mkS B L) := by
 obtain ⟨g, b, g0, b1, hB, e1, e2, e3⟩ := red_g h
 rw [e1]
 have k1 : (mkS B L).Perm ((mkS B L).map fun t => 2 * b - t) := by
  refine e2.trans (((hp.map _).trans ?_).trans (e2.map _).symm)
  rw [List.map_map, List.map_map]
  refine List.Perm.of_eq (List.map_congr_left fun t ht => ?_)
  have h2 := e3 t ht
  show (2 * B - t) / g = 2 * b - t / g
  generalize t / g = y at *
  rw [hB, h2, show 2 * (g * b) - g * y = g * (2 * b - y) by rw [Int.mul_sub, Int.mul_left_comm], Int.mul_ediv_cancel_left _ (by omega)]
 intro i hi
 rw [tms_eq, tms_eq, ← count_flip]
 exact congrArg _ (k1.count_eq _)
theorem cnt_all (p : Int → Prop) [DecidablePred p] (l : List Int) : ∀ j, j ≤ l.length → cntTo p l j = ((l.take j).countP (fun x => decide (p x)) : Nat)
 | 0, _ => by simp [cntTo]
 | j + 1, h => by
  rw [List.take_add_one, List.countP_append, cntTo, cnt_all p l j (by omega), List.getElem?_eq_getElem (by omega), List.getD_eq_getElem?_getD, List.getElem?_eq_getElem (by omega)]
  simp only [Option.toList_some, List.countP_singleton, Option.getD_some, decide_eq_true_eq]
  split <;> simp
theorem red_le {B : Int} {L : List Int} (h : Tgd B L) : (mkS B L).countP (fun t => decide (t ≤ mkB B L)) = L.countP fun t => decide (t ≤ B) := by
 obtain ⟨g, b, g0, b1, hB, e1, e2, e3⟩ := red_g h
 rw [e1, e2.countP_eq]
 refine count_map fun t ht => decide_eq_decide.2 ?_
 have h2 := e3 t ht
 generalize t / g = y at *
 rw [h2, hB]
 exact ⟨fun q => Int.mul_le_mul_of_nonneg_left q (by omega), fun q => Int.le_of_mul_le_mul_left q g0⟩
theorem red_lt {B : Int} {L : List Int} (h : Tgd B L) : (mkS B L).countP (fun t => decide (t < mkB B L)) = L.countP fun t => decide (t < B) := by
 obtain ⟨g, b, g0, b1, hB, e1, e2, e3⟩ := red_g h
 rw [e1, e2.countP_eq]
 refine count_map fun t ht => decide_eq_decide.2 ?_
 have h2 := e3 t ht
 generalize t / g = y at *
 rw [h2, hB]
 exact ⟨fun q => Int.mul_lt_mul_of_pos_left q g0, fun q => Int.lt_of_mul_lt_mul_left q (by omega)⟩
theorem red_ord {B : Int} {L : List Int} (h : Tgd B L) (d : Nat) : (mkS B L).countP (fun t => decide (mkB B L / (Int.gcd (mkB B L) t : Int) = d)) = L.countP (ordB B d) := by
 obtain ⟨g, b, g0, b1, hB, e1, e2, e3⟩ := red_g h
 rw [e1, e2.countP_eq]
 refine count_map fun t ht => ?_
 have h1 := h.2.2 t ht
 have h2 := e3 t ht
 have hy : 0 ≤ t / g := Int.ediv_nonneg (by omega) (by omega)
 generalize t / g = y at *
 obtain ⟨b', rfl⟩ : ∃ b' : Nat, b = b' := ⟨_, (Int.toNat_of_nonneg (by omega)).symm⟩
 obtain ⟨g', rfl⟩ : ∃ g' : Nat, g = g' := ⟨_, (Int.toNat_of_nonneg (by omega)).symm⟩
 obtain ⟨y', rfl⟩ : ∃ y' : Nat, y = y' := ⟨_, (Int.toNat_of_nonneg (by omega)).symm⟩
 unfold ordB
 rw [h2, hB, ← Int.natCast_mul, ← Int.natCast_mul, Int.toNat_natCast, Int.toNat_natCast, ordN_mul (by omega), Int.gcd_natCast_natCast]
 refine decide_eq_decide.2 ?_
 unfold ordN
 rw [Nat.gcd_comm y' b', ← Int.natCast_ediv]
 omega
end Go.Proofs.Ytohhkbbjdjibgaa
