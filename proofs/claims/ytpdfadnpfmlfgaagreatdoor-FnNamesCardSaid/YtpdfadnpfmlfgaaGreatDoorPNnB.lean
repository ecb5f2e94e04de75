/- Curves with one more line. No condition. -/
import Derived.Test.YtpdfadnpfmlfgaaGreatDoorPCwA
import Derived.Test.YtpdfadnpfmlfgaaGreatDoorPNmB
import Derived.Test.YtpdfadnpfmlfgaaGreatDoorPCvA
import Derived.Test.YtpdfadnpfmlfgaaGreatDoorPPwX
set_option linter.unusedVariables false
set_option linter.unusedSimpArgs false
namespace Go.Proofs.YtpdfadnpfmlfgaaGreatDoor
open Go.Pv
theorem brN_one {l : List Int} (h : IsBr l) (h0 : l.getD 0 0 = 1) : l = [1] := by
 obtain ⟨h1, _, _, _, h4, h5⟩ := (isBr_def l).1 h
 have d1 : divTo l 1 = 1 := by
  have : divTo l 1 = (Int.gcd (divTo l 0) (l.getD 0 0) : Int) := rfl
  have z : divTo l 0 = 0 := rfl
  rw [this, h0, z]; rfl
 by_cases e : l.length = 1
 ·match l, e with
  | [x], _ => simp at h0; rw [h0]
 ·have h2 := h4 1 (by omega) (by omega)
  have d2 : divTo l (1 + 1) = 1 := by
   have : divTo l (1 + 1) = (Int.gcd (divTo l 1) (l.getD 1 0) : Int) := rfl
   rw [this, d1]; simp
  rw [d1, d2] at h2
  omega
theorem brN_two {l : List Int} {p : Int} (h : IsBr l) (h0 : l.getD 0 0 = p) (hp : p = 2 ∨ p = 3) : ∃ k, l = [p, k] ∧ p < k ∧ k ≤ 2000 ∧ k % p ≠ 0 := by
 obtain ⟨h1, _, h2, h3, h4, h5⟩ := (isBr_def l).1 h
 have d1 : divTo l 1 = p := by
  have : divTo l 1 = (Int.gcd (divTo l 0) (l.getD 0 0) : Int) := rfl
  have z : divTo l 0 = 0 := rfl
  rw [this, h0, z]
  rcases hp with rfl | rfl <;> rfl
 have hl1 : l.length ≠ 1 := fun e => by
  rw [e, d1] at h5
  omega
 have d2 : divTo l (1 + 1) = (Int.gcd p (l.getD 1 0) : Int) := by
  have : divTo l (1 + 1) = (Int.gcd (divTo l 1) (l.getD 1 0) : Int) := rfl
  rw [this, d1]
 have f1 := h4 1 (by omega) (by omega)
 rw [d1] at f1
 have hdv : (Int.gcd p (l.getD 1 0) : Int) ∣ p := Int.gcd_dvd_left ..
 have hdk : (Int.gcd p (l.getD 1 0) : Int) ∣ l.getD 1 0 := Int.gcd_dvd_right ..
 have hg0 : (Int.gcd p (l.getD 1 0) : Int) ≠ 0 := fun e => by
  rw [e] at hdv
  have := Int.zero_dvd.1 hdv
  omega
 have hg1 : (Int.gcd p (l.getD 1 0) : Int) = 1 := by
  rw [d2] at f1
  generalize Int.gcd p (l.getD 1 0) = g at *
  rcases hp with rfl | rfl
  ·omega
  ·have : g = 1 ∨ g = 2 := by omega
   rcases this with rfl | rfl
   ·rfl
   ·omega
 have hl2 : l.length = 2 := by
  by_cases e : l.length = 2
  ·exact e
  ·have f2 := h4 2 (by omega) (by omega)
   have e2 : divTo l 2 = 1 := by rw [← hg1]; exact d2
   have d3 : divTo l (2 + 1) = 1 := by
    have : divTo l (2 + 1) = (Int.gcd (divTo l 2) (l.getD 2 0) : Int) := rfl
    rw [this, e2]; simp
   rw [d3, e2] at f2
   omega
 have s1 := h2 1 (by omega) (by omega)
 have w1 := h3 1 (by omega)
 match l, hl2 with
 | [x, k], _ =>
  simp at h0 s1 w1 hg1
  subst h0
  refine ⟨k, rfl, by simpa using s1, w1.2, fun e => ?_⟩
  have hd : x ∣ k := Int.dvd_of_emod_eq_zero e
  have : x ∣ (Int.gcd x k : Int) := Int.dvd_coe_gcd (Int.dvd_refl x) hd
  rw [hg1] at this
  have := Int.le_of_dvd (by decide) this
  omega
theorem dltTo_cut (l : List Int) (x : Int) : ∀ j, j ≤ l.length → dltTo (l ++ [x]) j = dltTo l j
 | 0, _ => rfl
 | j + 1, h => by
  rw [dltTo, dltTo, dltTo_cut l x j (by omega)]
  have : (l ++ [x]).getD j 0 = l.getD j 0 := by
   simp only [List.getD_eq_getElem?_getD, List.getElem?_append_left (show j < l.length by omega)]
  rw [this]
theorem dltTo_snoc (l : List Int) (x : Int) : dltTo (l ++ [x]) (l ++ [x]).length = dltTo l l.length + x * (x - 1) / 2 := by
 rw [List.length_append]
 show dltTo (l ++ [x]) (l.length + 1) = _
 rw [dltTo, dltTo_cut l x l.length (Nat.le_refl _)]
 simp [List.getD_eq_getElem?_getD]
theorem dltTo_rep (x : Int) : ∀ n, dltTo (List.replicate n x) (List.replicate n x).length = n * (x * (x - 1) / 2)
 | 0 => by simp [dltTo]
 | n + 1 => by
  rw [List.replicate_succ', dltTo_snoc, dltTo_rep x n]
  rw [show ((n + 1 : Nat) : Int) = n + 1 by omega, Int.add_mul, Int.one_mul]
theorem seq_two (p k : Int) (hp : 0 < p) : seqI [p, k] = runL (stp p.toNat k p) := by
 have d : (divs [p, k] 2).getD 0 0 = p := by
  have : (divs [p, k] 2).getD 0 0 = divTo [p, k] 1 := rfl
  rw [this]
  have : divTo [p, k] 1 = (Int.gcd 0 p : Int) := rfl
  rw [this, Int.gcd_zero_left]
  omega
 show seqL [p, k] 1 = _
 rw [show seqL [p, k] 1 = [] ++ runL (stp ((divs [p, k] 2).getD 0 0).toNat (runK [p, k] 0) ((divs [p, k] 2).getD 0 0)) from rfl, d]
 simp [runK]
theorem dl_one : dlI [1] = 0 := by decide
theorem dl_2 {k : Int} (hk : 2 < k) (h : k % 2 ≠ 0) : seqI [2, k] = (List.replicate (k / 2).toNat 2 ++ [1]) ++ [1] ∧ dlI [2, k] = k / 2 := by
 have e : seqI [2, k] = (List.replicate (k / 2).toNat 2 ++ [1]) ++ [1] := by
  rw [seq_two 2 k (by omega), show (2 : Int).toNat = 2 from rfl, stp, if_pos (by omega), stp, if_pos (by omega), stp]
  have : k % 2 = 1 := by omega
  rw [this]
  simp [runL]
 refine ⟨e, ?_⟩
 unfold dlI
 rw [e, dltTo_snoc, dltTo_snoc, dltTo_rep]
 omega
theorem dl_3 {k : Int} (hk : 3 < k) (h : k % 3 ≠ 0) : dlI [3, k] = k - 1 := by
 have h3 : k % 3 = 1 ∨ k % 3 = 2 := by omega
 unfold dlI
 rcases h3 with h3 | h3
 ·have e : seqI [3, k] = ((List.replicate (k / 3).toNat 3 ++ [1]) ++ [1]) ++ [1] := by
   rw [seq_two 3 k (by omega), show (3 : Int).toNat = 3 from rfl, stp, if_pos (by omega), stp, if_pos (by omega), h3, stp, if_neg (by decide)]
   simp [runL]
  rw [e, dltTo_snoc, dltTo_snoc, dltTo_snoc, dltTo_rep]
  omega
 ·have e : seqI [3, k] = ((List.replicate (k / 3).toNat 3 ++ [2]) ++ [1]) ++ [1] := by
   rw [seq_two 3 k (by omega), show (3 : Int).toNat = 3 from rfl, stp, if_pos (by omega), stp, if_pos (by omega), h3, stp, if_pos (by decide), stp]
   simp [runL]
  rw [e, dltTo_snoc, dltTo_snoc, dltTo_snoc, dltTo_rep]
  omega
theorem mulK_one (c : Nat) : mulK [1] c = List.replicate c 1 := by
 have : seqI [1] = [1] := rfl
 unfold mulK
 rw [this, show [(1 : Int)] ++ List.replicate c 1 = List.replicate (c + 1) 1 from rfl, List.take_replicate, Nat.min_eq_left (by omega)]
theorem dotW_one (n : Nat) : ∀ j, j ≤ n → dotW (List.replicate n 1) (List.replicate n 1) j = j
 | 0, _ => rfl
 | j + 1, h => by
  rw [dotW, dotW_one n j (by omega)]
  simp [List.getD_eq_getElem?_getD, List.getElem?_replicate, show j < n by omega]
theorem mt_11 {c : Int} (h : 0 ≤ c) : mtI [1] [1] c = c := by
 unfold mtI
 rw [mulK_one, dotW_one _ _ (Nat.le_refl _)]
 omega
theorem dotW_lo {a b : List Int} (ha : ∀ i, i < a.length → 1 ≤ a.getD i 0) (hb : ∀ i, i < b.length → 1 ≤ b.getD i 0) (h0 : 2 ≤ a.getD 0 0 * b.getD 0 0) : ∀ j, 1 ≤ j → j ≤ a.length → j ≤ b.length → (j : Int) + 1 ≤ dotW a b j
 | 0, h, _, _ => by omega
 | j + 1, _, h1, h2 => by
  rw [dotW]
  by_cases e : j = 0
  ·subst e
   simp only [dotW]
   omega
  ·have ih := dotW_lo ha hb h0 j (by omega) (by omega) (by omega)
   have h3 : 1 * 1 ≤ a.getD j 0 * b.getD j 0 := Int.mul_le_mul (ha j (by omega)) (hb j (by omega)) (by decide) (by have := ha j (by omega); omega)
   omega
theorem mulK_first {l : List Int} {c : Nat} (hc : 1 ≤ c) (hs : 1 ≤ (seqI l).length) : (mulK l c).getD 0 0 = (seqI l).getD 0 0 := by
 unfold mulK
 simp only [List.getD_eq_getElem?_getD, List.getElem?_take, if_pos (show 0 < c by omega)]
 rw [List.getElem?_append_left (by omega)]
theorem seq_2_first {k : Int} (hk : 2 < k) (h : k % 2 ≠ 0) : 1 ≤ (seqI [2, k]).length ∧ (seqI [2, k]).getD 0 0 = 2 := by
 rw [(dl_2 hk h).1]
 obtain ⟨n, hn⟩ : ∃ n, (k / 2).toNat = n + 1 := ⟨(k / 2).toNat - 1, by omega⟩
 rw [hn, List.replicate_succ]
 simp
theorem mt_21 {k c : Int} (hb : IsBr [2, k]) (h1 : IsBr [1]) (hk : 2 < k) (h : k % 2 ≠ 0) (hc : 1 ≤ c) : (c = 1 → mtI [2, k] [1] c = 2 ∧ mtI [1] [2, k] c = 2) ∧ c + 1 ≤ mtI [2, k] [1] c ∧ c + 1 ≤ mtI [1] [2, k] c := by
 obtain ⟨s1, s2⟩ := seq_2_first hk h
 have f2 := (mulK_first (l := [2, k]) (c := c.toNat) (by omega) s1).trans s2
 have f1 : (mulK [1] c.toNat).getD 0 0 = 1 := by
  rw [mulK_one, List.getD_eq_getElem?_getD, List.getElem?_replicate, if_pos (by omega)]
  rfl
 have pa : ∀ i, i < (mulK [2, k] c.toNat).length → 1 ≤ (mulK [2, k] c.toNat).getD i 0 := fun i hi => mulK_pos hb _ i hi
 have pb : ∀ i, i < (mulK [1] c.toNat).length → 1 ≤ (mulK [1] c.toNat).getD i 0 := fun i hi => mulK_pos h1 _ i hi
 have l1 := mulK_len [2, k] c.toNat
 have l2 := mulK_len [1] c.toNat
 refine ⟨fun e => ?_, ?_, ?_⟩
 ·subst e
  unfold mtI
  change (mulK [2, k] 1).getD 0 0 = 2 at f2
  change (mulK [1] 1).getD 0 0 = 1 at f1
  show dotW (mulK [2, k] 1) (mulK [1] 1) 1 = 2 ∧ dotW (mulK [1] 1) (mulK [2, k] 1) 1 = 2
  simp only [dotW]
  rw [f2, f1]
  decide
 ·have := dotW_lo pa pb (by rw [f2, f1]; decide) c.toNat (by omega) (by omega) (by omega)
  unfold mtI
  omega
 ·have := dotW_lo pb pa (by rw [f2, f1]; decide) c.toNat (by omega) (by omega) (by omega)
  unfold mtI
  omega
theorem len_one {α : Type} {l : List α} (h : l.length = 1) : ∃ a, l = [a] := by
 match l, h with
 | [a], _ => exact ⟨a, rfl⟩
theorem len_two {α : Type} {l : List α} (h : l.length = 2) : ∃ a b, l = [a, b] := by
 match l, h with
 | [a, b], _ => exact ⟨a, b, rfl⟩
theorem len_three {α : Type} {l : List α} (h : l.length = 3) : ∃ a b c, l = [a, b, c] := by
 match l, h with
 | [a, b, c], _ => exact ⟨a, b, c, rfl⟩
theorem cu_one {B C : List (List Int)} (h : IsCu B C) (hn : B.length = 1) : ∃ l, B = [l] ∧ C = [[0]] ∧ IsBr l := by
 unfold IsCu at h
 obtain ⟨_, ⟨h2, h3, h4, _, _⟩, h6, _⟩ := h
 rw [hn] at h2 h3 h4
 obtain ⟨l, rfl⟩ := len_one hn
 obtain ⟨r, rfl⟩ := len_one h2
 obtain ⟨x, rfl⟩ := len_one (h3 0 (by omega))
 have := h4 0 (by omega)
 simp at this
 subst this
 exact ⟨l, rfl, rfl, h6 0 (by simp)⟩
theorem cu_two {B C : List (List Int)} (h : IsCu B C) (hn : B.length = 2) : ∃ a b c, B = [a, b] ∧ C = [[0, c], [c, 0]] ∧ IsBr a ∧ IsBr b ∧ 1 ≤ c ∧ c ≤ 200 := by
 unfold IsCu at h
 obtain ⟨_, ⟨h2, h3, h4, h5, h7⟩, h6, _⟩ := h
 rw [hn] at h2 h3 h4 h5 h7
 obtain ⟨a, b, rfl⟩ := len_two hn
 obtain ⟨r, s, rfl⟩ := len_two h2
 obtain ⟨x, y, rfl⟩ := len_two (h3 0 (by omega))
 obtain ⟨z, w, rfl⟩ := len_two (h3 1 (by omega))
 have d0 := h4 0 (by omega)
 have d1 := h4 1 (by omega)
 have e := h7 0 (by omega) 1 (by omega)
 have o := h5 0 (by omega) 1 (by omega) (by omega)
 simp at d0 d1 e o
 subst d0 d1 e
 exact ⟨a, b, y, rfl, rfl, h6 0 (by simp), h6 1 (by simp), o.1, o.2⟩
theorem cu_three {B C : List (List Int)} (h : IsCu B C) (hn : B.length = 3) : ∃ a b d x y z, B = [a, b, d] ∧ C = [[0, x, y], [x, 0, z], [y, z, 0]] ∧ (IsBr a ∧ IsBr b ∧ IsBr d) ∧ (1 ≤ x ∧ 1 ≤ y ∧ 1 ≤ z) ∧ min x z ≤ y ∧ min y z ≤ x ∧ min x y ≤ z := by
 unfold IsCu at h
 obtain ⟨_, ⟨h2, h3, h4, h5, h7⟩, h6, _, h8⟩ := h
 rw [hn] at h2 h3 h4 h5 h7 h8
 obtain ⟨a, b, d, rfl⟩ := len_three hn
 obtain ⟨r, s, t, rfl⟩ := len_three h2
 obtain ⟨r0, r1, r2, rfl⟩ := len_three (h3 0 (by omega))
 obtain ⟨s0, s1, s2, rfl⟩ := len_three (h3 1 (by omega))
 obtain ⟨t0, t1, t2, rfl⟩ := len_three (h3 2 (by omega))
 have d0 := h4 0 (by omega)
 have d1 := h4 1 (by omega)
 have d2 := h4 2 (by omega)
 have e1 := h7 0 (by omega) 1 (by omega)
 have e2 := h7 0 (by omega) 2 (by omega)
 have e3 := h7 1 (by omega) 2 (by omega)
 have o1 := h5 0 (by omega) 1 (by omega) (by omega)
 have o2 := h5 0 (by omega) 2 (by omega) (by omega)
 have o3 := h5 1 (by omega) 2 (by omega) (by omega)
 have u1 := h8 0 (by omega) 2 (by omega) 1 (by omega) (by omega) (by omega) (by omega)
 have u2 := h8 0 (by omega) 1 (by omega) 2 (by omega) (by omega) (by omega) (by omega)
 have u3 := h8 1 (by omega) 2 (by omega) 0 (by omega) (by omega) (by omega) (by omega)
 simp only [List.getD_cons_zero, List.getD_cons_succ] at d0 d1 d2 e1 e2 e3 o1 o2 o3 u1 u2 u3
 subst d0 d1 d2 e1 e2 e3
 exact ⟨a, b, d, r1, r2, s2, rfl, rfl, ⟨h6 0 (by simp), h6 1 (by simp), h6 2 (by simp)⟩, ⟨o1.1, o2.1, o3.1⟩, u1, u2, u3⟩
theorem mu_1 (l : List Int) : muU [l] [[0]] = 2 * dlI l := by
 simp [muU, dlTo, mtRow]
theorem mu_2 (a b : List Int) (c : Int) : muU [a, b] [[0, c], [c, 0]] = 2 * (dlI a + dlI b + mtI b a c) - 1 := by
 simp [muU, dlTo, mtRow]
 omega
theorem mu_3 (a b d : List Int) (x y z : Int) : muU [a, b, d] [[0, x, y], [x, 0, z], [y, z, 0]] = 2 * (dlI a + dlI b + dlI d + mtI b a x + mtI d a y + mtI d b z) - 2 := by
 simp [muU, dlTo, mtRow]
 omega
theorem ml_1 (l : List Int) : mlt [l] 1 = l.getD 0 0 := by simp [mlt]
theorem ml_2 (a b : List Int) : mlt [a, b] 2 = a.getD 0 0 + b.getD 0 0 := by simp [mlt]
theorem ml_3 (a b d : List Int) : mlt [a, b, d] 3 = a.getD 0 0 + b.getD 0 0 + d.getD 0 0 := by simp [mlt]
theorem tm_1 (l : List Int) (C : List (List Int)) : tMx [l] C = 0 := by simp [tMx, tgs, fkT, maxTo]
theorem tm_2 (a b : List Int) (c : Int) : tMx [a, b] [[0, c], [c, 0]] = if 2 ≤ c then 0 else 1 := by
 by_cases h : 2 ≤ c
 ·simp [tMx, tgs, fkT, maxTo, h]
 ·simp [tMx, tgs, fkT, maxTo, h]
  decide
theorem tm_3 (a b d : List Int) (x y z : Int) : 0 < tMx [a, b, d] [[0, x, y], [x, 0, z], [y, z, 0]] ↔ ¬ (2 ≤ x ∧ (2 ≤ y ∨ 2 ≤ z)) := by
 by_cases h1 : 2 ≤ x <;> by_cases h2 : 2 ≤ y <;> by_cases h3 : 2 ≤ z <;> simp [tMx, tgs, fkT, maxTo, h1, h2, h3] <;> decide
theorem mlt_ge {B : List (List Int)} (h : ∀ i, i < B.length → IsBr (B.getD i [])) : ∀ j, j ≤ B.length → (j : Int) ≤ mlt B j
 | 0, _ => by simp [mlt]
 | j + 1, hj => by
  have ih := mlt_ge h j (by omega)
  have h1 := br_first (h (j * 1) (by omega))
  rw [mlt]
  omega
end Go.Proofs.YtpdfadnpfmlfgaaGreatDoor
namespace Go.Proofs.YtpdfadnpfmlfgaaGreatDoor
set_option maxRecDepth 100000
set_option maxHeartbeats 20000000
open Go.Pv
open Go.ChangeShapes Go.WideShapes Go.ChangeAt Go.RowKit
attribute [local irreducible] RunU WpA Step CallG CallNG Done DoneN
instance fnOk29 : FnOk Tryz.prog 29 := ⟨_, Tryz.func29, rfl, by decide⟩
def PIx (p : List Int) (n : Nat) : Prop := p.length = n ∧ ∀ i, i < n → 0 ≤ p.getD i 0 ∧ p.getD i 0 < n
instance decPIx (p : List Int) (n : Nat) : Decidable (PIx p n) := by unfold PIx; infer_instance
def rnB (B : List (List Int)) (p : List Int) : Nat → List (List Int)
 | 0 => List.replicate p.length []
 | j + 1 => (rnB B p j).set (p.getD j 0).toNat (B.getD j [])
def rnR (M : List (List Int)) (p : List Int) (i : Nat) (row : List Int) : Nat → List (List Int)
 | 0 => M
 | k + 1 => (rnR M p i row k).set (p.getD i 0).toNat (((rnR M p i row k).getD (p.getD i 0).toNat []).set (p.getD k 0).toNat (row.getD k 0))
def rnC (C : List (List Int)) (p : List Int) : Nat → List (List Int)
 | 0 => sqZ p.length
 | i + 1 => rnR (rnC C p i) p i (C.getD i []) (C.getD i []).length
theorem rnB_len (B : List (List Int)) (p : List Int) : ∀ j, (rnB B p j).length = p.length
 | 0 => by simp [rnB]
 | j + 1 => by rw [rnB, List.length_set, rnB_len B p j]
theorem rnR_len (M : List (List Int)) (p : List Int) (i : Nat) (row : List Int) : ∀ k, (rnR M p i row k).length = M.length
 | 0 => rfl
 | k + 1 => by rw [rnR, List.length_set, rnR_len M p i row k]
theorem rnC_len (C : List (List Int)) (p : List Int) : ∀ i, (rnC C p i).length = p.length
 | 0 => by simp [rnC, sqZ]
 | i + 1 => by rw [rnC, rnR_len, rnC_len C p i]
theorem getD_set_row {M : List (List Int)} {a q : Nat} {r : List Int} : (M.set a r).getD q [] = if a = q ∧ q < M.length then r else M.getD q [] := by
 simp only [List.getD_eq_getElem?_getD, List.getElem?_set]
 by_cases e : a = q
 ·subst e
  by_cases h : a < M.length
  ·simp [h]
  ·simp [h]
 ·simp [e]
theorem rnR_rowE {M : List (List Int)} {n : Nat} (h : ∀ q, q < n → (M.getD q []).length = n) (hl : M.length = n) (p : List Int) (i : Nat) (row : List Int) : ∀ k q, q < n → ((rnR M p i row k).getD q []).length = n
 | 0, q, hq => h q hq
 | k + 1, q, hq => by
  rw [rnR, getD_set_row]
  split
  ·rename_i e
   rw [List.length_set, e.1]
   exact rnR_rowE h hl p i row k q hq
  ·exact rnR_rowE h hl p i row k q hq
theorem sqZ_row (n q : Nat) (hq : q < n) : ((sqZ n).getD q []).length = n := by simp [sqZ, List.getD, hq]
theorem rnC_rowE (C : List (List Int)) (p : List Int) : ∀ i q, q < p.length → ((rnC C p i).getD q []).length = p.length
 | 0, q, hq => sqZ_row _ _ hq
 | i + 1, q, hq => by
  rw [rnC]
  exact rnR_rowE (rnC_rowE C p i) (rnC_len C p i) p i _ _ q hq
theorem rnC_row (C : List (List Int)) (p : List Int) (i q : Nat) : ((rnC C p i).getD q []).length ≤ p.length := by
 by_cases hq : q < p.length
 ·exact Nat.le_of_eq (rnC_rowE C p i q hq)
 ·rw [List.getD_eq_getElem?_getD, List.getElem?_eq_none (by rw [rnC_len]; omega)]; simp
theorem rnB_row {B : List (List Int)} {m : Nat} (h : ∀ q, (B.getD q []).length ≤ m) (p : List Int) : ∀ j q, ((rnB B p j).getD q []).length ≤ m
 | 0, q => by
  rw [rnB, List.getD_eq_getElem?_getD, List.getElem?_replicate]
  split <;> simp
 | j + 1, q => by
  rw [rnB, getD_set_row]
  split
  ·exact h j
  ·exact rnB_row h p j q
theorem own_cuB {id k : Nat} {A A' C : List (List Int)} {m : List Int} {v : AV} {dd : D} (h : v = .own id dd) (h2 : dd = .pt true [.sl true 1 (D.over (LL A) k [.sl true 1 (ints m)]), .sl true 1 (LL C)]) (e : A.set k m = A') : v = AV.own id (dCu A' C) := by
 rw [h, h2, show D.over (LL A) k [.sl true 1 (ints m)] = LL (A.set k m) by simp only [D.over, LL, List.map_set], e]
theorem own_cuC {id k : Nat} {B M M' : List (List Int)} {m : List Int} (h : k < M.length) (e : M.set k m = M') : AV.own id ((dCu B M).put ([] ++ [1] ++ [k]) (.sl true 1 (ints m))) = AV.own id (dCu B M') := by
 subst e
 simp [D.put, D.kids, LL, D.withKids, List.map_set, h]
theorem own_rep {id : Nat} {n : Nat} {C : List (List Int)} {v : AV} (h : v = .own id (.pt true [.sl true 1 (List.replicate n (D.sl true 1 [])), .sl true 1 (LL C)])) : v = AV.own id (dCu (List.replicate n []) C) := by
 rw [h]
 simp [LL, ints]
instance : MakeTyS Tryz.prog 24 (.sl true 1 []) := .of (z := .agg #[.slice none 0 0]) (bytes := 24) Tryz.underlying24 (by kernel_rfl) (by decide) rfl zero_nil
theorem renumbered_c (B C : List (List Int)) (p : List Int) (n : Nat) (hn : n ≤ 1000) (hp : PIx p n) (hB : B.length = n) (hC : C.length = n) (hb : ∀ i, (B.getD i []).length ≤ 1000) (hc : ∀ i, i < n → (C.getD i []).length = n) : CallA Tryz.prog 63 [aCu B C, aL p] [rCuv (rnB B p n) (rnC C p n)] [] := by
 obtain ⟨hpl, hpi⟩ := hp
 have hSq := squareZ_c n hn
 subst hpl
 refine cA_ _ Tryz.func63 rfl Tryz.ntmps63 sO_ ?_
 repeat' (first | (refine w2_ ?_ ?_ <;> intro _) | (guard_target =~ CallN_; first | refine RunU.cons (sC_ (hSq) (.sh .nil) (.sh wS_ .nil) rfl) ?_) | (guard_target =~ IsN; first | refine RunU.cons (step_makeS rfl rfl rfl rfl (by omega) rfl) ?_) | refine goA ?_ | (refine neA ?_; first | refine nxA ?_ | refine Done.ret (.cell inferInstance rfl rfl .nil) (.sh (.sh .nil)) ?_ rfl) | fail)
 all_goals try (exfalso; omega)
 clear hSq
 refine WpA.loop_slots2 (fun i i5 => [(1, .c (.sl false 1 (ints p))), (2, .own 2 (.pt true [.sl false 1 (LLs B), .sl false 1 (LLs C)])), (4, .own 3 (.pt true [.sl true 1 [], .sl true 1 []])), (5, .own i5 (dCu (rnB B p i) (rnC C p i))), (18, vLL B), (19, vQJ B.length), (20, vQJ i)]) (fun i => i ≤ B.length) (fun i => B.length - i) 0 _ (by omega) ⟨rfl, rfl, rfl, by exact own_rep rfl, rfl, rfl, rfl, trivial⟩ ?_
 intro i i5 s nx hi
 have l1 := rnB_len B p i
 have l2 := rnC_len C p i
 by_cases hlt : i < B.length
 ·have hcp := copyBranch_c (B.getD (i * 1) []) (hb _)
  have p1 := hpi (i * 1) (by omega)
  have c1 := hc (i * 1) (by omega)
  have e1 : (rnB B p i).set ((p.getD (i * 1) 0).toNat * 1) (B.getD (i * 1) []) = rnB B p (i + 1) := by simp only [Nat.mul_one]; rfl
  have e2 : rnC C p (i + 1) = rnR (rnC C p i) p (i * 1) (C.getD (i * 1) []) (C.getD (i * 1) []).length := by simp only [Nat.mul_one]; rfl
  have lR := fun k => rnR_len (rnC C p i) p (i * 1) (C.getD (i * 1) []) k
  have rR := fun k q hq => rnR_rowE (fun q hq => rnC_rowE C p i q hq) l2 p (i * 1) (C.getD (i * 1) []) k q hq
  have eR : ∀ k, (rnR (rnC C p i) p (i * 1) (C.getD (i * 1) []) k).set ((p.getD (i * 1) 0).toNat * 1) (((rnR (rnC C p i) p (i * 1) (C.getD (i * 1) []) k).getD ((p.getD (i * 1) 0).toNat * 1) []).set ((p.getD (k * 1) 0).toNat * 1) ((C.getD (i * 1) []).getD (k * 1) 0)) = rnR (rnC C p i) p (i * 1) (C.getD (i * 1) []) (k + 1) := fun k => by simp only [Nat.mul_one]; rfl
  have h0 : rnC C p i = rnR (rnC C p i) p (i * 1) (C.getD (i * 1) []) 0 := rfl
  generalize hB2 : rnB B p (i + 1) = B2 at *
  generalize rnB B p i = B1 at *
  have lb2 : B2.length = B1.length := by rw [← e1, List.length_set]
  generalize hRR : (fun k => rnR (rnC C p i) p (i * 1) (C.getD (i * 1) []) k) = RR at *
  have hRk : ∀ k, rnR (rnC C p i) p (i * 1) (C.getD (i * 1) []) k = RR k := fun k => by rw [← hRR]
  simp only [hRk] at *
  clear hRk hRR
  generalize rnC C p i = C1 at *
  subst h0
  clear hb hc
  repeat' (first | (refine w2_ ?_ ?_ <;> intro _) | (guard_target =~ CallN_; first | refine RunU.cons (sC_ (hcp) (.sh .nil) (.shAgg rfl gA_ .nil) rfl) ?_) | (guard_target =~ IsN; first | refine RunU.cons (step_store_give_ptr (.agg rfl rfl) xR_ xR_ xR_ xR_ xR_ (by simp only [LL, List.length_map, List.length_cons, List.length_nil]; omega) (by exact List.cons_ne_nil _ _)) ?_) | refine goA ?_ | (refine neA ?_; first | refine nxA ?_ | refine Done.ret (.cell inferInstance rfl rfl .nil) (.sh (.sh .nil)) ?_ rfl) | fail)
  all_goals try (exfalso; omega)
  clear hcp
  refine WpA.loop_slots2 (fun k i5 => [(1, .c (.sl false 1 (ints p))), (2, .own 2 (.pt true [.sl false 1 (LLs B), .sl false 1 (LLs C)])), (4, .own 3 (.pt true [.sl true 1 [], .sl true 1 []])), (5, .own i5 (dCu B2 (RR k))), (6, vQJ i), (18, vLL B), (19, vQJ B.length), (20, vQJ i), (38, .c (.sl false 1 (ints (C.getD (i * 1) [])))), (39, vQJ p.length), (40, vQJ k)]) (fun k => k ≤ p.length) (fun k => p.length - k) 0 _ (by omega) ⟨rfl, rfl, rfl, by exact own_cuB rfl rfl e1, rfl, rfl, rfl, rfl, rfl, int_eq (by omega), rfl, trivial⟩ ?_
  intro k i5 s nx hk
  have lk := lR k
  by_cases hlt2 : k < p.length
  ·have p2 := hpi (k * 1) (by omega)
   have r1 := rR k ((p.getD (i * 1) 0).toNat * 1) (by omega)
   have e3 := eR k
   clear eR rR lR hpi
   generalize hM2 : RR (k + 1) = M2 at *
   generalize RR k = M at *
   repeat' (first | (refine w2_ ?_ ?_ <;> intro _) | refine goA ?_ | (refine neA ?_; first | refine nxA ?_ | refine Done.ret (.cell inferInstance rfl rfl .nil) (.sh (.sh .nil)) ?_ rfl) | fail)
   all_goals try (exfalso; omega)
   all_goals exact ⟨k + 1, by omega, ⟨_, rfl, rfl, rfl, by exact (own_cuC (by omega) e3).trans (own_cu rfl hM2.symm), rfl, rfl, rfl, rfl, rfl, rfl, int_eq (by omega), trivial⟩, by omega⟩
  ·have ek : k = (C.getD (i * 1) []).length := by omega
   have e4 : rnC C p (i + 1) = RR k := by rw [e2, ek]
   clear eR rR lR hpi
   generalize RR k = M at *
   repeat' (first | (refine w2_ ?_ ?_ <;> intro _) | refine goA ?_ | (refine neA ?_; first | refine nxA ?_ | refine Done.ret (.cell inferInstance rfl rfl .nil) (.sh (.sh .nil)) ?_ rfl) | fail)
   all_goals try (exfalso; omega)
   all_goals exact ⟨i + 1, by omega, ⟨_, rfl, rfl, rfl, by exact own_cu hB2.symm e4.symm, rfl, rfl, int_eq (by omega), trivial⟩, by omega⟩
 ·obtain rfl : i = p.length := by omega
  clear hb hc hpi
  generalize rnB B p p.length = B1 at *
  generalize rnC C p p.length = C1 at *
  repeat' (first | (refine w2_ ?_ ?_ <;> intro _) | refine goA ?_ | (refine neA ?_; first | refine nxA ?_ | refine Done.ret (.cell inferInstance rfl rfl .nil) (.sh (.sh .nil)) ?_ rfl) | fail)
  all_goals first | rfl | (exfalso; omega)
def itP (n : Nat) : Nat → List Int
 | 0 => firP n
 | j + 1 => nxQ (itP n j)
def chkP (n : Nat) : Nat → List Int → Bool
 | 0, p => decide (PIx p n) && !nxB p
 | k + 1, p => decide (PIx p n) && nxB p && chkP n k (nxQ p)
def facN (n : Nat) : Nat := match n with
 | 1 => 0 | 2 => 1 | 3 => 5 | 4 => 23 | 5 => 119 | _ => 719
theorem chkP_ok : ∀ (n k j : Nat), chkP n k (itP n j) = true → (∀ i, i ≤ k → PIx (itP n (j + i)) n) ∧ (∀ i, i < k → nxB (itP n (j + i)) = true) ∧ nxB (itP n (j + k)) = false
 | n, 0, j, h => by
  rw [chkP, Bool.and_eq_true] at h
  refine ⟨fun i hi => ?_, fun i hi => by omega, by simpa using h.2⟩
  obtain rfl : i = 0 := by omega
  exact of_decide_eq_true h.1
 | n, k + 1, j, h => by
  rw [chkP, Bool.and_eq_true, Bool.and_eq_true] at h
  obtain ⟨h1, h2, h3⟩ := chkP_ok n k (j + 1) h.2
  refine ⟨fun i hi => ?_, fun i hi => ?_, by rw [show j + (k + 1) = j + 1 + k by omega]; exact h3⟩
  ·match i with
   | 0 => exact of_decide_eq_true h.1.1
   | i + 1 => rw [show j + (i + 1) = j + 1 + i by omega]; exact h1 i (by omega)
  ·match i with
   | 0 => exact h.1.2
   | i + 1 => rw [show j + (i + 1) = j + 1 + i by omega]; exact h2 i (by omega)
theorem perms_ok (n : Nat) (hn : 1 ≤ n ∧ n ≤ 6) : (∀ i, i ≤ facN n → PIx (itP n i) n) ∧ (∀ i, i < facN n → nxB (itP n i) = true) ∧ nxB (itP n (facN n)) = false := by
 have key : chkP n (facN n) (itP n 0) = true := by
  obtain ⟨h1, h2⟩ := hn
  match n, h1, h2 with
  | 1, _, _ => decide +kernel
  | 2, _, _ => decide +kernel
  | 3, _, _ => decide +kernel
  | 4, _, _ => decide +kernel
  | 5, _, _ => decide +kernel
  | 6, _, _ => decide +kernel
 have := chkP_ok n (facN n) 0 key
 simpa only [Nat.zero_add] using this
def bst (B C : List (List Int)) (n : Nat) : Nat → List (List Int) × List (List Int)
 | 0 => (B, C)
 | j + 1 => if cmpLv (keyC (rnB B (itP n (j + 1)) n) (rnC C (itP n (j + 1)) n)) (keyC (bst B C n j).1 (bst B C n j).2) < 0 then (rnB B (itP n (j + 1)) n, rnC C (itP n (j + 1)) n) else bst B C n j
theorem keyC_len {B C : List (List Int)} {m : Nat} (hB : B.length ≤ 6) (hC : C.length ≤ 6) (hb : ∀ i, (B.getD i []).length ≤ m) (hc : ∀ i, (C.getD i []).length ≤ m) : (keyC B C).length ≤ 12 * (m + 1) := by
 have h1 := keyB_len B hb B.length
 have h2 := flat_lenV C hc C.length
 rw [List.take_length] at h1 h2
 have h3 : B.length * (m + 1) ≤ 6 * (m + 1) := Nat.mul_le_mul_right _ hB
 have h4 : C.length * m ≤ 6 * m := Nat.mul_le_mul_right _ hC
 rw [keyC, List.length_append]
 omega
theorem bst_len {B C : List (List Int)} {n : Nat} (hn : n ≤ 6) (hB : B.length = n) (hC : C.length = n) (hp : ∀ i, i ≤ facN n → PIx (itP n i) n) (hb : ∀ i, (B.getD i []).length ≤ 1000) (hc : ∀ i, (C.getD i []).length ≤ 1000) : ∀ j, j ≤ facN n → ((bst B C n j).1.length = n ∧ (bst B C n j).2.length = n) ∧ (∀ i, ((bst B C n j).1.getD i []).length ≤ 1000) ∧ ∀ i, ((bst B C n j).2.getD i []).length ≤ 1000
 | 0, _ => ⟨⟨hB, hC⟩, hb, hc⟩
 | j + 1, hj => by
  rw [bst]
  have hl := (hp (j + 1) hj).1
  split
  ·refine ⟨⟨by rw [rnB_len, hl], by rw [rnC_len, hl]⟩, fun i => rnB_row hb _ _ i, fun i => ?_⟩
   have := rnC_row C (itP n (j + 1)) n i
   show ((rnC C (itP n (j + 1)) n).getD i []).length ≤ 1000
   omega
  ·exact bst_len hn hB hC hp hb hc j (by omega)
theorem leastCurve_c (B C : List (List Int)) (n : Nat) (hn : 1 ≤ n ∧ n ≤ 6) (hB : B.length = n) (hC : C.length = n) (hb : ∀ i, (B.getD i []).length ≤ 1000) (hc : ∀ i, i < n → (C.getD i []).length = n) : CallA Tryz.prog 29 [aCu B C] [rCuv (bst B C n (facN n)).1 (bst B C n (facN n)).2] [] := by
 obtain ⟨hp1, hp2, hp3⟩ := perms_ok n hn
 have hcl : ∀ i, (C.getD i []).length ≤ 1000 := fun i => by
  by_cases hi : i < n
  ·rw [hc i hi]; omega
  ·rw [List.getD_eq_getElem?_getD, List.getElem?_eq_none (by omega)]; simp
 have hF := firstPerm_c n (by omega)
 have hCp := copyCurve_c B C (by omega) (by omega) hb hcl
 have hbl := fun j hj => bst_len hn.2 hB hC hp1 hb hcl j hj
 refine cA_ _ Tryz.func29 rfl Tryz.ntmps29 sO_ ?_
 rw [← hB] at hF
 repeat' (first | (refine w2_ ?_ ?_ <;> intro _) | (guard_target =~ CallN_; first | refine RunU.cons (sC_ (hF) (.sh .nil) (.sh wS_ .nil) rfl) ?_ | refine RunU.cons (sC_ (hCp) (.sh .nil) (.shAgg rfl gA_ .nil) rfl) ?_) | refine goA ?_ | (refine neA ?_; first | refine nxA ?_ | refine Done.ret (.cell inferInstance rfl rfl .nil) (.sh .nil) ?_ rfl) | fail)
 rw [hB]
 clear hF hCp
 refine WpA.loop_ids2 (fun j i3 i4 => [(1, .own 1 (.pt true [.sl false 1 (LLs B), .sl false 1 (LLs C)])), (2, .own 2 (.pt true [.sl true 1 [], .sl true 1 []])), (3, .own i3 (.sl true 1 (ints (itP n j)))), (4, .own i4 (dCu (bst B C n j).1 (bst B C n j).2))]) (fun j => j ≤ facN n) (fun j => facN n - j) 0 _ _ (Nat.zero_le _) ⟨rfl, rfl, xR_, xR_, trivial⟩ ?_
 intro j i3 i4 s nx hj
 have hpj := hp1 j hj
 have hN := nextPerm_c (itP n j) (by rw [hpj.1]; omega)
 obtain ⟨⟨q1, q2⟩, q3, q4⟩ := hbl j hj
 by_cases hlt : j < facN n
 ·have hq := hp1 (j + 1) (by omega)
  rw [hp2 j hlt, show nxQ (itP n j) = itP n (j + 1) from rfl] at hN
  have hR := renumbered_c B C (itP n (j + 1)) n (by omega) hq hB hC hb hc
  have r1 := rnB_len B (itP n (j + 1)) n
  have r2 := rnC_len C (itP n (j + 1)) n
  have r3 := fun i => rnB_row hb (itP n (j + 1)) n i
  have r4 := fun i => rnC_row C (itP n (j + 1)) n i
  rw [hq.1] at r1 r2 r4
  have hb1 : bst B C n (j + 1) = if cmpLv (keyC (rnB B (itP n (j + 1)) n) (rnC C (itP n (j + 1)) n)) (keyC (bst B C n j).1 (bst B C n j).2) < 0 then (rnB B (itP n (j + 1)) n, rnC C (itP n (j + 1)) n) else bst B C n j := rfl
  generalize rnB B (itP n (j + 1)) n = oB at *
  generalize rnC C (itP n (j + 1)) n = oC at *
  generalize hE : bst B C n (j + 1) = E at *
  generalize bst B C n j = D0 at *
  obtain ⟨bB, bC⟩ := D0
  dsimp only at q1 q2 q3 q4 hb1
  have hK1 := keyOf_c oB oC (by omega) (by omega) r3 (fun i => by have := r4 i; omega)
  have hK2 := keyOf_c bB bC (by omega) (by omega) q3 q4
  have k1 := keyC_len (m := 1000) (B := oB) (C := oC) (by omega) (by omega) r3 (fun i => by have := r4 i; omega)
  have k2 := keyC_len (m := 1000) (B := bB) (C := bC) (by omega) (by omega) q3 q4
  generalize keyC oB oC = ko at *
  generalize keyC bB bC = kb at *
  have hCm := compareLv_c ko kb (by omega) (by omega)
  have hcin := cmpLv_in ko kb
  generalize cmpLv ko kb = u at *
  generalize hI2 : itP n (j + 1) = p2 at *
  generalize itP n j = p1 at *
  clear hp1 hp2 hp3 hbl hb hc hcl q3 q4 r3 r4 hpj hq
  by_cases hu : u < 0
  ·rw [if_pos hu] at hb1
   repeat' (first | (refine w2_ ?_ ?_ <;> intro _) | (guard_target =~ AtN 18; refine RunU.cons (sC_ (hK1) (.sh .nil) (.shAgg rfl gA_ .nil) rfl) ?_) | (guard_target =~ AtN 20; refine RunU.cons (sC_ (hK2) (.sh .nil) (.shAgg rfl gA_ .nil) rfl) ?_) | (guard_target =~ CallN_; first | refine RunU.cons (step_call_io1 (hN) iA .nil .nil xR_ xR_ rfl) ?_ | refine RunU.cons (sC_ (hR) (.sh (.sh .nil)) (.shAgg rfl gA_ (.sh wS_ .nil)) rfl) ?_ | refine RunU.cons (sC_ (hCm) (.sh (.sh .nil)) (.sh wS_ (.sh wS_ .nil)) rfl) ?_) | refine goA ?_ | (refine neA ?_; first | refine nxA ?_ | refine Done.ret (.cell inferInstance rfl rfl .nil) (.sh .nil) ?_ rfl) | fail)
   all_goals try (exfalso; simp_all; done)
   all_goals try (exfalso; omega)
   all_goals exact ⟨j + 1, by omega, ⟨_, _, rfl, rfl, by exact own_ints hI2.symm, by exact own_cu (by rw [hE, hb1]) (by rw [hE, hb1]), trivial⟩, by omega⟩
  ·rw [if_neg hu] at hb1
   repeat' (first | (refine w2_ ?_ ?_ <;> intro _) | (guard_target =~ AtN 18; refine RunU.cons (sC_ (hK1) (.sh .nil) (.shAgg rfl gA_ .nil) rfl) ?_) | (guard_target =~ AtN 20; refine RunU.cons (sC_ (hK2) (.sh .nil) (.shAgg rfl gA_ .nil) rfl) ?_) | (guard_target =~ CallN_; first | refine RunU.cons (step_call_io1 (hN) iA .nil .nil xR_ xR_ rfl) ?_ | refine RunU.cons (sC_ (hR) (.sh (.sh .nil)) (.shAgg rfl gA_ (.sh wS_ .nil)) rfl) ?_ | refine RunU.cons (sC_ (hCm) (.sh (.sh .nil)) (.sh wS_ (.sh wS_ .nil)) rfl) ?_) | refine goA ?_ | (refine neA ?_; first | refine nxA ?_ | refine Done.ret (.cell inferInstance rfl rfl .nil) (.sh .nil) ?_ rfl) | fail)
   all_goals try (exfalso; simp_all; done)
   all_goals try (exfalso; omega)
   all_goals exact ⟨j + 1, by omega, ⟨_, _, rfl, rfl, by exact own_ints hI2.symm, by exact own_cu (by rw [hE, hb1]) (by rw [hE, hb1]), trivial⟩, by omega⟩
 ·obtain rfl : j = facN n := by omega
  rw [hp3] at hN
  generalize bst B C n (facN n) = D0 at *
  generalize nxQ (itP n (facN n)) = p2 at *
  generalize itP n (facN n) = p1 at *
  clear hp1 hp2 hp3 hbl hb hc hcl q3 q4
  repeat' (first | (refine w2_ ?_ ?_ <;> intro _) | (guard_target =~ CallN_; first | refine RunU.cons (step_call_io1 (hN) iA .nil .nil xR_ xR_ rfl) ?_) | refine goA ?_ | (refine neA ?_; first | refine nxA ?_ | refine Done.ret (.cell inferInstance rfl rfl .nil) (.sh .nil) ?_ rfl) | fail)
  all_goals first | rfl | (exfalso; simp_all; done) | (exfalso; omega)
instance fnOk30 : FnOk Tryz.prog 30 := ⟨_, Tryz.func30, rfl, by decide⟩
instance fnOk39 : FnOk Tryz.prog 39 := ⟨_, Tryz.func39, rfl, by decide⟩
def dblB (k : Int) : List (List Int) := if k % 2 = 0 then [[2, k + 1]] else [[1], [1]]
def dblC (k : Int) : List (List Int) := if k % 2 = 0 then [[0]] else [[0, (k + 1) / 2], [(k + 1) / 2, 0]]
theorem l19Double_c (k : Int) (hk : 1 ≤ k ∧ k ≤ 100) : CallA Tryz.prog 39 [aI k] [rCuv (dblB k) (dblC k)] [] := by
 unfold dblB dblC
 by_cases h : k % 2 = 0
 ·rw [if_pos h, if_pos h]
  refine cA_ _ Tryz.func39 rfl Tryz.ntmps39 sO_ ?_
  repeat' (first | (refine w2_ ?_ ?_ <;> intro _) | refine goA ?_ | (refine neA ?_; first | refine nxA ?_ | refine Done.ret (.cell inferInstance rfl rfl .nil) (.sh .nil) ?_ rfl) | fail)
  all_goals first | rfl | (exfalso; omega)
 ·rw [if_neg h, if_neg h]
  refine cA_ _ Tryz.func39 rfl Tryz.ntmps39 sO_ ?_
  repeat' (first | (refine w2_ ?_ ?_ <;> intro _) | refine goA ?_ | (refine neA ?_; first | refine nxA ?_ | refine Done.ret (.cell inferInstance rfl rfl .nil) (.sh .nil) ?_ rfl) | fail)
  all_goals first | rfl | (exfalso; omega)
theorem sq1 : sqZ 1 = [[0]] := rfl
theorem curveA_c (k : Int) (hk : 1 ≤ k ∧ k ≤ 100) : CallA Tryz.prog 30 [aI k] [rCuv (dblB k) (dblC k)] [] := by
 have hS := squareZ_c 1 (by omega)
 rw [sq1] at hS
 unfold dblB dblC
 by_cases h : k % 2 = 0
 ·rw [if_pos h, if_pos h]
  refine cA_ _ Tryz.func30 rfl Tryz.ntmps30 sO_ ?_
  repeat' (first | (refine w2_ ?_ ?_ <;> intro _) | (guard_target =~ CallN_; first | refine RunU.cons (sC_ (hS) (.sh .nil) (.sh wS_ .nil) rfl) ?_) | refine goA ?_ | (refine neA ?_; first | refine nxA ?_ | refine Done.ret (.cell inferInstance rfl rfl .nil) (.sh .nil) ?_ rfl) | fail)
  all_goals first | rfl | (exfalso; omega)
 ·rw [if_neg h, if_neg h]
  refine cA_ _ Tryz.func30 rfl Tryz.ntmps30 sO_ ?_
  repeat' (first | (refine w2_ ?_ ?_ <;> intro _) | (guard_target =~ CallN_; first | refine RunU.cons (sC_ (hS) (.sh .nil) (.sh wS_ .nil) rfl) ?_) | refine goA ?_ | (refine neA ?_; first | refine nxA ?_ | refine Done.ret (.cell inferInstance rfl rfl .nil) (.sh .nil) ?_ rfl) | fail)
  all_goals first | rfl | (exfalso; omega)
attribute [local irreducible] StepW
instance fnOk31 : FnOk Tryz.prog 31 := ⟨_, Tryz.func31, rfl, by decide⟩
def wlB (B : List (List Int)) : List (List Int) := B ++ [[1]]
def wlC (C : List (List Int)) (x : Int) : List (List Int) := C.map (· ++ [x]) ++ [List.replicate C.length x ++ [0]]
def wlJ (C : List (List Int)) (x : Int) (j : Nat) : List (List Int) := (C.take j).map (· ++ [x]) ++ C.drop j
theorem wlJ_len (C : List (List Int)) (x : Int) {j : Nat} (h : j ≤ C.length) : (wlJ C x j).length = C.length := by simp [wlJ]; omega
theorem wlJ_end (C : List (List Int)) (x : Int) : wlJ C x C.length = C.map (· ++ [x]) := by simp [wlJ]
theorem wlJ_succ (C : List (List Int)) (x : Int) {j : Nat} (h : j < C.length) : wlJ C x (j + 1) = (wlJ C x j).set (j * 1) ((wlJ C x j).getD (j * 1) [] ++ [x]) := by
 have e1 : (wlJ C x j).getD (j * 1) [] = C[j] := by
  rw [Nat.mul_one, wlJ, List.getD_eq_getElem?_getD, List.getElem?_append_right (by simp; omega)]
  simp [h, show min j C.length = j by omega]
 rw [e1, wlJ, wlJ, Nat.mul_one, List.set_append_right _ _ (by simp; omega)]
 simp only [List.length_map, List.length_take, show min j C.length = j by omega, Nat.sub_self]
 rw [List.drop_eq_getElem_cons h, List.set_cons_zero, List.take_add_one, List.getElem?_eq_getElem h]
 simp only [Option.toList_some, List.map_append, List.map_cons, List.map_nil, List.append_assoc, List.cons_append, List.nil_append]
theorem wlJ_row (C : List (List Int)) (x : Int) {m : Nat} (h : ∀ i, (C.getD i []).length ≤ m) (j i : Nat) : ((wlJ C x j).getD i []).length ≤ m + 1 := by
 unfold wlJ
 by_cases hi : i < (C.take j).length
 ·rw [List.getD_eq_getElem?_getD, List.getElem?_append_left (by simpa using hi)]
  have := h i
  rw [List.length_take] at hi
  rw [List.getD_eq_getElem?_getD, List.getElem?_eq_getElem (by omega)] at this
  simp [List.getElem?_take, show i < j by omega, List.getElem?_eq_getElem (show i < C.length by omega)] at this ⊢
  omega
 ·rw [List.getD_eq_getElem?_getD, List.getElem?_append_right (by simpa using hi)]
  have := h (j + (i - ((C.take j).map (· ++ [x])).length))
  simp [List.getElem?_drop, List.getD_eq_getElem?_getD] at this ⊢
  omega
theorem withLine_c (B C : List (List Int)) (x : Int) (n : Nat) (hn : n ≤ 100) (hB : B.length = n) (hC : C.length = n) (hc : ∀ i, (C.getD i []).length ≤ 100) : CallA Tryz.prog 31 [.mv (.agg [.sl true 1 (LL B), .sl true 1 (LL C)]), aI x] [rCuv (wlB B) (wlC C x)] [] := by
 have sJ := fun j (h : j < C.length) => wlJ_succ C x h
 have lJ := fun j (h : j ≤ C.length) => wlJ_len C x h
 have rJ := wlJ_row C x hc
 have eJ := wlJ_end C x
 refine cA_ _ Tryz.func31 rfl Tryz.ntmps31 sO_ ?_
 repeat' (first | (refine w2_ ?_ ?_ <;> intro _) | (guard_target =~ RunU _ _ _ _ [] _ _ _ _; first | refine RunU.nilL ?_ | refine RunU.nilD (by simp only [List.reverse_cons, List.reverse_nil, List.nil_append, List.cons_append, List.map_cons, List.map_nil, List.append_nil, fpE, rdE, wkE, rdOf, List.append_eq, List.singleton_append]; decide) ?_) | refine goH ?_ | (refine neA ?_; first | refine nxA ?_ | refine Done.ret (.cell inferInstance rfl rfl .nil) (.mv (.sh .nil)) ?_ rfl) | fail)
 refine WpA.loop_ids2 (fun j i2 i5 => [(1, .c (.lit (.int .i64 x))), (2, .own i2 (dCu B (wlJ C x j))), (4, .own 3 (.pt true [.sl true 1 [], .sl true 1 []])), (5, .own i5 (.sl true 1 (ints (List.replicate j x)))), (10, vQJ n), (11, vQJ j)]) (fun j => j ≤ n) (fun j => n - j) 0 _ _ (by omega) ⟨rfl, xR_, rfl, xR_, int_eq (by omega), rfl, trivial⟩ ?_
 intro j i2 i5 s nx hj
 have lJj := lJ j (by omega)
 have rJj := rJ j (j * 1)
 have lR : (List.replicate j x).length = j := List.length_replicate
 by_cases hlt : j < n
 ·have sJj := sJ j (by omega)
  have eR : List.replicate j x ++ [x] = List.replicate (j + 1) x := List.replicate_succ'.symm
  clear sJ lJ rJ eJ hc
  generalize hA2 : wlJ C x (j + 1) = A2 at *
  generalize wlJ C x j = A at *
  generalize hR2 : List.replicate (j + 1) x = R2 at *
  generalize List.replicate j x = R at *
  repeat' (first | (refine w2_ ?_ ?_ <;> intro _) | (guard_target =~ RunU _ _ _ _ [] _ _ _ _; first | refine RunU.nilL ?_ | refine RunU.nilD (by simp only [List.reverse_cons, List.reverse_nil, List.nil_append, List.cons_append, List.map_cons, List.map_nil, List.append_nil, fpE, rdE, wkE, rdOf, List.append_eq, List.singleton_append]; decide) ?_) | (guard_target =~ RunU _ _ _ _ (Oper.mk (some 14) _ _ _ _ _ :: _) _ _ _ _; refine RunU.consW (by exact stepW_field_root rfl rfl) ?_) | (guard_target =~ RunU _ _ _ _ (Oper.mk (some 15) _ _ _ _ _ :: _) _ _ _ _; refine RunU.consW (by exact stepW_load_als rfl rfl rfl rfl) ?_) | (guard_target =~ RunU _ _ _ _ (Oper.mk (some 24) _ _ _ _ _ :: _) _ _ _ _; refine RunU.consK (step_append_int1 (give_row1 xR_ xR_ (by omega)) (by exact .root rfl) (by omega) rfl) xR_ xR_ (by exact hdr_set2 rfl) ?_) | (guard_target =~ RunU _ _ _ _ (Oper.mk (some 14) (Op.move _) _ _ _ none :: _) _ _ _ _; first | refine RunU.consW (stepW_move_headL rfl rfl) ?_ | refine RunU.consW (stepW_move_header rfl rfl) ?_) | (guard_target =~ RunU _ _ _ _ (Oper.mk (some 15) (Op.move _) _ _ _ none :: _) _ _ _ _; first | refine RunU.consW (stepW_move_headL rfl rfl) ?_ | refine RunU.consW (stepW_move_header rfl rfl) ?_) | (guard_target =~ RunU _ _ _ _ (Oper.mk _ (Op.call ⟨Callee.builtin Builtin.append, _, _⟩) _ _ _ none :: _) _ _ _ _; refine RunU.consK step_any xR_ xR_ (by exact hdr_set rfl) ?_) | refine goH ?_ | (refine neA ?_; first | refine nxA ?_ | refine Done.ret (.cell inferInstance rfl rfl .nil) (.mv (.sh .nil)) ?_ rfl) | fail)
  all_goals try (exfalso; omega)
  all_goals exact ⟨j + 1, by omega, ⟨_, _, rfl, by exact own_over2 (sJj.symm.trans hA2.symm), rfl, by exact own_ints (eR.trans hR2.symm), rfl, int_eq (by omega), trivial⟩, by omega⟩
 ·obtain rfl : j = n := by omega
  rw [hC] at eJ
  rw [eJ]
  have e1 : wlC C x = C.map (· ++ [x]) ++ [List.replicate j x ++ [0]] := by rw [wlC, hC]
  have e2 : wlB B = B ++ [[1]] := rfl
  rw [e1, e2] at *
  have lm : (C.map (· ++ [x])).length = j := by rw [List.length_map, hC]
  clear sJ lJ rJ eJ hc e1 e2 lJj rJj
  generalize C.map (· ++ [x]) = A at *
  generalize List.replicate j x = R at *
  repeat' (first | (refine w2_ ?_ ?_ <;> intro _) | (guard_target =~ RunU _ _ _ _ [] _ _ _ _; first | refine RunU.nilL ?_ | refine RunU.nilD (by simp only [List.reverse_cons, List.reverse_nil, List.nil_append, List.cons_append, List.map_cons, List.map_nil, List.append_nil, fpE, rdE, wkE, rdOf, List.append_eq, List.singleton_append]; decide) ?_) | refine goH ?_ | (refine neA ?_; first | refine nxA ?_ | refine Done.ret (.cell inferInstance rfl rfl .nil) (.mv (.sh .nil)) ?_ rfl) | fail)
  all_goals first | rfl | (exfalso; omega)
end Go.Proofs.YtpdfadnpfmlfgaaGreatDoor
