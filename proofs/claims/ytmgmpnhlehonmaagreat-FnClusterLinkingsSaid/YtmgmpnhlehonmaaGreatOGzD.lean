/- Simple clusters and products of clusters, by the program; the laws' dice. No condition. -/
import Derived.Test.YtmgmpnhlehonmaaGreatOHaB
import Derived.Test.YtmgmpnhlehonmaaGreatOHdA
import Derived.Test.YtmgmpnhlehonmaaGreatOGyJ
import Derived.Test.YtmgmpnhlehonmaaGreatOGvA
import Derived.Test.YtmgmpnhlehonmaaGreatOPwR
set_option linter.unusedVariables false
set_option linter.unusedSimpArgs false
namespace Go.Proofs.YtmgmpnhlehonmaaGreat
set_option maxRecDepth 100000
set_option maxHeartbeats 20000000
open Go.Pv
open Go.ChangeShapes Go.WideShapes Go.ChangeAt Go.RowKit
attribute [local irreducible] RunU WpA Step CallG CallNG Done DoneN
instance fnOk117 : FnOk Tryz.prog 117 := ⟨_, Tryz.func117, rfl, by decide⟩
instance fnOk116 : FnOk Tryz.prog 116 := ⟨_, Tryz.func116, rfl, by decide⟩
instance fnOk57 : FnOk Tryz.prog 57 := ⟨_, Tryz.func57, rfl, by decide⟩
instance fnOk118 : FnOk Tryz.prog 118 := ⟨_, Tryz.func118, rfl, by decide⟩
instance fnOk58 : FnOk Tryz.prog 58 := ⟨_, Tryz.func58, rfl, by decide⟩
instance fnOk55 : FnOk Tryz.prog 55 := ⟨_, Tryz.func55, rfl, by decide⟩
instance fnOk56 : FnOk Tryz.prog 56 := ⟨_, Tryz.func56, rfl, by decide⟩
def rwS (P S L : List Int) (j : Nat) (b : Nat) : Nat → Int
 | 0 => 0
 | t + 1 => rwS P S L j b t + svF P S j (L.getD t 0).toNat b
def ivF (P S L : List Int) (j t k : Nat) (a b : Nat) : Int := if a < j then svF P S j a b else if a = j then (if b = j then 1 else 0) + rwS P S L j b t + (if b < k then svF P S j (L.getD t 0).toNat b else 0) else 0
theorem sv_up {P S W : List Int} (h : Cl P S W) {n i k : Nat} (hn : n ≤ P.length) (hi : i < n) (hk : i < k) : svF P S n i k = 0 := (sv_in h hn (i + 1) i k (by omega) hi).2 hk
theorem iv_first {P S L : List Int} {j : Nat} (hj : j < P.length) : (matF P.length fun a b => if a < j then svF P S j a b else 0).set j (((matF P.length fun a b => if a < j then svF P S j a b else 0).getD j []).set j 1) = matF P.length (ivF P S L j 0 0) := by
 rw [matF_set hj hj]
 refine matF_congr fun a t ha ht => ?_
 unfold ivF
 by_cases h1 : a < j
 ·rw [if_neg (by omega), if_pos h1, if_pos h1]
 ·rw [if_neg h1, if_neg h1]
  by_cases h2 : a = j
  ·by_cases h3 : t = j
   ·rw [if_pos ⟨h2, h3⟩, if_pos h2, if_pos h3, rwS, if_neg (by omega)]; rfl
   ·rw [if_neg (fun q => h3 q.2), if_pos h2, if_neg h3, rwS, if_neg (by omega)]; rfl
  ·rw [if_neg (fun q => h2 q.1), if_neg h2]
theorem iv_next {P S L : List Int} {j t k x : Nat} (hj : j < P.length) (hx : x < j) (hk : k < j) (hL : L.getD t 0 = (x : Int)) : (matF P.length (ivF P S L j t k)).set j (((matF P.length (ivF P S L j t k)).getD j []).set k (((matF P.length (ivF P S L j t k)).getD j []).getD k 0 + ((matF P.length (ivF P S L j t k)).getD x []).getD k 0)) = matF P.length (ivF P S L j t (k + 1)) := by
 rw [matF_at _ hj (by omega), matF_at _ (show x < P.length by omega) (show k < P.length by omega), matF_set hj (by omega)]
 refine matF_congr fun a b ha hb => ?_
 have ex : (L.getD t 0).toNat = x := by omega
 unfold ivF
 rw [ex]
 by_cases h1 : a = j ∧ b = k
 ·obtain ⟨rfl, rfl⟩ := h1
  rw [if_pos ⟨rfl, rfl⟩, if_neg (Nat.lt_irrefl a), if_pos rfl, if_neg (Nat.lt_irrefl b), if_pos hx, if_neg (Nat.lt_irrefl a), if_pos rfl, if_pos (show b < b + 1 by omega)]
  omega
 ·rw [if_neg h1]
  by_cases h2 : a < j
  ·rw [if_pos h2, if_pos h2]
  ·rw [if_neg h2, if_neg h2]
   by_cases h3 : a = j
   ·rw [if_pos h3, if_pos h3]
    by_cases h4 : b < k
    ·rw [if_pos h4, if_pos (show b < k + 1 by omega)]
    ·rw [if_neg h4, if_neg (show ¬ b < k + 1 by omega)]
   ·rw [if_neg h3, if_neg h3]
theorem iv_row {P S W L : List Int} (h : Cl P S W) {j t : Nat} (hj : j < P.length) (hx : 0 ≤ L.getD t 0 ∧ L.getD t 0 < j) : matF P.length (ivF P S L j t j) = matF P.length (ivF P S L j (t + 1) 0) := matF_congr fun a b ha hb => by
 unfold ivF
 by_cases h2 : a < j
 ·rw [if_pos h2, if_pos h2]
 ·rw [if_neg h2, if_neg h2]
  by_cases h3 : a = j
  ·rw [if_pos h3, if_pos h3, rwS, if_neg (show ¬ b < 0 by omega)]
   by_cases h4 : b < j
   ·rw [if_pos h4]; omega
   ·rw [if_neg h4, sv_up h (by omega) (show (L.getD t 0).toNat < j by omega) (by omega)]; omega
  ·rw [if_neg h3, if_neg h3]
theorem iv_end {P S W : List Int} (h : Cl P S W) {j : Nat} (hj : j < P.length) : matF P.length (ivF P S (prxAt P S j) j (prxAt P S j).length 0) = matF P.length fun a b => if a < j + 1 then svF P S (j + 1) a b else 0 := matF_congr fun a b ha hb => by
 unfold ivF
 by_cases h2 : a < j
 ·rw [if_pos h2, if_pos (by omega), svF_low P S j h2, svF_low P S (j + 1) (by omega)]
 ·rw [if_neg h2]
  by_cases h3 : a = j
  ·subst h3
   obtain ⟨hP, hS, hSP⟩ := pt_low h hj
   rw [if_pos rfl, if_pos (Nat.lt_succ_self a), if_neg (show ¬ b < 0 by omega), show svF P S (a + 1) a b = (if b = a then 1 else 0) + (if 0 ≤ S.getD a 0 then svF P S a (S.getD a 0).toNat b else 0) + (if 0 ≤ P.getD a 0 then svF P S a (P.getD a 0).toNat b else 0) from if_pos rfl]
   by_cases h0 : a = 0
   ·subst h0
    have := h.p0
    rw [show prxAt P S 0 = [] by simp [prxAt], if_neg (show ¬ 0 ≤ S.getD 0 0 by omega), if_neg (show ¬ 0 ≤ P.getD 0 0 by omega)]
    simp [rwS]
   ·have hp := h.p a (by omega) hj
    rw [if_pos hp.1]
    by_cases hs0 : 0 ≤ S.getD a 0
    ·rw [show prxAt P S a = [S.getD a 0, P.getD a 0] by simp only [prxAt, if_neg h0, if_pos hs0]; rfl, if_pos hs0]
     show _ + (0 + svF P S a (S.getD a 0).toNat b + svF P S a (P.getD a 0).toNat b) + 0 = _
     omega
    ·rw [show prxAt P S a = [P.getD a 0] by simp only [prxAt, if_neg h0, if_neg hs0]; rfl, if_neg hs0]
     show _ + (0 + svF P S a (P.getD a 0).toNat b) + 0 = _
     omega
  ·rw [if_neg h3, if_neg (by omega)]
theorem rwS_in {P S W L : List Int} (h : Cl P S W) {j : Nat} (hj : j < P.length) (b : Nat) : ∀ t, (∀ s, s < t → 0 ≤ L.getD s 0 ∧ L.getD s 0 < j) → 0 ≤ rwS P S L j b t ∧ rwS P S L j b t ≤ 46368 * t
 | 0, _ => by simp [rwS]
 | t + 1, ht => by
  have ih := rwS_in h hj b t fun s hs => ht s (by omega)
  have hx := ht t (by omega)
  have h1 := (sv_in h (show j ≤ P.length by omega) ((L.getD t 0).toNat + 1) (L.getD t 0).toNat b (by omega) (by omega)).1
  have h2 := fb_mono (show (L.getD t 0).toNat ≤ 23 by have := h.len; omega)
  rw [show fb 23 = 46368 by decide] at h2
  rw [rwS]
  omega
theorem iv_in {P S W L : List Int} (h : Cl P S W) {j t k : Nat} (hj : j < P.length) (ht : t ≤ 2) (hL : ∀ s, s ≤ t → 0 ≤ L.getD s 0 ∧ L.getD s 0 < j) (a b : Nat) (ha : a < P.length) (hb : b < P.length) : 0 ≤ ((matF P.length (ivF P S L j t k)).getD a []).getD b 0 ∧ ((matF P.length (ivF P S L j t k)).getD a []).getD b 0 ≤ 200000 := by
 rw [matF_at _ ha hb]
 unfold ivF
 have e23 : fb 23 = 46368 := by decide
 have hl := h.len
 split
 ·rename_i q
  have h1 := (sv_in h (show j ≤ P.length by omega) (a + 1) a b (by omega) q).1
  have h2 := fb_mono (show a ≤ 23 by omega)
  omega
 ·split
  ·have h0 := rwS_in h hj b t (L := L) fun s hs => hL s (by omega)
   have hx := hL t (Nat.le_refl _)
   have h1 := (sv_in h (show j ≤ P.length by omega) ((L.getD t 0).toNat + 1) (L.getD t 0).toNat b (by omega) (by omega)).1
   have h2 := fb_mono (show (L.getD t 0).toNat ≤ 23 by omega)
   split <;> split <;> omega
  ·omega
theorem invProx_c (P S W : List Int) (h : Cl P S W) : CallA Tryz.prog 117 [aCl P S W] [rLL (matF P.length (svF P S P.length))] [] := by
 have hl := h.len
 have hP := clPrx_c P S W h
 have hSq := square_c P.length (by omega)
 have hML := prxTo_len P S P.length
 have hMa : ∀ j, j < P.length → (prxTo P S P.length).getD (j * 1) [] = prxAt P S j := fun j hj => by rw [Nat.mul_one]; exact prxTo_at P S hj
 have hend := fun i (hi : i < P.length) => iv_end h hi
 have hmem := fun j (hj : j < P.length) => prxAt_mem h hj
 have hpl := prxAt_len P S
 have hfull : (matF P.length fun a t => if a < P.length then svF P S P.length a t else 0) = matF P.length (svF P S P.length) := matF_congr fun a t ha _ => if_pos ha
 have hzero : (matF P.length fun _ _ => 0) = matF P.length fun a t => if a < 0 then svF P S 0 a t else 0 := matF_congr fun a t ha _ => (if_neg (by omega)).symm
 rw [hzero] at hSq
 have hrow := fun (L : List Int) (j t : Nat) (hj : j < P.length) (hx : 0 ≤ L.getD t 0 ∧ L.getD t 0 < j) => iv_row (L := L) h hj hx
 have hin := fun (L : List Int) (j t k : Nat) (hj : j < P.length) (ht : t ≤ 2) (hL : ∀ s, s ≤ t → 0 ≤ L.getD s 0 ∧ L.getD s 0 < j) => iv_in (k := k) h hj ht hL
 clear h hzero
 generalize prxTo P S P.length = M at *
 refine cA_ _ Tryz.func117 rfl Tryz.ntmps117 sO_ ?_
 repeat' (first | (refine Two.mk ?_ ?_ <;> intro _) | (guard_target =~ CallN_; first | refine RunU.cons (sC_ (hP) (.sh .nil) (.shAgg rfl gA_ .nil) rfl) ?_ | refine RunU.cons (sC_ (hSq) (.sh .nil) (.sh wS_ .nil) rfl) ?_) | refine goA ?_ | (refine neA ?_; first | refine nxA ?_ | refine Done.ret (.one rA_ .nil) (.sh .nil) ?_ rfl) | fail)
 clear hP hSq
 refine WpA.loop_ids2 (fun j i3 i14 => [(3, .own i3 (.sl true 1 (LL (matF P.length fun a t => if a < j then svF P S j a t else 0)))), (14, .own i14 (.sl true 1 (LL M))), (15, vJ P.length), (16, vJ j)]) (fun j => j ≤ P.length) (fun j => P.length - j) 0 _ _ (by omega) ⟨xR_, xR_, int_eq (by omega), rfl, trivial⟩ ?_
 intro j i3 i14 s nx hj
 by_cases hlt : j < P.length
 ·have ha := hMa j hlt
  have hend := hend j hlt
  have hmem := hmem j hlt
  have hpl := hpl j
  have e1 := iv_first (S := S) (L := prxAt P S j) hlt
  have hrow := fun t hx => hrow (prxAt P S j) j t hlt hx
  have hin := fun t k ht hL => hin (prxAt P S j) j t k hlt ht hL
  rw [← ha] at hmem e1 hend hpl hrow hin
  have hl1 := matF_len P.length fun a t => if a < j then svF P S j a t else 0
  have hr1 := matF_rlen (i := j * 1) (fun a t => if a < j then svF P S j a t else 0) (show j * 1 < P.length by omega)
  have hst := fun t k x (hx : x < j) (hk : k < j) (hL : (M.getD (j * 1) []).getD t 0 = (x : Int)) => iv_next (P := P) (S := S) (L := M.getD (j * 1) []) (j := j) (t := t) (k := k) hlt hx hk hL
  have hl2 := fun t k => matF_len P.length (ivF P S (M.getD (j * 1) []) j t k)
  have hr2 := fun t k (x : Nat) (hx : x < P.length) => matF_rlen (i := x) (ivF P S (M.getD (j * 1) []) j t k) hx
  have e1' : (matF P.length fun a t => if a < j then svF P S j a t else 0).set (j * 1) (((matF P.length fun a t => if a < j then svF P S j a t else 0).getD (j * 1) []).set (j * 1) 1) = matF P.length (ivF P S (M.getD (j * 1) []) j 0 0) := by
   simp only [Nat.mul_one] at e1 ⊢; exact e1
  clear e1 hMa ha hfull
  generalize (matF P.length fun a t => if a < j then svF P S j a t else 0) = A1 at *
  repeat' (first | (refine Two.mk ?_ ?_ <;> intro _) | refine goA ?_ | (refine neA ?_; first | refine nxA ?_ | refine Done.ret (.one rA_ .nil) (.sh .nil) ?_ rfl) | fail)
  all_goals try (exfalso; omega)
  refine WpA.loop_slots2 (fun t i3 => [(3, .own i3 (.sl true 1 (LL (matF P.length (ivF P S (M.getD (j * 1) []) j t 0))))), (4, vJ j), (14, .own i14 (.sl true 1 (LL M))), (15, vJ P.length), (16, vJ j), (27, .als 14 i14 ([] ++ [j * 1])), (28, vJ (M.getD (j * 1) []).length), (29, vJ t)]) (fun t => t ≤ (M.getD (j * 1) []).length) (fun t => (M.getD (j * 1) []).length - t) 0 _ (by omega) ⟨by exact own_put_LL (by omega) e1', rfl, rfl, rfl, rfl, rfl, rfl, rfl, trivial⟩ ?_
  clear e1'
  intro t i3 s nx ht
  by_cases htl : t < (M.getD (j * 1) []).length
  ·have m1 := hmem (t * 1) (by omega)
   have hrow := hrow t (by simp only [Nat.mul_one] at m1 ⊢; omega)
   have hin := fun k => hin t k (by omega) (fun s hs => by have := hmem s (by omega); omega)
   have hl2 := hl2 t
   have hr2 := hr2 t
   clear hmem hend
   repeat' (first | (refine Two.mk ?_ ?_ <;> intro _) | refine goA ?_ | (refine neA ?_; first | refine nxA ?_ | refine Done.ret (.one rA_ .nil) (.sh .nil) ?_ rfl) | fail)
   all_goals try (exfalso; omega)
   refine WpA.loop_slots2 (fun k i3 => [(3, .own i3 (.sl true 1 (LL (matF P.length (ivF P S (M.getD (j * 1) []) j t k))))), (4, vJ j), (7, vJ ((M.getD (j * 1) []).getD (t * 1) 0)), (14, .own i14 (.sl true 1 (LL M))), (15, vJ P.length), (16, vJ j), (27, .als 14 i14 ([] ++ [j * 1])), (28, vJ (M.getD (j * 1) []).length), (29, vJ t), (33, vJ j), (34, vJ k)]) (fun k => k ≤ j) (fun k => j - k) 0 _ (by omega) ⟨rfl, rfl, rfl, rfl, rfl, rfl, rfl, rfl, rfl, rfl, rfl, trivial⟩ ?_
   intro k i3 s nx hk
   by_cases hkl : k < j
   ·have hst := hst t k ((M.getD (j * 1) []).getD (t * 1) 0).toNat (by omega) hkl (by simp only [Nat.mul_one] at m1 ⊢; omega)
    have hl2 := hl2 k
    have hr2a := hr2 k (j * 1) (by omega)
    have hr2b := hr2 k (((M.getD (j * 1) []).getD (t * 1) 0).toNat * 1) (by omega)
    have b1 := hin k (j * 1) (k * 1) (by omega) (by omega)
    have b2 := hin k (((M.getD (j * 1) []).getD (t * 1) 0).toNat * 1) (k * 1) (by omega) (by omega)
    have e2 : (matF P.length (ivF P S (M.getD (j * 1) []) j t k)).set (j * 1) (((matF P.length (ivF P S (M.getD (j * 1) []) j t k)).getD (j * 1) []).set (k * 1) (((matF P.length (ivF P S (M.getD (j * 1) []) j t k)).getD (j * 1) []).getD (k * 1) 0 + ((matF P.length (ivF P S (M.getD (j * 1) []) j t k)).getD (((M.getD (j * 1) []).getD (t * 1) 0).toNat * 1) []).getD (k * 1) 0)) = matF P.length (ivF P S (M.getD (j * 1) []) j t (k + 1)) := by
     simp only [Nat.mul_one] at hst ⊢; exact hst
    clear hst hin hr2 hrow
    generalize matF P.length (ivF P S (M.getD (j * 1) []) j t k) = B1 at *
    repeat' (first | (refine Two.mk ?_ ?_ <;> intro _) | refine goA ?_ | (refine neA ?_; first | refine nxA ?_ | refine Done.ret (.one rA_ .nil) (.sh .nil) ?_ rfl) | fail)
    all_goals try (exfalso; omega)
    all_goals exact ⟨k + 1, by omega, ⟨_, by exact own_put_LL (by omega) e2, rfl, rfl, rfl, rfl, rfl, rfl, rfl, rfl, rfl, int_eq (by omega), trivial⟩, by omega⟩
   ·obtain rfl : k = j := by omega
    clear hin hst hl2 hr2
    rw [hrow]
    repeat' (first | (refine Two.mk ?_ ?_ <;> intro _) | refine goA ?_ | (refine neA ?_; first | refine nxA ?_ | refine Done.ret (.one rA_ .nil) (.sh .nil) ?_ rfl) | fail)
    all_goals try (exfalso; omega)
    all_goals exact ⟨t + 1, by omega, ⟨_, rfl, rfl, rfl, rfl, rfl, rfl, rfl, int_eq (by omega), trivial⟩, by omega⟩
  ·obtain rfl : t = (M.getD (j * 1) []).length := by omega
   clear hmem hst hl2 hr2 hin hrow
   rw [hend]
   repeat' (first | (refine Two.mk ?_ ?_ <;> intro _) | refine goA ?_ | (refine neA ?_; first | refine nxA ?_ | refine Done.ret (.one rA_ .nil) (.sh .nil) ?_ rfl) | fail)
   all_goals try (exfalso; omega)
   all_goals exact ⟨j + 1, by omega, ⟨_, _, rfl, rfl, rfl, int_eq (by omega), trivial⟩, by omega⟩
 ·obtain rfl : j = P.length := by omega
  rw [hfull]
  clear hmem hend hMa hrow hin
  repeat' (first | (refine Two.mk ?_ ?_ <;> intro _) | refine goA ?_ | (refine neA ?_; first | refine nxA ?_ | refine Done.ret (.one rA_ .nil) (.sh .nil) ?_ rfl) | fail)
  all_goals first | rfl | (exfalso; omega)
theorem withWeights_c (P S W X : List Int) (hP : P.length ≤ 1000000) (hS : S.length ≤ 1000000) : CallA Tryz.prog 116 [aCl P S W, mvL X] [rCl P S X] [] := by
 have h1 := clone_c P (by omega)
 have h2 := clone_c S (by omega)
 refine cA_ _ Tryz.func116 rfl Tryz.ntmps116 sO_ ?_
 repeat' (first | (refine Two.mk ?_ ?_ <;> intro _) | (guard_target =~ AtN 7; refine RunU.cons (sC_ (h1) (.sh .nil) (.sh wS_ .nil) rfl) ?_) | (guard_target =~ AtN 10; refine RunU.cons (sC_ (h2) (.sh .nil) (.sh wS_ .nil) rfl) ?_) | refine goA ?_ | (refine neA ?_; first | refine nxA ?_ | refine Done.ret (.cell inferInstance rfl rfl .nil) (.sh (.mv .nil)) ?_ rfl) | fail)
 all_goals first | rfl | (exfalso; omega)
def svL (P S : List Int) (i : Nat) : List Int := (List.range P.length).map fun k => svF P S P.length i k
theorem svL_len (P S : List Int) (i : Nat) : (svL P S i).length = P.length := by simp [svL]
theorem svL_at (P S : List Int) (i : Nat) {k : Nat} (hk : k < P.length) : (svL P S i).getD k 0 = svF P S P.length i k := by simp [svL, List.getD_eq_getElem?_getD, hk]
theorem svL_row (P S : List Int) {i : Nat} (hi : i < P.length) : (matF P.length (svF P S P.length)).getD i [] = svL P S i := matF_row _ hi
theorem svL_cl {P S W : List Int} (h : IsCl P S W) {i : Nat} (hi : i < P.length) : IsCl P S (svL P S i) := by
 have hc := h.cl
 obtain ⟨h1, h2, h3, h4⟩ := h
 refine ⟨h1, ⟨h2.1, svL_len P S i⟩, fun k hk => ?_, h4⟩
 rw [svL_len] at hk
 have := sv_bnd hc hi k
 rw [svL_at P S i hk]
 omega
attribute [local irreducible] IsCl decIsCl
theorem implSC_c (P S W : List Int) (h : IsCl P S W) (i : Nat) (hi : i < P.length) : CallA Tryz.prog 57 [aCl P S W, aI i] [rCl P S (svL P S i), rI 0] [] := by
 have hlen := h.cl.len
 have hS := h.cl.lS
 have hI := implIsCl_c P S W (by omega) (by omega) (by have := h.cl.lW; omega)
 rw [decide_eq_true h] at hI
 have hQ := isPoint_c P S W (i : Int) (by omega)
 rw [decide_eq_true (by omega)] at hQ
 have hM := invProx_c P S W h.cl
 have hml := matF_len P.length (svF P S P.length)
 have hrow := svL_row P S hi
 have hW := withWeights_c P S W ((matF P.length (svF P S P.length)).getD (i * 1) []) (by omega) (by omega)
 rw [← hrow, show (matF P.length (svF P S P.length)).getD i [] = (matF P.length (svF P S P.length)).getD (i * 1) [] by rw [Nat.mul_one]]
 clear h hrow
 generalize matF P.length (svF P S P.length) = M at *
 refine cA_ _ Tryz.func57 rfl Tryz.ntmps57 sO_ ?_
 repeat' (first | (refine Two.mk ?_ ?_ <;> intro _ <;> try (exfalso; omega)) | (guard_target =~ AtN 7; refine RunU.cons (sC_ (hI) (.sh .nil) (.shAgg rfl gA_ .nil) rfl) ?_) | (guard_target =~ AtN 12; refine RunU.cons (sC_ (hQ) (.sh (.sh .nil)) (.shAgg rfl gA_ (.sh wS_ .nil)) rfl) ?_) | (guard_target =~ AtN 17; refine RunU.cons (sC_ (hM) (.sh .nil) (.shAgg rfl gA_ .nil) rfl) ?_) | (guard_target =~ AtN 21; refine RunU.cons (sC_ (hW) (.sh (.mv vA_ .nil)) (.shAgg rfl gA_ (.mv .nil)) rfl) ?_) | refine goA ?_ | (refine neA ?_; first | refine nxA ?_ | refine Done.ret (.cell inferInstance rfl rfl (.one rA_ .nil)) (.sh (.sh .nil)) ?_ rfl) | fail)
 all_goals first | rfl | (exfalso; omega) | (exfalso; simp_all; done)
theorem sumN_dot (a b : List Int) : ∀ n, dot a b n = sumN (fun k => a.getD k 0 * b.getD k 0) n
 | 0 => rfl
 | n + 1 => by rw [dot, sumN, sumN_dot a b n]
theorem prod_leY {a b : Int} (h : a.natAbs ≤ 100000) (h2 : b.natAbs ≤ 100000) : (a * b).natAbs ≤ 10000000000 := by
 rw [Int.natAbs_mul]; exact Nat.mul_le_mul h h2
theorem dot_leY {a b : List Int} (ha : ∀ i, (a.getD i 0).natAbs ≤ 100000) (hb : ∀ i, (b.getD i 0).natAbs ≤ 100000) : ∀ j, (dot a b j).natAbs ≤ 10000000000 * j
 | 0 => by simp [dot]
 | j + 1 => by
  have h1 := dot_leY ha hb j
  have h2 := prod_leY (ha j) (hb j)
  rw [dot]
  omega
theorem scalarY_c (a b : List Int) (h : a.length ≤ b.length) (hl : a.length ≤ 40) (ha : ∀ i, (a.getD i 0).natAbs ≤ 100000) (hb : ∀ i, (b.getD i 0).natAbs ≤ 100000) : CallA Tryz.prog 94 [aL a, aL b] [rI (dot a b a.length)] [] := by
 refine cA_ _ Tryz.func94 rfl Tryz.ntmps94 sO_ ?_
 repeat' (first | (refine Two.mk ?_ ?_ <;> intro _) | refine goA ?_ | (refine neA ?_; first | refine nxA ?_ | refine Done.ret (.one rA_ .nil) (.sh (.sh .nil)) ?_ rfl) | fail)
 refine WpA.loop_slots (ι := Nat) (fun j => [(1, .c (.sl false 1 (ints b))), (5, .c (.lit (.int .i64 (dot a b j)))), (8, .c (.sl false 1 (ints a))), (9, vGI a.length), (10, vGI j)]) (fun j => j ≤ a.length) (fun j => a.length - j) 0 (by omega) ⟨rfl, rfl, rfl, rfl, rfl, trivial⟩ ?_
 intro j s nx hj
 by_cases hlt : j < a.length
 ·have h1 := dot_leY ha hb j
  have h2 := prod_leY (ha j) (hb j)
  have h2' : (a.getD (j * 1) 0 * b.getD (j * 1) 0).natAbs ≤ 10000000000 := by rw [Nat.mul_one]; exact h2
  have e : dot a b j + a.getD (j * 1) 0 * b.getD (j * 1) 0 = dot a b (j + 1) := by rw [Nat.mul_one, dot]
  generalize hp : a.getD (j * 1) 0 * b.getD (j * 1) 0 = p at *
  repeat' (first | (refine Two.mk ?_ ?_ <;> intro _) | refine goA ?_ | (refine neA ?_; first | refine nxA ?_ | refine Done.ret (.one rA_ .nil) (.sh (.sh .nil)) ?_ rfl) | fail)
  all_goals try (exfalso; omega)
  all_goals first | (rw [hp]; omega) | exact ⟨j + 1, by omega, ⟨rfl, int_eq (by rw [← e, ← hp]), rfl, rfl, int_eq (by omega), trivial⟩, by omega⟩
 ·have ej : j = a.length := by omega
  subst ej
  repeat' (first | (refine Two.mk ?_ ?_ <;> intro _) | refine goA ?_ | (refine neA ?_; first | refine nxA ?_ | refine Done.ret (.one rA_ .nil) (.sh (.sh .nil)) ?_ rfl) | fail)
  all_goals try (exfalso; omega)
  all_goals rfl
theorem alike_c (P S X Y : List Int) (hP : P.length ≤ 1000000) (hS : S.length ≤ 1000000) : CallA Tryz.prog 118 [aCl P S X, aCl P S Y] [rB true] [] := by
 have h1 := equal_c P P (by omega) (by omega)
 have h2 := equal_c S S (by omega) (by omega)
 rw [decide_eq_true rfl] at h1 h2
 refine cA_ _ Tryz.func118 rfl Tryz.ntmps118 sO_ ?_
 repeat' (first | (refine Two.mk ?_ ?_ <;> intro _) | (guard_target =~ AtN 9; refine RunU.cons (sC_ (h1) (.sh (.sh .nil)) (.sh wS_ (.sh wS_ .nil)) rfl) ?_) | refine goA ?_ | (guard_target =~ IsG; first | refine psA ?_ | (guard_target =~ AtS 15; refine RunU.doit rfl rfl (sC_ (h2) (.sh (.sh .nil)) (.sh wS_ (.sh wS_ .nil)) rfl) ?_) | refine gdA ?_) | (refine neA ?_; first | refine nxA ?_ | refine Done.ret (.one rA_ .nil) (.sh (.sh .nil)) ?_ rfl) | fail)
 all_goals first | rfl | (exfalso; simp_all; done)
theorem implMC_c (P S X Y : List Int) (hX : IsCl P S X) (hY : IsCl P S Y) : CallA Tryz.prog 58 [aCl P S X, aCl P S Y] [rI (dot X Y P.length), rI 0] [] := by
 have cX := hX.cl
 have cY := hY.cl
 have hl := cX.len
 have hS := cX.lS
 have lX := cX.lW
 have lY := cY.lW
 have wa : ∀ {Z : List Int}, Cl P S Z → ∀ i, (Z.getD i 0).natAbs ≤ 100000 := fun {Z} hZ i => by
  by_cases hi : i < P.length
  ·have := hZ.w i hi; omega
  ·rw [List.getD_eq_getElem?_getD, List.getElem?_eq_none (by rw [hZ.lW]; omega)]; simp
 have hI1 := implIsCl_c P S X (by omega) (by omega) (by omega)
 have hI2 := implIsCl_c P S Y (by omega) (by omega) (by omega)
 rw [decide_eq_true hX] at hI1
 rw [decide_eq_true hY] at hI2
 have hA := alike_c P S X Y (by omega) (by omega)
 have hD := scalarY_c X Y (by omega) (by omega) (wa cX) (wa cY)
 rw [lX] at hD
 clear wa cX cY hX hY
 refine cA_ _ Tryz.func58 rfl Tryz.ntmps58 sO_ ?_
 repeat' (first | (refine Two.mk ?_ ?_ <;> intro _ <;> try (exfalso; omega)) | (guard_target =~ AtN 7; refine RunU.cons (sC_ (hI1) (.sh .nil) (.shAgg rfl gA_ .nil) rfl) ?_) | (guard_target =~ AtN 16; refine RunU.cons (sC_ (hA) (.sh (.sh .nil)) (.shAgg rfl gA_ (.shAgg rfl gA_ .nil)) rfl) ?_) | (guard_target =~ AtN 22; refine RunU.cons (sC_ (hD) (.sh (.sh .nil)) (.sh wS_ (.sh wS_ .nil)) rfl) ?_) | refine goA ?_ | (guard_target =~ IsG; first | refine psA ?_ | (guard_target =~ AtS 11; refine RunU.doit rfl rfl (sC_ (hI2) (.sh .nil) (.shAgg rfl gA_ .nil) rfl) ?_) | refine gdA ?_) | (refine neA ?_; first | refine nxA ?_ | refine Done.ret (.one rA_ (.one rA_ .nil)) (.sh (.sh .nil)) ?_ rfl) | fail)
 all_goals first | rfl | (exfalso; simp_all; done) | (exfalso; omega)
attribute [local irreducible] wr shr33 and24
def hsY (l : List Int) (q : Int) : Nat → Int
 | 0 => wr (wr (q * 6257) + wr l.length)
 | j + 1 => wr (wr (wr (hsY l q j * 1099511628211) + wr (l.getD (j * 1) 0)) + 5)
theorem roll_c (l : List Int) (q : Int) (hl : l.length ≤ 9223372036854775807) : ∃ h : Int, CallS Tryz.prog 55 [aBy l, .sh (.one (.lit (.int .u64 q)))] [.one (dSr l 0 h)] [] := by
 refine ⟨hsY l q l.length, ?_⟩
 refine callS_of _ Tryz.func55 rfl Tryz.ntmps55 ?_
 repeat' (first | (refine Two.mk ?_ ?_ <;> intro _) | (guard_target =~ IsN; first | refine RunU.cons (step_conv_u rfl rfl) ?_ | refine RunU.cons (step_add_u rfl rfl rfl) ?_ | refine RunU.cons (step_mul_u rfl rfl rfl) ?_) | refine goA ?_ | (refine neA ?_; first | refine nxA ?_ | refine Done.ret (.one rA_ .nil) (.sh (.sh .nil)) ?_ rfl) | fail)
 refine WpA.loop_slots2 (fun j id => [(0, .c (.sl false 1 (bytes l))), (5, .own id (dSr l 0 (hsY l q j))), (6, .c (.lit (.int .i64 j)))]) (fun j => j ≤ l.length) (fun j => l.length - j) 0 _ (by omega) ⟨rfl, rfl, rfl, trivial⟩ ?_
 intro j id s nx hj
 by_cases hlt : j < l.length
 ·repeat' (first | (refine Two.mk ?_ ?_ <;> intro _) | (guard_target =~ IsN; first | refine RunU.cons (step_conv_u rfl rfl) ?_ | refine RunU.cons (step_add_u rfl rfl rfl) ?_ | refine RunU.cons (step_mul_u rfl rfl rfl) ?_ | refine RunU.cons (step_load_sh rfl (bytes_get (by omega)) rfl) ?_) | refine goA ?_ | (refine neA ?_; first | refine nxA ?_ | refine Done.ret (.one rA_ .nil) (.sh (.sh .nil)) ?_ rfl) | fail)
  all_goals try (exfalso; omega)
  all_goals exact ⟨j + 1, by omega, ⟨_, rfl, rfl, int_eq (by omega), trivial⟩, by omega⟩
 ·obtain rfl : j = l.length := by omega
  repeat' (first | (refine Two.mk ?_ ?_ <;> intro _) | refine goA ?_ | (refine neA ?_; first | refine nxA ?_ | refine Done.ret (.one rA_ .nil) (.sh (.sh .nil)) ?_ rfl) | fail)
  all_goals first | rfl | (exfalso; omega)
theorem below_c (l : List Int) (hl : l.length ≤ 9223372036854775807) (hb : ∀ i, 0 ≤ l.getD i 0 ∧ l.getD i 0 ≤ 255) (a h n : Int) (ha : 0 ≤ a ∧ a ≤ l.length) (hn : ¬ n < 1) : ∃ (x a' h' : Int), (0 ≤ x ∧ x < n) ∧ (0 ≤ a' ∧ a' ≤ l.length) ∧
  CallNS Tryz.prog 56 (dSr l a h) [aI n] [rI x] (dSr l a' h') := by
 have hp := and24_in (shr33 (wr (wr (h * 6364136223846793005) + 1442695040888963407)))
 by_cases hlt : a < l.length
 ·have hbb := hb (a.toNat * 1)
  refine ⟨(and24 (shr33 (wr (wr (h * 6364136223846793005) + 1442695040888963407))) + l.getD (a.toNat * 1) 0) % n, a + 1, wr (wr (h * 6364136223846793005) + 1442695040888963407), ⟨Int.emod_nonneg _ (by omega), Int.emod_lt_of_pos _ (by omega)⟩, by omega, ?_⟩
  refine cN_ _ Tryz.func56 rfl Tryz.ntmps56 ?_
  repeat' (first | (refine Two.mk ?_ ?_ <;> intro _) | (guard_target =~ IsN; first | refine RunU.cons (step_add_u rfl rfl rfl) ?_ | refine RunU.cons (step_mul_u rfl rfl rfl) ?_ | refine RunU.cons (step_shr33 rfl rfl rfl) ?_ | refine RunU.cons (step_and24 rfl rfl rfl) ?_ | refine RunU.cons (step_load_sh rfl (bytes_get (by omega)) rfl) ?_) | refine goA ?_ | (refine neA ?_; first | refine nxA ?_ | ((first | refine DoneN.ret (.one rA_ .nil) rfl ?_ ?_ | refine DoneN.normal (.one rA_ .nil) rfl ?_ ?_) <;> try exact rfl)) | fail)
  all_goals first | rfl | (exfalso; omega)
 ·refine ⟨and24 (shr33 (wr (wr (h * 6364136223846793005) + 1442695040888963407))) % n, a, wr (wr (h * 6364136223846793005) + 1442695040888963407), ⟨Int.emod_nonneg _ (by omega), Int.emod_lt_of_pos _ (by omega)⟩, ha, ?_⟩
  refine cN_ _ Tryz.func56 rfl Tryz.ntmps56 ?_
  repeat' (first | (refine Two.mk ?_ ?_ <;> intro _) | (guard_target =~ IsN; first | refine RunU.cons (step_add_u rfl rfl rfl) ?_ | refine RunU.cons (step_mul_u rfl rfl rfl) ?_ | refine RunU.cons (step_shr33 rfl rfl rfl) ?_ | refine RunU.cons (step_and24 rfl rfl rfl) ?_) | refine goA ?_ | (refine neA ?_; first | refine nxA ?_ | ((first | refine DoneN.ret (.one rA_ .nil) rfl ?_ ?_ | refine DoneN.normal (.one rA_ .nil) rfl ?_ ?_) <;> try exact rfl)) | fail)
  all_goals first | rfl | (exfalso; omega)
end Go.Proofs.YtmgmpnhlehonmaaGreat
