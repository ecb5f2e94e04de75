/- Codes of points of branches by the program, and tables of numbers of common points. No condition. -/
import Derived.Test.YtmgmpnhlehonmaaGreatKFxA
import Derived.Test.YtmgmpnhlehonmaaGreatKGxB
import Derived.Test.YtmgmpnhlehonmaaGreatKPwI
import Derived.Test.YtmgmpnhlehonmaaGreatKGrC
set_option linter.unusedVariables false
set_option linter.unusedSimpArgs false
namespace Go.Proofs.YtmgmpnhlehonmaaGreat
set_option maxHeartbeats 20000000
open Go.Pv
open Go.ChangeShapes Go.WideShapes Go.ChangeAt Go.RowKit
attribute [local irreducible] RunU WpA Step CallG CallNG Done DoneN
theorem divTo_nn (l : List Int) : ∀ j, 0 ≤ divTo l j
 | 0 => Int.le_refl _
 | j + 1 => by rw [divTo]; omega
theorem run_nn {l : List Int} (h : IsBr l) {j : Nat} (hj : j + 1 < l.length) : 1 ≤ runK l j := by
 have h1 := h.2.2.1 (j + 1) hj (by omega)
 have h2 := h.2.2.2.1 (j + 1) hj
 rw [Nat.add_sub_cancel] at h1
 unfold runK
 split <;> omega
theorem falls_two {l : List Int} (h : IsBr l) {j : Nat} (hj : j + 1 < l.length) : 2 ≤ divTo l (j + 1) := by
 have h1 : divTo l (j + 2) < divTo l (j + 1) := h.2.2.2.2.1 (j + 1) hj (by omega)
 have h2 : 1 ≤ divTo l (j + 2) := by
  have h3 := divTo_nn l (j + 2)
  rcases Int.lt_or_le 0 (divTo l (j + 2)) with h4 | h4
  ·omega
  ·exfalso
   have h5 : divTo l (j + 2) = 0 := by omega
   have h6 : l.getD (j + 1) 0 = 0 := by
    have : (Int.gcd (divTo l (j + 1)) (l.getD (j + 1) 0) : Int) = 0 := h5
    have := Int.gcd_eq_zero_iff.1 (by omega : Int.gcd (divTo l (j + 1)) (l.getD (j + 1) 0) = 0)
    exact this.2
   have := h.2.2.2.1 (j + 1) hj
   omega
 omega
theorem un_tail {l : List Int} (h : IsBr l) (n : Nat) : ∀ m j, m + j + 1 = l.length → ∃ T, seqL l (l.length - 1) = seqL l j ++ T ∧ UN (T ++ List.replicate n 1) ∧ (∀ x ∈ T ++ List.replicate n (1 : Int), 0 < x) ∧ Dn (divTo l (j + 1)) (T ++ List.replicate n 1) ∧ (∀ x, (T ++ List.replicate n (1 : Int)).head? = some x → x ≤ divTo l (j + 1))
 | 0, j, hm => by
  have hj : j = l.length - 1 := by omega
  refine ⟨[], by rw [hj]; simp, by simpa using un_ones n, fun x hx => ?_, by simpa using dn_ones _ n, fun x hx => ?_⟩
  ·have := List.eq_of_mem_replicate (by simpa using hx : x ∈ List.replicate n (1 : Int))
   omega
  ·have h1 := List.eq_of_mem_replicate (List.mem_of_mem_head? (by simpa using hx : (List.replicate n (1 : Int)).head? = some x))
   have h2 := h.2.2.2.2.2
   rw [show j + 1 = l.length by omega, h2]
   omega
 | m + 1, j, hm => by
  obtain ⟨T, e1, k1, k2, k3, k4⟩ := un_tail h n m (j + 1) (by omega)
  have hj : j + 1 < l.length := by omega
  have hr := run_nn h hj
  have hd := falls_two h hj
  have e0 : (divs l l.length).getD j 0 = divTo l (j + 1) := divs_at l l.length j (by omega)
  have hg : (Int.gcd (runK l j) (divTo l (j + 1)) : Int) = divTo l (j + 1 + 1) := by
   show _ = (Int.gcd (divTo l (j + 1)) (l.getD (j + 1) 0) : Int)
   rw [Int.gcd_comm (divTo l (j + 1))]
   unfold runK
   by_cases h0 : j = 0
   ·rw [if_pos h0, Int.sub_zero]
   ·rw [if_neg h0, Int.gcd_sub_right_left_of_dvd]
    rw [divTo]
    exact Int.gcd_dvd_right ..
  have es : seqL l (j + 1) = seqL l j ++ runL (stp (divTo l (j + 1)).toNat (runK l j) (divTo l (j + 1))) := by rw [seqL, e0]
  rw [es, List.append_assoc] at e1
  refine ⟨_, e1, ?_⟩
  rw [← hg] at k3 k4
  rw [List.append_assoc]
  generalize divTo l (j + 1) = e at *
  generalize runK l j = k at *
  by_cases hk : e ≤ k
  ·obtain ⟨q1, q2, q3, q4⟩ := un_steps k2 k1 e.toNat k e (by omega) hk (by omega) ⟨k3, k4⟩
   refine ⟨q1, q4, ?_, fun x hx => by rw [q3] at hx; injection hx; omega⟩
   generalize runL (stp e.toNat k e) ++ (T ++ List.replicate n 1) = L at *
   cases L with
   | nil => simp at q3
   | cons y L =>
    have : y = e := by simpa using q3
    exact dn_same (fun x hx => q4 x (by simp [hx])) (by omega)
  ·have e2 : runL (stp e.toNat k e) = runL (stp (e.toNat - 1) e k) := by
    obtain ⟨f, hf⟩ : ∃ f, e.toNat = f + 1 := ⟨e.toNat - 1, by omega⟩
    rw [hf, stp, if_pos (by omega), runL_cons, Int.ediv_eq_zero_of_lt (by omega) (by omega), Int.emod_eq_of_lt (by omega) (by omega)]
    rfl
   rw [Int.gcd_comm] at k3 k4
   obtain ⟨q1, q2, q3, q4⟩ := un_steps k2 k1 (e.toNat - 1) e k (by omega) (by omega) (by omega) ⟨k3, k4⟩
   rw [e2]
   exact ⟨q1, q4, q2, fun x hx => by rw [q3] at hx; injection hx; omega⟩
theorem un_seq {l : List Int} (h : IsBr l) (n : Nat) : UN (seqI l ++ List.replicate n 1) ∧ ∀ x ∈ seqI l ++ List.replicate n (1 : Int), 0 < x := by
 unfold seqI
 split
 ·refine ⟨un_ones (n + 1), fun x hx => ?_⟩
  have := List.eq_of_mem_replicate (show x ∈ List.replicate (n + 1) (1 : Int) from hx)
  omega
 ·obtain ⟨T, e1, k1, k2, _⟩ := un_tail h n (l.length - 1) 0 (by have := h.1; omega)
  rw [show seqL l 0 = [] from rfl, List.nil_append] at e1
  rw [e1]
  exact ⟨k1, k2⟩
theorem UN.pre : ∀ {A B : List Int}, UN (A ++ B) → UN A
 | [], _, _ => trivial
 | p :: A, B, h => by
  obtain ⟨⟨h1, h2⟩, h3⟩ := h
  refine ⟨⟨fun X p' c d Y e hlt => h1 X p' c d (Y ++ B) (by rw [e]; simp) hlt, fun x hx => h2 x ?_⟩, UN.pre h3⟩
  cases A with
  | nil => simp at hx
  | cons y A => simpa using hx
theorem UN.at : ∀ {A : List Int} {p : Int} {R : List Int}, UN (A ++ p :: R) → Dn p R ∧ ∀ x, R.head? = some x → x ≤ p
 | [], _, _, h => h.1
 | _ :: A, _, _, h => UN.at (A := A) h.2
def mulK (l : List Int) (k : Nat) : List Int := (seqI l ++ List.replicate k 1).take k
theorem mulK_len (l : List Int) (k : Nat) : (mulK l k).length = k := by unfold mulK; simp
theorem mulK_un {l : List Int} (h : IsBr l) (k : Nat) : UN (mulK l k) ∧ ∀ x ∈ mulK l k, 0 < x := by
 obtain ⟨h1, h2⟩ := un_seq h k
 unfold mulK
 exact ⟨UN.pre (by rw [List.take_append_drop]; exact h1), fun x hx => h2 x (List.mem_of_mem_take hx)⟩
def sumB (m : List Int) (i j : Nat) : Int := sumI ((m.drop (i + 1)).take (j - i))
theorem sumB_step (m : List Int) {i j : Nat} (h : i ≤ j) (hj : j + 1 < m.length) : sumB m i (j + 1) = sumB m i j + m.getD (j + 1) 0 := by
 unfold sumB
 rw [show j + 1 - i = (j - i) + 1 by omega, List.take_add_one, sumI_app]
 have : (m.drop (i + 1))[j - i]? = some (m.getD (j + 1) 0) := by
  rw [List.getElem?_drop, show i + 1 + (j - i) = j + 1 by omega, List.getElem?_eq_getElem hj]
  simp [List.getD, hj]
 rw [this]
 simp [sumI]
theorem sumB_self (m : List Int) (i : Nat) : sumB m i i = 0 := by unfold sumB; simp [sumI]
theorem sumB_mono {m : List Int} (hp : ∀ x ∈ m, 0 < x) {i j k : Nat} (h : j ≤ k) : sumB m i j ≤ sumB m i k := sumI_take (fun x hx => hp x (List.mem_of_mem_drop hx)) (by omega)
def prxB (m : List Int) (i j : Nat) : Bool := decide (i < j ∧ sumB m i j ≤ m.getD i 0)
def codT (m : List Int) (j : Nat) : Nat → Int
 | 0 => 0
 | n + 1 => if n + 1 < j ∧ prxB m n j = true then (j : Int) - n else codT m j n
theorem codT_late {m : List Int} {j : Nat} : ∀ {n : Nat}, j ≤ n + 1 → codT m j n = codT m j (j - 1)
 | 0, h => by
  have : j - 1 = 0 := by omega
  rw [this]
 | n + 1, h => by
  by_cases e : j = n + 2
  ·subst e; rfl
  ·rw [codT, if_neg (by omega)]
   exact codT_late (by omega)
theorem prx_over {m : List Int} (hp : ∀ x ∈ m, 0 < x) {i j : Nat} (h : m.getD i 0 < sumB m i j) : ∀ x, j ≤ x → x < m.length → prxB m i x = false := fun x hx _ => by
 have := sumB_mono hp (i := i) hx
 exact decide_eq_false fun q => by omega
def cdL (m : List Int) : List Int := (List.range (m.length - 1)).map fun t : Nat => codT m (t + 1) (t + 1)
theorem cdL_len (m : List Int) : (cdL m).length = m.length - 1 := by simp [cdL]
def cdN (m : List Int) (i j : Nat) : List Int := (List.range (m.length - 1)).map fun t : Nat => if t + 1 < j then codT m (t + 1) (i + 1) else codT m (t + 1) i
def cdM (m : List Int) (i : Nat) : List Int := (List.range (m.length - 1)).map fun t : Nat => codT m (t + 1) i
theorem cdN_len (m : List Int) (i j : Nat) : (cdN m i j).length = m.length - 1 := by simp [cdN]
theorem cdM_len (m : List Int) (i : Nat) : (cdM m i).length = m.length - 1 := by simp [cdM]
theorem cdM_zero (m : List Int) : cdM m 0 = List.replicate (m.length - 1) 0 := by
 unfold cdM
 rw [show List.replicate (m.length - 1) (0 : Int) = (List.range (m.length - 1)).map fun _ => 0 by simp [List.map_const']]
 exact List.map_congr_left fun _ _ => rfl
theorem cdM_last (m : List Int) : cdM m m.length = cdL m := by
 refine List.map_congr_left fun t ht => ?_
 have ht : t < m.length - 1 := by simpa using ht
 rw [codT_late (n := m.length) (by omega), codT_late (n := t + 1) (by omega)]
theorem cdN_start (m : List Int) (i : Nat) : cdN m i (i + 2) = cdM m i := by
 refine List.map_congr_left fun t _ => ?_
 by_cases h : t + 1 < i + 2
 ·rw [if_pos h, codT, if_neg (by omega)]
 ·rw [if_neg h]
theorem cdN_start1 (m : List Int) (i : Nat) : cdN m i (i + 1) = cdM m i := by
 refine List.map_congr_left fun t _ => ?_
 by_cases h : t + 1 < i + 1
 ·rw [if_pos h, codT, if_neg (by omega)]
 ·rw [if_neg h]
theorem cdN_end (m : List Int) (i : Nat) {j : Nat} (h : ∀ x, j ≤ x → x < m.length → prxB m i x = false) : cdN m i j = cdM m (i + 1) := by
 refine List.map_congr_left fun t ht => ?_
 have ht : t < m.length - 1 := by simpa using ht
 by_cases hj : t + 1 < j
 ·rw [if_pos hj]
 ·rw [if_neg hj, codT, if_neg (by rw [h (t + 1) (by omega) (by omega)]; simp)]
theorem cdN_step {m : List Int} {i j : Nat} (hi : i + 1 < j) (hj : j < m.length) (h : prxB m i j = true) : (cdN m i j).set (j - 1) ((j : Int) - i) = cdN m i (j + 1) := by
 refine List.ext_getElem (by simp [cdN_len]) fun k h1 h2 => ?_
 have hk : k < m.length - 1 := by rw [List.length_set, cdN_len] at h1; exact h1
 rw [List.getElem_set]
 simp only [cdN, List.getElem_map, List.getElem_range]
 by_cases e : j - 1 = k
 ·subst e
  rw [if_pos rfl, if_pos (by omega), codT, show j - 1 + 1 = j by omega, if_pos ⟨hi, h⟩]
 ·rw [if_neg e]
  by_cases h3 : k + 1 < j
  ·rw [if_pos h3, if_pos (by omega)]
  ·rw [if_neg h3, if_neg (by omega)]
theorem cdN_near (m : List Int) (i : Nat) : cdN m i (i + 1 + 1) = cdN m i (i + 1) := by rw [cdN_start, cdN_start1]
def codB (l : List Int) : List Int := cdL (mulK l 201)
def Shr (a b : List Int) (c : Int) : Prop := a.take (c.toNat - 1) = b.take (c.toNat - 1) ∧ (a.getD (c.toNat - 1) 0 ≠ b.getD (c.toNat - 1) 0 ∨ a.getD (c.toNat - 1) 0 = 0)
instance decShr (a b : List Int) (c : Int) : Decidable (Shr a b c) := by unfold Shr; infer_instance
def OffT (C : List (List Int)) (n : Nat) : Prop := ∀ i, i < n → ∀ k, k < n → i ≠ k → 1 ≤ (C.getD i []).getD k 0 ∧ (C.getD i []).getD k 0 ≤ 200
instance decOffT (C : List (List Int)) (n : Nat) : Decidable (OffT C n) := by unfold OffT; infer_instance
def SymT (C : List (List Int)) (n : Nat) : Prop := ∀ i, i < n → ∀ k, k < n → (C.getD i []).getD k 0 = (C.getD k []).getD i 0
instance decSymT (C : List (List Int)) (n : Nat) : Decidable (SymT C n) := by unfold SymT; infer_instance
def DiaT (C : List (List Int)) (n : Nat) : Prop := ∀ i, i < n → (C.getD i []).getD i 0 = 0
instance decDiaT (C : List (List Int)) (n : Nat) : Decidable (DiaT C n) := by unfold DiaT; infer_instance
def RowT (C : List (List Int)) (n : Nat) : Prop := ∀ i, i < n → (C.getD i []).length = n
instance decRowT (C : List (List Int)) (n : Nat) : Decidable (RowT C n) := by unfold RowT; infer_instance
def IsTab (C : List (List Int)) (n : Nat) : Prop := C.length = n ∧ RowT C n ∧ DiaT C n ∧ OffT C n ∧ SymT C n
instance decIsTab (C : List (List Int)) (n : Nat) : Decidable (IsTab C n) := by unfold IsTab; infer_instance
def BrsT (B : List (List Int)) : Prop := ∀ i, i < B.length → IsBr (B.getD i [])
instance decBrsT (B : List (List Int)) : Decidable (BrsT B) := by unfold BrsT; infer_instance
def ShrT (B C : List (List Int)) : Prop := ∀ i, i < B.length → ∀ k, k < B.length → i ≠ k → Shr (codB (B.getD i [])) (codB (B.getD k [])) ((C.getD i []).getD k 0)
instance decShrT (B C : List (List Int)) : Decidable (ShrT B C) := by unfold ShrT; infer_instance
def Ult (C : List (List Int)) (i k j : Nat) : Prop := i ≠ k → j ≠ i → j ≠ k → min ((C.getD i []).getD j 0) ((C.getD j []).getD k 0) ≤ (C.getD i []).getD k 0
instance decUlt (C : List (List Int)) (i k j : Nat) : Decidable (Ult C i k j) := by unfold Ult; infer_instance
def UltT (C : List (List Int)) (n : Nat) : Prop := ∀ i, i < n → ∀ k, k < n → ∀ j, j < n → Ult C i k j
instance decUltT (C : List (List Int)) (n : Nat) : Decidable (UltT C n) := by unfold UltT; infer_instance
def IsCu (B C : List (List Int)) : Prop := (1 ≤ B.length ∧ B.length ≤ 6) ∧ IsTab C B.length ∧ BrsT B ∧ ShrT B C ∧ UltT C B.length
instance decIsCu (B C : List (List Int)) : Decidable (IsCu B C) := by unfold IsCu; infer_instance
end Go.Proofs.YtmgmpnhlehonmaaGreat
namespace Go.Pv
open Go.RowKit
section
variable {P : Program} {n : NN} {nid nx : Nat} {st : Nat → AV} {f : Fr} {X : Nat → Prop} {a : Act} {w : World} {ρ : Nat → Rho} {L : Nat → List Nat}
end
end Go.Pv
namespace Go.Proofs.YtmgmpnhlehonmaaGreat
set_option maxHeartbeats 20000000
open Go.Pv
open Go.ChangeShapes Go.WideShapes Go.ChangeAt Go.RowKit
attribute [local irreducible] RunU WpA Step CallG CallNG Done DoneN
instance fnOk132 : FnOk Tryz.prog 132 := ⟨_, Tryz.func132, rfl, by decide⟩
attribute [local irreducible] decStrict decFalls decIsBr decWithin Strict Falls IsBr Within
abbrev vQJ (x : Int) : AV := .c (.lit (.int .i64 x))
theorem tmsQ_br {l : List Int} (h : IsBr l) : Tms l := by
 have h1 := (isBr_iff l).1 h
 obtain ⟨p, q, r, _⟩ := h1
 have hb : ∀ i, i < l.length → 0 ≤ l.getD i 0 ∧ l.getD i 0 ≤ 2000 := fun i => by
  induction i with
  | zero => intro _; omega
  | succ i ih =>
   intro hi
   have h2 := ih (by omega)
   have h3 := (r (i + 1) hi (by omega)).1
   rw [Nat.add_sub_cancel] at h3
   omega
 refine ⟨⟨by omega, ?_⟩, fun i => ?_, fun i hi => ?_, by omega⟩
 ·have hdn : ∀ j, j < l.length → divTo l (j + 1) ≤ 64 - j := fun j => by
   induction j with
   | zero =>
    intro _
    have : divTo l (0 + 1) = l.getD 0 0 := divTo_one (by omega)
    omega
   | succ j ih =>
    intro hj
    have h2 := ih (by omega)
    have h3 := (r (j + 1) hj (by omega)).2
    have h4 := divTo_down (l := l) (by omega) j
    omega
  have h5 := hdn (l.length - 1) (by omega)
  have h6 := divTo_ge (l := l) (by omega) (l.length - 1)
  omega
 ·by_cases hi : i < l.length
  ·exact hb i hi
  ·rw [List.getD_eq_getElem?_getD, List.getElem?_eq_none (by omega)]; simp
 ·have h3 := (r (i + 1) hi (by omega)).1
  rw [Nat.add_sub_cancel] at h3
  omega
theorem sumI_le {B : Int} : ∀ {l : List Int}, (∀ x ∈ l, x ≤ B) → sumI l ≤ B * l.length
 | [], _ => by simp [sumI]
 | x :: l, h => by
  have h1 := h x (by simp)
  have h2 := sumI_le (l := l) fun y hy => h y (by simp [hy])
  have e : B * ((x :: l).length : Int) = B * l.length + B := by
   simp only [List.length_cons, Int.natCast_add, Int.mul_add]
   simp
  rw [e, sumI]
  omega
theorem sumB_in {m : List Int} (hp : ∀ x ∈ m, 0 < x) (hb : ∀ x ∈ m, x ≤ 4000) (hm : m.length ≤ 1000) (i j : Nat) : 0 ≤ sumB m i j ∧ sumB m i j ≤ 4000000 := by
 unfold sumB
 have h1 := sumI_pos (l := (m.drop (i + 1)).take (j - i)) fun x hx => hp x (List.mem_of_mem_drop (List.mem_of_mem_take hx))
 have h2 := sumI_le (B := 4000) (l := (m.drop (i + 1)).take (j - i)) fun x hx => hb x (List.mem_of_mem_drop (List.mem_of_mem_take hx))
 have h3 : ((m.drop (i + 1)).take (j - i)).length ≤ 1000 := by
  rw [List.length_take, List.length_drop]; omega
 omega
end Go.Proofs.YtmgmpnhlehonmaaGreat
namespace Go.Proofs.YtmgmpnhlehonmaaGreat
set_option maxHeartbeats 20000000
open Go.Pv
open Go.ChangeShapes Go.WideShapes Go.ChangeAt Go.RowKit
attribute [local irreducible] RunU WpA Step CallG CallNG Done DoneN
attribute [local irreducible] decStrict decFalls decIsBr decWithin Strict Falls IsBr Within
theorem mulK_le {l : List Int} (h : IsBr l) (k : Nat) : ∀ x ∈ mulK l k, x ≤ 4000 := fun x hx => by
 unfold mulK at hx
 rcases List.mem_append.1 (List.mem_of_mem_take hx) with h1 | h1
 ·obtain ⟨i, hi, rfl⟩ := List.mem_iff_getElem.1 h1
  have := (seqI_ok (tmsQ_br h)).2 i
  have e : (seqI l).getD i 0 = (seqI l)[i] := by simp [List.getD, hi]
  omega
 ·have := List.eq_of_mem_replicate h1
  omega
end Go.Proofs.YtmgmpnhlehonmaaGreat
