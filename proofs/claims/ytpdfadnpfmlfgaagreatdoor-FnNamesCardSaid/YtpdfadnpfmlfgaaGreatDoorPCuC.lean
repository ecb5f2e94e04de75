/- The head of a slice that a root holds, cut to its length, becomes a root of its own. No condition. -/
import Derived.Test.YtpdfadnpfmlfgaaGreatDoorPNmA
import Derived.Test.YtpdfadnpfmlfgaaGreatDoorPPvT
import Derived.Test.YtpdfadnpfmlfgaaGreatDoorPPwX
set_option linter.unusedVariables false
set_option linter.unusedSimpArgs false
namespace Go.Proofs.YtpdfadnpfmlfgaaGreatDoor
set_option maxHeartbeats 20000000
open Go.Pv
open Go.ChangeShapes Go.WideShapes Go.ChangeAt Go.RowKit
attribute [local irreducible] RunU WpA Step CallG CallNG Done DoneN
def prxM (m : List Int) (i : Nat) : List (List Int) := (List.range m.length).map fun x => prxT m x i
def prxN (m : List Int) (i j : Nat) : List (List Int) := (List.range m.length).map fun x => if x < j then prxT m x (i + 1) else prxT m x i
theorem prxM_len (m : List Int) (i : Nat) : (prxM m i).length = m.length := by simp [prxM]
theorem prxN_len (m : List Int) (i j : Nat) : (prxN m i j).length = m.length := by simp [prxN]
theorem prxM_at (m : List Int) (i : Nat) {x : Nat} (h : x < m.length) : (prxM m i).getD x [] = prxT m x i := by simp [prxM, List.getD_eq_getElem?_getD, h]
theorem prxN_at (m : List Int) (i j : Nat) {x : Nat} (h : x < m.length) : (prxN m i j).getD x [] = if x < j then prxT m x (i + 1) else prxT m x i := by simp [prxN, List.getD_eq_getElem?_getD, h]
theorem prxT_low {m : List Int} {x i : Nat} (h : x ≤ i) : prxT m x (i + 1) = prxT m x i := by
 rw [prxT_late (show x ≤ i + 1 by omega), prxT_late h]
theorem prxN_start (m : List Int) (i : Nat) : prxN m i (i + 1) = prxM m i := by
 refine List.map_congr_left fun x _ => ?_
 by_cases h : x < i + 1
 ·rw [if_pos h, prxT_low (by omega)]
 ·rw [if_neg h]
theorem prxN_end (m : List Int) (i : Nat) {j : Nat} (h : ∀ x, j ≤ x → x < m.length → prxB m i x = false) : prxN m i j = prxM m (i + 1) := by
 refine List.map_congr_left fun x hx => ?_
 by_cases hj : x < j
 ·rw [if_pos hj]
 ·rw [if_neg hj, prxT_succ, h x (by omega) (by simpa using hx)]
  rfl
theorem prxN_step {m : List Int} {i j : Nat} (hj : j < m.length) (h : prxB m i j = true) : (prxN m i j).set j ((prxN m i j).getD j [] ++ [(i : Int)]) = prxN m i (j + 1) := by
 refine List.ext_getElem (by simp [prxN_len]) fun k h1 h2 => ?_
 have hk : k < m.length := by rw [List.length_set, prxN_len] at h1; exact h1
 have a1 : (prxN m i j)[k]'(by rw [prxN_len]; exact hk) = (prxN m i j).getD k [] := by simp [List.getD, prxN_len, hk]
 have a2 : (prxN m i (j + 1))[k]'h2 = (prxN m i (j + 1)).getD k [] := by simp [List.getD, prxN_len, hk]
 rw [List.getElem_set, a2, a1, prxN_at _ _ _ hk, prxN_at _ _ _ hk, prxN_at _ _ _ hj, if_neg (Nat.lt_irrefl j)]
 by_cases e : j = k
 ·subst e
  rw [if_pos rfl, if_pos (by omega), prxT_succ, h]
  rfl
 ·rw [if_neg e]
  by_cases h3 : k < j
  ·rw [if_pos h3, if_pos (by omega)]
  ·rw [if_neg h3, if_neg (by omega)]
theorem prxM_zero (m : List Int) : prxM m 0 = List.replicate m.length [] := by
 unfold prxM
 rw [show List.replicate m.length ([] : List Int) = (List.range m.length).map fun _ => [] by simp [List.map_const']]
 exact List.map_congr_left fun _ _ => rfl
theorem prxM_last (m : List Int) {x : Nat} (h : x < m.length) : (prxM m m.length).getD x [] = prxT m x x := by
 rw [prxM_at _ _ h, prxT_late (by omega)]
theorem prxT_len (m : List Int) (x n : Nat) : (prxT m x n).length ≤ n := by
 unfold prxT
 rw [List.length_map]
 have := List.length_filter_le (fun i => prxB m i x) (List.range n)
 simpa using this
theorem prx_over {m : List Int} (hp : ∀ x ∈ m, 0 < x) {i j : Nat} (h : m.getD i 0 < sumB m i j) : ∀ x, j ≤ x → x < m.length → prxB m i x = false := fun x hx _ => by
 have := sumB_mono hp (i := i) hx
 exact decide_eq_false fun q => by omega
def cdR (R : List (List Int)) : List Int := (List.range (R.length - 1)).map fun t : Nat => if 1 < (R.getD (t + 1) []).length then ((t + 1 : Nat) : Int) - (R.getD (t + 1) []).getD 0 0 else 0
def cdL (m : List Int) : List Int := (List.range (m.length - 1)).map fun t : Nat => codT m (t + 1) (t + 1)
theorem cdL_len (m : List Int) : (cdL m).length = m.length - 1 := by simp [cdL]
theorem cd_eq {m : List Int} (hu : UN m) (hp : ∀ x ∈ m, 0 < x) : cdR (prxM m m.length) = cdL m := by
 unfold cdR cdL
 rw [prxM_len]
 refine List.map_congr_left fun t ht => ?_
 have ht : t < m.length - 1 := by simpa using ht
 rw [prxM_last m (by omega), cod_eq hu hp (by omega) (by omega)]
def cdN (m : List Int) (i j : Nat) : List Int := (List.range (m.length - 1)).map fun t : Nat => if t + 1 < j then codT m (t + 1) (i + 1) else codT m (t + 1) i
def cdM (m : List Int) (i : Nat) : List Int := (List.range (m.length - 1)).map fun t : Nat => codT m (t + 1) i
theorem cdN_len (m : List Int) (i j : Nat) : (cdN m i j).length = m.length - 1 := by simp [cdN]
theorem cdM_len (m : List Int) (i : Nat) : (cdM m i).length = m.length - 1 := by simp [cdM]
theorem cdM_zero (m : List Int) : cdM m 0 = List.replicate (m.length - 1) 0 := by
 unfold cdM
 rw [show List.replicate (m.length - 1) (0 : Int) = (List.range (m.length - 1)).map fun _ => 0 by simp [List.map_const']]
 exact List.map_congr_left fun _ _ => rfl
theorem cdM_last (m : List Int) : cdM m m.length = cdL m := by
 refine List.map_congr_left fun t ht => ?_
 have ht : t < m.length - 1 := by simpa using ht
 rw [codT_late (n := m.length) (by omega), codT_late (n := t + 1) (by omega)]
theorem cdN_start (m : List Int) (i : Nat) : cdN m i (i + 2) = cdM m i := by
 refine List.map_congr_left fun t _ => ?_
 by_cases h : t + 1 < i + 2
 ·rw [if_pos h, codT, if_neg (by omega)]
 ·rw [if_neg h]
theorem cdN_start1 (m : List Int) (i : Nat) : cdN m i (i + 1) = cdM m i := by
 refine List.map_congr_left fun t _ => ?_
 by_cases h : t + 1 < i + 1
 ·rw [if_pos h, codT, if_neg (by omega)]
 ·rw [if_neg h]
theorem cdN_end (m : List Int) (i : Nat) {j : Nat} (h : ∀ x, j ≤ x → x < m.length → prxB m i x = false) : cdN m i j = cdM m (i + 1) := by
 refine List.map_congr_left fun t ht => ?_
 have ht : t < m.length - 1 := by simpa using ht
 by_cases hj : t + 1 < j
 ·rw [if_pos hj]
 ·rw [if_neg hj, codT, if_neg (by rw [h (t + 1) (by omega) (by omega)]; simp)]
theorem cdN_step {m : List Int} {i j : Nat} (hi : i + 1 < j) (hj : j < m.length) (h : prxB m i j = true) : (cdN m i j).set (j - 1) ((j : Int) - i) = cdN m i (j + 1) := by
 refine List.ext_getElem (by simp [cdN_len]) fun k h1 h2 => ?_
 have hk : k < m.length - 1 := by rw [List.length_set, cdN_len] at h1; exact h1
 rw [List.getElem_set]
 simp only [cdN, List.getElem_map, List.getElem_range]
 by_cases e : j - 1 = k
 ·subst e
  rw [if_pos rfl, if_pos (by omega), codT, show j - 1 + 1 = j by omega, if_pos ⟨hi, h⟩]
 ·rw [if_neg e]
  by_cases h3 : k + 1 < j
  ·rw [if_pos h3, if_pos (by omega)]
  ·rw [if_neg h3, if_neg (by omega)]
theorem cdN_near (m : List Int) (i : Nat) : cdN m i (i + 1 + 1) = cdN m i (i + 1) := by rw [cdN_start, cdN_start1]
theorem mulK_take (l : List Int) {k K : Nat} (h : k ≤ K) : mulK l k = (mulK l K).take k := by
 unfold mulK
 rw [List.take_take, Nat.min_eq_left h]
 rw [List.take_append, List.take_append]
 congr 1
 rw [List.take_replicate, List.take_replicate]
 congr 1
 omega
theorem prxB_take {m : List Int} {k i j : Nat} (hj : j < k) : prxB (m.take k) i j = prxB m i j := by
 unfold prxB
 by_cases hi : i < j
 ·have e1 : (m.take k).getD i 0 = m.getD i 0 := by
   rw [List.getD_eq_getElem?_getD, List.getElem?_take, if_pos (by omega), ← List.getD_eq_getElem?_getD]
  have e2 : sumB (m.take k) i j = sumB m i j := by
   unfold sumB
   rw [List.drop_take, List.take_take, Nat.min_eq_left (by omega)]
  rw [e1, e2]
 ·exact decide_eq_decide.2 ⟨fun h => absurd h.1 hi, fun h => absurd h.1 hi⟩
theorem codT_take {m : List Int} {k j : Nat} (hj : j < k) : ∀ n, codT (m.take k) j n = codT m j n
 | 0 => rfl
 | n + 1 => by rw [codT, codT, prxB_take hj, codT_take hj n]
theorem cdL_take (m : List Int) {k : Nat} (h : k ≤ m.length) : cdL (m.take k) = (cdL m).take (k - 1) := by
 unfold cdL
 rw [← List.map_take, List.take_range, List.length_take]
 rw [show min k m.length - 1 = min (k - 1) (m.length - 1) by omega]
 refine List.map_congr_left fun t ht => ?_
 have ht : t < min (k - 1) (m.length - 1) := by simpa using ht
 exact codT_take (by omega) _
def codB (l : List Int) : List Int := cdL (mulK l 201)
theorem codB_len (l : List Int) : (codB l).length = 200 := by unfold codB; rw [cdL_len, mulK_len]
theorem cdL_mulK (l : List Int) {k : Nat} (h : k ≤ 201) : cdL (mulK l k) = (codB l).take (k - 1) := by
 rw [mulK_take l h, cdL_take _ (by rw [mulK_len]; exact h)]
 rfl
def Shr (a b : List Int) (c : Int) : Prop := a.take (c.toNat - 1) = b.take (c.toNat - 1) ∧ (a.getD (c.toNat - 1) 0 ≠ b.getD (c.toNat - 1) 0 ∨ a.getD (c.toNat - 1) 0 = 0)
instance decShr (a b : List Int) (c : Int) : Decidable (Shr a b c) := by unfold Shr; infer_instance
theorem shr_symm {a b : List Int} {c : Int} : Shr a b c ↔ Shr b a c := by
 unfold Shr
 constructor
 ·rintro ⟨h1, h2⟩
  exact ⟨h1.symm, by omega⟩
 ·rintro ⟨h1, h2⟩
  exact ⟨h1.symm, by omega⟩
theorem shr_take {a b : List Int} {c : Int} (hc : 1 ≤ c) (ha : c.toNat ≤ a.length) (hb : c.toNat ≤ b.length) : Shr (a.take c.toNat) (b.take c.toNat) c ↔ Shr a b c := by
 unfold Shr
 rw [List.take_take, List.take_take, Nat.min_eq_left (by omega)]
 have e : ∀ x : List Int, c.toNat ≤ x.length → (x.take c.toNat).getD (c.toNat - 1) 0 = x.getD (c.toNat - 1) 0 := fun x _ => by
  rw [List.getD_eq_getElem?_getD, List.getElem?_take, if_pos (by omega), ← List.getD_eq_getElem?_getD]
 rw [e a ha, e b hb]
def OffT (C : List (List Int)) (n : Nat) : Prop := ∀ i, i < n → ∀ k, k < n → i ≠ k → 1 ≤ (C.getD i []).getD k 0 ∧ (C.getD i []).getD k 0 ≤ 200
instance decOffT (C : List (List Int)) (n : Nat) : Decidable (OffT C n) := by unfold OffT; infer_instance
def SymT (C : List (List Int)) (n : Nat) : Prop := ∀ i, i < n → ∀ k, k < n → (C.getD i []).getD k 0 = (C.getD k []).getD i 0
instance decSymT (C : List (List Int)) (n : Nat) : Decidable (SymT C n) := by unfold SymT; infer_instance
def DiaT (C : List (List Int)) (n : Nat) : Prop := ∀ i, i < n → (C.getD i []).getD i 0 = 0
instance decDiaT (C : List (List Int)) (n : Nat) : Decidable (DiaT C n) := by unfold DiaT; infer_instance
def RowT (C : List (List Int)) (n : Nat) : Prop := ∀ i, i < n → (C.getD i []).length = n
instance decRowT (C : List (List Int)) (n : Nat) : Decidable (RowT C n) := by unfold RowT; infer_instance
def IsTab (C : List (List Int)) (n : Nat) : Prop := C.length = n ∧ RowT C n ∧ DiaT C n ∧ OffT C n ∧ SymT C n
instance decIsTab (C : List (List Int)) (n : Nat) : Decidable (IsTab C n) := by unfold IsTab; infer_instance
def BrsT (B : List (List Int)) : Prop := ∀ i, i < B.length → IsBr (B.getD i [])
instance decBrsT (B : List (List Int)) : Decidable (BrsT B) := by unfold BrsT; infer_instance
def ShrT (B C : List (List Int)) : Prop := ∀ i, i < B.length → ∀ k, k < B.length → i ≠ k → Shr (codB (B.getD i [])) (codB (B.getD k [])) ((C.getD i []).getD k 0)
instance decShrT (B C : List (List Int)) : Decidable (ShrT B C) := by unfold ShrT; infer_instance
def Ult (C : List (List Int)) (i k j : Nat) : Prop := i ≠ k → j ≠ i → j ≠ k → min ((C.getD i []).getD j 0) ((C.getD j []).getD k 0) ≤ (C.getD i []).getD k 0
instance decUlt (C : List (List Int)) (i k j : Nat) : Decidable (Ult C i k j) := by unfold Ult; infer_instance
def UltT (C : List (List Int)) (n : Nat) : Prop := ∀ i, i < n → ∀ k, k < n → ∀ j, j < n → Ult C i k j
instance decUltT (C : List (List Int)) (n : Nat) : Decidable (UltT C n) := by unfold UltT; infer_instance
def IsCu (B C : List (List Int)) : Prop := (1 ≤ B.length ∧ B.length ≤ 6) ∧ IsTab C B.length ∧ BrsT B ∧ ShrT B C ∧ UltT C B.length
instance decIsCu (B C : List (List Int)) : Decidable (IsCu B C) := by unfold IsCu; infer_instance
end Go.Proofs.YtpdfadnpfmlfgaaGreatDoor
namespace Go.Pv
open Go.RowKit
section
variable {P : Program} {n : NN} {nid nx : Nat} {st : Nat → AV} {f : Fr} {X : Nat → Prop} {a : Act} {w : World} {ρ : Nat → Rho} {L : Nat → List Nat}
theorem Row.tail {v : Value} {us : List Value} {L0 : List Nat} (h : Row w v 1 us L0) {l : Nat} (hl : l ≤ us.length) :
  ∃ b cap, v = .slice b us.length cap ∧ us.length ≤ cap ∧ Row w (.slice (if cap = l then b else b.map (·.add (l * 1))) (us.length - l) (cap - l)) 1 (us.drop l) L0 := by
 rcases h with ⟨rfl, rfl, rfl⟩ | ⟨g, o, n0, cap, cur, e, rfl, k2, k3, k4, k5, k6, k7, rfl⟩
 ·have hl0 : l = 0 := by simpa using hl
  subst hl0
  exact ⟨none, 0, rfl, Nat.le_refl _, .inl ⟨by simp, by simp, rfl⟩⟩
 ·have hn : n0 = us.length := by omega
  subst hn
  refine ⟨_, cap, rfl, k4, ?_⟩
  by_cases hc : cap = l
  ·rw [if_pos hc]
   have hul : us.drop l = [] := List.drop_eq_nil_of_le (by omega)
   rw [hul]
   exact .inr ⟨g, o, us.length - l, cap - l, cur, e, rfl, k2, by simp; omega, by omega, by omega, by omega, by rw [show us.length - l = 0 by omega]; simp, rfl⟩
  ·rw [if_neg hc]
   refine .inr ⟨g, o + l, us.length - l, cap - l, cur, e, by simp only [Option.map_some, addr_off, Nat.mul_one], k2, by simp, by omega, by omega, by omega, ?_, rfl⟩
   have e1 : us.drop l = ((cur.toList.drop o).take (us.length * 1)).drop l := by rw [k7]
   rw [e1, List.drop_take, List.drop_drop, Nat.mul_one, Nat.mul_one]
theorem step_tail {d l : Nat} {j : Int} {k : IntKind} {s xlo : Operand} {T : TypeId} {li : List Int} {rd : List Nat} {up : List (Nat × AV)} {ty pos aft g} [hT : SliceTy P T 1] (h : Give st s rd (.sl true 1 (ints li)) up) (hlo : Lit st xlo (.int k j)) (hj : j = (l : Int)) (hl : l ≤ li.length) (hd : n d = true) :
  Step P n ⟨some d, .slice T s (some xlo) none none, ty, pos, aft, g⟩ nid st (rd ++ rdOf xlo) (up ++ [(d, .own nid (.sl true 1 (ints (li.drop l))))]) := by
 intro X st' hs hX f a w hn hrep K Q hK
 obtain ⟨ρ, L, hr⟩ := hrep
 subst hn
 have ek := Lit.eval hr (hlo.agree fun s hs' => hs s (by simp [hs']))
 obtain ⟨r, L', M1, hm, hv1⟩ := hr.toM.give (h.agree fun s hs' => hs s (by simp [hs']))
 rw [puts_append] at hK
 rw [List.nil_append] at hm
 simp only [RD] at hv1
 obtain ⟨e0, us, L0, L3, rfl, h1, h5⟩ := hv1
 obtain ⟨rfl, rfl⟩ := (rds_ints li _ _ _ _).1 h5
 have hlen : (iv li).length = li.length := by simp
 obtain ⟨b, cap, ev, hcap, hrow⟩ := h1.tail (l := l) (by rw [hlen]; exact hl)
 rw [hlen] at ev hcap hrow
 have hrun := run_slice_cut (P := P) (T := T) w b li.length cap l li.length (some (a.eval xlo)) none (.inr ⟨k, by rw [ek, hj]⟩) (.inl ⟨rfl, rfl⟩) hl (Nat.le_refl _) hcap
 refine wV_ (u := .slice (if cap = l then b else b.map (·.add (l * 1))) (li.length - l) (cap - l)) (w' := w) ?_ (hm.put_root hK hd hX _ w [] (by simp) (Keep.refl w) (fun _ => .slice (if cap = l then b else b.map (·.add (l * 1))) (li.length - l) (cap - l)) L0 ?_ ?_ (fun g hg => ⟨(hm.bound g (by simp [hg])).1, .inl (by simp [hg])⟩))
 ·simp only [execOp, ev, Option.map_some, Option.map_none, Sem.run_bind, hrun, Result.andThen_ok, Sem.run_pure]
 ·simp only [RD]
  exact ⟨trivial, _, L0, [], by simp, hrow, (rds_ints _ _ _ _ _).2 ⟨by simp [List.map_drop], rfl⟩⟩
 ·have := hm.nd
  simpa using this
end
end Go.Pv
namespace Go.Pv
open Go.RowKit
section
variable {P : Program} {n : NN} {nid nx : Nat} {st : Nat → AV} {f : Fr} {X : Nat → Prop} {a : Act} {w : World} {ρ : Nat → Rho} {L : Nat → List Nat}
theorem run_slice_head3 {T : TypeId} {sz : Nat} [hT : SliceTy P T sz] (w : World) (b : Option Addr) (len cap h : Nat) (k k' : IntKind)
  (h2 : h ≤ len) (h3 : len ≤ cap) : (Instr.sliceAt T (.slice b len cap) none (some (.int k (h : Int))) (some (.int k' (h : Int)))).run P w = .ok (.slice (if h = 0 then b else b.map (·.add 0)) h h) w := by
 obtain ⟨e, i, z, t1, t2, t3, _⟩ := hT.out
 have q1 : (0 : Int) ≤ (h : Int) := by omega
 have q2 : (h : Int) ≤ (cap : Int) := by omega
 have q3 : (len : Int) ≤ (cap : Int) := by omega
 simp [Instr.sliceAt, Instr.slice, run_underlying t1, Instr.sliceBounds, Instr.sliceBound, asIntOf, sizeOf, typeInfo, t2, t3, *]
 intro hh
 omega
theorem Row.head {v : Value} {us : List Value} {L0 : List Nat} (h : Row w v 1 us L0) {l : Nat} (hl : l ≤ us.length) :
  ∃ b cap, v = .slice b us.length cap ∧ us.length ≤ cap ∧ Row w (.slice (if l = 0 then b else b.map (·.add 0)) l l) 1 (us.take l) L0 := by
 rcases h with ⟨rfl, rfl, rfl⟩ | ⟨g, o, n0, cap, cur, e, rfl, k2, k3, k4, k5, k6, k7, rfl⟩
 ·have hl0 : l = 0 := by simpa using hl
  subst hl0
  exact ⟨none, 0, rfl, Nat.le_refl _, .inl ⟨by simp, by simp, rfl⟩⟩
 ·have hn : n0 = us.length := by omega
  subst hn
  refine ⟨_, cap, rfl, k4, ?_⟩
  have e0 : (if l = 0 then some (⟨g, o, none⟩ : Addr) else (some (⟨g, o, none⟩ : Addr)).map (·.add 0)) = some ⟨g, o, none⟩ := by
   simp only [Option.map_some, addr_off, Nat.add_zero, ite_self]
  rw [e0]
  refine .inr ⟨g, o, l, l, cur, e, rfl, k2, by simp; omega, Nat.le_refl _, by omega, by omega, ?_, rfl⟩
  rw [← k7, List.take_take, Nat.mul_one, Nat.mul_one, Nat.min_eq_left hl]
theorem step_head3 {d l : Nat} {j j' : Int} {k k' : IntKind} {s xhi xmx : Operand} {T : TypeId} {li : List Int} {rd : List Nat} {up : List (Nat × AV)} {ty pos aft g} [hT : SliceTy P T 1] (h : Give st s rd (.sl true 1 (ints li)) up) (hhi : Lit st xhi (.int k j)) (hmx : Lit st xmx (.int k' j')) (hj : j = (l : Int)) (hj' : j' = (l : Int)) (hl : l ≤ li.length) (hd : n d = true) :
  Step P n ⟨some d, .slice T s none (some xhi) (some xmx), ty, pos, aft, g⟩ nid st (rd ++ (rdOf xhi ++ rdOf xmx)) (up ++ [(d, .own nid (.sl true 1 (ints (li.take l))))]) := by
 intro X st' hs hX f a w hn hrep K Q hK
 obtain ⟨ρ, L, hr⟩ := hrep
 subst hn
 have ek := Lit.eval hr (hhi.agree fun s hs' => hs s (by simp [hs']))
 have ek' := Lit.eval hr (hmx.agree fun s hs' => hs s (by simp [hs']))
 obtain ⟨r, L', M1, hm, hv1⟩ := hr.toM.give (h.agree fun s hs' => hs s (by simp [hs']))
 rw [puts_append] at hK
 rw [List.nil_append] at hm
 simp only [RD] at hv1
 obtain ⟨e0, us, L0, L3, rfl, h1, h5⟩ := hv1
 obtain ⟨rfl, rfl⟩ := (rds_ints li _ _ _ _).1 h5
 have hlen : (iv li).length = li.length := by simp
 obtain ⟨b, cap, ev, hcap, hrow⟩ := h1.head (l := l) (by rw [hlen]; exact hl)
 rw [hlen] at ev hcap
 have hrun := run_slice_head3 (P := P) (T := T) w b li.length cap l k k' hl hcap
 refine wV_ (u := .slice (if l = 0 then b else b.map (·.add 0)) l l) (w' := w) ?_ (hm.put_root hK hd hX _ w [] (by simp) (Keep.refl w) (fun _ => .slice (if l = 0 then b else b.map (·.add 0)) l l) L0 ?_ ?_ (fun g hg => ⟨(hm.bound g (by simp [hg])).1, .inl (by simp [hg])⟩))
 ·simp only [execOp, ev, Option.map_some, Option.map_none, Sem.run_bind, ek, ek', hj, hj', hrun, Result.andThen_ok, Sem.run_pure]
 ·simp only [RD]
  exact ⟨trivial, _, L0, [], by simp, hrow, (rds_ints _ _ _ _ _).2 ⟨by simp [List.map_take], rfl⟩⟩
 ·have := hm.nd
  simpa using this
end
end Go.Pv
