/- Blowing vertices up, valences, numbers of components: both sides. No condition. -/
import Derived.Test.YtmgmpnhlehonmaaGreatLGvA
import Derived.Test.YtmgmpnhlehonmaaGreatLTy
import Derived.Test.YtmgmpnhlehonmaaGreatLPvT
import Derived.Test.YtmgmpnhlehonmaaGreatLPwD
import Derived.Test.YtmgmpnhlehonmaaGreatLPvX
import Derived.Test.YtmgmpnhlehonmaaGreatLGrP
import Derived.Test.YtmgmpnhlehonmaaGreatLPvR
import Derived.Test.YtmgmpnhlehonmaaGreatLPwM
import Derived.Test.YtmgmpnhlehonmaaGreatLGqD
import Derived.Test.YtmgmpnhlehonmaaGreatLGrM
set_option linter.unusedVariables false
set_option linter.unusedSimpArgs false
namespace Go.Proofs.YtmgmpnhlehonmaaGreat
set_option maxHeartbeats 20000000
open Go.Pv
open Go.ChangeShapes Go.WideShapes Go.ChangeAt Go.RowKit
attribute [local irreducible] RunU WpA Step CallG CallNG Done DoneN
theorem un_tail {l : List Int} (h : IsBr l) (n : Nat) : ∀ m j, m + j + 1 = l.length → ∃ T, seqL l (l.length - 1) = seqL l j ++ T ∧ UN (T ++ List.replicate n 1) ∧ (∀ x ∈ T ++ List.replicate n (1 : Int), 0 < x) ∧ Dn (divTo l (j + 1)) (T ++ List.replicate n 1) ∧ (∀ x, (T ++ List.replicate n (1 : Int)).head? = some x → x ≤ divTo l (j + 1))
 | 0, j, hm => by
  have hj : j = l.length - 1 := by omega
  refine ⟨[], by rw [hj]; simp, by simpa using un_ones n, fun x hx => ?_, by simpa using dn_ones _ n, fun x hx => ?_⟩
  ·have := List.eq_of_mem_replicate (by simpa using hx : x ∈ List.replicate n (1 : Int))
   omega
  ·have h1 := List.eq_of_mem_replicate (List.mem_of_mem_head? (by simpa using hx : (List.replicate n (1 : Int)).head? = some x))
   have h2 := h.2.2.2.2.2
   rw [show j + 1 = l.length by omega, h2]
   omega
 | m + 1, j, hm => by
  obtain ⟨T, e1, k1, k2, k3, k4⟩ := un_tail h n m (j + 1) (by omega)
  have hj : j + 1 < l.length := by omega
  have hr := run_nn h hj
  have hd := falls_two h hj
  have e0 : (divs l l.length).getD j 0 = divTo l (j + 1) := divs_at l l.length j (by omega)
  have hg : (Int.gcd (runK l j) (divTo l (j + 1)) : Int) = divTo l (j + 1 + 1) := by
   show _ = (Int.gcd (divTo l (j + 1)) (l.getD (j + 1) 0) : Int)
   rw [Int.gcd_comm (divTo l (j + 1))]
   unfold runK
   by_cases h0 : j = 0
   ·rw [if_pos h0, Int.sub_zero]
   ·rw [if_neg h0, Int.gcd_sub_right_left_of_dvd]
    rw [divTo]
    exact Int.gcd_dvd_right ..
  have es : seqL l (j + 1) = seqL l j ++ runL (stp (divTo l (j + 1)).toNat (runK l j) (divTo l (j + 1))) := by rw [seqL, e0]
  rw [es, List.append_assoc] at e1
  refine ⟨_, e1, ?_⟩
  rw [← hg] at k3 k4
  rw [List.append_assoc]
  generalize divTo l (j + 1) = e at *
  generalize runK l j = k at *
  by_cases hk : e ≤ k
  ·obtain ⟨q1, q2, q3, q4⟩ := un_steps k2 k1 e.toNat k e (by omega) hk (by omega) ⟨k3, k4⟩
   refine ⟨q1, q4, ?_, fun x hx => by rw [q3] at hx; injection hx; omega⟩
   generalize runL (stp e.toNat k e) ++ (T ++ List.replicate n 1) = L at *
   cases L with
   | nil => simp at q3
   | cons y L =>
    have : y = e := by simpa using q3
    exact dn_same (fun x hx => q4 x (by simp [hx])) (by omega)
  ·have e2 : runL (stp e.toNat k e) = runL (stp (e.toNat - 1) e k) := by
    obtain ⟨f, hf⟩ : ∃ f, e.toNat = f + 1 := ⟨e.toNat - 1, by omega⟩
    rw [hf, stp, if_pos (by omega), runL_cons, Int.ediv_eq_zero_of_lt (by omega) (by omega), Int.emod_eq_of_lt (by omega) (by omega)]
    rfl
   rw [Int.gcd_comm] at k3 k4
   obtain ⟨q1, q2, q3, q4⟩ := un_steps k2 k1 (e.toNat - 1) e k (by omega) (by omega) (by omega) ⟨k3, k4⟩
   rw [e2]
   exact ⟨q1, q4, q2, fun x hx => by rw [q3] at hx; injection hx; omega⟩
theorem un_seq {l : List Int} (h : IsBr l) (n : Nat) : UN (seqI l ++ List.replicate n 1) ∧ ∀ x ∈ seqI l ++ List.replicate n (1 : Int), 0 < x := by
 unfold seqI
 split
 ·refine ⟨un_ones (n + 1), fun x hx => ?_⟩
  have := List.eq_of_mem_replicate (show x ∈ List.replicate (n + 1) (1 : Int) from hx)
  omega
 ·obtain ⟨T, e1, k1, k2, _⟩ := un_tail h n (l.length - 1) 0 (by have := h.1; omega)
  rw [show seqL l 0 = [] from rfl, List.nil_append] at e1
  rw [e1]
  exact ⟨k1, k2⟩
theorem UN.pre : ∀ {A B : List Int}, UN (A ++ B) → UN A
 | [], _, _ => trivial
 | p :: A, B, h => by
  obtain ⟨⟨h1, h2⟩, h3⟩ := h
  refine ⟨⟨fun X p' c d Y e hlt => h1 X p' c d (Y ++ B) (by rw [e]; simp) hlt, fun x hx => h2 x ?_⟩, UN.pre h3⟩
  cases A with
  | nil => simp at hx
  | cons y A => simpa using hx
def mulK (l : List Int) (k : Nat) : List Int := (seqI l ++ List.replicate k 1).take k
theorem mulK_len (l : List Int) (k : Nat) : (mulK l k).length = k := by unfold mulK; simp
theorem mulK_un {l : List Int} (h : IsBr l) (k : Nat) : UN (mulK l k) ∧ ∀ x ∈ mulK l k, 0 < x := by
 obtain ⟨h1, h2⟩ := un_seq h k
 unfold mulK
 exact ⟨UN.pre (by rw [List.take_append_drop]; exact h1), fun x hx => h2 x (List.mem_of_mem_take hx)⟩
def sumB (m : List Int) (i j : Nat) : Int := sumI ((m.drop (i + 1)).take (j - i))
theorem sumB_step (m : List Int) {i j : Nat} (h : i ≤ j) (hj : j + 1 < m.length) : sumB m i (j + 1) = sumB m i j + m.getD (j + 1) 0 := by
 unfold sumB
 rw [show j + 1 - i = (j - i) + 1 by omega, List.take_add_one, sumI_app]
 have : (m.drop (i + 1))[j - i]? = some (m.getD (j + 1) 0) := by
  rw [List.getElem?_drop, show i + 1 + (j - i) = j + 1 by omega, List.getElem?_eq_getElem hj]
  simp [List.getD, hj]
 rw [this]
 simp [sumI]
theorem sumB_self (m : List Int) (i : Nat) : sumB m i i = 0 := by unfold sumB; simp [sumI]
theorem sumB_mono {m : List Int} (hp : ∀ x ∈ m, 0 < x) {i j k : Nat} (h : j ≤ k) : sumB m i j ≤ sumB m i k := sumI_take (fun x hx => hp x (List.mem_of_mem_drop hx)) (by omega)
def prxB (m : List Int) (i j : Nat) : Bool := decide (i < j ∧ sumB m i j ≤ m.getD i 0)
def codT (m : List Int) (j : Nat) : Nat → Int
 | 0 => 0
 | n + 1 => if n + 1 < j ∧ prxB m n j = true then (j : Int) - n else codT m j n
theorem codT_late {m : List Int} {j : Nat} : ∀ {n : Nat}, j ≤ n + 1 → codT m j n = codT m j (j - 1)
 | 0, h => by
  have : j - 1 = 0 := by omega
  rw [this]
 | n + 1, h => by
  by_cases e : j = n + 2
  ·subst e; rfl
  ·rw [codT, if_neg (by omega)]
   exact codT_late (by omega)
theorem prx_over {m : List Int} (hp : ∀ x ∈ m, 0 < x) {i j : Nat} (h : m.getD i 0 < sumB m i j) : ∀ x, j ≤ x → x < m.length → prxB m i x = false := fun x hx _ => by
 have := sumB_mono hp (i := i) hx
 exact decide_eq_false fun q => by omega
def cdL (m : List Int) : List Int := (List.range (m.length - 1)).map fun t : Nat => codT m (t + 1) (t + 1)
theorem cdL_len (m : List Int) : (cdL m).length = m.length - 1 := by simp [cdL]
def cdN (m : List Int) (i j : Nat) : List Int := (List.range (m.length - 1)).map fun t : Nat => if t + 1 < j then codT m (t + 1) (i + 1) else codT m (t + 1) i
def cdM (m : List Int) (i : Nat) : List Int := (List.range (m.length - 1)).map fun t : Nat => codT m (t + 1) i
theorem cdN_len (m : List Int) (i j : Nat) : (cdN m i j).length = m.length - 1 := by simp [cdN]
theorem cdM_len (m : List Int) (i : Nat) : (cdM m i).length = m.length - 1 := by simp [cdM]
theorem cdM_zero (m : List Int) : cdM m 0 = List.replicate (m.length - 1) 0 := by
 unfold cdM
 rw [show List.replicate (m.length - 1) (0 : Int) = (List.range (m.length - 1)).map fun _ => 0 by simp [List.map_const']]
 exact List.map_congr_left fun _ _ => rfl
theorem cdM_last (m : List Int) : cdM m m.length = cdL m := by
 refine List.map_congr_left fun t ht => ?_
 have ht : t < m.length - 1 := by simpa using ht
 rw [codT_late (n := m.length) (by omega), codT_late (n := t + 1) (by omega)]
theorem cdN_start (m : List Int) (i : Nat) : cdN m i (i + 2) = cdM m i := by
 refine List.map_congr_left fun t _ => ?_
 by_cases h : t + 1 < i + 2
 ·rw [if_pos h, codT, if_neg (by omega)]
 ·rw [if_neg h]
theorem cdN_start1 (m : List Int) (i : Nat) : cdN m i (i + 1) = cdM m i := by
 refine List.map_congr_left fun t _ => ?_
 by_cases h : t + 1 < i + 1
 ·rw [if_pos h, codT, if_neg (by omega)]
 ·rw [if_neg h]
theorem cdN_end (m : List Int) (i : Nat) {j : Nat} (h : ∀ x, j ≤ x → x < m.length → prxB m i x = false) : cdN m i j = cdM m (i + 1) := by
 refine List.map_congr_left fun t ht => ?_
 have ht : t < m.length - 1 := by simpa using ht
 by_cases hj : t + 1 < j
 ·rw [if_pos hj]
 ·rw [if_neg hj, codT, if_neg (by rw [h (t + 1) (by omega) (by omega)]; simp)]
theorem cdN_step {m : List Int} {i j : Nat} (hi : i + 1 < j) (hj : j < m.length) (h : prxB m i j = true) : (cdN m i j).set (j - 1) ((j : Int) - i) = cdN m i (j + 1) := by
 refine List.ext_getElem (by simp [cdN_len]) fun k h1 h2 => ?_
 have hk : k < m.length - 1 := by rw [List.length_set, cdN_len] at h1; exact h1
 rw [List.getElem_set]
 simp only [cdN, List.getElem_map, List.getElem_range]
 by_cases e : j - 1 = k
 ·subst e
  rw [if_pos rfl, if_pos (by omega), codT, show j - 1 + 1 = j by omega, if_pos ⟨hi, h⟩]
 ·rw [if_neg e]
  by_cases h3 : k + 1 < j
  ·rw [if_pos h3, if_pos (by omega)]
  ·rw [if_neg h3, if_neg (by omega)]
theorem cdN_near (m : List Int) (i : Nat) : cdN m i (i + 1 + 1) = cdN m i (i + 1) := by rw [cdN_start, cdN_start1]
attribute [local irreducible] decStrict decFalls decIsBr decWithin Strict Falls IsBr Within
abbrev vQJ (x : Int) : AV := .c (.lit (.int .i64 x))
theorem tmsQ_br {l : List Int} (h : IsBr l) : Tms l := by
 have h1 := (isBr_iff l).1 h
 obtain ⟨p, q, r, _⟩ := h1
 have hb : ∀ i, i < l.length → 0 ≤ l.getD i 0 ∧ l.getD i 0 ≤ 2000 := fun i => by
  induction i with
  | zero => intro _; omega
  | succ i ih =>
   intro hi
   have h2 := ih (by omega)
   have h3 := (r (i + 1) hi (by omega)).1
   rw [Nat.add_sub_cancel] at h3
   omega
 refine ⟨⟨by omega, ?_⟩, fun i => ?_, fun i hi => ?_, by omega⟩
 ·have hdn : ∀ j, j < l.length → divTo l (j + 1) ≤ 64 - j := fun j => by
   induction j with
   | zero =>
    intro _
    have : divTo l (0 + 1) = l.getD 0 0 := divTo_one (by omega)
    omega
   | succ j ih =>
    intro hj
    have h2 := ih (by omega)
    have h3 := (r (j + 1) hj (by omega)).2
    have h4 := divTo_down (l := l) (by omega) j
    omega
  have h5 := hdn (l.length - 1) (by omega)
  have h6 := divTo_ge (l := l) (by omega) (l.length - 1)
  omega
 ·by_cases hi : i < l.length
  ·exact hb i hi
  ·rw [List.getD_eq_getElem?_getD, List.getElem?_eq_none (by omega)]; simp
 ·have h3 := (r (i + 1) hi (by omega)).1
  rw [Nat.add_sub_cancel] at h3
  omega
theorem sumI_le {B : Int} : ∀ {l : List Int}, (∀ x ∈ l, x ≤ B) → sumI l ≤ B * l.length
 | [], _ => by simp [sumI]
 | x :: l, h => by
  have h1 := h x (by simp)
  have h2 := sumI_le (l := l) fun y hy => h y (by simp [hy])
  have e : B * ((x :: l).length : Int) = B * l.length + B := by
   simp only [List.length_cons, Int.natCast_add, Int.mul_add]
   simp
  rw [e, sumI]
  omega
theorem sumB_in {m : List Int} (hp : ∀ x ∈ m, 0 < x) (hb : ∀ x ∈ m, x ≤ 4000) (hm : m.length ≤ 1000) (i j : Nat) : 0 ≤ sumB m i j ∧ sumB m i j ≤ 4000000 := by
 unfold sumB
 have h1 := sumI_pos (l := (m.drop (i + 1)).take (j - i)) fun x hx => hp x (List.mem_of_mem_drop (List.mem_of_mem_take hx))
 have h2 := sumI_le (B := 4000) (l := (m.drop (i + 1)).take (j - i)) fun x hx => hb x (List.mem_of_mem_drop (List.mem_of_mem_take hx))
 have h3 : ((m.drop (i + 1)).take (j - i)).length ≤ 1000 := by
  rw [List.length_take, List.length_drop]; omega
 omega
end Go.Proofs.YtmgmpnhlehonmaaGreat
namespace Go.Proofs.YtmgmpnhlehonmaaGreat
set_option maxHeartbeats 20000000
open Go.Pv
open Go.ChangeShapes Go.WideShapes Go.ChangeAt Go.RowKit
attribute [local irreducible] RunU WpA Step CallG CallNG Done DoneN
attribute [local irreducible] decStrict decFalls decIsBr decWithin Strict Falls IsBr Within
theorem mulK_le {l : List Int} (h : IsBr l) (k : Nat) : ∀ x ∈ mulK l k, x ≤ 4000 := fun x hx => by
 unfold mulK at hx
 rcases List.mem_append.1 (List.mem_of_mem_take hx) with h1 | h1
 ·obtain ⟨i, hi, rfl⟩ := List.mem_iff_getElem.1 h1
  have := (seqI_ok (tmsQ_br h)).2 i
  have e : (seqI l).getD i 0 = (seqI l)[i] := by simp [List.getD, hi]
  omega
 ·have := List.eq_of_mem_replicate h1
  omega
end Go.Proofs.YtmgmpnhlehonmaaGreat
namespace Go.Proofs.YtmgmpnhlehonmaaGreat
set_option maxHeartbeats 20000000
open Go.Pv
open Go.ChangeShapes Go.WideShapes Go.ChangeAt Go.RowKit
attribute [local irreducible] RunU WpA Step CallG CallNG Done DoneN
attribute [local irreducible] decStrict decFalls decIsBr decWithin Strict Falls IsBr Within
abbrev vLL (L : List (List Int)) : AV := .c (.sl false 1 (LLs L))
end Go.Proofs.YtmgmpnhlehonmaaGreat
namespace Go.Proofs.YtmgmpnhlehonmaaGreat
set_option maxHeartbeats 20000000
open Go.Pv
open Go.ChangeShapes Go.WideShapes Go.ChangeAt Go.RowKit
attribute [local irreducible] RunU WpA Step CallG CallNG Done DoneN
instance fnOk179 : FnOk Tryz.prog 179 := ⟨_, Tryz.func179, rfl, by decide⟩
end Go.Proofs.YtmgmpnhlehonmaaGreat
namespace Go.Pv
open Go.RowKit
section
variable {P : Program} {n : NN} {nid nx : Nat} {st : Nat → AV} {f : Fr} {X : Nat → Prop} {a : Act} {w : World} {ρ : Nat → Rho} {L : Nat → List Nat}
theorem step_make0 {d sz : Nat} {T : TypeId} {x y : Operand} {k k' : IntKind} {i' : Int} {ty pos aft g} [hT : SliceTy P T sz] (hx : Lit st x (.int k 0)) (hy : Lit st y (.int k' i')) (h0 : 0 ≤ i') (hm : i' ≤ 1099511627776) (hd : n d = true) :
  Step P n ⟨some d, .makeSlice T x y, ty, pos, aft, g⟩ nid st (rdOf x ++ rdOf y) [(d, .own nid (.sl true sz []))] := by
 intro X st' hs hX f a w hn hrep K Q hK
 obtain ⟨ρ, L, hr⟩ := hrep
 subst hn
 obtain ⟨e, i, z, t1, t2, t3, t4, t5, t6, t7, t8⟩ := hT.out
 have ex := Lit.eval hr (hx.agree fun s h => hs s (by simp [h]))
 have ey := Lit.eval hr (hy.agree fun s h => hs s (by simp [h]))
 have hb : (i.bytes : Int) * i' ≤ 281474976710656 := by
  have h1 : (i.bytes : Int) * i' ≤ 128 * i' := Int.mul_le_mul_of_nonneg_right (by omega) h0
  omega
 have hrun := run_make (P := P) w T e i z t1 t2 t7 k k' 0 i' (by omega) h0 hb (by omega)
 rw [t3] at hrun
 refine wV_ (u := .slice (some ⟨w.heap.size, 0, none⟩) (0 : Int).toNat i'.toNat) (w' := w.alloc (.cells (madeCells z.cells (i'.toNat * sz)) e)) ?_
  (hr.done_new hK hd hX _ _ (Keep.alloc w _) (fun _ => .slice (some ⟨w.heap.size, 0, none⟩) (0 : Int).toNat i'.toNat) [w.heap.size] ?_ (by simp) (by simp))
 ·simp only [execOp, ex, ey, Sem.run_bind, hrun, Result.andThen_ok, Sem.run_pure]
 ·simp only [RD]
  refine ⟨trivial, [], [w.heap.size], [], by simp, .inr ⟨w.heap.size, 0, 0, i'.toNat, madeCells z.cells (i'.toNat * sz), e, rfl, alloc_new w _, by simp, Nat.zero_le _, by unfold maxLen; omega, ?_, by simp, rfl⟩, by simp [RDs]⟩
  rw [size_madeCells]
  omega
end
end Go.Pv
namespace Go.Proofs.YtmgmpnhlehonmaaGreat
set_option maxRecDepth 100000
set_option maxHeartbeats 20000000
open Go.Pv
open Go.ChangeShapes Go.WideShapes Go.ChangeAt Go.RowKit
attribute [local irreducible] RunU WpA Step CallG CallNG Done DoneN
theorem take_LL (L : List (List Int)) {j : Nat} (h : j < L.length) : L.take j ++ [L.getD (j * 1) []] = L.take (j + 1) := by
 rw [Nat.mul_one, List.take_add_one, List.getElem?_eq_getElem h]
 simp [List.getD, h]
theorem copyLists_c (L : List (List Int)) (hL : L.length ≤ 1000) (hl : ∀ i, (L.getD i []).length ≤ 1000) : CallA Tryz.prog 179 [aLL L] [rLL L] [] := by
 refine cA_ _ Tryz.func179 rfl Tryz.ntmps179 sO_ ?_
 repeat' (first | (refine Two.mk ?_ ?_ <;> intro _) | (guard_target =~ IsN; first | refine RunU.cons (step_make0 xR_ rfl (by omega) (by omega) rfl) ?_) | refine goA ?_ | (refine neA ?_; first | refine nxA ?_ | refine Done.ret (.one rA_ .nil) (.sh .nil) ?_ rfl) | fail)
 all_goals try (exfalso; omega)
 refine WpA.loop_slots2 (fun j i3 => [(3, .own i3 (.sl true 1 (LL (L.take j)))), (9, vLL L), (10, vQJ L.length), (11, vQJ j)]) (fun j => j ≤ L.length) (fun j => L.length - j) 0 _ (by omega) ⟨xR_, rfl, rfl, rfl, trivial⟩ ?_
 intro j i3 s nx hj
 have hlj := hl (j * 1)
 have htl : (L.take j).length = j := by rw [List.length_take]; omega
 by_cases hlt : j < L.length
 ·have e := take_LL L hlt
  have hC := clone_c (L.getD (j * 1) []) (by omega)
  generalize hA2 : L.take (j + 1) = A2 at *
  generalize L.take j = A at *
  clear hl
  repeat' (first | (refine Two.mk ?_ ?_ <;> intro _) | (guard_target =~ CallN_; first | refine RunU.cons (sC_ (hC) (.sh .nil) (.sh wS_ .nil) rfl) ?_) | refine goA ?_ | (refine neA ?_; first | refine nxA ?_ | refine Done.ret (.one rA_ .nil) (.sh .nil) ?_ rfl) | fail)
  all_goals try (exfalso; omega)
  all_goals exact ⟨j + 1, by omega, ⟨_, by exact own_LL (e.trans hA2.symm), rfl, rfl, int_eq (by omega), trivial⟩, by omega⟩
 ·obtain rfl : j = L.length := by omega
  rw [List.take_length]
  clear hl
  repeat' (first | (refine Two.mk ?_ ?_ <;> intro _) | refine goA ?_ | (refine neA ?_; first | refine nxA ?_ | refine Done.ret (.one rA_ .nil) (.sh .nil) ?_ rfl) | fail)
  all_goals first | rfl | (exfalso; omega)
open Go.Sort Go.Lib
instance fnOk180 : FnOk Tryz.prog 180 := ⟨_, Tryz.func180, rfl, by decide⟩
instance fnOk181 : FnOk Tryz.prog 181 := ⟨_, Tryz.func181, rfl, by decide⟩
instance fnOk160 : FnOk Tryz.prog 160 := ⟨_, Tryz.func160, rfl, by decide⟩
instance fnOk159 : FnOk Tryz.prog 159 := ⟨_, Tryz.func159, rfl, by decide⟩
theorem cmpEd_c (a b : List Int) (ha : a.length ≤ 1000000000) (hb : b.length ≤ 1000000000) : CallA Tryz.prog 181 [aL a, aL b] [rI (lexC a b)] [] := by
 have h := compare_c a b ha hb
 generalize lexC a b = q at *
 refine cA_ _ Tryz.func181 rfl Tryz.ntmps181 sO_ ?_
 repeat' (first | (refine Two.mk ?_ ?_ <;> intro _) | (guard_target =~ CallN_; first | refine RunU.cons (sC_ (h) (.sh (.sh .nil)) (.sh wS_ (.sh wS_ .nil)) rfl) ?_) | refine goA ?_ | (refine neA ?_; first | refine nxA ?_ | refine Done.ret (.one rA_ .nil) (.sh (.sh .nil)) ?_ rfl) | fail)
 all_goals rfl
theorem pr2_len {e : List Int} (h : Pr2 e) : e.length = 2 := by obtain ⟨a, b, rfl⟩ := h; rfl
theorem lexC_neg {e f : List Int} (he : Pr2 e) (hf : Pr2 f) : lexC e f < 0 ↔ 0 < lexC f e := by
 obtain ⟨a, b, rfl⟩ := he; obtain ⟨c, d, rfl⟩ := hf
 simp only [lexC]
 by_cases h1 : a < c
 ·simp [h1, show ¬ c < a by omega]
 ·by_cases h2 : c < a
  ·simp [h1, h2]
  ·by_cases h3 : b < d
   ·simp [h1, h2, h3, show ¬ d < b by omega]
   ·by_cases h4 : d < b
    ·simp [h1, h2, h3, h4]
    ·simp [h1, h2, h3, h4]
theorem swoEd {α : Type} (key : α → List Int) (hk : ∀ q, Pr2 (key q)) : SWO (Go.Proofs.ltOf fun x y : α => lexC (key x) (key y)) where
 irrefl x := by
  have := ltE_irr (hk x)
  simp only [Go.Proofs.ltOf, decide_eq_false_iff_not]
  exact this
 trans x y z h1 h2 := by
  simp only [Go.Proofs.ltOf, decide_eq_true_eq] at *
  exact ltE_trans (hk x) (hk y) (hk z) h1 h2
 ntrans x y z h1 h2 := by
  simp only [Go.Proofs.ltOf, decide_eq_false_iff_not] at *
  intro h3
  by_cases e : key x = key y
  ·rw [e] at h3; exact h2 h3
  ·have h4 := ltE_total (hk x) (hk y) h1 e
   exact h2 (ltE_trans (hk y) (hk x) (hk z) h4 h3)
theorem row_arg {F : Nat → Prop} {w : World} {u : Value} {r : List Int} (h : ShRow F w u 1 (iv r)) : ArgR F w (.sh (.one (.sl false 1 (ints r)))) u [] := by
 simp only [ArgR, VR]
 refine ⟨trivial, fun _ => undef, ?_⟩
 simp only [RD]
 exact ⟨trivial, iv r, h, (rds_ints r _ _ _ _).2 ⟨rfl, rfl⟩⟩
theorem keep_sortW1 {w : World} {g : Nat} {ety : TypeId} {cur : Array Value} {α : Type} [Inhabited α] {enc : α → Value} {m o : Nat} {dk : Array α} {os : Array Obj} (hg : g < w.heap.size) : Keep w [g] (sortWorld enc w g o m dk os) := by
 refine ⟨rfl, rfl, rfl, ?_, fun b hb hbM => ?_, ?_⟩
 ·simp [sortWorld, grow, putRow, mapBlock, Go.Sort.ahead]
 ·unfold Same sortWorld
  rw [heap_grow_old _ _ (by simpa [putRow, mapBlock, Go.Sort.ahead] using hb)]
  have : g ≠ b := by rintro rfl; exact hbM (by simp)
  simp [putRow, mapBlock, Go.Sort.ahead, Array.getElem?_modify, this]
 ·simp [sortWorld, grow, putRow, mapBlock, Go.Sort.ahead]
theorem sortEd_c (R T : List (List Int)) (hl : R.length ≤ 1000000000) (hT : ∀ r ∈ R, Pr2 r) (hTR : T.Perm R) (hTs : T.Pairwise fun a b => 0 ≤ lexC b a) :
  CallA Tryz.prog 180 [.io (.sl true 1 (LL R)), .sh (.one (.fn 181 []))] [] [.sl true 1 (LL T)] := by
 unfold CallA CallG
 intro w vs M F hF hargs hnd hM
 simp only [ArgsR, ArgR, VR, RD, RDs] at hargs
 obtain ⟨v, us0, L1, L2, rfl, rfl, ⟨r1, ev, us, L0, Lp, rfl, hrow, hrds⟩, fv, us1, L3, L4, rfl, rfl, ⟨rfl, r2, _, usc, rfl, rfl, _⟩, rfl, rfl⟩ := hargs
 simp only [List.append_nil] at hnd hM hF
 obtain ⟨τ, e1, rfl, hpool⟩ := rds_pool R _ _ _ _ hrds
 obtain ⟨A, rfl⟩ := pool_rvs hpool
 have hA1 : (A.map RV.pr).map Prod.fst = A.map RV.v := by rw [List.map_map]; rfl
 have hA2 : rowsOf A = R := by rw [← e1, List.map_map]; rfl
 rw [hA1] at hrow
 have hlen : A.length = R.length := by rw [← hA2]; simp [rowsOf]
 by_cases hA : A = []
 ·subst hA
  have hR : R = [] := by rw [← hA2]; rfl
  subst hR
  have hT0 : T = [] := List.perm_nil.1 hTR
  subst hT0
  have hv : ∃ p c, v = .slice p 0 c := by
   rcases hrow with ⟨e, _, _⟩ | ⟨gb, o, n, cap, cur, ety, e, h2, h3, _⟩
   ·exact ⟨_, _, e⟩
   ·have : n = 0 := by simpa using h3
    subst this
    exact ⟨_, _, e⟩
  obtain ⟨p, c, hv⟩ := hv
  have hc := AnyF.slices_SortFunc_none sortEd0 p c (.func (.func 181) #[] #[]) w
  rw [hv]
  refine hc.mono ?_
  rintro e w' ⟨rfl, rfl⟩
  refine ⟨[], [], L0 ++ Lp, rfl, ⟨rfl, rfl, rfl, Nat.le_refl _, fun _ _ _ => rfl, Nat.le_refl _⟩, by simp [VRs], ?_, by simpa using hnd, fun g hg => ⟨hM g (by simpa using hg), .inl (by simpa using hg)⟩⟩
  simp only [OutsR]
  refine ⟨_, _, _, [], r1, L0 ++ Lp, [], rfl, rfl, by simp, ?_, _, _, rfl, rfl, rfl⟩
  simp only [RD]
  cases hpool
  refine ⟨by rw [← hv]; exact ev, [], L0, [], rfl, by rw [← hv]; exact hrow, by simp [RDs]⟩
 ·have hpos : 0 < A.length := by
   rcases Nat.eq_zero_or_pos A.length with h | h
   ·exact absurd (List.eq_nil_of_length_eq_zero h) hA
   ·exact h
  rcases hrow with ⟨_, e0, _⟩ | ⟨gb, o, n, cap, cur, ety, rfl, h2, h3, h4, h5, h6, h7, rfl⟩
  ·exact absurd (by simpa using e0) hA
  have hn : n = A.length := by rw [List.length_map] at h3; omega
  subst hn
  have hgb : gb < w.heap.size := hM gb (by simp)
  have hgp : gb ∉ Lp := fun h => by simp only [List.singleton_append, List.nodup_cons] at hnd; exact hnd.1 h
  have hpl : ∀ g ∈ Lp, g < w.heap.size := fun g hg => hM g (by simp [hg])
  have hndp : Lp.Nodup := by simp only [List.singleton_append, List.nodup_cons] at hnd; exact hnd.2
  let inst : Inhabited { q : RV // q ∈ A } := ⟨⟨A[0], List.getElem_mem hpos⟩⟩
  let d : Array { q : RV // q ∈ A } := A.attach.toArray
  have hds : d.size = A.length := by simp [d]
  let enc : { q : RV // q ∈ A } → Value := fun q => q.1.v
  have hfl : d.toList.map enc = A.map RV.v := by
   simp only [d, enc]
   rw [← List.attach_map_subtype_val A]
   simp [List.map_map]
  have hcurA : ∀ j, j < A.length → cur[o + j]? = (A.map RV.v)[j]? := fun j hj => by
   rw [← h7, List.getElem?_take_of_lt (by omega), List.getElem?_drop]; simp
  have hH : Holds enc w gb o d := by
   intro j hj
   rw [hds] at hj
   constructor
   ·rw [cell_of_row w gb (o + j) cur ety (0, 0) h2, hcurA j hj, ← hfl, List.getElem?_map]
    simp [hj, hds]
   ·simp [World.frozen?, h2]
  have hcmp : CmpLays1 Tryz.prog 181 #[] enc (fun x y => lexC x.1.r y.1.r) gb o d.size w := by
   intro m os dk hdk x y
   have hk : Keep w [gb] (sortWorld enc w gb o m dk os) := keep_sortW1 (ety := ety) (cur := cur) hgb
   generalize sortWorld enc w gb o m dk os = W at *
   have hpW : Pool W (A.map RV.pr) Lp := hpool.same fun g hg => hk.block g (hpl g hg) (by simp only [List.mem_singleton]; rintro rfl; exact hgp hg)
   have hsh := hpW.sh (fun g hg => Nat.lt_of_lt_of_le (hpl g hg) hk.size)
   have hx := hsh x.1.pr (List.mem_map.2 ⟨x.1, x.2, rfl⟩)
   have hy := hsh y.1.pr (List.mem_map.2 ⟨y.1, y.2, rfl⟩)
   have tx := hT x.1.r (by rw [← hA2]; exact List.mem_map.2 ⟨x.1, x.2, rfl⟩)
   have ty := hT y.1.r (by rw [← hA2]; exact List.mem_map.2 ⟨y.1, y.2, rfl⟩)
   have := CallA.plain (cmpEd_c x.1.r y.1.r (by rw [pr2_len tx]; decide) (by rw [pr2_len ty]; decide)) (w := W) (vs := [x.1.v, y.1.v]) (by
    simp only [ArgsR]
    exact ⟨_, _, [], [], rfl, rfl, row_arg hx, _, _, [], [], rfl, rfl, row_arg hy, rfl, rfl⟩)
   refine Calls.mono (by simpa [enc] using this) ?_
   rintro e w' ⟨rfl, hk'⟩
   exact ⟨rfl, hk'.grown⟩
  have hcon := Any.slices_SortFunc sortEd enc (fun x => x.1.one) (fun x y => lexC x.1.r y.1.r) (swoEd (fun q : { q : RV // q ∈ A } => q.1.r) fun q => hT q.1.r (by rw [← hA2]; exact List.mem_map.2 ⟨q.1, q.2, rfl⟩)) 181 #[] gb o cap d w
   (enters_of Tryz.func181 (by kernel_rfl) rfl) hcmp hH hgb (by omega)
  rw [hds] at hcon
  refine hcon.mono ?_
  rintro e' w' ⟨rfl, d', q, os, hperm, hsort, rfl⟩
  have hd's : d'.size = A.length := by rw [hperm.1, hds]
  have hk : Keep w [gb] (sortWorld enc w gb o q d' os) := keep_sortW1 (ety := ety) (cur := cur) hgb
  have hpl2 : d'.toList.Perm d.toList := by
   have := hperm.2.2
   rw [Array.extract_eq_self_of_le (by omega), Array.extract_eq_self_of_le (by omega)] at this
   exact this
  obtain ⟨B, hB⟩ : ∃ B, B = d'.toList.map Subtype.val := ⟨_, rfl⟩
  have hBA : B.Perm A := by
   rw [hB]
   refine (hpl2.map Subtype.val).trans ?_
   simp only [d]
   rw [List.attach_map_subtype_val]
  have hBR : rowsOf B = T := by
   have hp1 : (rowsOf B).Perm T := by
    have h1 : (rowsOf B).Perm (rowsOf A) := hBA.map RV.r
    rw [hA2] at h1
    exact h1.trans hTR.symm
   have hs1 : (rowsOf B).Pairwise fun a b => 0 ≤ lexC b a := by
    rw [List.pairwise_iff_getElem]
    intro i j hi hj hij
    have hBl : (rowsOf B).length = A.length := by rw [hB]; simp [rowsOf, hd's]
    have := hsort i j (Nat.zero_le _) hij (by omega)
    simp only [Go.Proofs.ltOf, decide_eq_false_iff_not] at this
    rw [getElem!_pos d' i (by omega), getElem!_pos d' j (by omega)] at this
    have ei : (rowsOf B)[i] = d'[i].1.r := by simp [rowsOf, hB]
    have ej : (rowsOf B)[j] = d'[j].1.r := by simp [rowsOf, hB]
    rw [ei, ej]
    omega
   have hpr : ∀ r ∈ T, Pr2 r := fun r hr => hT r (hTR.mem_iff.1 hr)
   refine List.Perm.eq_of_pairwise (fun a b ha hb h1 h2 => ?_) hs1 hTs hp1
   refine Classical.byContradiction fun hne => ?_
   have := ltE_total (hpr a (hp1.mem_iff.1 ha)) (hpr b hb) (fun q => by unfold ltE at q; omega) hne
   unfold ltE at this
   omega
  have hfl2 : d'.toList.map enc = B.map RV.v := by
   rw [hB, List.map_map]
   rfl
  have hBl : B.length = A.length := hBA.length_eq
  have hb : (sortWorld enc w gb o q d' os).heap[gb]? = some (.cells (putCells enc o d' cur) ety (0, 0)) := by
   unfold sortWorld
   rw [heap_grow_old _ _ (by simpa [putRow, mapBlock, Go.Sort.ahead] using hgb)]
   simp [putRow, mapBlock, Go.Sort.ahead, Array.getElem?_modify, h2, onCells]
  generalize sortWorld enc w gb o q d' os = w' at *
  have hpool' : Pool w' (A.map RV.pr) Lp := hpool.same fun g hg => hk.block g (hpl g hg) (by simp only [List.mem_singleton]; rintro rfl; exact hgp hg)
  obtain ⟨Lq, hpq, hperm2⟩ := hpool'.perm (hBA.symm.map RV.pr)
  have hmix : Mixd (vals B) (B.map RV.pr) (rowsOf B) := by
   have := Mixd.lits (B.map RV.pr)
   rw [List.map_map, List.map_map, List.map_map] at this
   exact this
  have hrow2 : RD (Res true F) w' (.sl true 1 (vals B)) (fun _ => .slice (some ⟨gb, o, none⟩) A.length cap) (.slice (some ⟨gb, o, none⟩) A.length cap) [gb] := by
   simp only [RD]
   refine ⟨trivial, B.map RV.v, [gb], [], rfl, .inr ⟨gb, o, A.length, cap, _, ety, rfl, hb, by simp [hBl], h4, h5, by simp [putCells]; omega, ?_, rfl⟩, RDs_of_rv B _ _⟩
   apply List.ext_getElem?
   intro j
   rw [List.getElem?_take]
   by_cases hj : j < A.length
   ·rw [if_pos (by omega), List.getElem?_drop]
    have hq : (d'.toList.map enc)[j]? = (B.map RV.v)[j]? := by rw [hfl2]
    simp only [putCells, Array.getElem?_toList, Array.getElem?_mapIdx]
    rw [Array.getElem?_eq_getElem (by omega), ← hq, List.getElem?_map]
    simp [hd's, hj]
   ·rw [if_neg (by omega), List.getElem?_eq_none (by simp; omega)]
  obtain ⟨rz, Lz, hrd, hpz⟩ := rd_close (F' := Res true F) hrow2 hpq hmix
  rw [hBR] at hrd
  have hmemz : ∀ g, g ∈ Lz ↔ g = gb ∨ g ∈ Lp := fun g => by rw [hpz.mem_iff, List.mem_append, List.mem_singleton, hperm2.symm.mem_iff]
  refine ⟨[], [], Lz, rfl, ⟨hk.os, hk.tape, hk.output, hk.size, fun b hb hbM => hk.block b hb (fun h => hbM (by simp only [List.mem_singleton] at h; simp [h])), hk.drawn⟩, by simp [VRs], ?_, ?_, ?_⟩
  ·simp only [OutsR]
   exact ⟨_, _, _, [], rz, Lz, [], rfl, rfl, by simp, hrd, _, _, rfl, rfl, rfl⟩
  ·rw [List.nil_append]
   refine hpz.nodup_iff.2 ?_
   rw [List.singleton_append, List.nodup_cons]
   exact ⟨fun h => hgp (hperm2.symm.mem_iff.1 h), hperm2.nodup_iff.1 hndp⟩
  ·intro g hg
   rw [List.nil_append, hmemz] at hg
   rcases hg with rfl | hg
   ·exact ⟨Nat.lt_of_lt_of_le hgb hk.size, .inl (by simp)⟩
   ·exact ⟨Nat.lt_of_lt_of_le (hpl g hg) hk.size, .inl (by simp [hg])⟩
theorem sortedEdges_c (R : List (List Int)) (hl : R.length ≤ 1000000000) (hT : ∀ r ∈ R, Pr2 r) (hn : R.Nodup) : CallA Tryz.prog 160 [mLL R] [rLL (srtL R R.length)] [] := by
 have hs := sortEd_c R (srtL R R.length) hl hT (srtL_all R) ((srtL_sorted hT hn _ (Nat.le_refl _)).imp_of_mem fun {a b} ha hb h => by
  have := (lexC_neg (hT a ((srtL_all R).mem_iff.1 ha)) (hT b ((srtL_all R).mem_iff.1 hb))).1 h
  omega)
 generalize srtL R R.length = T at *
 refine cA_ _ Tryz.func160 rfl Tryz.ntmps160 sO_ ?_
 repeat' (first | (refine Two.mk ?_ ?_ <;> intro _) | (guard_target =~ CallN_; first | refine RunU.cons (step_call_io0 (hs) iA (.sh .nil) (.sh wS_ .nil) xR_ xR_ rfl) ?_) | refine goA ?_ | (refine neA ?_; first | refine nxA ?_ | refine Done.ret (.one rA_ .nil) (.mv .nil) ?_ rfl) | fail)
 all_goals rfl
theorem copyGraph_c (w : List Int) (E : List (List Int)) (hw : w.length ≤ 1000) (hE : E.length ≤ 1000) (hr : ∀ i, (E.getD i []).length ≤ 1000) : CallA Tryz.prog 159 [aGr w E] [rGr w E] [] := by
 have h1 := clone_c w (by omega)
 have h2 := copyLists_c E hE hr
 clear hr
 refine cA_ _ Tryz.func159 rfl Tryz.ntmps159 sO_ ?_
 repeat' (first | (refine Two.mk ?_ ?_ <;> intro _) | (guard_target =~ AtN 5; refine RunU.cons (sC_ (h1) (.sh .nil) (.sh wS_ .nil) rfl) ?_) | (guard_target =~ AtN 8; refine RunU.cons (sC_ (h2) (.sh .nil) (.sh wS_ .nil) rfl) ?_) | refine goA ?_ | (refine neA ?_; first | refine nxA ?_ | refine Done.ret (.cell inferInstance rfl rfl .nil) (.sh .nil) ?_ rfl) | fail)
 all_goals first | rfl | (exfalso; omega)
end Go.Proofs.YtmgmpnhlehonmaaGreat
namespace Go.Proofs.YtmgmpnhlehonmaaGreat
set_option maxRecDepth 100000
set_option maxHeartbeats 20000000
open Go.Pv
open Go.ChangeShapes Go.WideShapes Go.ChangeAt Go.RowKit
attribute [local irreducible] RunU WpA Step CallG CallNG Done DoneN
instance fnOk112 : FnOk Tryz.prog 112 := ⟨_, Tryz.func112, rfl, by decide⟩
def valL (E : List (List Int)) (n : Nat) : List Int := (List.range n).map fun v : Nat => ((near E v).length : Int)
theorem valL_len (E : List (List Int)) (n : Nat) : (valL E n).length = n := by simp [valL]
theorem valL_step (E : List (List Int)) (j : Nat) : valL E j ++ [((near E j).length : Int)] = valL E (j + 1) := by
 unfold valL
 rw [List.range_succ, List.map_append]; rfl
theorem valences_c (w : List Int) (E : List (List Int)) (hg : IsGr w E) : CallA Tryz.prog 112 [aGr w E] [rL (valL E w.length)] [] := by
 have hlen := hg.1
 have hN := nbrs_c w E hg
 have hNl := nbL_len E w.length
 have hat : ∀ j, j < w.length → ((nbL E w.length).getD (j * 1) []).length = (near E j).length := fun j hj => by
  rw [Nat.mul_one, nbL_at E hj]
 have hle : ∀ j : Nat, (near E j).length ≤ w.length := fun j => near_le hg.2.2.1 j
 generalize nbL E w.length = N at *
 refine cA_ _ Tryz.func112 rfl Tryz.ntmps112 sO_ ?_
 repeat' (first | (refine Two.mk ?_ ?_ <;> intro _) | (guard_target =~ CallN_; first | refine RunU.cons (sC_ (hN) (.sh .nil) (.shAgg rfl gA_ .nil) rfl) ?_) | refine goA ?_ | refine nxA ?_ | refine Done.ret (.one rA_ .nil) (.sh .nil) ?_ rfl)
 refine WpA.loop_ids2 (fun j i3 i8 => [(3, .own i3 (.sl true 1 (ints (valL E j)))), (8, .own i8 (.sl true 1 (LL N))), (9, vGI N.length), (10, vGI j)]) (fun j => j ≤ N.length) (fun j => N.length - j) 0 _ _ (by omega) ⟨by exact own_ints (l := []) rfl, xR_, rfl, rfl, trivial⟩ ?_
 intro j i3 i8 s nx hj
 have hvl := valL_len E j
 by_cases hlt : j < N.length
 ·have h1 := hat j (by omega)
  have h2 := valL_step E j
  have h3 := hle j
  rw [← h1] at h2
  clear hat hle hN
  repeat' (first | (refine Two.mk ?_ ?_ <;> intro _) | refine goA ?_ | refine nxA ?_ | refine Done.ret (.one rA_ .nil) (.sh .nil) ?_ rfl)
  all_goals try (exfalso; omega)
  all_goals exact ⟨j + 1, by omega, ⟨_, _, by exact own_ints h2, rfl, rfl, int_eq (by omega), trivial⟩, by omega⟩
 ·have ej : j = N.length := by omega
  subst ej
  clear hat hle hN
  repeat' (first | (refine Two.mk ?_ ?_ <;> intro _) | refine goA ?_ | refine nxA ?_ | refine Done.ret (.one rA_ .nil) (.sh .nil) ?_ rfl)
  all_goals first | rfl | (rw [hNl]; done) | (exfalso; omega) | skip
instance fnOk114 : FnOk Tryz.prog 114 := ⟨_, Tryz.func114, rfl, by decide⟩
instance fnOk51 : FnOk Tryz.prog 51 := ⟨_, Tryz.func51, rfl, by decide⟩
def RoomV (w : List Int) (v : Int) : Prop := w.length < 40 ∧ -1000 < w.getD v.toNat 0
noncomputable def bvR (w : List Int) (E : List (List Int)) (v : Int) : (List Int × List (List Int)) × Int :=
 if ¬ IsGr w E then (([], []), 1) else if ¬ (0 ≤ v ∧ v < w.length) then (([], []), 2) else @ite _ (RoomV w v) (Classical.propDecidable _) ((bvW w v, bvE w E v), 0) (([], []), 3)
theorem bvR_0 {w : List Int} {E : List (List Int)} {v : Int} (h : IsGr w E) (h2 : 0 ≤ v ∧ v < w.length) (h3 : RoomV w v) : bvR w E v = ((bvW w v, bvE w E v), 0) := by unfold bvR; rw [if_neg (fun q => q h), if_neg (fun q => q h2), if_pos h3]
theorem bvR_3 {w : List Int} {E : List (List Int)} {v : Int} (h : IsGr w E) (h2 : 0 ≤ v ∧ v < w.length) (h3 : ¬ RoomV w v) : bvR w E v = (([], []), 3) := by unfold bvR; rw [if_neg (fun q => q h), if_neg (fun q => q h2), if_neg h3]
theorem len_gr {w : List Int} {E : List (List Int)} (hg : IsGr w E) : 1 ≤ w.length ∧ w.length ≤ 40 := hg.1
theorem all_gr {w : List Int} {E : List (List Int)} (hg : IsGr w E) : ∀ i, -1000 ≤ w.getD i 0 ∧ w.getD i 0 ≤ 1000 := fun i => hg.wall i
theorem len_row {w : List Int} {E : List (List Int)} (hg : IsGr w E) : ∀ r ∈ E, r.length = 2 := fun r hr => by
 obtain ⟨a, b, rfl, _⟩ := good_edge hg.2.2.1 r hr; rfl
theorem row_len {w : List Int} {E : List (List Int)} (hg : IsGr w E) (i : Nat) : (E.getD i []).length ≤ 2 := by
 by_cases hi : i < E.length
 ·rw [gr_row hg.2.2.1 i hi]; exact Nat.le_refl _
 ·rw [List.getD_eq_getElem?_getD, List.getElem?_eq_none (by omega)]; simp
theorem bv_pr2 {w : List Int} {E : List (List Int)} (hg : IsGr w E) (v : Int) : (∀ r ∈ E ++ [[v, (w.length : Int)]], Pr2 r) ∧ (E ++ [[v, (w.length : Int)]]).Nodup := by
 constructor
 ·intro r hr
  rcases List.mem_append.1 hr with h | h
  ·exact good_pr2 hg.2.2.1 r h
  ·rw [List.mem_singleton] at h; exact ⟨_, _, h⟩
 ·rw [List.nodup_append]
  refine ⟨good_nodup hg.2.2.1, by simp, fun a ha b hb q => ?_⟩
  rw [List.mem_singleton] at hb
  subst q
  exact bv_new hg v (hb ▸ ha)
attribute [local irreducible] IsGr decIsGr
theorem blowUp_c (w : List Int) (E : List (List Int)) (v : Nat) (hg : IsGr w E) (hv : v < w.length) : CallA Tryz.prog 114 [aGr w E, aI v] [rGr (bvR w E v).1.1 (bvR w E v).1.2, rI (bvR w E v).2] [] := by
 have hlen := len_gr hg
 have hfew := hg.few
 have hwb := all_gr hg (v * 1)
 have hCp := copyGraph_c w E (by omega) (by omega) (fun i => by have := row_len hg i; omega)
 have hSo := sortedEdges_c (E ++ [[(v : Int), (w.length : Int)]]) (by simp; omega) (bv_pr2 hg v).1 (bv_pr2 hg v).2
 rw [show srtL (E ++ [[(v : Int), (w.length : Int)]]) (E ++ [[(v : Int), (w.length : Int)]]).length = bvE w E v from rfl] at hSo
 by_cases hr : RoomV w v
 ·rw [bvR_0 hg (by omega) hr]
  have hr2 : w.length < 40 ∧ -1000 < w.getD (v * 1) 0 := by unfold RoomV at hr; rw [Int.toNat_natCast] at hr; rw [Nat.mul_one]; exact hr
  have hWd : bvW w v = w.set (v * 1) (w.getD (v * 1) 0 - 1) ++ [-1] := by unfold bvW; rw [Int.toNat_natCast]
  rw [hWd]
  clear hr hWd hg
  generalize bvE w E v = F at *
  refine cA_ _ Tryz.func114 rfl Tryz.ntmps114 sO_ ?_
  repeat' (first | (refine Two.mk ?_ ?_ <;> intro _) | (guard_target =~ CallN_; first | refine RunU.cons (sC_ (hCp) (.sh .nil) (.shAgg rfl gA_ .nil) rfl) ?_ | refine RunU.cons (sC_ (hSo) (.mv vA_ .nil) (.mv .nil) rfl) ?_) | refine goA ?_ | (guard_target =~ IsG; first | refine psA ?_ | refine gdA ?_) | (refine neA ?_; first | refine nxA ?_ | refine Done.ret (.cell inferInstance rfl rfl (.one rA_ .nil)) (.sh (.sh .nil)) ?_ rfl) | fail)
  all_goals first | rfl | (exfalso; omega)
 ·rw [bvR_3 hg (by omega) hr]
  have hr2 : ¬ (w.length < 40 ∧ -1000 < w.getD (v * 1) 0) := by unfold RoomV at hr; rw [Int.toNat_natCast] at hr; rw [Nat.mul_one]; exact hr
  clear hr hg hSo
  refine cA_ _ Tryz.func114 rfl Tryz.ntmps114 sO_ ?_
  repeat' (first | (refine Two.mk ?_ ?_ <;> intro _) | (guard_target =~ CallN_; first | refine RunU.cons (sC_ (hCp) (.sh .nil) (.shAgg rfl gA_ .nil) rfl) ?_) | refine goA ?_ | (guard_target =~ IsG; first | refine psA ?_ | refine gdA ?_) | (refine neA ?_; first | refine nxA ?_ | refine Done.ret (.cell inferInstance rfl rfl (.one rA_ .nil)) (.sh (.sh .nil)) ?_ rfl) | fail)
  all_goals first | rfl | (exfalso; omega)
theorem implVal_c (w : List Int) (E : List (List Int)) (hg : IsGr w E) : CallA Tryz.prog 51 [aGr w E] [rL (valL E w.length), rI 0] [] := by
 have hlen := len_gr hg
 have hfew := hg.few
 have hI := implIsGraph_c w E (by omega) (by omega)
 rw [decide_eq_true hg] at hI
 have hV := valences_c w E hg
 generalize valL E w.length = l at *
 refine cA_ _ Tryz.func51 rfl Tryz.ntmps51 sO_ ?_
 repeat' (first | (refine Two.mk ?_ ?_ <;> intro _) | (guard_target =~ CallN_; first | refine RunU.cons (sC_ (hI) (.sh .nil) (.shAgg rfl gA_ .nil) rfl) ?_ | refine RunU.cons (sC_ (hV) (.sh .nil) (.shAgg rfl gA_ .nil) rfl) ?_) | refine goA ?_ | (refine neA ?_; first | refine nxA ?_ | refine Done.ret (.one rA_ (.one rA_ .nil)) (.sh .nil) ?_ rfl) | fail)
 all_goals first | rfl | (exfalso; omega)
end Go.Proofs.YtmgmpnhlehonmaaGreat
