/- Diagrams of graphs, by the program and by the reference. No condition. -/
import Derived.Test.YtmgmpnhlehonmaaGreatKHfB
import Derived.Test.YtmgmpnhlehonmaaGreatKHfE
import Derived.Test.YtmgmpnhlehonmaaGreatKHcA
set_option linter.unusedVariables false
set_option linter.unusedSimpArgs false
namespace Go.Proofs.YtmgmpnhlehonmaaGreat
set_option maxHeartbeats 20000000
open Go.Pv
open Go.ChangeShapes Go.WideShapes Go.ChangeAt Go.RowKit
attribute [local irreducible] RunU WpA Step CallG CallNG Done DoneN
instance fnOk112 : FnOk Tryz.prog 112 := ⟨_, Tryz.func112, rfl, by decide⟩
instance fnOk85 : FnOk Tryz.prog 85 := ⟨_, Tryz.func85, rfl, by decide⟩
instance fnOk90 : FnOk Tryz.prog 90 := ⟨_, Tryz.func90, rfl, by decide⟩
instance fnOk87 : FnOk Tryz.prog 87 := ⟨_, Tryz.func87, rfl, by decide⟩
instance fnOk143 : FnOk Tryz.prog 143 := ⟨_, Tryz.func143, rfl, by decide⟩
instance fnOk86 : FnOk Tryz.prog 86 := ⟨_, Tryz.func86, rfl, by decide⟩
def valL (E : List (List Int)) (n : Nat) : List Int := (List.range n).map fun v : Nat => ((near E v).length : Int)
theorem valL_len (E : List (List Int)) (n : Nat) : (valL E n).length = n := by simp [valL]
theorem valL_at {E : List (List Int)} {n v : Nat} (h : v < n) : (valL E n).getD v 0 = (near E v).length := by simp [valL, List.getD, h]
theorem valL_step (E : List (List Int)) (j : Nat) : valL E j ++ [((near E j).length : Int)] = valL E (j + 1) := by
 unfold valL
 rw [List.range_succ, List.map_append]; rfl
theorem valences_c (w : List Int) (E : List (List Int)) (hg : IsGr w E) : CallA Tryz.prog 112 [aGr w E] [rL (valL E w.length)] [] := by
 have hlen := hg.1
 have hN := nbrs_c w E hg
 have hNl := nbL_len E w.length
 have hat : ∀ j, j < w.length → ((nbL E w.length).getD (j * 1) []).length = (near E j).length := fun j hj => by
  rw [Nat.mul_one, nbL_at E hj]
 have hle : ∀ j : Nat, (near E j).length ≤ w.length := fun j => near_le hg.2.2.1 j
 generalize nbL E w.length = N at *
 refine cA_ _ Tryz.func112 rfl Tryz.ntmps112 sO_ ?_
 repeat' (first | (refine Two.mk ?_ ?_ <;> intro _) | (guard_target =~ CallN_; first | refine RunU.cons (sC_ (hN) (.sh .nil) (.shAgg rfl gA_ .nil) rfl) ?_) | refine goA ?_ | refine nxA ?_ | refine Done.ret (.one rA_ .nil) (.sh .nil) ?_ rfl)
 refine WpA.loop_ids2 (fun j i3 i8 => [(3, .own i3 (.sl true 1 (ints (valL E j)))), (8, .own i8 (.sl true 1 (LL N))), (9, vGI N.length), (10, vGI j)]) (fun j => j ≤ N.length) (fun j => N.length - j) 0 _ _ (by omega) ⟨by exact own_ints (l := []) rfl, xR_, rfl, rfl, trivial⟩ ?_
 intro j i3 i8 s nx hj
 have hvl := valL_len E j
 by_cases hlt : j < N.length
 ·have h1 := hat j (by omega)
  have h2 := valL_step E j
  have h3 := hle j
  rw [← h1] at h2
  clear hat hle hN
  repeat' (first | (refine Two.mk ?_ ?_ <;> intro _) | refine goA ?_ | refine nxA ?_ | refine Done.ret (.one rA_ .nil) (.sh .nil) ?_ rfl)
  all_goals try (exfalso; omega)
  all_goals exact ⟨j + 1, by omega, ⟨_, _, by exact own_ints h2, rfl, rfl, int_eq (by omega), trivial⟩, by omega⟩
 ·have ej : j = N.length := by omega
  subst ej
  clear hat hle hN
  repeat' (first | (refine Two.mk ?_ ?_ <;> intro _) | refine goA ?_ | refine nxA ?_ | refine Done.ret (.one rA_ .nil) (.sh .nil) ?_ rfl)
  all_goals first | rfl | (rw [hNl]; done) | (exfalso; omega) | skip
def crn (E : List (List Int)) (A : List Int) : Nat → List Int
 | 0 => []
 | j + 1 => if ((near E j).length : Int) + A.getD j 0 ≠ 2 then crn E A j ++ [(j : Int)] else crn E A j
theorem crn_len (E : List (List Int)) (A : List Int) : ∀ j, (crn E A j).length ≤ j
 | 0 => Nat.le_refl _
 | j + 1 => by
  have := crn_len E A j
  rw [crn]; split
  ·rw [List.length_append]; simp; omega
  ·omega
theorem crn_in (E : List (List Int)) (A : List Int) : ∀ j, ∀ x ∈ crn E A j, 0 ≤ x ∧ x < j
 | 0, x, h => by simp [crn] at h
 | j + 1, x, h => by
  rw [crn] at h
  have ih := crn_in E A j x
  split at h
  ·rcases List.mem_append.1 h with h | h
   ·have := ih h; omega
   ·rw [List.mem_singleton] at h; omega
  ·have := ih h; omega
theorem crn_asc (E : List (List Int)) (A : List Int) : ∀ j, (crn E A j).Pairwise (· < ·)
 | 0 => by simp [crn]
 | j + 1 => by
  rw [crn]
  split
  ·rw [List.pairwise_append]
   refine ⟨crn_asc E A j, by simp, fun x hx y hy => ?_⟩
   have := crn_in E A j x hx
   rw [List.mem_singleton] at hy
   omega
  ·exact crn_asc E A j
theorem arr_in {w A : List Int} (h : Arr w A) (j : Nat) : 0 ≤ A.getD j 0 ∧ A.getD j 0 ≤ 1000 := by
 by_cases hj : j < A.length
 ·exact h.2 j hj
 ·rw [List.getD_eq_getElem?_getD, List.getElem?_eq_none (by omega)]; simp
theorem cornersOf_c (w : List Int) (E : List (List Int)) (A : List Int) (hg : IsGr w E) (hA : Arr w A) : CallA Tryz.prog 85 [aGr w E, aL A] [rL (crn E A w.length)] [] := by
 have hlen := hg.1
 have hAl := hA.1
 have hV := valences_c w E hg
 have hvl := valL_len E w.length
 have hle : ∀ j : Nat, (near E j).length ≤ w.length := fun j => near_le hg.2.2.1 j
 refine cA_ _ Tryz.func85 rfl Tryz.ntmps85 sO_ ?_
 repeat' (first | (refine Two.mk ?_ ?_ <;> intro _) | (guard_target =~ CallN_; first | refine RunU.cons (sC_ (hV) (.sh .nil) (.shAgg rfl gA_ .nil) rfl) ?_) | refine goA ?_ | refine nxA ?_ | refine Done.ret (.one rA_ .nil) (.sh (.sh .nil)) ?_ rfl)
 refine WpA.loop_ids2 (fun j i5 i10 => [(1, .c (.sl false 1 (ints A))), (5, .own i5 (.sl true 1 (ints (crn E A j)))), (10, .own i10 (.sl true 1 (ints (valL E w.length)))), (11, vGI (valL E w.length).length), (12, vGI j)]) (fun j => j ≤ (valL E w.length).length) (fun j => (valL E w.length).length - j) 0 _ _ (by omega) ⟨rfl, by exact own_ints (l := []) rfl, xR_, rfl, rfl, trivial⟩ ?_
 intro j i5 i10 s nx hj
 have hcl := crn_len E A j
 by_cases hlt : j < (valL E w.length).length
 ·have h1 := valL_at (E := E) (n := w.length) (v := j) (by omega)
  rw [show (valL E w.length).getD j 0 = (valL E w.length).getD (j * 1) 0 by rw [Nat.mul_one]] at h1
  have h2 := arr_in hA (j * 1)
  have h3 := hle j
  have h4 : crn E A (j + 1) = if (valL E w.length).getD (j * 1) 0 + A.getD (j * 1) 0 ≠ 2 then crn E A j ++ [(j : Int)] else crn E A j := by rw [crn, h1, Nat.mul_one]
  clear hV hle
  generalize valL E w.length = V at *
  by_cases hc : V.getD (j * 1) 0 + A.getD (j * 1) 0 = 2
  ·rw [if_neg (fun h => h hc)] at h4
   repeat' (first | (refine Two.mk ?_ ?_ <;> intro _) | refine goA ?_ | refine nxA ?_ | refine Done.ret (.one rA_ .nil) (.sh (.sh .nil)) ?_ rfl)
   all_goals try (exfalso; omega)
   all_goals exact ⟨j + 1, by omega, ⟨_, _, rfl, by exact own_ints h4.symm, rfl, rfl, int_eq (by omega), trivial⟩, by omega⟩
  ·rw [if_pos hc] at h4
   repeat' (first | (refine Two.mk ?_ ?_ <;> intro _) | refine goA ?_ | refine nxA ?_ | refine Done.ret (.one rA_ .nil) (.sh (.sh .nil)) ?_ rfl)
   all_goals try (exfalso; omega)
   all_goals exact ⟨j + 1, by omega, ⟨_, _, rfl, by exact own_ints h4.symm, rfl, rfl, int_eq (by omega), trivial⟩, by omega⟩
 ·have ej : j = w.length := by omega
  subst ej
  clear hV hle
  repeat' (first | (refine Two.mk ?_ ?_ <;> intro _) | refine goA ?_ | refine nxA ?_ | refine Done.ret (.one rA_ .nil) (.sh (.sh .nil)) ?_ rfl)
  all_goals first | rfl | (exfalso; omega)
theorem l13Corners_c (w : List Int) (E : List (List Int)) (A : List Int) (hg : IsGr w E) (hA : Arr w A) : CallA Tryz.prog 90 [aGr w E, aL A] [rL (crn E A w.length)] [] := by
 have hlen := hg.1
 have hfew := hg.few
 have hAl := hA.1
 have hle : ∀ j : Nat, (near E j).length ≤ w.length := fun j => near_le hg.2.2.1 j
 rw [← hAl]
 refine cA_ _ Tryz.func90 rfl Tryz.ntmps90 sO_ ?_
 repeat' (first | (refine Two.mk ?_ ?_ <;> intro _) | refine goA ?_ | refine nxA ?_ | refine Done.ret (.one rA_ .nil) (.sh (.sh .nil)) ?_ rfl)
 refine WpA.loop_slots2 (fun j i5 => [(1, .c (.sl false 1 (ints A))), (2, .own 2 (.pt true [.sl false 1 (ints w), .sl false 1 (LLs E)])), (5, .own i5 (.sl true 1 (ints (crn E A j)))), (6, vGI j)]) (fun j => j ≤ A.length) (fun j => A.length - j) 0 _ (by omega) ⟨rfl, rfl, by exact own_ints (l := []) rfl, rfl, trivial⟩ ?_
 intro j i5 s nx hj
 have hcl := crn_len E A j
 by_cases hlt : j < A.length
 ·have hN := near_c w E j (by omega) (fun j hj => (hg.2.2.1 j hj).1)
  have h2 := arr_in hA (j * 1)
  have h3 := hle j
  have h4 : crn E A (j + 1) = if ((near E j).length : Int) + A.getD (j * 1) 0 ≠ 2 then crn E A j ++ [(j : Int)] else crn E A j := by rw [crn, Nat.mul_one]
  clear hle
  generalize near E j = R at *
  by_cases hc : (R.length : Int) + A.getD (j * 1) 0 = 2
  ·rw [if_neg (fun h => h hc)] at h4
   repeat' (first | (refine Two.mk ?_ ?_ <;> intro _) | (guard_target =~ CallN_; first | refine RunU.cons (sC_ (hN) (.sh (.sh .nil)) (.shAgg rfl gA_ (.sh wS_ .nil)) rfl) ?_) | refine goA ?_ | refine nxA ?_ | refine Done.ret (.one rA_ .nil) (.sh (.sh .nil)) ?_ rfl)
   all_goals try (exfalso; omega)
   all_goals exact ⟨j + 1, by omega, ⟨_, rfl, rfl, by exact own_ints h4.symm, int_eq (by omega), trivial⟩, by omega⟩
  ·rw [if_pos hc] at h4
   repeat' (first | (refine Two.mk ?_ ?_ <;> intro _) | (guard_target =~ CallN_; first | refine RunU.cons (sC_ (hN) (.sh (.sh .nil)) (.shAgg rfl gA_ (.sh wS_ .nil)) rfl) ?_) | refine goA ?_ | refine nxA ?_ | refine Done.ret (.one rA_ .nil) (.sh (.sh .nil)) ?_ rfl)
   all_goals try (exfalso; omega)
   all_goals exact ⟨j + 1, by omega, ⟨_, rfl, rfl, by exact own_ints h4.symm, int_eq (by omega), trivial⟩, by omega⟩
 ·have ej : j = A.length := by omega
  subst ej
  clear hle
  repeat' (first | (refine Two.mk ?_ ?_ <;> intro _) | refine goA ?_ | refine nxA ?_ | refine Done.ret (.one rA_ .nil) (.sh (.sh .nil)) ?_ rfl)
  all_goals first | rfl | (exfalso; omega)
abbrev fnCor (C : List Int) : Arg := .sh (.one (.fn 87 [.pt false [.sl false 1 (ints C)]]))
theorem corIn_c (C : List Int) (x : Int) (hC : C.length ≤ 1000000) : CallA Tryz.prog 87 [aI x, .sh (.one (.pt false [.sl false 1 (ints C)]))] [rB (decide (x ∈ C))] [] := by
 have hQ := contains_c C x (by omega)
 generalize decide (x ∈ C) = b at *
 refine cA_ _ Tryz.func87 rfl Tryz.ntmps87 sO_ ?_
 repeat' (first | (refine Two.mk ?_ ?_ <;> intro _) | (guard_target =~ CallN_; first | refine RunU.cons (sC_ (hQ) (.sh (.sh .nil)) (.sh wS_ (.sh wS_ .nil)) rfl) ?_) | refine goA ?_ | refine nxA ?_ | refine Done.ret (.one rA_ .nil) (.sh (.sh .nil)) ?_ rfl)
 all_goals first | rfl | skip
def ixC (C : List Int) : List Int → Int
 | [] => -1
 | x :: l => if x ∈ C then 0 else if ixC C l = -1 then -1 else ixC C l + 1
theorem ixC_at {C : List Int} : ∀ {l : List Int} {i : Nat}, i < l.length → l.getD i 0 ∈ C → (∀ k, k < i → l.getD k 0 ∉ C) → ixC C l = i
 | [], i, h, _, _ => by simp at h
 | x :: l, 0, _, h, _ => by rw [ixC, if_pos (by simpa using h)]; rfl
 | x :: l, i + 1, h, hx, hk => by
  have h0 : x ∉ C := by simpa using hk 0 (by omega)
  have ih := ixC_at (l := l) (i := i) (by simpa using h) (by simpa using hx) (fun k hlt => by simpa using hk (k + 1) (by omega))
  rw [ixC, if_neg h0, ih, if_neg (by omega)]
  omega
theorem ixC_no {C : List Int} : ∀ {l : List Int}, (∀ k, k < l.length → l.getD k 0 ∉ C) → ixC C l = -1
 | [], _ => rfl
 | x :: l, h => by
  have h0 : x ∉ C := by simpa using h 0 (by simp)
  rw [ixC, if_neg h0, ixC_no (l := l) (fun k hk => by simpa using h (k + 1) (by simpa using hk)), if_pos rfl]
theorem ixC_ge (C : List Int) : ∀ l : List Int, -1 ≤ ixC C l
 | [] => by simp [ixC]
 | x :: l => by
  have := ixC_ge C l
  rw [ixC]
  split
  ·omega
  ·split <;> omega
def anyC (C l : List Int) : Bool := l.any fun x => decide (x ∈ C)
theorem ixC_any {C : List Int} : ∀ {l : List Int}, decide (ixC C l ≥ 0) = anyC C l
 | [] => by simp [ixC, anyC]
 | x :: l => by
  have ih := ixC_any (C := C) (l := l)
  have hge := ixC_ge C l
  unfold anyC at ih ⊢
  rw [ixC, List.any_cons]
  by_cases h : x ∈ C
  ·rw [if_pos h]; simp [h]
  ·rw [if_neg h, ← ih, decide_eq_false h, Bool.false_or]
   apply decide_eq_decide.2
   split
   ·constructor <;> intro h <;> omega
   ·constructor <;> intro h <;> omega
theorem indexCor_c (C l : List Int) (hC : C.length ≤ 1000000) (hl : l.length ≤ 1000000) : CallA Tryz.prog 143 [aL l, fnCor C] [rI (ixC C l)] [] := by
 refine cA_ _ Tryz.func143 rfl Tryz.ntmps143 sO_ ?_
 repeat' (first | (refine Two.mk ?_ ?_ <;> intro _) | refine goA ?_ | refine nxA ?_ | refine Done.ret (.one rA_ .nil) (.sh (.sh .nil)) ?_ rfl)
 refine WpA.loop_slots (ι := Nat) (fun j => [(0, .c (.sl false 1 (ints l))), (1, .c (.fn 87 [.pt false [.sl false 1 (ints C)]])), (7, vGI l.length), (8, vGI j)]) (fun j => j ≤ l.length ∧ ∀ i, i < j → l.getD i 0 ∉ C) (fun j => l.length - j) 0 ⟨by omega, fun i hi => by omega⟩ ⟨rfl, rfl, rfl, rfl, trivial⟩ ?_
 rintro j s nx ⟨hj, hok⟩
 by_cases hlt : j < l.length
 ·have hP := corIn_c C (l.getD (j * 1) 0) hC
  by_cases hp : l.getD (j * 1) 0 ∈ C
  ·rw [decide_eq_true hp] at hP
   rw [ixC_at hlt (by rw [Nat.mul_one] at hp; exact hp) hok]
   clear hok hp
   repeat' (first | (refine Two.mk ?_ ?_ <;> intro _) | (guard_target =~ CallN_; first | refine RunU.cons (step_call_clo (hP) xR_ xR_ (.sh .nil) (.sh wS_ .nil) rfl) ?_) | refine goA ?_ | refine nxA ?_ | refine Done.ret (.one rA_ .nil) (.sh (.sh .nil)) ?_ rfl)
   all_goals first | rfl | (exfalso; simp_all; done) | (exfalso; omega)
  ·rw [decide_eq_false hp] at hP
   have hp2 : l.getD j 0 ∉ C := by rw [Nat.mul_one] at hp; exact hp
   clear hp
   repeat' (first | (refine Two.mk ?_ ?_ <;> intro _) | (guard_target =~ CallN_; first | refine RunU.cons (step_call_clo (hP) xR_ xR_ (.sh .nil) (.sh wS_ .nil) rfl) ?_) | refine goA ?_ | refine nxA ?_ | refine Done.ret (.one rA_ .nil) (.sh (.sh .nil)) ?_ rfl)
   all_goals try (exfalso; simp_all; done)
   all_goals try (exfalso; omega)
   refine ⟨j + 1, ⟨by omega, fun i hi => ?_⟩, ⟨rfl, rfl, rfl, int_eq (by omega), trivial⟩, by omega⟩
   by_cases e : i = j
   ·rw [e]; exact hp2
   ·exact hok i (by omega)
 ·rw [ixC_no fun i hi => hok i (by omega)]
  clear hok
  repeat' (first | (refine Two.mk ?_ ?_ <;> intro _) | refine goA ?_ | refine nxA ?_ | refine Done.ret (.one rA_ .nil) (.sh (.sh .nil)) ?_ rfl)
  all_goals first | rfl | (exfalso; omega)
theorem containsCor_c (C l : List Int) (hC : C.length ≤ 1000000) (hl : l.length ≤ 1000000) : CallA Tryz.prog 86 [aL l, fnCor C] [rB (anyC C l)] [] := by
 have hI := indexCor_c C l hC hl
 have hm := ixC_any (C := C) (l := l)
 rw [← hm]
 generalize ixC C l = x at *
 refine cA_ _ Tryz.func86 rfl Tryz.ntmps86 sO_ ?_
 repeat' (first | (refine Two.mk ?_ ?_ <;> intro _) | (guard_target =~ CallN_; first | refine RunU.cons (sC_ (hI) (.sh (.sh .nil)) (.sh wS_ (.sh wS_ .nil)) rfl) ?_) | refine goA ?_ | refine nxA ?_ | refine Done.ret (.one rA_ .nil) (.sh (.sh .nil)) ?_ rfl)
 all_goals rfl
theorem pth_ends {w : List Int} {E : List (List Int)} (hg : IsGr w E) (he : E.length + 1 = w.length) {i k : Int} (hi : 0 ≤ i ∧ i < w.length) (hk : 0 ≤ k ∧ k < w.length) (hik : i ≠ k) :
  2 ≤ (pth w E i k).length ∧ (pth w E i k).length ≤ w.length ∧ (pth w E i k).getD 1 0 ∈ near E i ∧ lastB (pth w E i k) ∈ near E k := by
 obtain ⟨z, hz⟩ := bw_conn hg he hi hk
 obtain ⟨l, q, k1, k2, k3⟩ := pth_bw hg hi hz
 have hl := k1.len hg hi
 rw [k3]
 cases l with
 | nil =>
  cases q with
  | nil => exact absurd (List.cons.inj k2).1 hik
  | cons y q => have := congrArg List.length k2; simp at this
 | cons c l =>
  refine ⟨by simp, by simpa using hl, ?_, ?_⟩
  ·exact (near_mem hg.2.2.1).2 k1.adj
  ·rcases List.eq_nil_or_concat q with rfl | ⟨p, d, rfl⟩
   ·have := congrArg List.length k2; simp at this
   ·have k4 : i :: c :: l = p ++ [d, k] := by rw [k2]; simp
    rw [k4, lastB_app]
    have hr := NB.right p (by rw [← k4]; exact k1)
    exact (near_mem hg.2.2.1).2 hr.adj.symm
def inn (P : List Int) : List Int := (P.drop 1).take ((P.length - 1) - 1)
def cellD (f : Int → Int → Int × Bool) (C : List Int) (pt : Int → Int → List Int) (i k : Int) : Option (List (List Int)) :=
 if anyC C (inn (pt i k)) = true then some [] else if ((f i ((pt i k).getD 1 0)).2 && (f k (lastB (pt i k))).2) = true then some [[i, k, (f i ((pt i k).getD 1 0)).1, (f k (lastB (pt i k))).1]] else none
def dgIn (cell : Int → Int → Option (List (List Int))) (i : Int) : List Int → List (List Int) → Option (List (List Int))
 | [], out => some out
 | k :: l, out => (cell i k).bind fun r => dgIn cell i l (out ++ r)
def dgOut (cell : Int → Int → Option (List (List Int))) : List Int → List (List Int) → Option (List (List Int))
 | [], out => some out
 | i :: l, out => (dgIn cell i l out).bind (dgOut cell l)
theorem dgIn_drop {cell : Int → Int → Option (List (List Int))} {i : Int} {l : List Int} {j : Nat} (h : j < l.length) (out : List (List Int)) : dgIn cell i (l.drop j) out = (cell i (l.getD j 0)).bind fun r => dgIn cell i (l.drop (j + 1)) (out ++ r) := by
 rw [List.drop_eq_getElem_cons h, dgIn]
 simp [List.getD, h]
theorem dgOut_drop {cell : Int → Int → Option (List (List Int))} {l : List Int} {j : Nat} (h : j < l.length) (out : List (List Int)) : dgOut cell (l.drop j) out = (dgIn cell (l.getD j 0) (l.drop (j + 1)) out).bind (dgOut cell (l.drop (j + 1))) := by
 rw [List.drop_eq_getElem_cons h, dgOut]
 simp [List.getD, h]
theorem cellD_congr {f g : Int → Int → Int × Bool} (h : ∀ y x, (f y x).2 = (g y x).2 ∧ ((f y x).2 = true → (f y x).1 = (g y x).1)) (C : List Int) (pt : Int → Int → List Int) (i k : Int) : cellD f C pt i k = cellD g C pt i k := by
 unfold cellD
 split
 ·rfl
 ·obtain ⟨a1, a2⟩ := h i ((pt i k).getD 1 0)
  obtain ⟨b1, b2⟩ := h k (lastB (pt i k))
  by_cases hc : ((f i ((pt i k).getD 1 0)).2 && (f k (lastB (pt i k))).2) = true
  ·rw [if_pos hc, if_pos (by rw [← a1, ← b1]; exact hc)]
   rw [Bool.and_eq_true] at hc
   rw [a2 hc.1, b2 hc.2]
  ·rw [if_neg hc, if_neg (by rw [← a1, ← b1]; exact hc)]
noncomputable def dgV (w : List Int) (E : List (List Int)) (A : List Int) : Option (List (List Int)) := dgOut (cellD (fun y x => setI w E (bhL w E y x)) (crn E A w.length) (pth w E)) (crn E A w.length) []
noncomputable def dgL (w : List Int) (E : List (List Int)) (A : List Int) : List (List Int) := if lcC w E A = 0 then (dgV w E A).getD [] else []
noncomputable def dgC (w : List Int) (E : List (List Int)) (A : List Int) : Int := if lcC w E A = 0 then if (dgV w E A).isSome then 0 else 3 else lcC w E A
end Go.Proofs.YtmgmpnhlehonmaaGreat
