/- Contracting a vertex of a graph: the result is a graph with the same determinant (plain). No condition. -/
import Derived.Test.YtmgmpnhlehonmaaGreatOHaB
import Derived.Test.YtmgmpnhlehonmaaGreatOPvR
import Derived.Test.YtmgmpnhlehonmaaGreatOTy
import Derived.Test.YtmgmpnhlehonmaaGreatOGrD
import Derived.Test.YtmgmpnhlehonmaaGreatOGrP
import Derived.Test.YtmgmpnhlehonmaaGreatOGrB
import Derived.Sort.Grow
import Derived.Sort.Row
import Derived.Deep.Draws
import Derived.Test.YtmgmpnhlehonmaaGreatOPvA
import Derived.Test.YtmgmpnhlehonmaaGreatOPvT
import Derived.Test.YtmgmpnhlehonmaaGreatOPvX
import Derived.Test.YtmgmpnhlehonmaaGreatOGrY
import Derived.Test.YtmgmpnhlehonmaaGreatOGrJ
set_option linter.unusedVariables false
set_option linter.unusedSimpArgs false
namespace Go.Proofs.YtmgmpnhlehonmaaGreat
set_option maxHeartbeats 20000000
open Go.Pv
open Go.ChangeShapes Go.WideShapes Go.ChangeAt Go.RowKit
attribute [local irreducible] RunU WpA Step CallG CallNG Done DoneN
instance fnOk94 : FnOk Tryz.prog 94 := ⟨_, Tryz.func94, rfl, by decide⟩
instance fnOk142 : FnOk Tryz.prog 142 := ⟨_, Tryz.func142, rfl, by decide⟩
instance fnOk84 : FnOk Tryz.prog 84 := ⟨_, Tryz.func84, rfl, by decide⟩
instance fnOk92 : FnOk Tryz.prog 92 := ⟨_, Tryz.func92, rfl, by decide⟩
instance fnOk89 : FnOk Tryz.prog 89 := ⟨_, Tryz.func89, rfl, by decide⟩
theorem setS_le (w : List Int) (E : List (List Int)) (K : List Bool) : (setS w E K).1.natAbs ≤ 1000000000000 := by
 unfold setS
 split
 ·show (1 : Int).natAbs ≤ _
  omega
 ·unfold detS
  split
  ·split
   ·rename_i d h
    exact dS_le _ _ _ _ (by omega) h
   ·show (0 : Int).natAbs ≤ _
    omega
  ·show (0 : Int).natAbs ≤ _
   omega
theorem lkL_le (w : List Int) (E : List (List Int)) (i k : Nat) : (((lkL w E).getD i []).getD k 0).natAbs ≤ 1000000000000 := by
 unfold lkL
 by_cases hi : i < w.length
 ·rw [matF_row _ hi]
  by_cases hk : k < w.length
  ·rw [List.getD_eq_getElem?_getD, List.getElem?_map, List.getElem?_range hk]
   exact setS_le _ _ _
  ·rw [List.getD_eq_getElem?_getD, List.getElem?_eq_none (by simp; omega)]
   simp
 ·rw [show (matF w.length fun a b => (lkS w E a b).1).getD i [] = [] by rw [List.getD_eq_getElem?_getD, List.getElem?_eq_none (by rw [matF_len]; omega)]; rfl]
  simp
def dot (a b : List Int) : Nat → Int
 | 0 => 0
 | j + 1 => dot a b j + a.getD j 0 * b.getD j 0
theorem prod_le {x y : Int} {a b : Nat} (hx : x.natAbs ≤ a) (hy : y.natAbs ≤ b) : (x * y).natAbs ≤ a * b := by
 rw [Int.natAbs_mul]; exact Nat.mul_le_mul hx hy
theorem dot_le {a b : List Int} (ha : ∀ i, (a.getD i 0).natAbs ≤ 1000000000000) (hb : ∀ i, (b.getD i 0).natAbs ≤ 1000) : ∀ j, (dot a b j).natAbs ≤ 1000000000000000 * j
 | 0 => by simp [dot]
 | j + 1 => by
  have h1 := dot_le ha hb j
  have h2 := prod_le (ha j) (hb j)
  rw [dot]
  omega
theorem scalar_c (a b : List Int) (h : a.length ≤ b.length) (hl : a.length ≤ 40) (ha : ∀ i, (a.getD i 0).natAbs ≤ 1000000000000) (hb : ∀ i, (b.getD i 0).natAbs ≤ 1000) : CallA Tryz.prog 94 [aL a, aL b] [rI (dot a b a.length)] [] := by
 refine cA_ _ Tryz.func94 rfl Tryz.ntmps94 sO_ ?_
 repeat' (first | (refine Two.mk ?_ ?_ <;> intro _) | refine goA ?_ | refine nxA ?_ | refine Done.ret (.one rA_ .nil) (.sh (.sh .nil)) ?_ rfl)
 refine WpA.loop_slots (ι := Nat) (fun j => [(1, .c (.sl false 1 (ints b))), (5, .c (.lit (.int .i64 (dot a b j)))), (8, .c (.sl false 1 (ints a))), (9, vGI a.length), (10, vGI j)]) (fun j => j ≤ a.length) (fun j => a.length - j) 0 (by omega) ⟨rfl, rfl, rfl, rfl, rfl, trivial⟩ ?_
 intro j s nx hj
 by_cases hlt : j < a.length
 ·have h1 := dot_le ha hb j
  have h2 := prod_le (ha j) (hb j)
  have h2' : (a.getD (j * 1) 0 * b.getD (j * 1) 0).natAbs ≤ 1000000000000 * 1000 := by rw [Nat.mul_one]; exact h2
  have e : dot a b j + a.getD (j * 1) 0 * b.getD (j * 1) 0 = dot a b (j + 1) := by rw [Nat.mul_one, dot]
  generalize hp : a.getD (j * 1) 0 * b.getD (j * 1) 0 = p at *
  repeat' (first | (refine Two.mk ?_ ?_ <;> intro _) | refine goA ?_ | refine nxA ?_ | refine Done.ret (.one rA_ .nil) (.sh (.sh .nil)) ?_ rfl)
  all_goals try (exfalso; omega)
  all_goals first | (rw [hp]; omega) | exact ⟨j + 1, by omega, ⟨rfl, int_eq (by rw [← e, ← hp]), rfl, rfl, int_eq (by omega), trivial⟩, by omega⟩
 ·have ej : j = a.length := by omega
  subst ej
  repeat' (first | (refine Two.mk ?_ ?_ <;> intro _) | refine goA ?_ | refine nxA ?_ | refine Done.ret (.one rA_ .nil) (.sh (.sh .nil)) ?_ rfl)
  all_goals try (exfalso; omega)
  all_goals rfl
def Arr (w A : List Int) : Prop := A.length = w.length ∧ Within A 0 1000
instance decArr (w A : List Int) : Decidable (Arr w A) := by unfold Arr; infer_instance
theorem areArrows_c (w : List Int) (E : List (List Int)) (A : List Int) (hw : w.length ≤ 2000000) (hA : A.length ≤ 2000000) : CallA Tryz.prog 142 [aGr w E, aL A] [rB (decide (Arr w A))] [] := by
 have hW := within_c A 0 1000 (by omega)
 by_cases h1 : A.length = w.length
 ·have e : decide (Arr w A) = decide (Within A 0 1000) := by unfold Arr; simp [h1]
  rw [e]
  generalize decide (Within A 0 1000) = bw at *
  clear e
  refine cA_ _ Tryz.func142 rfl Tryz.ntmps142 sO_ ?_
  repeat' (first | (refine Two.mk ?_ ?_ <;> intro _) | (guard_target =~ CallN_; first | refine RunU.cons (sC_ (hW) (.sh (.sh (.sh .nil))) (.sh wS_ (.sh wS_ (.sh wS_ .nil))) rfl) ?_) | refine goA ?_ | (guard_target =~ IsG; first | refine psA ?_ | (guard_target =~ CallS_; first | refine RunU.doit rfl rfl (sC_ (hW) (.sh (.sh (.sh .nil))) (.sh wS_ (.sh wS_ (.sh wS_ .nil))) rfl) ?_) | refine gdA ?_) | refine nxA ?_ | refine Done.ret (.one rA_ .nil) (.sh (.sh .nil)) ?_ rfl)
  all_goals first | rfl | (exfalso; omega) | (exfalso; simp_all; done)
 ·have e : decide (Arr w A) = false := by unfold Arr; simp [h1]
  rw [e]
  refine cA_ _ Tryz.func142 rfl Tryz.ntmps142 sO_ ?_
  repeat' (first | (refine Two.mk ?_ ?_ <;> intro _) | (guard_target =~ CallN_; first | refine RunU.cons (sC_ (hW) (.sh (.sh (.sh .nil))) (.sh wS_ (.sh wS_ (.sh wS_ .nil))) rfl) ?_) | refine goA ?_ | (guard_target =~ IsG; first | refine psA ?_ | (guard_target =~ CallS_; first | refine RunU.doit rfl rfl (sC_ (hW) (.sh (.sh (.sh .nil))) (.sh wS_ (.sh wS_ (.sh wS_ .nil))) rfl) ?_) | refine gdA ?_) | refine nxA ?_ | refine Done.ret (.one rA_ .nil) (.sh (.sh .nil)) ?_ rfl)
  all_goals first | rfl | (exfalso; omega) | (exfalso; simp_all; done)
def caC (w : List Int) (E : List (List Int)) (A : List Int) : Int := if IsGr w E then if Arr w A then 0 else 2 else 1
theorem checkArrows_c (w : List Int) (E : List (List Int)) (A : List Int) (hw : w.length ≤ 2000000) (hE : E.length ≤ 2000000) (hA : A.length ≤ 2000000) : CallA Tryz.prog 84 [aGr w E, aL A] [rI (caC w E A)] [] := by
 have hI := implIsGraph_c w E hw hE
 have hR := areArrows_c w E A hw hA
 unfold caC
 by_cases hg : IsGr w E
 ·rw [if_pos hg]
  rw [decide_eq_true hg] at hI
  by_cases ha : Arr w A
  ·rw [if_pos ha]
   rw [decide_eq_true ha] at hR
   refine cA_ _ Tryz.func84 rfl Tryz.ntmps84 sO_ ?_
   repeat' (first | (refine Two.mk ?_ ?_ <;> intro _) | (guard_target =~ CallN_; first | refine RunU.cons (sC_ (hI) (.sh .nil) (.shAgg rfl gA_ .nil) rfl) ?_ | refine RunU.cons (sC_ (hR) (.sh (.sh .nil)) (.shAgg rfl gA_ (.sh wS_ .nil)) rfl) ?_) | refine goA ?_ | refine nxA ?_ | refine Done.ret (.one rA_ .nil) (.sh (.sh .nil)) ?_ rfl)
   all_goals first | rfl | (exfalso; simp_all; done)
  ·rw [if_neg ha]
   rw [decide_eq_false ha] at hR
   refine cA_ _ Tryz.func84 rfl Tryz.ntmps84 sO_ ?_
   repeat' (first | (refine Two.mk ?_ ?_ <;> intro _) | (guard_target =~ CallN_; first | refine RunU.cons (sC_ (hI) (.sh .nil) (.shAgg rfl gA_ .nil) rfl) ?_ | refine RunU.cons (sC_ (hR) (.sh (.sh .nil)) (.shAgg rfl gA_ (.sh wS_ .nil)) rfl) ?_) | refine goA ?_ | refine nxA ?_ | refine Done.ret (.one rA_ .nil) (.sh (.sh .nil)) ?_ rfl)
   all_goals first | rfl | (exfalso; simp_all; done)
 ·rw [if_neg hg]
  rw [decide_eq_false hg] at hI
  refine cA_ _ Tryz.func84 rfl Tryz.ntmps84 sO_ ?_
  repeat' (first | (refine Two.mk ?_ ?_ <;> intro _) | (guard_target =~ CallN_; first | refine RunU.cons (sC_ (hI) (.sh .nil) (.shAgg rfl gA_ .nil) rfl) ?_ | refine RunU.cons (sC_ (hR) (.sh (.sh .nil)) (.shAgg rfl gA_ (.sh wS_ .nil)) rfl) ?_) | refine goA ?_ | refine nxA ?_ | refine Done.ret (.one rA_ .nil) (.sh (.sh .nil)) ?_ rfl)
  all_goals first | rfl | (exfalso; simp_all; done)
theorem l13Arrows_c (w : List Int) (E : List (List Int)) (A : List Int) (hw : w.length ≤ 2000000) (hA : A.length ≤ 2000000) : CallA Tryz.prog 92 [aGr w E, aL A] [rB (decide (Arr w A))] [] := by
 refine cA_ _ Tryz.func92 rfl Tryz.ntmps92 sO_ ?_
 repeat' (first | (refine Two.mk ?_ ?_ <;> intro _) | refine goA ?_ | refine nxA ?_ | refine Done.ret (.one rA_ .nil) (.sh (.sh .nil)) ?_ rfl)
 refine WpA.loop_slots (ι := Nat) (fun j => [(1, .c (.sl false 1 (ints A))), (2, .own 2 (.pt true [.sl false 1 (ints w), .sl false 1 (LLs E)])), (5, vGI j)]) (fun j => j ≤ A.length ∧ ∀ i, i < j → 0 ≤ A.getD i 0 ∧ A.getD i 0 ≤ 1000) (fun j => A.length - j) 0 ⟨by omega, fun i hi => by omega⟩ ⟨rfl, rfl, rfl, trivial⟩ ?_
 rintro j s nx ⟨hj, hok⟩
 by_cases hlt : j < A.length
 ·have hV := l01In_c (A.getD (j * 1) 0) 0 1000
  have ej : A.getD (j * 1) 0 = A.getD j 0 := by rw [Nat.mul_one]
  by_cases hr : 0 ≤ A.getD (j * 1) 0 ∧ A.getD (j * 1) 0 ≤ 1000
  ·rw [decide_eq_true hr] at hV
   repeat' (first | (refine Two.mk ?_ ?_ <;> intro _) | (guard_target =~ CallN_; first | refine RunU.cons (sC_ (hV) (.sh (.sh (.sh .nil))) (.sh wS_ (.sh wS_ (.sh wS_ .nil))) rfl) ?_) | refine goA ?_ | refine nxA ?_ | refine Done.ret (.one rA_ .nil) (.sh (.sh .nil)) ?_ rfl)
   all_goals try (exfalso; simp_all; done)
   all_goals try (exfalso; omega)
   refine ⟨j + 1, ⟨by omega, fun i hi => ?_⟩, ⟨rfl, rfl, int_eq (by omega), trivial⟩, by omega⟩
   by_cases e : i = j
   ·rw [e, ← ej]; exact hr
   ·exact hok i (by omega)
  ·rw [decide_eq_false hr] at hV
   have hna : decide (Arr w A) = false := decide_eq_false fun h => hr (by rw [ej]; exact h.2 j hlt)
   rw [hna]
   clear hna
   repeat' (first | (refine Two.mk ?_ ?_ <;> intro _) | (guard_target =~ CallN_; first | refine RunU.cons (sC_ (hV) (.sh (.sh (.sh .nil))) (.sh wS_ (.sh wS_ (.sh wS_ .nil))) rfl) ?_) | refine goA ?_ | refine nxA ?_ | refine Done.ret (.one rA_ .nil) (.sh (.sh .nil)) ?_ rfl)
   all_goals first | rfl | (exfalso; simp_all; done) | (exfalso; omega)
 ·have e : decide (Arr w A) = decide (A.length = w.length) := by
   have : Within A 0 1000 := fun i hi => hok i (by omega)
   unfold Arr
   simp [this]
  rw [e]
  clear e hok
  by_cases h1 : A.length = w.length
  ·rw [decide_eq_true h1]
   repeat' (first | (refine Two.mk ?_ ?_ <;> intro _) | refine goA ?_ | refine nxA ?_ | refine Done.ret (.one rA_ .nil) (.sh (.sh .nil)) ?_ rfl)
   all_goals first | rfl | (exfalso; omega) | (simp [h1]; done)
  ·rw [decide_eq_false h1]
   repeat' (first | (refine Two.mk ?_ ?_ <;> intro _) | refine goA ?_ | refine nxA ?_ | refine Done.ret (.one rA_ .nil) (.sh (.sh .nil)) ?_ rfl)
   all_goals first | rfl | (exfalso; omega) | (simp; omega)
def lcC (w : List Int) (E : List (List Int)) (A : List Int) : Int := if caC w E A = 0 then chkC w E [] else caC w E A
theorem caC_zero {w : List Int} {E : List (List Int)} {A : List Int} (h : caC w E A = 0) : IsGr w E ∧ Arr w A := by
 unfold caC at h
 split at h
 ·rename_i h1
  split at h
  ·rename_i h2; exact ⟨h1, h2⟩
  ·omega
 ·omega
theorem l13List_c (w : List Int) (E : List (List Int)) (A : List Int) (hw : w.length ≤ 2000000) (hE : E.length ≤ 2000000) (hA : A.length ≤ 2000000) : CallA Tryz.prog 89 [aGr w E, aL A] [rI (lcC w E A)] [] := by
 have hI := specIsGraph_c w E hw hE
 have hR := l13Arrows_c w E A hw hA
 have hC := l13Code_c w E [] hw hE (by simp)
 unfold lcC caC
 by_cases hg : IsGr w E
 ·rw [if_pos hg]
  rw [decide_eq_true hg] at hI
  by_cases ha : Arr w A
  ·rw [if_pos ha, if_pos rfl]
   rw [decide_eq_true ha] at hR
   generalize chkC w E [] = c at *
   refine cA_ _ Tryz.func89 rfl Tryz.ntmps89 sO_ ?_
   repeat' (first | (refine Two.mk ?_ ?_ <;> intro _) | (guard_target =~ CallN_; first | refine RunU.cons (sC_ (hI) (.sh .nil) (.shAgg rfl gA_ .nil) rfl) ?_ | refine RunU.cons (sC_ (hR) (.sh (.sh .nil)) (.shAgg rfl gA_ (.sh wS_ .nil)) rfl) ?_ | refine RunU.cons (sC_ (hC) (.sh (.sh .nil)) (.shAgg rfl gA_ (.sh wS_ .nil)) rfl) ?_) | refine goA ?_ | refine nxA ?_ | refine Done.ret (.one rA_ .nil) (.sh (.sh .nil)) ?_ rfl)
   all_goals first | rfl | (exfalso; simp_all; done)
  ·rw [if_neg ha, if_neg (by omega)]
   rw [decide_eq_false ha] at hR
   refine cA_ _ Tryz.func89 rfl Tryz.ntmps89 sO_ ?_
   repeat' (first | (refine Two.mk ?_ ?_ <;> intro _) | (guard_target =~ CallN_; first | refine RunU.cons (sC_ (hI) (.sh .nil) (.shAgg rfl gA_ .nil) rfl) ?_ | refine RunU.cons (sC_ (hR) (.sh (.sh .nil)) (.shAgg rfl gA_ (.sh wS_ .nil)) rfl) ?_ | refine RunU.cons (sC_ (hC) (.sh (.sh .nil)) (.shAgg rfl gA_ (.sh wS_ .nil)) rfl) ?_) | refine goA ?_ | refine nxA ?_ | refine Done.ret (.one rA_ .nil) (.sh (.sh .nil)) ?_ rfl)
   all_goals first | rfl | (exfalso; simp_all; done)
 ·rw [if_neg hg, if_neg (by omega)]
  rw [decide_eq_false hg] at hI
  refine cA_ _ Tryz.func89 rfl Tryz.ntmps89 sO_ ?_
  repeat' (first | (refine Two.mk ?_ ?_ <;> intro _) | (guard_target =~ CallN_; first | refine RunU.cons (sC_ (hI) (.sh .nil) (.shAgg rfl gA_ .nil) rfl) ?_ | refine RunU.cons (sC_ (hR) (.sh (.sh .nil)) (.shAgg rfl gA_ (.sh wS_ .nil)) rfl) ?_ | refine RunU.cons (sC_ (hC) (.sh (.sh .nil)) (.shAgg rfl gA_ (.sh wS_ .nil)) rfl) ?_) | refine goA ?_ | refine nxA ?_ | refine Done.ret (.one rA_ .nil) (.sh (.sh .nil)) ?_ rfl)
  all_goals first | rfl | (exfalso; simp_all; done)
structure Pa (E : List (List Int)) (i k : Int) (P : List Int) : Prop where
 nb : NB E P
 hd : P.head? = some i
 ls : P.getLast? = some k
theorem Pa.eq {w : List Int} {E : List (List Int)} (hg : IsGr w E) {i k : Int} (hi : 0 ≤ i ∧ i < w.length) {P : List Int} (h : Pa E i k P) : pth w E i k = P := by
 obtain ⟨l, rfl⟩ := List.head?_eq_some_iff.1 h.hd
 obtain ⟨q, e⟩ := List.getLast?_eq_some_iff.1 h.ls
 exact pth_some hg hi h.nb e
theorem pa_pth {w : List Int} {E : List (List Int)} (hg : IsGr w E) (he : E.length + 1 = w.length) {i k : Int} (hi : 0 ≤ i ∧ i < w.length) (hk : 0 ≤ k ∧ k < w.length) : Pa E i k (pth w E i k) := by
 obtain ⟨z, hz⟩ := bw_conn hg he hi hk
 obtain ⟨l, q, k1, k2, k3⟩ := pth_bw hg hi hz
 rw [k3]
 exact ⟨k1, rfl, by rw [k2]; simp⟩
theorem last_app (p : List Int) (a : Int) (q : List Int) : (p ++ a :: q).getLast? = (a :: q).getLast? := by
 rw [List.getLast?_append, List.getLast?_cons]; rfl
theorem Pa.suf {E : List (List Int)} {r k a : Int} {p q : List Int} (h : Pa E r k (p ++ a :: q)) : Pa E a k (a :: q) :=
 ⟨NB.right p h.nb, rfl, by have := h.ls; rwa [last_app] at this⟩
theorem pa_two {E : List (List Int)} {a b : Int} {P : List Int} (h : Pa E a b P) (hne : a ≠ b) : ∃ q, P = a :: (q ++ [b]) := by
 obtain ⟨l, e⟩ := List.head?_eq_some_iff.1 h.hd
 obtain ⟨q, e2⟩ := List.getLast?_eq_some_iff.1 h.ls
 cases q with
 | nil => rw [e] at e2; simp at e2; exact absurd e2.1 hne
 | cons x q =>
  rw [e] at e2
  simp only [List.cons_append, List.cons.injEq] at e2
  exact ⟨q, by rw [e, e2.2]⟩
end Go.Proofs.YtmgmpnhlehonmaaGreat
namespace Go.Proofs.YtmgmpnhlehonmaaGreat
def wo (V : List Int) (x : Int) : List Int := V.filter fun y => decide (y ≠ x)
theorem wo_mem {V : List Int} {x y : Int} : y ∈ wo V x ↔ y ∈ V ∧ y ≠ x := by simp [wo]
theorem wo_comm (V : List Int) (x y : Int) : wo (wo V x) y = wo (wo V y) x := by
 unfold wo
 rw [List.filter_filter, List.filter_filter]
 congr 1
 funext z
 exact Bool.and_comm _ _
theorem wo_out {V : List Int} {x : Int} (h : x ∉ V) : wo V x = V := by
 unfold wo
 rw [List.filter_eq_self]
 intro y hy
 exact decide_eq_true fun e => h (e ▸ hy)
theorem wo_nodup {V : List Int} (h : V.Nodup) (x : Int) : (wo V x).Nodup := h.filter _
theorem wo_cons_self (V : List Int) (x : Int) : wo (x :: V) x = wo V x := by simp [wo]
theorem wo_cons_ne (V : List Int) {x y : Int} (h : y ≠ x) : wo (y :: V) x = y :: wo V x := by simp [wo, h]
theorem wo_append (V W : List Int) (x : Int) : wo (V ++ W) x = wo V x ++ wo W x := by simp [wo]
theorem wo_perm {V W : List Int} (h : V.Perm W) (x : Int) : (wo V x).Perm (wo W x) := h.filter _
theorem wo_map {V S : List Int} {φ : Int → Int} {x : Int} (hS : ∀ a ∈ S, ∀ b ∈ S, φ a = φ b → a = b) (hV : ∀ a ∈ V, a ∈ S) (hx : x ∈ S) : wo (V.map φ) (φ x) = (wo V x).map φ := by
 unfold wo
 rw [List.filter_map]
 congr 1
 refine List.filter_congr fun y hy => ?_
 simp only [Function.comp]
 refine decide_eq_decide.2 (not_congr ⟨fun e => hS _ (hV _ hy) _ hx e, fun e => by rw [e]⟩)
def prL (a : Int → Int) : List Int → Int
 | [] => 1
 | x :: V => a x * prL a V
theorem prL_append (a : Int → Int) : ∀ V W, prL a (V ++ W) = prL a V * prL a W
 | [], W => by simp [prL]
 | x :: V, W => by rw [List.cons_append, prL, prL, prL_append a V W, Int.mul_assoc]
theorem prL_perm (a : Int → Int) {V W : List Int} (h : V.Perm W) : prL a V = prL a W := by
 induction h with
 | nil => rfl
 | cons x _ ih => rw [prL, prL, ih]
 | swap x y l => simp only [prL]; rw [← Int.mul_assoc, ← Int.mul_assoc, Int.mul_comm (a y)]
 | trans _ _ h1 h2 => rw [h1, h2]
theorem prL_congr {a b : Int → Int} : ∀ {V : List Int}, (∀ x ∈ V, a x = b x) → prL a V = prL b V
 | [], _ => rfl
 | x :: V, h => by rw [prL, prL, h x (by simp), prL_congr fun y hy => h y (by simp [hy])]
theorem prL_map (a : Int → Int) (φ : Int → Int) : ∀ V : List Int, prL a (V.map φ) = prL (fun x => a (φ x)) V
 | [] => rfl
 | x :: V => by rw [List.map_cons, prL, prL, prL_map a φ V]
theorem prL_out (a : Int → Int) {V : List Int} (hn : V.Nodup) {v : Int} (hv : v ∈ V) : prL a V = a v * prL a (wo V v) := by
 induction V with
 | nil => simp at hv
 | cons x V ih =>
  rw [List.nodup_cons] at hn
  by_cases e : x = v
  ·subst e; rw [wo_cons_self, wo_out hn.1, prL]
  ·rw [wo_cons_ne _ e, prL, prL, ih hn.2 (by rcases List.mem_cons.1 hv with h | h; exact absurd h.symm e; exact h), ← Int.mul_assoc, ← Int.mul_assoc, Int.mul_comm (a x)]
abbrev e0 (e : List Int) : Int := e.getD 0 0
abbrev e1 (e : List Int) : Int := e.getD 1 0
def Dm (a : Int → Int) : List (List Int) → List Int → Int
 | [], V => prL a V
 | e :: E, V => Dm a E V - if e0 e ∈ V ∧ e1 e ∈ V then Dm a E (wo (wo V (e0 e)) (e1 e)) else 0
theorem Dm_off (a : Int → Int) (E : List (List Int)) {e : List Int} {V : List Int} (h : ¬ (e0 e ∈ V ∧ e1 e ∈ V)) : Dm a (e :: E) V = Dm a E V := by rw [Dm, if_neg h, Int.sub_zero]
theorem Dm_congr {a b : Int → Int} : ∀ (E : List (List Int)) {V : List Int}, (∀ x ∈ V, a x = b x) → Dm a E V = Dm b E V
 | [], V, h => prL_congr h
 | e :: E, V, h => by
  rw [Dm, Dm, Dm_congr E h, Dm_congr E (V := wo (wo V (e0 e)) (e1 e)) fun x hx => h x (wo_mem.1 (wo_mem.1 hx).1).1]
theorem Dm_permV (a : Int → Int) : ∀ (E : List (List Int)) {V W : List Int}, V.Perm W → Dm a E V = Dm a E W
 | [], V, W, h => prL_perm a h
 | e :: E, V, W, h => by
  rw [Dm, Dm, Dm_permV a E h, Dm_permV a E (wo_perm (wo_perm h (e0 e)) (e1 e))]
  congr 1
  by_cases hc : e0 e ∈ V ∧ e1 e ∈ V
  ·rw [if_pos hc, if_pos ⟨h.mem_iff.1 hc.1, h.mem_iff.1 hc.2⟩]
  ·rw [if_neg hc, if_neg (fun q => hc ⟨h.mem_iff.2 q.1, h.mem_iff.2 q.2⟩)]
theorem Dm_swap (a : Int → Int) (E : List (List Int)) (e f : List Int) (V : List Int) : Dm a (e :: f :: E) V = Dm a (f :: e :: E) V := by
 have down : ∀ {x y z : Int} {V : List Int}, z ∈ wo (wo V x) y → z ∈ V := fun h => (wo_mem.1 (wo_mem.1 h).1).1
 simp only [Dm]
 by_cases he : e0 e ∈ V ∧ e1 e ∈ V
 ·by_cases hf : e0 f ∈ V ∧ e1 f ∈ V
  ·simp only [if_pos he, if_pos hf]
   have key : (e0 f ∈ wo (wo V (e0 e)) (e1 e) ∧ e1 f ∈ wo (wo V (e0 e)) (e1 e)) ↔ (e0 e ∈ wo (wo V (e0 f)) (e1 f) ∧ e1 e ∈ wo (wo V (e0 f)) (e1 f)) := by
    simp only [wo_mem]
    constructor
    ·rintro ⟨⟨⟨h1, h2⟩, h3⟩, ⟨⟨h4, h5⟩, h6⟩⟩
     exact ⟨⟨⟨he.1, fun q => h2 q.symm⟩, fun q => h5 q.symm⟩, ⟨⟨he.2, fun q => h3 q.symm⟩, fun q => h6 q.symm⟩⟩
    ·rintro ⟨⟨⟨h1, h2⟩, h3⟩, ⟨⟨h4, h5⟩, h6⟩⟩
     exact ⟨⟨⟨hf.1, fun q => h2 q.symm⟩, fun q => h5 q.symm⟩, ⟨⟨hf.2, fun q => h3 q.symm⟩, fun q => h6 q.symm⟩⟩
   have hw : wo (wo (wo (wo V (e0 e)) (e1 e)) (e0 f)) (e1 f) = wo (wo (wo (wo V (e0 f)) (e1 f)) (e0 e)) (e1 e) := by
    rw [wo_comm (wo V (e0 e)) (e1 e) (e0 f), wo_comm V (e0 e) (e0 f), wo_comm (wo (wo V (e0 f)) (e0 e)) (e1 e) (e1 f), wo_comm (wo V (e0 f)) (e0 e) (e1 f)]
   rw [hw]
   by_cases hk : e0 f ∈ wo (wo V (e0 e)) (e1 e) ∧ e1 f ∈ wo (wo V (e0 e)) (e1 e)
   ·rw [if_pos hk, if_pos (key.1 hk)]; omega
   ·rw [if_neg hk, if_neg (fun q => hk (key.2 q))]; omega
  ·have hk : ¬ (e0 f ∈ wo (wo V (e0 e)) (e1 e) ∧ e1 f ∈ wo (wo V (e0 e)) (e1 e)) := fun q => hf ⟨down q.1, down q.2⟩
   simp only [if_pos he, if_neg hf, if_neg hk]
   omega
 ·by_cases hf : e0 f ∈ V ∧ e1 f ∈ V
  ·have hk : ¬ (e0 e ∈ wo (wo V (e0 f)) (e1 f) ∧ e1 e ∈ wo (wo V (e0 f)) (e1 f)) := fun q => he ⟨down q.1, down q.2⟩
   simp only [if_neg he, if_pos hf, if_neg hk]
   omega
  ·simp only [if_neg he, if_neg hf]
theorem Dm_permE (a : Int → Int) {E F : List (List Int)} (h : E.Perm F) : ∀ V, Dm a E V = Dm a F V := by
 induction h with
 | nil => exact fun _ => rfl
 | cons e _ ih => intro V; rw [Dm, Dm, ih, ih]
 | swap e f l => exact fun V => Dm_swap a l f e V
 | trans _ _ h1 h2 => intro V; rw [h1, h2]
def nbs (v : Int) : List (List Int) → List Int
 | [] => []
 | e :: E => if e0 e = v then e1 e :: nbs v E else if e1 e = v then e0 e :: nbs v E else nbs v E
def smL (f : Int → Int) : List Int → Int
 | [] => 0
 | j :: l => f j + smL f l
theorem smL_congr {f g : Int → Int} : ∀ {l : List Int}, (∀ j ∈ l, f j = g j) → smL f l = smL g l
 | [], _ => rfl
 | j :: l, h => by rw [smL, smL, h j (by simp), smL_congr fun i hi => h i (by simp [hi])]
theorem smL_perm (f : Int → Int) {l m : List Int} (h : l.Perm m) : smL f l = smL f m := by
 induction h with
 | nil => rfl
 | cons x _ ih => rw [smL, smL, ih]
 | swap x y l => simp only [smL]; omega
 | trans _ _ h1 h2 => rw [h1, h2]
theorem smL_sub (f g : Int → Int) : ∀ l, smL (fun j => f j - g j) l = smL f l - smL g l
 | [] => rfl
 | j :: l => by rw [smL, smL, smL, smL_sub f g l]; omega
theorem smL_mul (c : Int) (f : Int → Int) : ∀ l, smL (fun j => c * f j) l = c * smL f l
 | [] => by simp [smL]
 | j :: l => by rw [smL, smL, smL_mul c f l, Int.mul_add]
def NoLoop (E : List (List Int)) : Prop := ∀ e ∈ E, e0 e ≠ e1 e
theorem Dm_at (a : Int → Int) : ∀ (E : List (List Int)), NoLoop E → ∀ {V : List Int}, V.Nodup → ∀ {v : Int}, v ∈ V →
  Dm a E V = a v * Dm a E (wo V v) - smL (fun j => if j ∈ V then Dm a E (wo (wo V v) j) else 0) (nbs v E)
 | [], _, V, hn, v, hv => by simp only [Dm, nbs, smL, Int.sub_zero]; exact prL_out a hn hv
 | e :: E, hE, V, hn, v, hv => by
  have ih := fun {V : List Int} (hn : V.Nodup) {v : Int} (hv : v ∈ V) => Dm_at a E (fun f hf => hE f (by simp [hf])) hn hv
  have hne := hE e (by simp)
  have hoff : ∀ U : List Int, v ∉ U → (e0 e = v ∨ e1 e = v) → Dm a (e :: E) U = Dm a E U := fun U hU hv => Dm_off a E fun q => hU (by rcases hv with rfl | rfl; exact q.1; exact q.2)
  have hvw : ∀ j, v ∉ wo (wo V v) j := fun j q => (wo_mem.1 (wo_mem.1 q).1).2 rfl
  have hvv : v ∉ wo V v := fun q => (wo_mem.1 q).2 rfl
  by_cases h0 : e0 e = v
  ·rw [nbs, if_pos h0, smL, hoff _ hvv (.inl h0), smL_congr (g := fun j => if j ∈ V then Dm a E (wo (wo V v) j) else 0) (fun j _ => by rw [hoff _ (hvw j) (.inl h0)]), hoff _ (hvw _) (.inl h0)]
   rw [Dm, ih hn hv, h0]
   by_cases h1 : e1 e ∈ V
   ·rw [if_pos ⟨hv, h1⟩, if_pos h1]; omega
   ·rw [if_neg (fun q => h1 q.2), if_neg h1]; omega
  ·by_cases h1 : e1 e = v
   ·rw [nbs, if_neg h0, if_pos h1, smL, hoff _ hvv (.inr h1), smL_congr (g := fun j => if j ∈ V then Dm a E (wo (wo V v) j) else 0) (fun j _ => by rw [hoff _ (hvw j) (.inr h1)]), hoff _ (hvw _) (.inr h1)]
    rw [Dm, ih hn hv, h1, wo_comm V (e0 e) v]
    by_cases h2 : e0 e ∈ V
    ·rw [if_pos ⟨h2, hv⟩, if_pos h2]; omega
    ·rw [if_neg (fun q => h2 q.1), if_neg h2]; omega
   ·rw [nbs, if_neg h0, if_neg h1, Dm, ih hn hv, Dm]
    have hA : (e0 e ∈ wo V v ∧ e1 e ∈ wo V v) ↔ (e0 e ∈ V ∧ e1 e ∈ V) := by
     simp only [wo_mem]
     exact ⟨fun q => ⟨q.1.1, q.2.1⟩, fun q => ⟨⟨q.1, h0⟩, ⟨q.2, h1⟩⟩⟩
    have hW : ∀ U : List Int, wo (wo (wo U (e0 e)) (e1 e)) v = wo (wo (wo U v) (e0 e)) (e1 e) := fun U => by
     rw [wo_comm (wo U (e0 e)) (e1 e) v, wo_comm U (e0 e) v]
    by_cases h2 : e0 e ∈ V ∧ e1 e ∈ V
    ·have hv2 : v ∈ wo (wo V (e0 e)) (e1 e) := wo_mem.2 ⟨wo_mem.2 ⟨hv, fun q => h0 q.symm⟩, fun q => h1 q.symm⟩
     rw [if_pos h2, if_pos (hA.2 h2), ih (wo_nodup (wo_nodup hn _) _) hv2, hW]
     have hs : smL (fun j => if j ∈ V then Dm a (e :: E) (wo (wo V v) j) else 0) (nbs v E) = smL (fun j => if j ∈ V then Dm a E (wo (wo V v) j) else 0) (nbs v E) - smL (fun j => if j ∈ wo (wo V (e0 e)) (e1 e) then Dm a E (wo (wo (wo (wo V v) (e0 e)) (e1 e)) j) else 0) (nbs v E) := by
      rw [← smL_sub]
      refine smL_congr fun j _ => ?_
      by_cases hj : j ∈ V
      ·rw [if_pos hj, if_pos hj, Dm]
       by_cases hj2 : j = e0 e ∨ j = e1 e
       ·rw [if_neg (c := j ∈ wo (wo V (e0 e)) (e1 e)) (fun q => by
         have := wo_mem.1 q
         have := wo_mem.1 this.1
         omega), if_neg (fun q => by
         have h3 := (wo_mem.1 q.1).2
         have h4 := (wo_mem.1 q.2).2
         omega)]
       ·rw [if_pos (c := j ∈ wo (wo V (e0 e)) (e1 e)) (wo_mem.2 ⟨wo_mem.2 ⟨hj, by omega⟩, by omega⟩), if_pos ⟨wo_mem.2 ⟨(hA.2 h2).1, by omega⟩, wo_mem.2 ⟨(hA.2 h2).2, by omega⟩⟩]
        rw [wo_comm (wo (wo V v) j) (e0 e) (e1 e), wo_comm (wo V v) j (e1 e), wo_comm (wo (wo V v) (e1 e)) j (e0 e), wo_comm (wo V v) (e1 e) (e0 e)]
      ·rw [if_neg hj, if_neg hj, if_neg (fun q => hj (wo_mem.1 (wo_mem.1 q).1).1)]; rfl
     rw [hs, Int.mul_sub]
     omega
    ·rw [if_neg h2, if_neg (fun q => h2 (hA.1 q)), Int.sub_zero, Int.sub_zero]
     rw [smL_congr (f := fun j => if j ∈ V then Dm a (e :: E) (wo (wo V v) j) else 0) (g := fun j => if j ∈ V then Dm a E (wo (wo V v) j) else 0)]
     intro j _
     rw [Dm_off a E (V := wo (wo V v) j) fun q => h2 ⟨(wo_mem.1 (wo_mem.1 q.1).1).1, (wo_mem.1 (wo_mem.1 q.2).1).1⟩]
theorem Dm_raise {a b : Int → Int} {E : List (List Int)} (hE : NoLoop E) {V : List Int} (hn : V.Nodup) {v : Int} (hv : v ∈ V) (hb : b v = a v + 1) (h : ∀ x ∈ V, x ≠ v → b x = a x) : Dm b E V = Dm a E V + Dm a E (wo V v) := by
 have h1 : ∀ U : List Int, (∀ x ∈ U, x ∈ wo V v) → Dm b E U = Dm a E U := fun U hU => Dm_congr E fun x hx => h x (wo_mem.1 (hU x hx)).1 (wo_mem.1 (hU x hx)).2
 rw [Dm_at b E hE hn hv, Dm_at a E hE hn hv, hb, h1 _ (fun _ h => h), smL_congr (g := fun j => if j ∈ V then Dm a E (wo (wo V v) j) else 0) (fun j _ => by rw [h1 _ fun x hx => (wo_mem.1 hx).1]), Int.add_mul]
 omega
theorem Dm_map (a : Int → Int) {φ : Int → Int} {S : List Int} (hS : ∀ x ∈ S, ∀ y ∈ S, φ x = φ y → x = y) : ∀ (E : List (List Int)) (V : List Int), (∀ x ∈ V, x ∈ S) → (∀ e ∈ E, e0 e ∈ S ∧ e1 e ∈ S) → Dm a (E.map fun e => [φ (e0 e), φ (e1 e)]) (V.map φ) = Dm (fun x => a (φ x)) E V
 | [], V, _, _ => by rw [List.map_nil, Dm, Dm]; exact prL_map a φ V
 | e :: E, V, hV, hE => by
  have he := hE e (by simp)
  have ih := fun V hV => Dm_map a hS E V hV fun f hf => hE f (by simp [hf])
  rw [List.map_cons, Dm, Dm, ih V hV]
  have hm : ∀ x, x ∈ S → (φ x ∈ V.map φ ↔ x ∈ V) := fun x hx => by
   rw [List.mem_map]
   exact ⟨fun ⟨y, hy, e⟩ => by rw [← hS y (hV y hy) x hx e]; exact hy, fun h => ⟨x, h, rfl⟩⟩
  have hw : wo (wo (V.map φ) (φ (e0 e))) (φ (e1 e)) = (wo (wo V (e0 e)) (e1 e)).map φ := by
   rw [wo_map hS hV he.1, wo_map hS (fun x hx => hV x (wo_mem.1 hx).1) he.2]
  have hA : (e0 [φ (e0 e), φ (e1 e)] ∈ V.map φ ∧ e1 [φ (e0 e), φ (e1 e)] ∈ V.map φ) ↔ (e0 e ∈ V ∧ e1 e ∈ V) := by
   rw [show e0 [φ (e0 e), φ (e1 e)] = φ (e0 e) from rfl, show e1 [φ (e0 e), φ (e1 e)] = φ (e1 e) from rfl, hm _ he.1, hm _ he.2]
  by_cases h : e0 e ∈ V ∧ e1 e ∈ V
  ·rw [if_pos h, if_pos (hA.2 h)]
   rw [show wo (wo (V.map φ) (e0 [φ (e0 e), φ (e1 e)])) (e1 [φ (e0 e), φ (e1 e)]) = wo (wo (V.map φ) (φ (e0 e))) (φ (e1 e)) from rfl, hw, ih _ fun x hx => hV x (wo_mem.1 (wo_mem.1 hx).1).1]
  ·rw [if_neg h, if_neg (fun q => h (hA.1 q))]
theorem Dm_filter (a : Int → Int) (p : List Int → Bool) : ∀ (E : List (List Int)) (V : List Int), (∀ e ∈ E, p e = false → ¬ (e0 e ∈ V ∧ e1 e ∈ V)) → Dm a (E.filter p) V = Dm a E V
 | [], V, _ => rfl
 | e :: E, V, h => by
  have hs : ∀ U : List Int, (∀ x ∈ U, x ∈ V) → Dm a (E.filter p) U = Dm a E U := fun U hU => Dm_filter a p E U fun f hf hp q => h f (by simp [hf]) hp ⟨hU _ q.1, hU _ q.2⟩
  cases hp : p e with
  | true =>
   rw [List.filter_cons_of_pos hp, Dm, Dm, hs V fun _ h => h, hs _ fun x hx => (wo_mem.1 (wo_mem.1 hx).1).1]
  | false =>
   rw [List.filter_cons_of_neg (by rw [hp]; decide), hs V fun _ h => h, Dm_off a E (h e (by simp) hp)]
theorem Dm_append (a : Int → Int) : ∀ (E : List (List Int)) (V W : List Int), (∀ x ∈ V, x ∉ W) → (∀ e ∈ E, ¬ (e0 e ∈ V ∧ e1 e ∈ W) ∧ ¬ (e0 e ∈ W ∧ e1 e ∈ V)) → Dm a E (V ++ W) = Dm a E V * Dm a E W
 | [], V, W, _, _ => prL_append a V W
 | e :: E, V, W, hd, hE => by
  have ih := fun V W hd hE => Dm_append a E V W hd hE
  have he := hE e (by simp)
  have hE' : ∀ f ∈ E, ¬ (e0 f ∈ V ∧ e1 f ∈ W) ∧ ¬ (e0 f ∈ W ∧ e1 f ∈ V) := fun f hf => hE f (by simp [hf])
  rw [Dm, Dm, Dm, ih V W hd hE']
  by_cases h1 : e0 e ∈ V ∧ e1 e ∈ V
  ·have hn : ¬ (e0 e ∈ W ∧ e1 e ∈ W) := fun q => hd _ h1.1 q.1
   rw [if_pos ⟨List.mem_append_left _ h1.1, List.mem_append_left _ h1.2⟩, if_pos h1, if_neg hn, Int.sub_zero, Int.sub_mul]
   rw [wo_append, wo_append, wo_out (V := W) (hd _ h1.1), wo_out (V := W) (hd _ h1.2), ih _ _ (fun x hx => hd x (wo_mem.1 (wo_mem.1 hx).1).1) fun f hf => ⟨fun q => (hE' f hf).1 ⟨(wo_mem.1 (wo_mem.1 q.1).1).1, q.2⟩, fun q => (hE' f hf).2 ⟨q.1, (wo_mem.1 (wo_mem.1 q.2).1).1⟩⟩]
  ·rw [if_neg h1, Int.sub_zero]
   by_cases h2 : e0 e ∈ W ∧ e1 e ∈ W
   ·have hv0 : e0 e ∉ V := fun q => hd _ q h2.1
    have hv1 : e1 e ∉ V := fun q => hd _ q h2.2
    rw [if_pos ⟨List.mem_append_right _ h2.1, List.mem_append_right _ h2.2⟩, if_pos h2, Int.mul_sub]
    rw [wo_append, wo_append, wo_out (V := V) hv0, wo_out (V := V) hv1, ih _ _ (fun x hx q => hd x hx (wo_mem.1 (wo_mem.1 q).1).1) fun f hf => ⟨fun q => (hE' f hf).1 ⟨q.1, (wo_mem.1 (wo_mem.1 q.2).1).1⟩, fun q => (hE' f hf).2 ⟨(wo_mem.1 (wo_mem.1 q.1).1).1, q.2⟩⟩]
   ·rw [if_neg h2, Int.sub_zero, if_neg, Int.sub_zero]
    rintro ⟨q1, q2⟩
    rcases List.mem_append.1 q1 with q1 | q1 <;> rcases List.mem_append.1 q2 with q2 | q2
    ·exact h1 ⟨q1, q2⟩
    ·exact he.1 ⟨q1, q2⟩
    ·exact he.2 ⟨q1, q2⟩
    ·exact h2 ⟨q1, q2⟩
theorem nbs_append (v : Int) : ∀ E F, nbs v (E ++ F) = nbs v E ++ nbs v F
 | [], F => rfl
 | e :: E, F => by
  rw [List.cons_append, nbs, nbs, nbs_append v E F]
  split
  ·rfl
  ·split <;> rfl
theorem nbs_take {n : Nat} {E : List (List Int)} (hg : GoodE n E) (v : Int) : ∀ j, j ≤ E.length → (nbs v (E.take j)).Perm (lowN E v j ++ uppN E v j)
 | 0, _ => by simp [nbs, lowN, uppN]
 | j + 1, hj => by
  have ih := nbs_take hg v j (by omega)
  have hgj := hg j (by omega)
  have hlt := hgj.2.1
  rw [take_step hgj (by omega), nbs_append, lowN, uppN]
  have hs : nbs v [[ea E j, eb E j]] = if ea E j = v then [eb E j] else if eb E j = v then [ea E j] else [] := rfl
  rw [hs]
  by_cases h1 : ea E j = v
  ·rw [if_pos h1, if_neg (by omega), if_pos h1]
   rw [← List.append_assoc]
   exact ih.append_right _
  ·rw [if_neg h1]
   by_cases h2 : eb E j = v
   ·rw [if_pos h2, if_pos h2, if_neg h1]
    rw [List.append_assoc]
    refine (ih.append_right _).trans ?_
    rw [List.append_assoc]
    exact List.Perm.append_left _ List.perm_append_comm
   ·rw [if_neg h2, if_neg h2, if_neg h1, List.append_nil]
    exact ih
theorem nbs_near {n : Nat} {E : List (List Int)} (hg : GoodE n E) (v : Int) : (nbs v E).Perm (near E v) := by
 have := nbs_take hg v E.length (Nat.le_refl _)
 rwa [List.take_length] at this
theorem noLoop {n : Nat} {E : List (List Int)} (hg : GoodE n E) : NoLoop E := fun e he => by
 obtain ⟨j, hj, rfl, h1, h2, h3⟩ := hg.mem he
 show ea E j ≠ eb E j
 omega
theorem edge_adj {n : Nat} {E : List (List Int)} (hg : GoodE n E) {e : List Int} (he : e ∈ E) : Adj E (e0 e) (e1 e) ∧ e = [e0 e, e1 e] := by
 obtain ⟨j, hj, h, h1, h2, h3⟩ := hg.mem he
 have : e = [e0 e, e1 e] := by rw [h]; rfl
 exact ⟨.inl (this ▸ he), this⟩
theorem Dm_near (a : Int → Int) {n : Nat} {E : List (List Int)} (hg : GoodE n E) {V : List Int} (hn : V.Nodup) {v : Int} (hv : v ∈ V) :
  Dm a E V = a v * Dm a E (wo V v) - smL (fun j => if j ∈ V then Dm a E (wo (wo V v) j) else 0) (near E v) := by
 rw [Dm_at a E (noLoop hg) hn hv, smL_perm _ (nbs_near hg v)]
def pfL' (f : Int → Int) : List Int → Int
 | [] => 1
 | c :: l => f c * pfL' f l
def sgL (f g : Int → Int) : List Int → Int
 | [] => 0
 | c :: l => g c * pfL' f l + f c * sgL f g l
theorem foldFG_eq (H : Int → Int × Int) : ∀ (l : List Int) (p r : Int), foldFG H l (p, r) = (p * pfL' (fun c => (H c).1) l, r * pfL' (fun c => (H c).1) l - p * sgL (fun c => (H c).1) (fun c => (H c).2) l)
 | [], p, r => by simp [foldFG, pfL', sgL]
 | c :: l, p, r => by
  rw [foldFG, foldFG_eq H l, pfL', sgL]
  refine Prod.ext ?_ ?_
  ·show p * (H c).1 * _ = p * ((H c).1 * _)
   rw [Int.mul_assoc]
  ·show (r * (H c).1 - p * (H c).2) * _ - p * (H c).1 * _ = r * ((H c).1 * _) - p * ((H c).2 * _ + (H c).1 * _)
   rw [Int.sub_mul, Int.mul_add]
   simp only [Int.mul_assoc]
   omega
def parts (B : Int → List Int) : List Int → List Int
 | [] => []
 | c :: l => B c ++ parts B l
theorem parts_mem {B : Int → List Int} {x : Int} : ∀ {l : List Int}, x ∈ parts B l ↔ ∃ c ∈ l, x ∈ B c
 | [] => by simp [parts]
 | c :: l => by rw [parts, List.mem_append, parts_mem (l := l)]; simp
structure Apart (E : List (List Int)) (B : Int → List Int) (l : List Int) : Prop where
 dis : ∀ c ∈ l, ∀ d ∈ l, ∀ x ∈ B c, x ∈ B d → c = d
 far : ∀ c ∈ l, ∀ d ∈ l, ∀ x ∈ B c, ∀ y ∈ B d, Adj E x y → c = d
theorem Apart.mono {E : List (List Int)} {B B' : Int → List Int} {l : List Int} (h : Apart E B l) (hB : ∀ c, ∀ x ∈ B' c, x ∈ B c) : Apart E B' l :=
 ⟨fun c hc d hd x h1 h2 => h.dis c hc d hd x (hB _ _ h1) (hB _ _ h2), fun c hc d hd x h1 y h2 => h.far c hc d hd x (hB _ _ h1) y (hB _ _ h2)⟩
theorem Apart.tail {E : List (List Int)} {B : Int → List Int} {c : Int} {l : List Int} (h : Apart E B (c :: l)) : Apart E B l :=
 ⟨fun c hc d hd => h.dis c (by simp [hc]) d (by simp [hd]), fun c hc d hd => h.far c (by simp [hc]) d (by simp [hd])⟩
theorem Dm_parts (a : Int → Int) {n : Nat} {E : List (List Int)} (hg : GoodE n E) (B : Int → List Int) : ∀ {l : List Int}, l.Nodup → Apart E B l → Dm a E (parts B l) = pfL' (fun c => Dm a E (B c)) l
 | [], _, _ => by
  have : ∀ E : List (List Int), Dm a E [] = 1 := by
   intro E
   induction E with
   | nil => rfl
   | cons e E ih => rw [Dm_off a E (by simp), ih]
  exact this E
 | c :: l, hn, h => by
  rw [List.nodup_cons] at hn
  rw [parts, pfL', ← Dm_parts a hg B hn.2 h.tail]
  refine Dm_append a E _ _ (fun x hx hy => ?_) (fun e he => ?_)
  ·obtain ⟨d, hd, hy⟩ := parts_mem.1 hy
   exact hn.1 (by rw [h.dis c (by simp) d (by simp [hd]) x hx hy]; exact hd)
  ·have ha := (edge_adj hg he).1
   refine ⟨fun q => ?_, fun q => ?_⟩
   ·obtain ⟨d, hd, hy⟩ := parts_mem.1 q.2
    exact hn.1 (by rw [h.far c (by simp) d (by simp [hd]) _ q.1 _ hy ha]; exact hd)
   ·obtain ⟨d, hd, hy⟩ := parts_mem.1 q.1
    exact hn.1 (by rw [h.far c (by simp) d (by simp [hd]) _ q.2 _ hy ha.symm]; exact hd)
theorem parts_nodup {E : List (List Int)} {B : Int → List Int} : ∀ {l : List Int}, l.Nodup → (∀ c ∈ l, (B c).Nodup) → Apart E B l → (parts B l).Nodup
 | [], _, _, _ => List.nodup_nil
 | c :: l, hn, hB, h => by
  rw [List.nodup_cons] at hn
  rw [parts, List.nodup_append]
  refine ⟨hB c (by simp), parts_nodup hn.2 (fun d hd => hB d (by simp [hd])) h.tail, fun x hx y hy e => ?_⟩
  subst e
  obtain ⟨d, hd, hy⟩ := parts_mem.1 hy
  exact hn.1 (by rw [h.dis c (by simp) d (by simp [hd]) x hx hy]; exact hd)
theorem sgL_parts (a : Int → Int) {n : Nat} {E : List (List Int)} (hg : GoodE n E) (B : Int → List Int) : ∀ {l : List Int}, l.Nodup → (∀ c ∈ l, c ∈ B c) → Apart E B l →
  sgL (fun c => Dm a E (B c)) (fun c => Dm a E (wo (B c) c)) l = smL (fun c => Dm a E (wo (parts B l) c)) l
 | [], _, _, _ => rfl
 | c :: l, hn, hc, h => by
  have hn' := List.nodup_cons.1 hn
  have ih := sgL_parts a hg B hn'.2 (fun d hd => hc d (by simp [hd])) h.tail
  have hap : ∀ C D : List Int, (∀ x ∈ C, x ∈ B c) → (∀ x ∈ D, x ∈ parts B l) → Dm a E (C ++ D) = Dm a E C * Dm a E D := fun C D hC hD => by
   refine Dm_append a E _ _ (fun x hx hy => ?_) (fun e he => ?_)
   ·obtain ⟨d, hd, hy⟩ := parts_mem.1 (hD x hy)
    exact hn'.1 (by rw [h.dis c (by simp) d (by simp [hd]) x (hC x hx) hy]; exact hd)
   ·have ha := (edge_adj hg he).1
    refine ⟨fun q => ?_, fun q => ?_⟩
    ·obtain ⟨d, hd, hy⟩ := parts_mem.1 (hD _ q.2)
     exact hn'.1 (by rw [h.far c (by simp) d (by simp [hd]) _ (hC _ q.1) _ hy ha]; exact hd)
    ·obtain ⟨d, hd, hy⟩ := parts_mem.1 (hD _ q.1)
     exact hn'.1 (by rw [h.far c (by simp) d (by simp [hd]) _ (hC _ q.2) _ hy ha.symm]; exact hd)
  have hout : c ∉ parts B l := fun q => by
   obtain ⟨d, hd, hy⟩ := parts_mem.1 q
   exact hn'.1 (by rw [h.dis c (by simp) d (by simp [hd]) c (hc c (by simp)) hy]; exact hd)
  rw [sgL, smL, ih, ← Dm_parts a hg B hn'.2 h.tail, parts, wo_append, wo_out hout, hap _ _ (fun x hx => (wo_mem.1 hx).1) (fun x hx => hx)]
  congr 1
  rw [← smL_mul]
  refine smL_congr fun d hd => ?_
  have hdout : d ∉ B c := fun q => hn'.1 (by rw [h.dis c (by simp) d (by simp [hd]) d q (hc d (by simp [hd]))]; exact hd)
  rw [wo_append, wo_out hdout, hap _ _ (fun x hx => hx) (fun x hx => (wo_mem.1 hx).1)]
noncomputable def brL (n : Nat) (E : List (List Int)) (v : Int) (t : List Int) : List Int := (iota n).filter fun x => @decide (∃ u, Bw E v t x u) (Classical.propDecidable _)
theorem iota_mem {n : Nat} {x : Int} : x ∈ iota n ↔ 0 ≤ x ∧ x < n := by
 unfold iota
 rw [List.mem_map]
 constructor
 ·rintro ⟨i, hi, rfl⟩
  have := List.mem_range.1 hi
  omega
 ·intro h
  exact ⟨x.toNat, List.mem_range.2 (by omega), by omega⟩
theorem iota_nodup (n : Nat) : (iota n).Nodup := by
 unfold iota
 rw [List.nodup_iff_pairwise_ne, List.pairwise_map]
 exact (List.nodup_iff_pairwise_ne.1 List.nodup_range).imp fun h => by omega
theorem brL_mem {n : Nat} {E : List (List Int)} (hg : GoodE n E) {v : Int} {t : List Int} (hv : 0 ≤ v ∧ v < n) {x : Int} : x ∈ brL n E v t ↔ ∃ u, Bw E v t x u := by
 unfold brL
 rw [List.mem_filter, iota_mem, @decide_eq_true_iff _ (Classical.propDecidable _)]
 exact ⟨fun h => h.2, fun h => ⟨by obtain ⟨u, h⟩ := h; exact h.range hg hv, h⟩⟩
theorem brL_nodup (n : Nat) (E : List (List Int)) (v : Int) (t : List Int) : (brL n E v t).Nodup := (iota_nodup n).filter _
theorem Bw.adj {n : Nat} {E : List (List Int)} (hg : GoodE n E) {v : Int} {t : List Int} {x u y : Int} (h : Bw E v t x u) (ha : Adj E x y) : (∃ u', Bw E v t y u') ∨ (x = v ∧ y = t.headD (-1)) := by
 by_cases hy : y = u
 ·subst hy
  rcases h.cases hg with ⟨rfl, e⟩ | ⟨c, hc, l, p, h1, h2, h3⟩
  ·exact .inr ⟨rfl, e⟩
  ·left
   cases p with
   | nil =>
    obtain ⟨rfl, e⟩ := List.cons.inj h2
    rw [e] at h1 h3
    rw [h3]
    exact ⟨_, v :: t |>.tail, [], h1.tail, rfl, rfl⟩
   | cons z p =>
    obtain ⟨_, h4⟩ := List.cons.inj h2
    cases l with
    | nil => have := congrArg List.length h4; simp at this
    | cons w l =>
     rw [h3]
     refine ⟨_, l, p ++ [c], h1.tail, ?_, rfl⟩
     show w :: l = _
     rw [h4]
     simp
 ·obtain ⟨l, p, h1, h2, h3⟩ := h
  left
  refine ⟨x, x :: l, y :: p, h1.cons ha.symm fun z l' e => ?_, by rw [h2]; rfl, rfl⟩
  subst e
  rw [h3] at hy
  exact hy
theorem kids_nodup {n : Nat} {E : List (List Int)} (hg : GoodE n E) (v u : Int) : (kids E v u).Nodup := (near_nodup hg v).filter _
theorem kid_apart {w : List Int} {E : List (List Int)} (hg : IsGr w E) {v : Int} {t : List Int} (hnb : NB E (v :: t)) (hv : 0 ≤ v ∧ v < w.length) : Apart E (fun c => brL w.length E c (v :: t)) (kids E v (t.headD (-1))) where
 dis := fun c hc d hd x h1 h2 => by
  obtain ⟨u, h1⟩ := (brL_mem hg.2.2.1 (kid_in hg.2.2.1 hc)).1 h1
  obtain ⟨u', h2⟩ := (brL_mem hg.2.2.1 (kid_in hg.2.2.1 hd)).1 h2
  exact h1.apart hg.forest h2
 far := fun c hc d hd x h1 y h2 ha => by
  obtain ⟨u, h1⟩ := (brL_mem hg.2.2.1 (kid_in hg.2.2.1 hc)).1 h1
  obtain ⟨u', h2⟩ := (brL_mem hg.2.2.1 (kid_in hg.2.2.1 hd)).1 h2
  rcases h1.adj hg.2.2.1 ha with ⟨u2, h3⟩ | ⟨_, e⟩
  ·exact h3.apart hg.forest h2
  ·exact absurd e (h2.off hg.forest).1
theorem brL_parts {w : List Int} {E : List (List Int)} (hg : IsGr w E) {v : Int} {t : List Int} (hnb : NB E (v :: t)) (hv : 0 ≤ v ∧ v < w.length) : (wo (brL w.length E v t) v).Perm (parts (fun c => brL w.length E c (v :: t)) (kids E v (t.headD (-1)))) := by
 rw [List.perm_ext_iff_of_nodup (wo_nodup (brL_nodup _ _ _ _) _) (parts_nodup (kids_nodup hg.2.2.1 _ _) (fun c _ => brL_nodup _ _ _ _) (kid_apart hg hnb hv))]
 intro x
 rw [wo_mem, brL_mem hg.2.2.1 hv, parts_mem]
 constructor
 ·rintro ⟨⟨u, h⟩, hne⟩
  rcases h.cases hg.2.2.1 with ⟨e, _⟩ | ⟨c, hc, h⟩
  ·exact absurd e hne
  ·exact ⟨c, hc, (brL_mem hg.2.2.1 (kid_in hg.2.2.1 hc)).2 ⟨u, h⟩⟩
 ·rintro ⟨c, hc, h⟩
  obtain ⟨u, h⟩ := (brL_mem hg.2.2.1 (kid_in hg.2.2.1 hc)).1 h
  exact ⟨⟨u, h.kid⟩, (h.off hg.forest).1⟩
def awt (w : List Int) (x : Int) : Int := -(w.getD x.toNat 0)
theorem pfL'_congr {f g : Int → Int} : ∀ {l : List Int}, (∀ c ∈ l, f c = g c) → pfL' f l = pfL' g l
 | [], _ => rfl
 | c :: l, h => by rw [pfL', pfL', h c (by simp), pfL'_congr fun d hd => h d (by simp [hd])]
theorem sgL_congr {f g f' g' : Int → Int} : ∀ {l : List Int}, (∀ c ∈ l, f c = f' c) → (∀ c ∈ l, g c = g' c) → sgL f g l = sgL f' g' l
 | [], _, _ => rfl
 | c :: l, h, h2 => by rw [sgL, sgL, h c (by simp), h2 c (by simp), sgL_congr (fun d hd => h d (by simp [hd])) (fun d hd => h2 d (by simp [hd])), pfL'_congr fun d hd => h d (by simp [hd])]
theorem smL_filter (f : Int → Int) (p : Int → Bool) : ∀ (l : List Int), (∀ x ∈ l, p x = false → f x = 0) → smL f l = smL f (l.filter p)
 | [], _ => rfl
 | x :: l, h => by
  have ih := smL_filter f p l fun y hy => h y (by simp [hy])
  cases hp : p x with
  | true => rw [List.filter_cons_of_pos hp, smL, smL, ih]
  | false => rw [List.filter_cons_of_neg (by rw [hp]; decide), smL, h x (by simp) hp, ih, Int.zero_add]
theorem FG_Dm {w : List Int} {E : List (List Int)} (hg : IsGr w E) : ∀ (k : Nat) (v : Int) (t : List Int), NB E (v :: t) → (0 ≤ v ∧ v < w.length) → w.length < t.length + 1 + k →
  FG w E v (t.headD (-1)) = (Dm (awt w) E (brL w.length E v t), Dm (awt w) E (wo (brL w.length E v t) v))
 | 0, v, t, hnb, hv, hk => by have := hnb.len hg hv; omega
 | k + 1, v, t, hnb, hv, hk => by
  have ih : ∀ c ∈ kids E v (t.headD (-1)), FG w E c v = (Dm (awt w) E (brL w.length E c (v :: t)), Dm (awt w) E (wo (brL w.length E c (v :: t)) c)) := fun c hc =>
   FG_Dm hg k c (v :: t) (kid_nb hg.2.2.1 hnb hc) (kid_in hg.2.2.1 hc) (by simp only [List.length_cons]; omega)
  have hap := kid_apart hg hnb hv
  have hkn := kids_nodup hg.2.2.1 v (t.headD (-1))
  have hin : ∀ c ∈ kids E v (t.headD (-1)), c ∈ brL w.length E c (v :: t) := fun c hc => (brL_mem hg.2.2.1 (kid_in hg.2.2.1 hc)).2 ⟨_, Bw.self (kid_nb hg.2.2.1 hnb hc)⟩
  have hpf := pfL'_congr (f := fun c => (FG w E c v).1) (g := fun c => Dm (awt w) E (brL w.length E c (v :: t))) (l := kids E v (t.headD (-1))) fun c hc => by rw [ih c hc]
  have hsg := sgL_congr (f := fun c => (FG w E c v).1) (g := fun c => (FG w E c v).2) (f' := fun c => Dm (awt w) E (brL w.length E c (v :: t))) (g' := fun c => Dm (awt w) E (wo (brL w.length E c (v :: t)) c)) (l := kids E v (t.headD (-1))) (fun c hc => by rw [ih c hc]) (fun c hc => by rw [ih c hc])
  have hperm := brL_parts hg hnb hv
  rw [FG_fix hg hnb hv, foldFG_eq, hpf, hsg, ← Dm_parts (awt w) hg.2.2.1 _ hkn hap, sgL_parts (awt w) hg.2.2.1 _ hkn hin hap, ← Dm_permV _ E hperm, Int.one_mul, Int.one_mul]
  refine Prod.ext ?_ rfl
  have hvm : v ∈ brL w.length E v t := (brL_mem hg.2.2.1 hv).2 ⟨_, Bw.self hnb⟩
  show awt w v * _ - _ = _
  rw [Dm_near (awt w) hg.2.2.1 (brL_nodup _ _ _ _) hvm]
  congr 1
  rw [smL_filter (fun j => if j ∈ brL w.length E v t then Dm (awt w) E (wo (wo (brL w.length E v t) v) j) else 0) (fun c => decide (c ≠ t.headD (-1))) (near E v)]
  ·refine smL_congr fun c hc => ?_
   have hc' : c ∈ brL w.length E v t := by
    obtain ⟨u, h⟩ := (brL_mem hg.2.2.1 (kid_in hg.2.2.1 hc)).1 (hin c hc)
    exact (brL_mem hg.2.2.1 hv).2 ⟨u, h.kid⟩
   rw [if_pos hc']
   exact (Dm_permV _ E (wo_perm hperm c)).symm
  ·intro x hx hp
   simp only [decide_eq_false_iff_not, Classical.not_not] at hp
   rw [if_neg]
   intro hxb
   obtain ⟨u, hb⟩ := (brL_mem hg.2.2.1 hv).1 hxb
   obtain ⟨l, p, h1, h2, h3⟩ := hb
   have hnd := hg.forest _ h1
   rw [h2] at hnd
   cases t with
   | nil =>
    have := near_in hg.2.2.1 hx
    simp only [List.headD_nil] at hp
    omega
   | cons z t =>
    simp only [List.headD_cons] at hp
    subst hp
    cases p with
    | nil =>
     obtain ⟨e, _⟩ := List.cons.inj h2
     have := (hg.2.2.1.adj ((near_mem hg.2.2.1).1 hx)).2.2
     omega
    | cons q p =>
     obtain ⟨e, _⟩ := List.cons.inj h2
     subst e
     rw [List.cons_append, List.nodup_cons] at hnd
     exact hnd.1 (by simp)
theorem rts_iffQ {w : List Int} {E : List (List Int)} {r : Int} : ∀ n, r ∈ rts w E n ↔ (0 ≤ r ∧ r < n) ∧ labOf w E r = r
 | 0 => by simp [rts]; omega
 | n + 1 => by
  have ih := rts_iffQ (w := w) (E := E) (r := r) n
  rw [rts]
  by_cases h : labOf w E n = n
  ·rw [if_pos h, List.mem_append, ih, List.mem_singleton]
   constructor
   ·rintro (q | q)
    ·exact ⟨by omega, q.2⟩
    ·subst q; exact ⟨by omega, h⟩
   ·rintro ⟨q1, q2⟩
    by_cases e : r = n
    ·exact .inr e
    ·exact .inl ⟨by omega, q2⟩
  ·rw [if_neg h, ih]
   constructor
   ·rintro ⟨q1, q2⟩; exact ⟨by omega, q2⟩
   ·rintro ⟨q1, q2⟩
    refine ⟨⟨q1.1, ?_⟩, q2⟩
    by_cases e : r = n
    ·subst e; exact absurd q2 h
    ·omega
theorem rts_nodupQ (w : List Int) (E : List (List Int)) : ∀ n, (rts w E n).Nodup
 | 0 => by simp [rts]
 | n + 1 => by
  have ih := rts_nodupQ w E n
  rw [rts]
  split
  ·rw [List.nodup_append]
   refine ⟨ih, by simp, fun x hx y hy e => ?_⟩
   rw [List.mem_singleton] at hy
   have := ((rts_iffQ n).1 hx).1
   omega
  ·exact ih
theorem root_apart {w : List Int} {E : List (List Int)} (hg : IsGr w E) : Apart E (fun r => brL w.length E r []) (rts w E w.length) where
 dis := fun c hc d hd x h1 h2 => by
  have hc' := (rts_iffQ w.length).1 hc
  have hd' := (rts_iffQ w.length).1 hd
  obtain ⟨u, h1⟩ := (brL_mem hg.2.2.1 hc'.1).1 h1
  obtain ⟨u', h2⟩ := (brL_mem hg.2.2.1 hd'.1).1 h2
  rw [← hc'.2, ← hd'.2, ← bw_lab hg h1, ← bw_lab hg h2]
 far := fun c hc d hd x h1 y h2 ha => by
  have hc' := (rts_iffQ w.length).1 hc
  have hd' := (rts_iffQ w.length).1 hd
  obtain ⟨u, h1⟩ := (brL_mem hg.2.2.1 hc'.1).1 h1
  obtain ⟨u', h2⟩ := (brL_mem hg.2.2.1 hd'.1).1 h2
  rw [← hc'.2, ← hd'.2, ← bw_lab hg h1, ← bw_lab hg h2]
  exact hg.sep.same x y ha
theorem root_parts {w : List Int} {E : List (List Int)} (hg : IsGr w E) : (iota w.length).Perm (parts (fun r => brL w.length E r []) (rts w E w.length)) := by
 rw [List.perm_ext_iff_of_nodup (iota_nodup _) (parts_nodup (rts_nodupQ _ _ _) (fun c _ => brL_nodup _ _ _ _) (root_apart hg))]
 intro x
 rw [iota_mem, parts_mem]
 constructor
 ·intro hx
  have h1 := lab_facts hg hx
  have h2 : labOf w E x ∈ rts w E w.length := (rts_iffQ w.length).2 ⟨by omega, h1.2.2⟩
  exact ⟨_, h2, (brL_mem hg.2.2.1 (by omega)).2 (bw_all hg hx)⟩
 ·rintro ⟨r, hr, hx⟩
  have hr' := ((rts_iffQ w.length).1 hr).1
  obtain ⟨u, h⟩ := (brL_mem hg.2.2.1 hr').1 hx
  exact h.range hg.2.2.1 hr'
theorem detT_no (f : List Int) : ∀ (l : List Int) (q : Int × Bool), q.2 = false → (l.foldl (detT f) q).2 = false
 | [], q, h => h
 | v :: l, q, h => by
  rw [List.foldl_cons]
  exact detT_no f l _ (by unfold detT; rw [if_neg (by rw [h]; decide)]; exact h)
theorem detT_val (f : List Int) : ∀ (l : List Int) (q : Int × Bool), (l.foldl (detT f) q).2 = true → q.2 = true ∧ (l.foldl (detT f) q).1 = q.1 * pfL' (fun v => f.getD v.toNat 0) l
 | [], q, h => ⟨h, by simp [pfL']⟩
 | v :: l, q, h => by
  rw [List.foldl_cons] at h ⊢
  cases hq : q.2 with
  | false =>
   have := detT_no f l (detT f q v) (by unfold detT; rw [if_neg (by rw [hq]; decide)]; exact hq)
   rw [this] at h; cases h
  | true =>
   obtain ⟨h1, h2⟩ := detT_val f l _ h
   have e : detT f q v = tms q.1 (f.getD v.toNat 0) := by unfold detT; rw [if_pos hq]
   rw [e] at h1 h2
   refine ⟨rfl, ?_⟩
   rw [e, h2, tms_val h1, pfL', Int.mul_assoc]
theorem detI_Dm {w : List Int} {E : List (List Int)} (hg : IsGr w E) (h : (detI w E).2 = true) : (detI w E).1 = Dm (awt w) E (iota w.length) := by
 unfold detI at h ⊢
 obtain ⟨h1, h2⟩ := detT_val _ _ _ h
 have hl : (visR w E w.length).1.large = false := by simpa using h1
 have hok := (visR_large hg).1 hl
 have hf := (visR_f hg hok).1
 have hr := (visR_law hg w.length (Nat.le_refl _)).roots
 rw [h2, hf, hr, Int.one_mul, Dm_permV _ E (root_parts hg), Dm_parts (awt w) hg.2.2.1 _ (rts_nodupQ _ _ _) (root_apart hg)]
 refine pfL'_congr fun r hr => ?_
 have hr' := (rts_iffQ w.length).1 hr
 have hself : Bw E r [] r (-1) := Bw.self (show NB E [r] from trivial)
 have hp : par w E r = -1 := (par_eq hg hr'.2 hr'.1 hself).symm
 rw [fL_at hr'.1, hp]
 have := FG_Dm hg w.length r [] trivial hr'.1 (by simp)
 simp only [List.headD_nil] at this
 rw [this]
end Go.Proofs.YtmgmpnhlehonmaaGreat
namespace Go.Pv
open Go.RowKit
abbrev iv (l : List Int) : List Value := l.map (.int .i64)
inductive Pool (w : World) : List (Value × List Int) → List Nat → Prop
 | nil : Pool w [] []
 | cons {u r L1 τ L2} : Row w u 1 (iv r) L1 → Pool w τ L2 → Pool w ((u, r) :: τ) (L1 ++ L2)
theorem Pool.same {w w' : World} : ∀ {τ : List (Value × List Int)} {L : List Nat}, Pool w τ L → (∀ g ∈ L, Same w w' g) → Pool w' τ L
 | _, _, .nil, _ => .nil
 | _, _, .cons h1 h2, hs => .cons (h1.same fun g hg => hs g (by simp [hg])) (h2.same fun g hg => hs g (by simp [hg]))
theorem Row.one {w : World} {v : Value} {sz : Nat} {us : List Value} {L : List Nat} (h : Row w v sz us L) : v.oneCell' = true := by
 rcases h with ⟨rfl, _⟩ | ⟨g, o, n, cap, cur, e, rfl, _⟩ <;> rfl
theorem Pool.one {w : World} : ∀ {τ : List (Value × List Int)} {L : List Nat}, Pool w τ L → ∀ q ∈ τ, q.1.oneCell' = true
 | _, _, .nil, q, h => by simp at h
 | _, _, .cons h1 h2, q, h => by
  rcases List.mem_cons.1 h with rfl | h
  ·exact h1.one
  ·exact h2.one q h
theorem rds_ints {F : Nat → Prop} {w : World} : ∀ (r : List Int) (k : Nat) (ρ : Rho) (us : List Value) (L : List Nat), RDs F w (ints r) k ρ us L ↔ us = iv r ∧ L = []
 | [], k, ρ, us, L => by simp [RDs]
 | x :: r, k, ρ, us, L => by
  simp only [List.map_cons, RDs, RD]
  constructor
  ·rintro ⟨u, us', L1, L2, rfl, rfl, ⟨rfl, _, rfl⟩, h⟩
   obtain ⟨rfl, rfl⟩ := (rds_ints r _ _ _ _).1 h
   exact ⟨rfl, rfl⟩
  ·rintro ⟨rfl, rfl⟩
   exact ⟨_, _, [], [], rfl, rfl, ⟨rfl, rfl, rfl⟩, (rds_ints r _ _ _ _).2 ⟨rfl, rfl⟩⟩
section
variable {P : Program} {n : NN} {st : Nat → AV} {nx : Nat} {Q : Exit → (Nat → AV) → Nat → Prop}
end
end Go.Pv
namespace Go.Pv
open Go.RowKit
theorem Pool.sh {w : World} : ∀ {τ : List (Value × List Int)} {L : List Nat}, Pool w τ L → (∀ g ∈ L, g < w.heap.size) → ∀ q ∈ τ, ShRow (fun g => g < w.heap.size) w q.1 1 (iv q.2)
 | _, _, .nil, _, q, hq => by simp at hq
 | _, _, .cons h1 h2, hL, q, hq => by
  rcases List.mem_cons.1 hq with rfl | hq
  ·exact h1.shRow fun g hg => hL g (by simp [hg])
  ·exact h2.sh (fun g hg => hL g (by simp [hg])) q hq
theorem Keep.same {w w' : World} {M : List Nat} (h : Keep w M w') {g : Nat} (hg : g < w.heap.size) (hm : g ∉ M) : Same w w' g := h.block g hg hm
section
variable {P : Program} {n : NN} {nid nx : Nat} {st : Nat → AV} {f : Fr} {X : Nat → Prop} {a : Act} {w : World} {ρ : Nat → Rho} {L : Nat → List Nat}
class NilTy (P : Program) (T : TypeId) : Prop where
 out : ∃ e i z, P.underlying T = some (.slice e) ∧ P.info? e = some i ∧ i.zero = some z ∧ z.cells = #[.slice none 0 0]
theorem NilTy.of {T e : TypeId} {z : Value} (hu : P.underlying T = some (.slice e)) (hi : (P.info? e).map (·.zero) = some (some z)) (hz : z.cells = #[.slice none 0 0]) : NilTy P T := by
 obtain ⟨i, h1, h2⟩ := Option.map_eq_some_iff.1 hi
 exact ⟨e, i, z, hu, h1, h2, hz⟩
end
end Go.Pv
namespace Go.Pv
open Go.RowKit
section
variable {P : Program} {n : NN} {nid nx : Nat} {st : Nat → AV} {f : Fr} {X : Nat → Prop} {a : Act} {w : World} {ρ : Nat → Rho} {L : Nat → List Nat}
theorem Row.tail {v : Value} {us : List Value} {L0 : List Nat} (h : Row w v 1 us L0) {l : Nat} (hl : l ≤ us.length) :
  ∃ b cap, v = .slice b us.length cap ∧ us.length ≤ cap ∧ Row w (.slice (if cap = l then b else b.map (·.add (l * 1))) (us.length - l) (cap - l)) 1 (us.drop l) L0 := by
 rcases h with ⟨rfl, rfl, rfl⟩ | ⟨g, o, n0, cap, cur, e, rfl, k2, k3, k4, k5, k6, k7, rfl⟩
 ·have hl0 : l = 0 := by simpa using hl
  subst hl0
  exact ⟨none, 0, rfl, Nat.le_refl _, .inl ⟨by simp, by simp, rfl⟩⟩
 ·have hn : n0 = us.length := by omega
  subst hn
  refine ⟨_, cap, rfl, k4, ?_⟩
  by_cases hc : cap = l
  ·rw [if_pos hc]
   have hul : us.drop l = [] := List.drop_eq_nil_of_le (by omega)
   rw [hul]
   exact .inr ⟨g, o, us.length - l, cap - l, cur, e, rfl, k2, by simp; omega, by omega, by omega, by omega, by rw [show us.length - l = 0 by omega]; simp, rfl⟩
  ·rw [if_neg hc]
   refine .inr ⟨g, o + l, us.length - l, cap - l, cur, e, by simp only [Option.map_some, addr_off, Nat.mul_one], k2, by simp, by omega, by omega, by omega, ?_, rfl⟩
   have e1 : us.drop l = ((cur.toList.drop o).take (us.length * 1)).drop l := by rw [k7]
   rw [e1, List.drop_take, List.drop_drop, Nat.mul_one, Nat.mul_one]
theorem step_tail {d l : Nat} {j : Int} {k : IntKind} {s xlo : Operand} {T : TypeId} {li : List Int} {rd : List Nat} {up : List (Nat × AV)} {ty pos aft g} [hT : SliceTy P T 1] (h : Give st s rd (.sl true 1 (ints li)) up) (hlo : Lit st xlo (.int k j)) (hj : j = (l : Int)) (hl : l ≤ li.length) (hd : n d = true) :
  Step P n ⟨some d, .slice T s (some xlo) none none, ty, pos, aft, g⟩ nid st (rd ++ rdOf xlo) (up ++ [(d, .own nid (.sl true 1 (ints (li.drop l))))]) := by
 intro X st' hs hX f a w hn hrep K Q hK
 obtain ⟨ρ, L, hr⟩ := hrep
 subst hn
 have ek := Lit.eval hr (hlo.agree fun s hs' => hs s (by simp [hs']))
 obtain ⟨r, L', M1, hm, hv1⟩ := hr.toM.give (h.agree fun s hs' => hs s (by simp [hs']))
 rw [puts_append] at hK
 rw [List.nil_append] at hm
 simp only [RD] at hv1
 obtain ⟨e0, us, L0, L3, rfl, h1, h5⟩ := hv1
 obtain ⟨rfl, rfl⟩ := (rds_ints li _ _ _ _).1 h5
 have hlen : (iv li).length = li.length := by simp
 obtain ⟨b, cap, ev, hcap, hrow⟩ := h1.tail (l := l) (by rw [hlen]; exact hl)
 rw [hlen] at ev hcap hrow
 have hrun := run_slice_cut (P := P) (T := T) w b li.length cap l li.length (some (a.eval xlo)) none (.inr ⟨k, by rw [ek, hj]⟩) (.inl ⟨rfl, rfl⟩) hl (Nat.le_refl _) hcap
 refine wV_ (u := .slice (if cap = l then b else b.map (·.add (l * 1))) (li.length - l) (cap - l)) (w' := w) ?_ (hm.put_root hK hd hX _ w [] (by simp) (Keep.refl w) (fun _ => .slice (if cap = l then b else b.map (·.add (l * 1))) (li.length - l) (cap - l)) L0 ?_ ?_ (fun g hg => ⟨(hm.bound g (by simp [hg])).1, .inl (by simp [hg])⟩))
 ·simp only [execOp, ev, Option.map_some, Option.map_none, Sem.run_bind, hrun, Result.andThen_ok, Sem.run_pure]
 ·simp only [RD]
  exact ⟨trivial, _, L0, [], by simp, hrow, (rds_ints _ _ _ _ _).2 ⟨by simp [List.map_drop], rfl⟩⟩
 ·have := hm.nd
  simpa using this
end
end Go.Pv
namespace Go.Proofs.YtmgmpnhlehonmaaGreat
set_option maxHeartbeats 20000000
open Go.Pv
open Go.ChangeShapes Go.WideShapes Go.ChangeAt Go.RowKit
attribute [local irreducible] RunU WpA Step CallG CallNG Done DoneN
abbrev vG (x : Int) : AV := .c (.lit (.int .i64 x))
def atLx (r : List Int) : List (List Int) → Nat
 | [] => 0
 | q :: t => if lexC q r < 0 then atLx r t + 1 else 0
theorem atLx_le (r : List Int) : ∀ O, atLx r O ≤ O.length
 | [] => Nat.le_refl _
 | q :: t => by
  have := atLx_le r t
  simp only [atLx, List.length_cons]
  split <;> omega
theorem atLx_low (r : List Int) : ∀ (O : List (List Int)) (i : Nat), i < atLx r O → lexC (O.getD i []) r < 0
 | [], i, h => by simp [atLx] at h
 | q :: t, i, h => by
  simp only [atLx] at h
  split at h
  ·rename_i h1
   cases i with
   | zero => simpa using h1
   | succ i => simpa using atLx_low r t i (by omega)
  ·omega
theorem atLx_not (r : List Int) : ∀ (O : List (List Int)), atLx r O < O.length → ¬ lexC (O.getD (atLx r O) []) r < 0
 | [], h => by simp at h
 | q :: t, h => by
  by_cases h1 : lexC q r < 0
  ·have e : atLx r (q :: t) = atLx r t + 1 := by rw [atLx, if_pos h1]
   rw [e] at h ⊢
   simpa using atLx_not r t (by simpa using h)
  ·have e : atLx r (q :: t) = 0 := by rw [atLx, if_neg h1]
   rw [e]
   simpa using h1
def insL (r : List Int) (O : List (List Int)) : List (List Int) := O.take (atLx r O) ++ r :: O.drop (atLx r O)
def srtL (E : List (List Int)) : Nat → List (List Int)
 | 0 => []
 | j + 1 => insL (E.getD j []) (srtL E j)
theorem insL_perm (r : List Int) (O : List (List Int)) : (insL r O).Perm (r :: O) := by
 unfold insL
 refine List.perm_middle.trans ?_
 rw [List.take_append_drop]
theorem srtL_perm {E : List (List Int)} : ∀ j, j ≤ E.length → (srtL E j).Perm (E.take j)
 | 0, _ => by simp [srtL]
 | j + 1, h => by
  rw [srtL, List.take_add_one, List.getElem?_eq_getElem (by omega), show E.getD j [] = E[j] by simp [List.getD, show j < E.length by omega]]
  refine (insL_perm _ _).trans (((srtL_perm j (by omega)).cons _).trans ?_)
  exact (List.perm_append_singleton _ _).symm
theorem srtL_all (E : List (List Int)) : (srtL E E.length).Perm E := by
 have := srtL_perm (E := E) E.length (Nat.le_refl _)
 rwa [List.take_length] at this
abbrev rGr (w : List Int) (E : List (List Int)) : V := .agg [.sl true 1 (ints w), .sl true 1 (LL E)]
def bvW (w : List Int) (v : Int) : List Int := w.set (v.toNat * 1) (w.getD (v.toNat * 1) 0 - 1) ++ [-1]
def bvE (w : List Int) (E : List (List Int)) (v : Int) : List (List Int) := srtL (E ++ [[v, (w.length : Int)]]) (E ++ [[v, (w.length : Int)]]).length
def fltE (E : List (List Int)) (r : List Int) : Nat → List (List Int)
 | 0 => []
 | j + 1 => fltE E r j ++ if E.getD j [] = r then [] else [E.getD j []]
def beW (w : List Int) (i k : Int) : List Int := ((w ++ [-1]).set (i.toNat * 1) ((w ++ [-1]).getD (i.toNat * 1) 0 - 1)).set (k.toNat * 1) (((w ++ [-1]).set (i.toNat * 1) ((w ++ [-1]).getD (i.toNat * 1) 0 - 1)).getD (k.toNat * 1) 0 - 1)
def beR (w : List Int) (E : List (List Int)) (i k : Int) : List (List Int) := fltE E [min i k, max i k] E.length ++ [[i, (w.length : Int)], [k, (w.length : Int)]]
def beE (w : List Int) (E : List (List Int)) (i k : Int) : List (List Int) := srtL (beR w E i k) (beR w E i k).length
end Go.Proofs.YtmgmpnhlehonmaaGreat
namespace Go.Proofs.YtmgmpnhlehonmaaGreat
def Pr2 (e : List Int) : Prop := ∃ a b : Int, e = [a, b]
abbrev ltE (e f : List Int) : Prop := lexC e f < 0
theorem ltE_trans {e f g : List Int} (he : Pr2 e) (hf : Pr2 f) (hg : Pr2 g) (h1 : ltE e f) (h2 : ltE f g) : ltE e g := by
 obtain ⟨a, b, rfl⟩ := he; obtain ⟨c, d, rfl⟩ := hf; obtain ⟨x, y, rfl⟩ := hg
 unfold ltE at *
 rw [lex_two] at *
 omega
theorem ltE_total {e f : List Int} (he : Pr2 e) (hf : Pr2 f) (h : ¬ ltE e f) (hne : e ≠ f) : ltE f e := by
 obtain ⟨a, b, rfl⟩ := he; obtain ⟨c, d, rfl⟩ := hf
 unfold ltE at *
 rw [lex_two] at *
 by_cases h1 : a = c
 ·subst h1
  by_cases h2 : b = d
  ·subst h2; exact absurd rfl hne
  ·omega
 ·omega
theorem ltE_irr {e : List Int} (he : Pr2 e) : ¬ ltE e e := by
 obtain ⟨a, b, rfl⟩ := he
 unfold ltE
 rw [lex_two]
 omega
theorem insL_sorted {r : List Int} {O : List (List Int)} (hr : Pr2 r) (hO : ∀ e ∈ O, Pr2 e) (hs : O.Pairwise ltE) (hno : r ∉ O) : (insL r O).Pairwise ltE := by
 unfold insL
 have hl := atLx_low r O
 have hle := atLx_le r O
 have hn := atLx_not r O
 generalize atLx r O = k at *
 rw [List.pairwise_append]
 refine ⟨hs.sublist (List.take_sublist _ _), ?_, ?_⟩
 ·rw [List.pairwise_cons]
  refine ⟨fun e he => ?_, hs.sublist (List.drop_sublist _ _)⟩
  obtain ⟨i, hi, rfl⟩ := List.getElem_of_mem he
  rw [List.length_drop] at hi
  rw [List.getElem_drop]
  have hk : k < O.length := by omega
  have h1 := hn hk
  have h2 : O.getD k [] = O[k] := by simp [List.getD, hk]
  rw [h2] at h1
  have h3 : ltE r O[k] := ltE_total (hO _ (List.getElem_mem hk)) hr h1 fun e => hno (e ▸ List.getElem_mem hk)
  by_cases e : i = 0
  ·subst e; exact h3
  ·exact ltE_trans hr (hO _ (List.getElem_mem hk)) (hO _ (List.getElem_mem _)) h3 (List.pairwise_iff_getElem.1 hs k (k + i) hk (by omega) (by omega))
 ·intro e he f hf
  obtain ⟨i, hi, rfl⟩ := List.getElem_of_mem he
  rw [List.length_take] at hi
  have h1 := hl i (by omega)
  have h2 : O.getD i [] = O[i] := by simp [List.getD, show i < O.length by omega]
  rw [h2] at h1
  rw [List.getElem_take]
  rcases List.mem_cons.1 hf with rfl | hf
  ·exact h1
  ·obtain ⟨m, hm, rfl⟩ := List.getElem_of_mem hf
   rw [List.length_drop] at hm
   rw [List.getElem_drop]
   exact List.pairwise_iff_getElem.1 hs i (k + m) (by omega) (by omega) (by omega)
theorem srtL_sorted {E : List (List Int)} (hE : ∀ e ∈ E, Pr2 e) (hn : E.Nodup) : ∀ j, j ≤ E.length → (srtL E j).Pairwise ltE
 | 0, _ => by simp [srtL]
 | j + 1, hj => by
  have hp := srtL_perm (E := E) j (by omega)
  have e : E.getD j [] = E[j] := by simp [List.getD, show j < E.length by omega]
  rw [srtL, e]
  refine insL_sorted (hE _ (List.getElem_mem _)) (fun f hf => hE f (List.mem_of_mem_take (hp.mem_iff.1 hf))) (srtL_sorted hE hn j (by omega)) fun q => ?_
  have := hp.mem_iff.1 q
  obtain ⟨i, hi, he⟩ := List.getElem_of_mem this
  rw [List.length_take] at hi
  rw [List.getElem_take] at he
  exact (List.pairwise_iff_getElem.1 (List.nodup_iff_pairwise_ne.1 hn) i j (by omega) (by omega) (by omega)) he
theorem srtd_eq {E F : List (List Int)} (hE : ∀ e ∈ E, Pr2 e) (h1 : E.Pairwise ltE) (h2 : F.Pairwise ltE) (hp : E.Perm F) : E = F :=
 List.Perm.eq_of_pairwise (fun a b ha hb q1 q2 => absurd (ltE_trans (hE a ha) (hE b (hp.mem_iff.2 hb)) (hE a ha) q1 q2) (ltE_irr (hE a ha))) h1 h2 hp
theorem good_pr2 {n : Nat} {E : List (List Int)} (hg : GoodE n E) : ∀ e ∈ E, Pr2 e := fun e he => by
 obtain ⟨j, hj, h, _⟩ := hg.mem he
 exact ⟨_, _, h⟩
theorem good_sorted {n : Nat} {E : List (List Int)} (hg : GoodE n E) : E.Pairwise ltE := by
 rw [List.pairwise_iff_getElem]
 intro i j hi hj hij
 have h := edges_lt hg j hj i hij
 have e1 := (hg i hi).edge hi
 have e2 := (hg j hj).edge hj
 rw [List.getElem?_eq_getElem hi, Option.some.injEq] at e1
 rw [List.getElem?_eq_getElem hj, Option.some.injEq] at e2
 rw [e1, e2]
 unfold ltE
 rw [lex_two]
 exact h
theorem good_nodup {n : Nat} {E : List (List Int)} (hg : GoodE n E) : E.Nodup := by
 rw [List.nodup_iff_pairwise_ne]
 have hp := good_pr2 hg
 refine (good_sorted hg).imp_of_mem fun {a b} ha hb h e => ?_
 subst e
 exact ltE_irr (hp _ ha) h
def incW (w : List Int) (l : List Int) : Nat → List Int
 | 0 => w
 | j + 1 => (incW w l j).set (l.getD j 0).toNat ((incW w l j).getD (l.getD j 0).toNat 0 + 1)
theorem incW_len (w l : List Int) : ∀ j, (incW w l j).length = w.length
 | 0 => rfl
 | j + 1 => by rw [incW, List.length_set, incW_len w l j]
theorem incW_at {w l : List Int} (hl : ∀ x ∈ l, 0 ≤ x ∧ x < w.length) (hn : l.Nodup) : ∀ j, j ≤ l.length → ∀ i : Nat, (incW w l j).getD i 0 = w.getD i 0 + if (i : Int) ∈ l.take j then 1 else 0
 | 0, _, i => by simp [incW]
 | j + 1, hj, i => by
  have ih := incW_at hl hn j (by omega)
  have hx := hl l[j] (List.getElem_mem _)
  have e : l.getD j 0 = l[j] := by simp [List.getD, show j < l.length by omega]
  rw [incW, e, getD_setI (by rw [incW_len]; omega), ih, ih, List.take_add_one, List.getElem?_eq_getElem (show j < l.length by omega)]
  simp only [Option.toList_some, List.mem_append, List.mem_singleton]
  by_cases h : l[j].toNat = i
  ·have h2 : (i : Int) = l[j] := by omega
   have hno : l[j] ∉ l.take j := fun q => by
    obtain ⟨m, hm, he⟩ := List.getElem_of_mem q
    rw [List.length_take] at hm
    rw [List.getElem_take] at he
    exact (List.pairwise_iff_getElem.1 (List.nodup_iff_pairwise_ne.1 hn) m j (by omega) (by omega) (by omega)) he
   rw [if_pos h, show ((l[j].toNat : Nat) : Int) = l[j] by omega, if_neg hno, if_pos (show (i : Int) ∈ l.take j ∨ (i : Int) = l[j] from .inr h2), h]
   omega
  ·rw [if_neg h]
   by_cases h2 : (i : Int) ∈ l.take j
   ·rw [if_pos h2, if_pos (.inl h2)]
   ·rw [if_neg h2, if_neg (by rintro (q | q); exact h2 q; omega)]
def dcI (v x : Int) : Int := if x > v then x - 1 else x
def dcE (v : Int) (e : List Int) : List Int := [dcI v (e0 e), dcI v (e1 e)]
def noV (v : Int) (e : List Int) : Bool := !(decide (e0 e = v) || decide (e1 e = v))
def midE (E : List (List Int)) (v : Int) : List (List Int) := E.filter (noV v) ++ if (near E v).length = 2 then [near E v] else []
def cnX (E : List (List Int)) (v : Int) : List (List Int) := (midE E v).map (dcE v)
def cnE (E : List (List Int)) (v : Int) : List (List Int) := srtL (cnX E v) (cnX E v).length
def cnI (w : List Int) (E : List (List Int)) (v : Int) : List Int := incW w (near E v) (near E v).length
def cnW (w : List Int) (E : List (List Int)) (v : Int) : List Int := (cnI w E v).eraseIdx v.toNat
def CanC (w : List Int) (E : List (List Int)) (v : Int) : Prop := 1 < w.length ∧ w.getD v.toNat 0 = -1 ∧ (near E v).length ≤ 2
instance (w : List Int) (E : List (List Int)) (v : Int) : Decidable (CanC w E v) := by unfold CanC; infer_instance
theorem cnW_len {w : List Int} {E : List (List Int)} {v : Int} (hv : 0 ≤ v ∧ v < w.length) : (cnW w E v).length + 1 = w.length := by
 unfold cnW cnI
 rw [List.length_eraseIdx, incW_len, if_pos (by omega)]
 omega
theorem eraseIdx_getD (l : List Int) (k i : Nat) : (l.eraseIdx k).getD i 0 = if i < k then l.getD i 0 else l.getD (i + 1) 0 := by
 simp only [List.getD_eq_getElem?_getD, List.getElem?_eraseIdx]
 split <;> rfl
theorem cnI_at {w : List Int} {E : List (List Int)} (hg : IsGr w E) (v : Int) (i : Nat) : (cnI w E v).getD i 0 = w.getD i 0 + if (i : Int) ∈ near E v then 1 else 0 := by
 unfold cnI
 rw [incW_at (fun x hx => near_in hg.2.2.1 hx) (near_nodup hg.2.2.1 v) _ (Nat.le_refl _), List.take_length]
theorem cnW_at {w : List Int} {E : List (List Int)} (hg : IsGr w E) {v : Int} (hv : 0 ≤ v ∧ v < w.length) {x : Int} (hx : 0 ≤ x ∧ x ≠ v) : (cnW w E v).getD (dcI v x).toNat 0 = w.getD x.toNat 0 + if x ∈ near E v then 1 else 0 := by
 unfold cnW dcI
 rw [eraseIdx_getD]
 by_cases h : x > v
 ·rw [if_pos h, if_neg (by omega), show (x - 1).toNat + 1 = x.toNat by omega, cnI_at hg, show ((x.toNat : Nat) : Int) = x by omega]
 ·rw [if_neg h, if_pos (by omega), cnI_at hg, show ((x.toNat : Nat) : Int) = x by omega]
theorem dcI_inj {v x y : Int} (hx : x ≠ v) (hy : y ≠ v) (h : dcI v x = dcI v y) : x = y := by
 unfold dcI at h
 split at h <;> split at h <;> omega
theorem dcI_in {n : Nat} {v x : Int} (hv : 0 ≤ v ∧ v < n) (hx : 0 ≤ x ∧ x < n) (h : x ≠ v) : 0 ≤ dcI v x ∧ dcI v x < (n - 1 : Nat) := by
 unfold dcI
 split <;> omega
def upI (v y : Int) : Int := if y ≥ v then y + 1 else y
theorem dc_up {v y : Int} : dcI v (upI v y) = y := by
 unfold upI dcI
 split <;> split <;> omega
theorem up_ne {v y : Int} : upI v y ≠ v := by
 unfold upI
 split <;> omega
theorem noV_iff {v : Int} {e : List Int} : noV v e = true ↔ e0 e ≠ v ∧ e1 e ≠ v := by simp [noV]
theorem midE_mem {w : List Int} {E : List (List Int)} (hg : IsGr w E) {v : Int} {e : List Int} (h : e ∈ midE E v) : ∃ a b : Int, e = [a, b] ∧ (0 ≤ a ∧ a < b ∧ b < w.length) ∧ a ≠ v ∧ b ≠ v := by
 unfold midE at h
 rcases List.mem_append.1 h with h | h
 ·rw [List.mem_filter, noV_iff] at h
  obtain ⟨j, hj, he, k1, k2, k3⟩ := hg.2.2.1.mem h.1
  rw [he] at h
  exact ⟨_, _, he, ⟨k1, k2, k3⟩, h.2.1, h.2.2⟩
 ·split at h
  ·rename_i hl
   rw [List.mem_singleton] at h
   have hs := near_sorted hg.2.2.1 v
   have hin := fun x => near_in hg.2.2.1 (v := v) (x := x)
   have hne : ∀ x ∈ near E v, x ≠ v := fun x hx => ((hg.2.2.1.adj ((near_mem hg.2.2.1).1 hx)).2.2).symm
   rw [h]
   match hnr : near E v, hl with
   | [a, b], _ =>
    rw [hnr] at hs hin hne
    have h1 := hin a (by simp)
    have h2 := hin b (by simp)
    have h3 : a < b := by simpa using hs
    exact ⟨a, b, rfl, ⟨h1.1, h3, h2.2⟩, hne a (by simp), hne b (by simp)⟩
  ·simp at h
theorem Dm_noV (a : Int → Int) {n : Nat} {E : List (List Int)} (hg : GoodE n E) {v : Int} {U : List Int} (hU : v ∉ U) : Dm a (E.filter (noV v)) U = Dm a E U :=
 Dm_filter a (noV v) E U fun e he hn q => by
  simp only [noV, Bool.not_eq_false', Bool.or_eq_true, decide_eq_true_eq] at hn
  rcases hn with h | h
  ·exact hU (h ▸ q.1)
  ·exact hU (h ▸ q.2)
theorem cn_det {w : List Int} {E : List (List Int)} (hg : IsGr w E) {v : Int} (hv : 0 ≤ v ∧ v < w.length) (hc : CanC w E v) : Dm (awt (cnW w E v)) (cnE E v) (iota (cnW w E v).length) = Dm (awt w) E (iota w.length) := by
 have hl := cnW_len (E := E) hv
 obtain ⟨hc1, hc2, hc3⟩ := hc
 have hnl : NoLoop (E.filter (noV v)) := fun e he => noLoop hg.2.2.1 e (List.mem_filter.1 he).1
 -- the vertices, as they were
 have hV0 : ∀ x, x ∈ wo (iota w.length) v ↔ (0 ≤ x ∧ x < w.length) ∧ x ≠ v := fun x => by rw [wo_mem, iota_mem]
 have hVn : (wo (iota w.length) v).Nodup := wo_nodup (iota_nodup _) _
 have hperm : (iota (cnW w E v).length).Perm ((wo (iota w.length) v).map (dcI v)) := by
  rw [List.perm_ext_iff_of_nodup (iota_nodup _)]
  ·intro y
   rw [iota_mem, List.mem_map]
   constructor
   ·intro hy
    refine ⟨upI v y, (hV0 _).2 ⟨?_, up_ne⟩, dc_up⟩
    unfold upI
    split <;> omega
   ·rintro ⟨x, hx, rfl⟩
    have h := (hV0 x).1 hx
    have := dcI_in hv h.1 h.2
    omega
  ·rw [List.nodup_iff_pairwise_ne, List.pairwise_map]
   refine (List.nodup_iff_pairwise_ne.1 hVn).imp_of_mem fun {x y} hx hy hne q => hne (dcI_inj ((hV0 _).1 hx).2 ((hV0 _).1 hy).2 q)
 -- the numbers
 have hmap := Dm_map (awt (cnW w E v)) (φ := dcI v) (S := wo (iota w.length) v) (fun x hx y hy q => dcI_inj ((hV0 _).1 hx).2 ((hV0 _).1 hy).2 q) (midE E v) (wo (iota w.length) v) (fun x hx => hx) (fun e he => by
  obtain ⟨a, b, rfl, h1, h2, h3⟩ := midE_mem hg he
  have ha : a < w.length := by omega
  have hb : 0 ≤ b := by omega
  exact ⟨(hV0 a).2 ⟨⟨h1.1, ha⟩, h2⟩, (hV0 b).2 ⟨⟨hb, h1.2.2⟩, h3⟩⟩)
 have hX : (midE E v).map (fun e => [dcI v (e0 e), dcI v (e1 e)]) = cnX E v := rfl
 rw [hX] at hmap
 have ha1 : ∀ x ∈ wo (iota w.length) v, awt (cnW w E v) (dcI v x) = awt w x - if x ∈ near E v then 1 else 0 := fun x hx => by
  have h := (hV0 _).1 hx
  unfold awt
  rw [cnW_at hg hv ⟨h.1.1, h.2⟩]
  omega
 rw [show cnE E v = srtL (cnX E v) (cnX E v).length from rfl, Dm_permE _ (srtL_all _), Dm_permV _ _ hperm, hmap, Dm_congr (b := fun x => awt w x - if x ∈ near E v then 1 else 0) _ ha1]
 -- developed at the vertex
 have hvm : v ∈ iota w.length := iota_mem.2 hv
 have hav : awt w v = 1 := by unfold awt; rw [hc2]; rfl
 have hin : ∀ x ∈ near E v, x ∈ wo (iota w.length) v := fun x hx => (hV0 _).2 ⟨near_in hg.2.2.1 hx, ((hg.2.2.1.adj ((near_mem hg.2.2.1).1 hx)).2.2).symm⟩
 have hvv : v ∉ wo (iota w.length) v := fun q => (wo_mem.1 q).2 rfl
 rw [Dm_near (awt w) hg.2.2.1 (iota_nodup _) hvm, hav, Int.one_mul, smL_congr (g := fun j => Dm (awt w) (E.filter (noV v)) (wo (wo (iota w.length) v) j)) (fun j hj => by
  rw [if_pos (wo_mem.1 (hin j hj)).1, Dm_noV _ hg.2.2.1 fun q => hvv (wo_mem.1 q).1]), ← Dm_noV (awt w) hg.2.2.1 hvv]
 generalize hF : E.filter (noV v) = F at *
 have hmid : midE E v = F ++ if (near E v).length = 2 then [near E v] else [] := by unfold midE; rw [hF]
 have hnn := near_nodup hg.2.2.1 v
 rw [hmid]
 generalize wo (iota w.length) v = V at *
 match hnr : near E v, hc3 with
 | [], _ =>
  rw [if_neg (by simp), List.append_nil, smL, Int.sub_zero]
  exact Dm_congr F fun x _ => by simp
 | [i], _ =>
  rw [hnr] at hin
  have hi := hin i (by simp)
  rw [if_neg (by simp), List.append_nil, smL, smL, Int.add_zero]
  have h1 := Dm_raise (a := fun x => awt w x - if x ∈ [i] then 1 else 0) (b := awt w) hnl hVn hi (by simp) (fun x _ hx => by simp [hx])
  have h2 : Dm (awt w) F (wo V i) = Dm (fun x => awt w x - if x ∈ [i] then 1 else 0) F (wo V i) := Dm_congr F fun x hx => by simp [(wo_mem.1 hx).2]
  omega
 | [i, k], _ =>
  rw [hnr] at hin hnn
  have hi := hin i (by simp)
  have hk := hin k (by simp)
  have hik : i ≠ k := by simp at hnn; exact hnn
  rw [if_pos (by simp), Dm_permE _ (show (F ++ [[i, k]]).Perm ([i, k] :: F) from List.perm_append_singleton _ _), Dm, smL, smL, smL, Int.add_zero]
  rw [if_pos (show e0 [i, k] ∈ V ∧ e1 [i, k] ∈ V from ⟨hi, hk⟩)]
  show _ - Dm _ F (wo (wo V i) k) = _
  have h1 := Dm_raise (a := fun x => awt w x - if x = k then 1 else 0) (b := awt w) hnl hVn hk (by simp) (fun x _ hx => by simp [hx])
  have h2 := Dm_raise (a := fun x => awt w x - if x ∈ [i, k] then 1 else 0) (b := fun x => awt w x - if x = k then 1 else 0) hnl hVn hi (by simp [hik]) (fun x _ hx => by simp [hx])
  have h3 := Dm_raise (a := fun x => awt w x - if x ∈ [i, k] then 1 else 0) (b := fun x => awt w x - if x = k then 1 else 0) hnl (wo_nodup hVn k) (wo_mem.2 ⟨hi, hik⟩) (by simp [hik]) (fun x _ hx => by simp [hx])
  have h4 : Dm (awt w) F (wo V k) = Dm (fun x => awt w x - if x = k then 1 else 0) F (wo V k) := Dm_congr F fun x hx => by simp [(wo_mem.1 hx).2]
  have h5 := Dm_raise (a := fun x => awt w x - if x = k then 1 else 0) (b := awt w) hnl (wo_nodup hVn i) (wo_mem.2 ⟨hk, fun q => hik q.symm⟩) (by simp) (fun x _ hx => by simp [hx])
  have h6 : Dm (fun x => awt w x - if x = k then 1 else 0) F (wo V i) = Dm (fun x => awt w x - if x ∈ [i, k] then 1 else 0) F (wo V i) := Dm_congr F fun x hx => by simp [(wo_mem.1 hx).2]
  have h7 : Dm (fun x => awt w x - if x = k then 1 else 0) F (wo (wo V i) k) = Dm (fun x => awt w x - if x ∈ [i, k] then 1 else 0) F (wo (wo V i) k) := Dm_congr F fun x hx => by simp [(wo_mem.1 hx).2, (wo_mem.1 (wo_mem.1 hx).1).2]
  rw [wo_comm V k i] at h3
  omega
end Go.Proofs.YtmgmpnhlehonmaaGreat
