/- Graphs of clusters: the reference. No condition. -/
import Derived.Test.YtmgmpnhlehonmaaGreatLSpA
import Derived.Test.YtmgmpnhlehonmaaGreatLHeA
import Derived.Test.YtmgmpnhlehonmaaGreatLPvX
set_option linter.unusedVariables false
set_option linter.unusedSimpArgs false
namespace Go.Proofs.YtmgmpnhlehonmaaGreat
set_option maxRecDepth 100000
set_option maxHeartbeats 20000000
open Go.Pv
open Go.ChangeShapes Go.WideShapes Go.ChangeAt Go.RowKit
attribute [local irreducible] RunU WpA Step CallG CallNG Done DoneN
instance fnOk177 : FnOk Tryz.prog 177 := ⟨_, Tryz.func177, rfl, by decide⟩
def prR (P S : List Int) (n i : Nat) : List Int := (List.range n).map fun t => pe P S i t
def prM (P S : List Int) (n : Nat) (i : Nat) : List (List Int) := (List.range i).map fun t => prR P S n t
theorem prR_len (P S : List Int) (n i : Nat) : (prR P S n i).length = n := by simp [prR]
theorem prM_len (P S : List Int) (n i : Nat) : (prM P S n i).length = i := by simp [prM]
theorem prM_step (P S : List Int) (n i : Nat) : prM P S n (i + 1) = prM P S n i ++ [prR P S n i] := by simp [prM, List.range_succ]
def prJ (P S : List Int) (n i j : Nat) : List Int := (List.range n).map fun t => if t < j ∧ (P.getD i 0 = (t : Int) ∨ S.getD i 0 = (t : Int)) then -1 else 0
theorem prJ_len (P S : List Int) (n i j : Nat) : (prJ P S n i j).length = n := by simp [prJ]
theorem prJ_at (P S : List Int) {n t : Nat} (i j : Nat) (h : t < n) : (prJ P S n i j).getD t 0 = if t < j ∧ (P.getD i 0 = (t : Int) ∨ S.getD i 0 = (t : Int)) then -1 else 0 := by simp [prJ, List.getD_eq_getElem?_getD, h]
theorem prR_at (P S : List Int) {n t : Nat} (i : Nat) (h : t < n) : (prR P S n i).getD t 0 = pe P S i t := by simp [prR, List.getD_eq_getElem?_getD, h]
theorem prJ_zero (P S : List Int) (n i : Nat) : prJ P S n i 0 = List.replicate n 0 := by simp [prJ, List.map_const']
theorem getD_set' {A : List Int} {i k : Nat} {v : Int} (h : i < A.length) : (A.set i v).getD k 0 = if i = k then v else A.getD k 0 := by
 by_cases e : i = k
 ·subst e; rw [if_pos rfl, List.getD_eq_getElem?_getD, List.getElem?_set_self h]; rfl
 ·rw [if_neg e, List.getD_eq_getElem?_getD, List.getElem?_set_ne e, ← List.getD_eq_getElem?_getD]
theorem prJ_yes {P S : List Int} {n i j : Nat} (hj : j < n) (h : P.getD i 0 = (j : Int) ∨ S.getD i 0 = (j : Int)) : (prJ P S n i j).set j (-1) = prJ P S n i (j + 1) := by
 refine list_ext (by simp [prJ_len]) fun k hk => ?_
 simp only [List.length_set, prJ_len] at hk
 rw [getD_set' (by rw [prJ_len]; exact hj), prJ_at _ _ _ _ hk, prJ_at _ _ _ _ hk]
 by_cases e : j = k
 ·subst e; rw [if_pos rfl, if_pos ⟨by omega, h⟩]
 ·rw [if_neg e]
  by_cases h2 : k < j
  ·simp [h2, show k < j + 1 by omega]
  ·rw [if_neg (fun q => h2 q.1), if_neg (fun q => by have := q.1; omega)]
theorem prJ_no {P S : List Int} {n i j : Nat} (h : ¬ (P.getD i 0 = (j : Int) ∨ S.getD i 0 = (j : Int))) : prJ P S n i j = prJ P S n i (j + 1) := by
 refine list_ext (by simp [prJ_len]) fun k hk => ?_
 simp only [prJ_len] at hk
 rw [prJ_at _ _ _ _ hk, prJ_at _ _ _ _ hk]
 by_cases e : j = k
 ·subst e; rw [if_neg (fun q => by have := q.1; omega), if_neg (fun q => h q.2)]
 ·by_cases h2 : k < j
  ·simp [h2, show k < j + 1 by omega]
  ·rw [if_neg (fun q => h2 q.1), if_neg (fun q => by have := q.1; omega)]
theorem prJ_end {P S W : List Int} (h : Cl P S W) {i : Nat} (hi : i < P.length) : (prJ P S P.length i i).set i 1 = prR P S P.length i := by
 refine list_ext (by simp [prJ_len, prR_len]) fun k hk => ?_
 simp only [List.length_set, prJ_len] at hk
 rw [getD_set' (by rw [prJ_len]; exact hi), prJ_at _ _ _ _ hk, prR_at _ _ _ hk, pe]
 by_cases e : i = k
 ·rw [if_pos e, if_pos e]
 ·rw [if_neg e, if_neg e]
  have hs := h.s i hi
  have hp : P.getD i 0 ≤ (i : Int) - 1 := by
   by_cases h0 : i = 0
   ·subst h0; have := h.p0.1; omega
   ·exact (h.p i (by omega) hi).2
  by_cases h2 : k < i
  ·simp [h2]
  ·rw [if_neg (fun q => h2 q.1), if_neg (fun q => by omega)]
theorem specPr_c (P S W : List Int) (h : Cl P S W) : CallA Tryz.prog 177 [aCl P S W] [rLL (prM P S P.length P.length)] [] := by
 have hl := h.len
 have hS := h.lS
 refine cA_ _ Tryz.func177 rfl Tryz.ntmps177 sO_ ?_
 repeat' (first | (refine Two.mk ?_ ?_ <;> intro _) | refine goA ?_ | (refine neA ?_; first | refine nxA ?_ | refine Done.ret (.one rA_ .nil) (.sh .nil) ?_ rfl) | fail)
 refine WpA.loop_slots2 (fun i id => [(1, vCl P S W), (3, .own id (.sl true 1 (LL (prM P S P.length i)))), (4, vJ i)]) (fun i => i ≤ P.length) (fun i => P.length - i) 0 _ (by omega) ⟨rfl, xR_, rfl, trivial⟩ ?_
 intro i id s nx hi
 have hpl := prM_len P S P.length i
 by_cases hlt : i < P.length
 ·have hend := prJ_end h hlt
  have hst := prM_step P S P.length i
  rw [← hend] at hst
  repeat' (first | (refine Two.mk ?_ ?_ <;> intro _) | refine goA ?_ | (refine neA ?_; first | refine nxA ?_ | refine Done.ret (.one rA_ .nil) (.sh .nil) ?_ rfl) | fail)
  all_goals try (exfalso; omega)
  refine WpA.loop_slots2 (fun j id5 => [(1, vCl P S W), (3, .own id (.sl true 1 (LL (prM P S P.length i)))), (4, vJ i), (5, .own id5 (.sl true 1 (ints (prJ P S P.length i j)))), (6, vJ j)]) (fun j => j ≤ i) (fun j => i - j) 0 _ (by omega) ⟨rfl, rfl, rfl, by exact own_ints (prJ_zero P S P.length i).symm, rfl, trivial⟩ ?_
  intro j id5 s nx hj
  have hjl := prJ_len P S P.length i j
  by_cases hji : j < i
  ·have hN := near_cl P S W i j (by omega) hS hl.2
   by_cases hn : P.getD i 0 = (j : Int) ∨ S.getD i 0 = (j : Int)
   ·have e := prJ_yes (P := P) (S := S) (n := P.length) (i := i) (j := j) (by omega) hn
    rw [decide_eq_true (show NearC P S ((i : Int).toNat * 1) j from ⟨by omega, by simpa using hn⟩)] at hN
    rw [show (prJ P S P.length i j).set j (-1) = (prJ P S P.length i j).set (j * 1) (-1) by rw [Nat.mul_one]] at e
    clear hst hend h
    repeat' (first | (refine Two.mk ?_ ?_ <;> intro _) | (guard_target =~ CallN_; first | refine RunU.cons (sC_ (hN) (.sh (.sh (.sh .nil))) (.shAgg rfl gA_ (.sh wS_ (.sh wS_ .nil))) rfl) ?_) | refine goA ?_ | (refine neA ?_; first | refine nxA ?_ | refine Done.ret (.one rA_ .nil) (.sh .nil) ?_ rfl) | fail)
    all_goals try (exfalso; omega)
    all_goals exact ⟨j + 1, by omega, ⟨_, rfl, rfl, rfl, by exact own_ints e, int_eq (by omega), trivial⟩, by omega⟩
   ·have e := prJ_no (P := P) (S := S) (n := P.length) (i := i) (j := j) hn
    rw [decide_eq_false (show ¬ NearC P S ((i : Int).toNat * 1) j from fun q => hn (by simpa using q.2))] at hN
    clear hst hend h
    repeat' (first | (refine Two.mk ?_ ?_ <;> intro _) | (guard_target =~ CallN_; first | refine RunU.cons (sC_ (hN) (.sh (.sh (.sh .nil))) (.shAgg rfl gA_ (.sh wS_ (.sh wS_ .nil))) rfl) ?_) | refine goA ?_ | (refine neA ?_; first | refine nxA ?_ | refine Done.ret (.one rA_ .nil) (.sh .nil) ?_ rfl) | fail)
    all_goals try (exfalso; omega)
    all_goals exact ⟨j + 1, by omega, ⟨_, rfl, rfl, rfl, by exact own_ints e, int_eq (by omega), trivial⟩, by omega⟩
  ·obtain rfl : j = i := by omega
   rw [show (prJ P S P.length j j).set j 1 = (prJ P S P.length j j).set (j * 1) 1 by rw [Nat.mul_one]] at hst
   clear hend h
   repeat' (first | (refine Two.mk ?_ ?_ <;> intro _) | refine goA ?_ | (refine neA ?_; first | refine nxA ?_ | refine Done.ret (.one rA_ .nil) (.sh .nil) ?_ rfl) | fail)
   all_goals try (exfalso; omega)
   all_goals exact ⟨j + 1, by omega, ⟨_, rfl, by exact own_LL hst.symm, int_eq (by omega), trivial⟩, by omega⟩
 ·obtain rfl : i = P.length := by omega
  repeat' (first | (refine Two.mk ?_ ?_ <;> intro _) | refine goA ?_ | (refine neA ?_; first | refine nxA ?_ | refine Done.ret (.one rA_ .nil) (.sh .nil) ?_ rfl) | fail)
  all_goals first | rfl | (exfalso; omega)
instance fnOk151 : FnOk Tryz.prog 151 := ⟨_, Tryz.func151, rfl, by decide⟩
def mtR (P S : List Int) (n i : Nat) (k : Nat) : List Int := (List.range k).map fun t => mtTo P S n i t
def mtM (P S : List Int) (n : Nat) (i : Nat) : List (List Int) := (List.range i).map fun t => mtR P S n t n
theorem mtR_len (P S : List Int) (n i k : Nat) : (mtR P S n i k).length = k := by simp [mtR]
theorem mtM_len (P S : List Int) (n i : Nat) : (mtM P S n i).length = i := by simp [mtM]
theorem mtR_step (P S : List Int) (n i k : Nat) : mtR P S n i (k + 1) = mtR P S n i k ++ [mtTo P S n i k] := by simp [mtR, List.range_succ]
theorem mtM_step (P S : List Int) (n i : Nat) : mtM P S n (i + 1) = mtM P S n i ++ [mtR P S n i n] := by simp [mtM, List.range_succ]
theorem prM_at (P S : List Int) (n : Nat) {m i : Nat} (h : i < m) : (prM P S n m).getD i [] = prR P S n i := by simp [prM, List.getD_eq_getElem?_getD, h]
theorem specMt_c (P S W : List Int) (h : Cl P S W) : CallA Tryz.prog 151 [aCl P S W] [rLL (mtM P S P.length P.length)] [] := by
 have hl := h.len
 have hP := specPr_c P S W h
 have hML := prM_len P S P.length P.length
 have hrl : ∀ i, i < P.length → ((prM P S P.length P.length).getD i []).length = P.length := fun i hi => by rw [prM_at _ _ _ hi, prR_len]
 have hat : ∀ i k, i < P.length → k < P.length → ((prM P S P.length P.length).getD i []).getD k 0 = pe P S i k := fun i k hi hk => by rw [prM_at _ _ _ hi, prR_at _ _ _ hk]
 generalize prM P S P.length P.length = M at *
 refine cA_ _ Tryz.func151 rfl Tryz.ntmps151 sO_ ?_
 repeat' (first | (refine Two.mk ?_ ?_ <;> intro _) | (guard_target =~ CallN_; first | refine RunU.cons (sC_ (hP) (.sh .nil) (.shAgg rfl gA_ .nil) rfl) ?_) | refine goA ?_ | (refine neA ?_; first | refine nxA ?_ | refine Done.ret (.one rA_ .nil) (.sh .nil) ?_ rfl) | fail)
 clear hP h
 refine WpA.loop_ids2 (fun i i3 i4 => [(3, .own i3 (.sl true 1 (LL M))), (4, .own i4 (.sl true 1 (LL (mtM P S P.length i)))), (5, vJ i)]) (fun i => i ≤ P.length) (fun i => P.length - i) 0 _ _ (by omega) ⟨xR_, xR_, rfl, trivial⟩ ?_
 intro i i3 i4 s nx hi
 have hl1 := mtM_len P S P.length i
 by_cases hlt : i < P.length
 ·have hst := mtM_step P S P.length i
  repeat' (first | (refine Two.mk ?_ ?_ <;> intro _) | refine goA ?_ | (refine neA ?_; first | refine nxA ?_ | refine Done.ret (.one rA_ .nil) (.sh .nil) ?_ rfl) | fail)
  all_goals try (exfalso; omega)
  refine WpA.loop_ids3 (fun k i3 i4 i6 => [(3, .own i3 (.sl true 1 (LL M))), (4, .own i4 (.sl true 1 (LL (mtM P S P.length i)))), (5, vJ i), (6, .own i6 (.sl true 1 (ints (mtR P S P.length i k)))), (7, vJ k)]) (fun k => k ≤ P.length) (fun k => P.length - k) 0 _ _ _ (by omega) ⟨rfl, rfl, rfl, by exact own_ints (l := []) rfl, rfl, trivial⟩ ?_
  intro k i3 i4 i6 s nx hk
  have hl2 := mtR_len P S P.length i k
  by_cases hkl : k < P.length
  ·have hst2 := mtR_step P S P.length i k
   repeat' (first | (refine Two.mk ?_ ?_ <;> intro _) | refine goA ?_ | (refine neA ?_; first | refine nxA ?_ | refine Done.ret (.one rA_ .nil) (.sh .nil) ?_ rfl) | fail)
   all_goals try (exfalso; omega)
   refine WpA.loop_ids3 (fun j i3 i4 i6 => [(3, .own i3 (.sl true 1 (LL M))), (4, .own i4 (.sl true 1 (LL (mtM P S P.length i)))), (5, vJ i), (6, .own i6 (.sl true 1 (ints (mtR P S P.length i k)))), (7, vJ k), (8, vJ (mtTo P S j i k)), (9, vJ j)]) (fun j => j ≤ P.length) (fun j => P.length - j) 0 _ _ _ (by omega) ⟨rfl, rfl, rfl, rfl, rfl, rfl, rfl, trivial⟩ ?_
   intro j i3 i4 i6 s nx hj
   by_cases hjl : j < P.length
   ·have r1 := hrl (j * 1) (by omega)
    have a1 := hat (j * 1) (i * 1) (by omega) (by omega)
    have a2 := hat (j * 1) (k * 1) (by omega) (by omega)
    have m1 := pe_mul P S (j * 1) (i * 1) (k * 1)
    have m2 := mtTo_in P S i k j
    have e : mtTo P S j i k - (M.getD (j * 1) []).getD (i * 1) 0 * (M.getD (j * 1) []).getD (k * 1) 0 = mtTo P S (j + 1) i k := by rw [a1, a2]; simp only [Nat.mul_one]; rfl
    rw [← a1, ← a2] at m1
    clear a1 a2 hrl hat hst hst2
    repeat' (first | (refine Two.mk ?_ ?_ <;> intro _) | refine goA ?_ | (refine neA ?_; first | refine nxA ?_ | refine Done.ret (.one rA_ .nil) (.sh .nil) ?_ rfl) | fail)
    all_goals try (exfalso; omega)
    all_goals exact ⟨j + 1, by omega, ⟨_, _, _, rfl, rfl, rfl, rfl, rfl, int_eq e, int_eq (by omega), trivial⟩, by omega⟩
   ·obtain rfl : j = P.length := by omega
    clear hrl hat hst
    repeat' (first | (refine Two.mk ?_ ?_ <;> intro _) | refine goA ?_ | (refine neA ?_; first | refine nxA ?_ | refine Done.ret (.one rA_ .nil) (.sh .nil) ?_ rfl) | fail)
    all_goals try (exfalso; omega)
    all_goals exact ⟨k + 1, by omega, ⟨_, _, _, rfl, rfl, rfl, by exact own_ints hst2.symm, int_eq (by omega), trivial⟩, by omega⟩
  ·obtain rfl : k = P.length := by omega
   clear hrl hat
   repeat' (first | (refine Two.mk ?_ ?_ <;> intro _) | refine goA ?_ | (refine neA ?_; first | refine nxA ?_ | refine Done.ret (.one rA_ .nil) (.sh .nil) ?_ rfl) | fail)
   all_goals try (exfalso; omega)
   all_goals exact ⟨i + 1, by omega, ⟨_, _, rfl, by exact own_LL hst.symm, int_eq (by omega), trivial⟩, by omega⟩
 ·obtain rfl : i = P.length := by omega
  clear hrl hat
  repeat' (first | (refine Two.mk ?_ ?_ <;> intro _) | refine goA ?_ | (refine neA ?_; first | refine nxA ?_ | refine Done.ret (.one rA_ .nil) (.sh .nil) ?_ rfl) | fail)
  all_goals first | rfl | (exfalso; omega)
instance fnOk101 : FnOk Tryz.prog 101 := ⟨_, Tryz.func101, rfl, by decide⟩
def wtTo (P S : List Int) (n i : Nat) : List Int := (List.range i).map fun t => mtTo P S n t t
theorem wtTo_len (P S : List Int) (n i : Nat) : (wtTo P S n i).length = i := by simp [wtTo]
theorem wtTo_step (P S : List Int) (n i : Nat) : wtTo P S n (i + 1) = wtTo P S n i ++ [mtTo P S n i i] := by simp [wtTo, List.range_succ]
theorem mtM_at (P S : List Int) (n : Nat) {m i : Nat} (h : i < m) : (mtM P S n m).getD i [] = mtR P S n i n := by simp [mtM, List.getD_eq_getElem?_getD, h]
theorem mtR_at (P S : List Int) (n i : Nat) {k m : Nat} (h : k < m) : (mtR P S n i m).getD k 0 = mtTo P S n i k := by simp [mtR, List.getD_eq_getElem?_getD, h]
abbrev dGr (w : List Int) (E : List (List Int)) : D := .pt true [.sl true 1 (ints w), .sl true 1 (LL E)]
theorem own_gr2 {id : Nat} {w w' : List Int} {E E' : List (List Int)} (h : w = w') (h2 : E = E') : AV.own id (dGr w E) = AV.own id (dGr w' E') := by rw [h, h2]
theorem specGraph_c (P S W : List Int) (h : Cl P S W) : CallA Tryz.prog 101 [aCl P S W] [.agg [.sl true 1 (ints (wtTo P S P.length P.length)), .sl true 1 (LL (edTo P S P.length P.length))]] [] := by
 have hl := h.len
 have hM := specMt_c P S W h
 have hML := mtM_len P S P.length P.length
 have hrl : ∀ i, i < P.length → ((mtM P S P.length P.length).getD i []).length = P.length := fun i hi => by rw [mtM_at _ _ _ hi, mtR_len]
 have hat : ∀ i k, i < P.length → k < P.length → ((mtM P S P.length P.length).getD i []).getD k 0 = mtTo P S P.length i k := fun i k hi hk => by rw [mtM_at _ _ _ hi, mtR_at _ _ _ _ hk]
 generalize mtM P S P.length P.length = M at *
 refine cA_ _ Tryz.func101 rfl Tryz.ntmps101 sO_ ?_
 repeat' (first | (refine Two.mk ?_ ?_ <;> intro _) | (guard_target =~ CallN_; first | refine RunU.cons (sC_ (hM) (.sh .nil) (.shAgg rfl gA_ .nil) rfl) ?_) | refine goA ?_ | (refine neA ?_; first | refine nxA ?_ | refine Done.ret (.cell inferInstance rfl rfl .nil) (.sh .nil) ?_ rfl) | fail)
 clear hM h
 refine WpA.loop_ids2 (fun i i3 i4 => [(2, .own 2 (.pt true [.sl true 1 [], .sl true 1 []])), (3, .own i3 (dGr (wtTo P S P.length i) (edTo P S P.length i))), (4, .own i4 (.sl true 1 (LL M))), (5, vJ i)]) (fun i => i ≤ P.length) (fun i => P.length - i) 0 _ _ (by omega) ⟨rfl, xR_, xR_, rfl, trivial⟩ ?_
 intro i i3 i4 s nx hi
 have hwl := wtTo_len P S P.length i
 have hel := edTo_len P S P.length i
 have hin : i * P.length ≤ 24 * 24 := Nat.mul_le_mul (by omega) hl.2
 by_cases hlt : i < P.length
 ·have r1 := hrl (i * 1) (by omega)
  have a1 := hat (i * 1) (i * 1) (by omega) (by omega)
  have hw := wtTo_step P S P.length i
  have e1 : wtTo P S P.length i ++ [(M.getD (i * 1) []).getD (i * 1) 0] = wtTo P S P.length (i + 1) := by rw [hw, a1]; simp only [Nat.mul_one]
  repeat' (first | (refine Two.mk ?_ ?_ <;> intro _) | refine goA ?_ | (refine neA ?_; first | refine nxA ?_ | refine Done.ret (.cell inferInstance rfl rfl .nil) (.sh .nil) ?_ rfl) | fail)
  all_goals try (exfalso; omega)
  refine WpA.loop_ids2 (fun m i3 i4 => [(2, .own 2 (.pt true [.sl true 1 [], .sl true 1 []])), (3, .own i3 (dGr (wtTo P S P.length (i + 1)) (edTo P S P.length i ++ rowE P S P.length i m))), (4, .own i4 (.sl true 1 (LL M))), (5, vJ i), (6, vJ (i + 1 + m : Nat))]) (fun m => m ≤ P.length - 1 - i) (fun m => P.length - m) 0 _ _ (by omega) ⟨rfl, by exact own_gr2 e1 (by simp [rowE]), rfl, rfl, int_eq (by simp), trivial⟩ ?_
  clear a1 r1 e1 hw
  intro m i3 i4 s nx hm
  have hrw := rowE_len P S P.length i m
  by_cases hml : i + 1 + m < P.length
  ·have r1 := hrl (i * 1) (by omega)
   have a1 := hat (i * 1) ((i + 1 + m) * 1) (by omega) (by omega)
   have hr : rowE P S P.length i (m + 1) = rowE P S P.length i m ++ if mtTo P S P.length i (i + 1 + m) = 1 then [[(i : Int), ((i + 1 + m : Nat) : Int)]] else [] := rfl
   have hEl : (edTo P S P.length i ++ rowE P S P.length i m).length ≤ 1000 := by rw [List.length_append]; omega
   have a2 : mtTo P S P.length i (i + 1 + m) = (M.getD (i * 1) []).getD ((i + 1 + m) * 1) 0 := by rw [a1]; simp only [Nat.mul_one]
   rw [a2] at hr
   by_cases h1 : (M.getD (i * 1) []).getD ((i + 1 + m) * 1) 0 = 1
   ·rw [if_pos h1] at hr
    have e2 : (edTo P S P.length i ++ rowE P S P.length i m) ++ [[(i : Int), ((i + 1 + m : Nat) : Int)]] = edTo P S P.length i ++ rowE P S P.length i (m + 1) := by rw [hr, List.append_assoc]
    generalize edTo P S P.length i ++ rowE P S P.length i m = EE at *
    clear hrl hat a1 a2
    repeat' (first | (refine Two.mk ?_ ?_ <;> intro _) | refine goA ?_ | (refine neA ?_; first | refine nxA ?_ | refine Done.ret (.cell inferInstance rfl rfl .nil) (.sh .nil) ?_ rfl) | fail)
    all_goals try (exfalso; omega)
    all_goals exact ⟨m + 1, by omega, ⟨_, _, rfl, by exact own_gr2 rfl e2, rfl, rfl, int_eq (by omega), trivial⟩, by omega⟩
   ·rw [if_neg h1, List.append_nil] at hr
    rw [← hr]
    clear hrl hat a1 a2
    repeat' (first | (refine Two.mk ?_ ?_ <;> intro _) | refine goA ?_ | (refine neA ?_; first | refine nxA ?_ | refine Done.ret (.cell inferInstance rfl rfl .nil) (.sh .nil) ?_ rfl) | fail)
    all_goals try (exfalso; omega)
    all_goals exact ⟨m + 1, by omega, ⟨_, _, rfl, by exact own_gr2 rfl (by rw [hr]), rfl, rfl, int_eq (by omega), trivial⟩, by omega⟩
  ·obtain rfl : m = P.length - 1 - i := by omega
   have e3 : edTo P S P.length i ++ rowE P S P.length i (P.length - 1 - i) = edTo P S P.length (i + 1) := rfl
   clear hrl hat
   repeat' (first | (refine Two.mk ?_ ?_ <;> intro _) | refine goA ?_ | (refine neA ?_; first | refine nxA ?_ | refine Done.ret (.cell inferInstance rfl rfl .nil) (.sh .nil) ?_ rfl) | fail)
   all_goals try (exfalso; omega)
   all_goals exact ⟨i + 1, by omega, ⟨_, _, rfl, by exact own_gr2 rfl e3, rfl, int_eq (by omega), trivial⟩, by omega⟩
 ·obtain rfl : i = P.length := by omega
  clear hrl hat
  repeat' (first | (refine Two.mk ?_ ?_ <;> intro _) | refine goA ?_ | (refine neA ?_; first | refine nxA ?_ | refine Done.ret (.cell inferInstance rfl rfl .nil) (.sh .nil) ?_ rfl) | fail)
  all_goals first | rfl | (exfalso; omega)
end Go.Proofs.YtmgmpnhlehonmaaGreat
