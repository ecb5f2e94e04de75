/- Orders of clusters: the program. No condition. -/
import Derived.Test.YtmgmpnhlehonmaaGreatLGzA
import Derived.Test.YtmgmpnhlehonmaaGreatLZcN
import Derived.Test.YtmgmpnhlehonmaaGreatLGrM
import Derived.Test.YtmgmpnhlehonmaaGreatLHeA
set_option linter.unusedVariables false
set_option linter.unusedSimpArgs false
namespace Go.Proofs.YtmgmpnhlehonmaaGreat
set_option maxRecDepth 100000
set_option maxHeartbeats 20000000
open Go.Pv
open Go.ChangeShapes Go.WideShapes Go.ChangeAt Go.RowKit
attribute [local irreducible] RunU WpA Step CallG CallNG Done DoneN
def euJ (V X : List Int) (j : Nat) : List Int := (List.range V.length).map fun t => if t < j then 2 - V.getD t 0 - X.getD t 0 else V.getD t 0
theorem euJ_len (V X : List Int) (j : Nat) : (euJ V X j).length = V.length := by simp [euJ]
theorem euJ_at (V X : List Int) (j : Nat) {t : Nat} (h : t < V.length) : (euJ V X j).getD t 0 = if t < j then 2 - V.getD t 0 - X.getD t 0 else V.getD t 0 := by simp [euJ, List.getD_eq_getElem?_getD, h]
theorem euJ_zero (V X : List Int) : euJ V X 0 = V := by
 refine list_ext (by simp [euJ_len]) fun k hk => ?_
 simp only [euJ_len] at hk
 rw [euJ_at _ _ _ hk, if_neg (by omega)]
theorem euJ_step {V X : List Int} {j : Nat} (h : j < V.length) : (euJ V X j).set j (2 - (euJ V X j).getD j 0 - X.getD j 0) = euJ V X (j + 1) := by
 refine list_ext (by simp [euJ_len]) fun k hk => ?_
 simp only [List.length_set, euJ_len] at hk
 rw [getD_set' (by rw [euJ_len]; exact h), euJ_at _ _ _ hk, euJ_at _ _ _ hk, euJ_at _ _ _ h, if_neg (Nat.lt_irrefl j)]
 by_cases e : j = k
 ·subst e; rw [if_pos rfl, if_pos (by omega)]
 ·rw [if_neg e]
  by_cases h2 : k < j
  ·rw [if_pos h2, if_pos (by omega)]
  ·rw [if_neg h2, if_neg (by omega)]
theorem specEu_c (P S W : List Int) (h : Cl P S W) : CallA Tryz.prog 103 [aCl P S W] [rL (euJ (vaTo (edTo P S P.length P.length) P.length) (exTo P S W W.length) P.length)] [] := by
 have hl := h.len
 have hW := h.lW
 have hV := specVa_c P S W h
 have hX := specEx_c P S W h
 have vl := vaTo_len (edTo P S P.length P.length) P.length
 have xl := exTo_len P S W W.length
 have hel := edTo_len P S P.length P.length
 have hin : P.length * P.length ≤ 24 * 24 := Nat.mul_le_mul hl.2 hl.2
 have vb : ∀ i, i < P.length → 0 ≤ (vaTo (edTo P S P.length P.length) P.length).getD i 0 ∧ (vaTo (edTo P S P.length P.length) P.length).getD i 0 ≤ 2000 := fun i hi => by
  have := near_few (edTo P S P.length P.length) i
  simp [vaTo, List.getD_eq_getElem?_getD, hi]
  omega
 have xb : ∀ i, i < P.length → -10000000 ≤ (exTo P S W W.length).getD i 0 ∧ (exTo P S W W.length).getD i 0 ≤ 10000000 := fun i hi => by
  have := exAt_bnd (P := P) (S := S) (W := W) (fun i hi => h.w i (by omega)) (i := i) (by omega) W.length (Nat.le_refl _)
  rw [exTo_at _ _ _ _ (by omega)]
  omega
 clear h hel hin
 generalize vaTo (edTo P S P.length P.length) P.length = Va at *
 generalize exTo P S W W.length = X at *
 refine cA_ _ Tryz.func103 rfl Tryz.ntmps103 sO_ ?_
 repeat' (first | (refine Two.mk ?_ ?_ <;> intro _) | (guard_target =~ CallN_; first | refine RunU.cons (sC_ (hV) (.sh .nil) (.shAgg rfl gA_ .nil) rfl) ?_ | refine RunU.cons (sC_ (hX) (.sh (.sh .nil)) (.shAgg rfl gA_ (.sh wS_ .nil)) rfl) ?_) | refine goA ?_ | (refine neA ?_; first | refine nxA ?_ | refine Done.ret (.one rA_ .nil) (.sh .nil) ?_ rfl) | fail)
 clear hV hX
 refine WpA.loop_ids2 (fun j i3 i4 => [(3, .own i3 (.sl true 1 (ints (euJ Va X j)))), (4, .own i4 (.sl true 1 (ints X))), (5, vJ j)]) (fun j => j ≤ P.length) (fun j => P.length - j) 0 _ _ (by omega) ⟨by exact own_ints (euJ_zero Va X).symm, xR_, rfl, trivial⟩ ?_
 intro j i3 i4 s nx hj
 have hel := euJ_len Va X j
 by_cases hlt : j < P.length
 ·have hst := euJ_step (V := Va) (X := X) (j := j) (by omega)
  have b1 := vb (j * 1) (by omega)
  have b2 := xb (j * 1) (by omega)
  have b3 := euJ_at Va X j (t := j * 1) (by omega)
  rw [if_neg (by omega)] at b3
  have hst2 : (euJ Va X j).set (j * 1) (2 - (euJ Va X j).getD (j * 1) 0 - X.getD (j * 1) 0) = euJ Va X (j + 1) := by simp only [Nat.mul_one]; exact hst
  rw [← b3] at b1
  clear vb xb b3 hst
  repeat' (first | (refine Two.mk ?_ ?_ <;> intro _) | refine goA ?_ | (refine neA ?_; first | refine nxA ?_ | refine Done.ret (.one rA_ .nil) (.sh .nil) ?_ rfl) | fail)
  all_goals try (exfalso; omega)
  all_goals exact ⟨j + 1, by omega, ⟨_, _, by exact own_ints hst2, rfl, int_eq (by omega), trivial⟩, by omega⟩
 ·obtain rfl : j = P.length := by omega
  clear vb xb
  repeat' (first | (refine Two.mk ?_ ?_ <;> intro _) | refine goA ?_ | (refine neA ?_; first | refine nxA ?_ | refine Done.ret (.one rA_ .nil) (.sh .nil) ?_ rfl) | fail)
  all_goals first | rfl | (exfalso; omega)
instance fnOk112 : FnOk Tryz.prog 112 := ⟨_, Tryz.func112, rfl, by decide⟩
instance fnOk102 : FnOk Tryz.prog 102 := ⟨_, Tryz.func102, rfl, by decide⟩
theorem srtRow_len {n : Nat} {E : List (List Int)} (hg : GoodE n E) {i : Nat} (hi : i < n) : (((adjL E n E.length).map srt).getD i []).length = (near E i).length := by
 rw [adj_srt hg]
 simp [nbL, List.getD_eq_getElem?_getD, hi]
theorem valencesZ_c (w : List Int) (E : List (List Int)) (hw : w.length ≤ 24) (hE : E.length ≤ 1000) (hg : GoodE w.length E) : CallA Tryz.prog 112 [aGr w E] [rL (vaTo E w.length)] [] := by
 have hN := neighbours_c w E (by omega) hE hg
 have hr := fun i (hi : i < w.length) => srtRow_len hg hi
 have hNl : ((adjL E w.length E.length).map srt).length = w.length := by rw [List.length_map, adjL_len]
 have hf := near_few E
 clear hg
 generalize (adjL E w.length E.length).map srt = A at *
 refine cA_ _ Tryz.func112 rfl Tryz.ntmps112 sO_ ?_
 repeat' (first | (refine Two.mk ?_ ?_ <;> intro _) | (guard_target =~ CallN_; first | refine RunU.cons (sC_ (hN) (.sh .nil) (.shAgg rfl gA_ .nil) rfl) ?_) | refine goA ?_ | (refine neA ?_; first | refine nxA ?_ | refine Done.ret (.one rA_ .nil) (.sh .nil) ?_ rfl) | fail)
 clear hN
 refine WpA.loop_ids2 (fun j i3 i8 => [(3, .own i3 (.sl true 1 (ints (vaTo E j)))), (8, .own i8 (.sl true 1 (LL A))), (9, vJ w.length), (10, vJ j)]) (fun j => j ≤ w.length) (fun j => w.length - j) 0 _ _ (by omega) ⟨by exact own_ints (l := []) rfl, xR_, int_eq (by omega), rfl, trivial⟩ ?_
 intro j i3 i8 s nx hj
 have hvl := vaTo_len E j
 have hst := vaTo_step E j
 have hnf := hf j
 by_cases hlt : j < w.length
 ·have hr := hr (j * 1) (by omega)
  rw [show ((near E j).length : Int) = ((A.getD (j * 1) []).length : Int) by rw [hr, Nat.mul_one]] at hst
  rw [Nat.mul_one] at hr
  have hr2 : (A.getD (j * 1) []).length = (near E j).length := by rw [Nat.mul_one]; exact hr
  clear hf hr
  repeat' (first | (refine Two.mk ?_ ?_ <;> intro _) | refine goA ?_ | (refine neA ?_; first | refine nxA ?_ | refine Done.ret (.one rA_ .nil) (.sh .nil) ?_ rfl) | fail)
  all_goals try (exfalso; omega)
  all_goals exact ⟨j + 1, by omega, ⟨_, _, by exact own_ints hst.symm, rfl, rfl, int_eq (by omega), trivial⟩, by omega⟩
 ·obtain rfl : j = w.length := by omega
  clear hf hr
  repeat' (first | (refine Two.mk ?_ ?_ <;> intro _) | refine goA ?_ | (refine neA ?_; first | refine nxA ?_ | refine Done.ret (.one rA_ .nil) (.sh .nil) ?_ rfl) | fail)
  all_goals first | rfl | (exfalso; omega)
def euA (V X : List Int) (j : Nat) : List Int := (List.range j).map fun t => 2 - V.getD t 0 - X.getD t 0
theorem euA_len (V X : List Int) (j : Nat) : (euA V X j).length = j := by simp [euA]
theorem euA_step (V X : List Int) (j : Nat) : euA V X (j + 1) = euA V X j ++ [2 - V.getD j 0 - X.getD j 0] := by simp [euA, List.range_succ]
theorem euA_eq (V X : List Int) : euA V X V.length = euJ V X V.length := by
 unfold euA euJ
 refine List.map_congr_left fun t ht => ?_
 rw [if_pos (by simpa using ht)]
theorem implEu_c (P S W : List Int) (h : Cl P S W) : CallA Tryz.prog 102 [aCl P S W] [rL (euJ (vaTo (edTo P S P.length P.length) P.length) (exTo P S W W.length) P.length)] [] := by
 have hl := h.len
 have hW := h.lW
 have hG := graphOf_c P S W h
 have hX := implEx_c P S W h
 have vl := vaTo_len (edTo P S P.length P.length) P.length
 have xl := exTo_len P S W W.length
 have hwl := wtTo_len P S P.length P.length
 have hel := edTo_len P S P.length P.length
 have hin : P.length * P.length ≤ 24 * 24 := Nat.mul_le_mul hl.2 hl.2
 have hV := valencesZ_c (wtTo P S P.length P.length) (edTo P S P.length P.length) (by omega) (by omega) (by rw [hwl]; exact edTo_good P S P.length)
 rw [hwl] at hV
 have vb : ∀ i, i < P.length → 0 ≤ (vaTo (edTo P S P.length P.length) P.length).getD i 0 ∧ (vaTo (edTo P S P.length P.length) P.length).getD i 0 ≤ 2000 := fun i hi => by
  have := near_few (edTo P S P.length P.length) i
  simp [vaTo, List.getD_eq_getElem?_getD, hi]
  omega
 have xb := exTo_in h (j := W.length) (by omega)
 have ee := euA_eq (vaTo (edTo P S P.length P.length) P.length) (exTo P S W W.length)
 rw [vl] at ee
 rw [← ee]
 clear h hel hin ee
 generalize vaTo (edTo P S P.length P.length) P.length = Va at *
 generalize exTo P S W W.length = X at *
 generalize wtTo P S P.length P.length = wt at *
 generalize edTo P S P.length P.length = E at *
 refine cA_ _ Tryz.func102 rfl Tryz.ntmps102 sO_ ?_
 repeat' (first | (refine Two.mk ?_ ?_ <;> intro _) | (guard_target =~ CallN_; first | refine RunU.cons (sC_ (hG) (.sh .nil) (.shAgg rfl gA_ .nil) rfl) ?_ | refine RunU.cons (sC_ (hX) (.sh .nil) (.shAgg rfl gA_ .nil) rfl) ?_ | refine RunU.cons (sC_ (hV) (.sh .nil) (.shAgg rfl gA_ .nil) rfl) ?_) | refine goA ?_ | (refine neA ?_; first | refine nxA ?_ | refine Done.ret (.one rA_ .nil) (.sh .nil) ?_ rfl) | fail)
 clear hG hV hX
 refine WpA.loop_ids3 (fun j i3 i4 i12 => [(3, .own i3 (.sl true 1 (ints (euA Va X j)))), (4, .own i4 (.sl true 1 (ints X))), (12, .own i12 (.sl true 1 (ints Va))), (13, vJ P.length), (14, vJ j)]) (fun j => j ≤ P.length) (fun j => P.length - j) 0 _ _ _ (by omega) ⟨by exact own_ints (l := []) rfl, xR_, xR_, int_eq (by omega), rfl, trivial⟩ ?_
 intro j i3 i4 i12 s nx hj
 have hel := euA_len Va X j
 by_cases hlt : j < P.length
 ·have hst := euA_step Va X j
  have b1 := vb (j * 1) (by omega)
  have b2 := xb (j * 1)
  rw [show 2 - Va.getD j 0 - X.getD j 0 = 2 - Va.getD (j * 1) 0 - X.getD (j * 1) 0 by rw [Nat.mul_one]] at hst
  clear vb xb
  repeat' (first | (refine Two.mk ?_ ?_ <;> intro _) | refine goA ?_ | (refine neA ?_; first | refine nxA ?_ | refine Done.ret (.one rA_ .nil) (.sh .nil) ?_ rfl) | fail)
  all_goals try (exfalso; omega)
  all_goals exact ⟨j + 1, by omega, ⟨_, _, _, by exact own_ints hst.symm, rfl, rfl, rfl, int_eq (by omega), trivial⟩, by omega⟩
 ·obtain rfl : j = P.length := by omega
  clear vb xb
  repeat' (first | (refine Two.mk ?_ ?_ <;> intro _) | refine goA ?_ | (refine neA ?_; first | refine nxA ?_ | refine Done.ret (.one rA_ .nil) (.sh .nil) ?_ rfl) | fail)
  all_goals first | rfl | (exfalso; omega)
theorem pow3_le : ∀ j : Fin 25, (3 : Int) ^ j.val ≤ 282429536481 := by decide +kernel
theorem orTo_fit {P S W : List Int} (h : Cl P S W) {j : Nat} (hj : j ≤ W.length) (i : Nat) : -28242953648100000 ≤ (orTo P S W j).getD i 0 ∧ (orTo P S W j).getD i 0 ≤ 28242953648100000 := by
 have h1 := orTo_bnd (P := P) (S := S) (W := W) (fun i hi => h.w i (by have := h.lW; omega)) j hj i
 have h2 := pow3_le ⟨j, by have := h.lW; have := h.len; omega⟩
 simp only at h2
 omega
instance fnOk155 : FnOk Tryz.prog 155 := ⟨_, Tryz.func155, rfl, by decide⟩
instance fnOk105 : FnOk Tryz.prog 105 := ⟨_, Tryz.func105, rfl, by decide⟩
instance fnOk157 : FnOk Tryz.prog 157 := ⟨_, Tryz.func157, rfl, by decide⟩
abbrev dCl (P S W : List Int) : D := .pt false [.sl false 1 (ints P), .sl false 1 (ints S), .sl false 1 (ints W)]
theorem ordOwn_c (P S W : List Int) (j : Nat) (hj : j < W.length) : CallA Tryz.prog 157 [aI j, .sh (.one (dCl P S W))] [rI (W.getD (j * 1) 0)] [] := by
 refine cA_ _ Tryz.func157 rfl Tryz.ntmps157 sO_ ?_
 repeat' (first | (refine Two.mk ?_ ?_ <;> intro _) | refine goA ?_ | (refine neA ?_; first | refine nxA ?_ | refine Done.ret (.one rA_ .nil) (.sh (.sh .nil)) ?_ rfl) | fail)
 all_goals first | rfl | (exfalso; omega)
def acTo (O L : List Int) (w : Int) : Nat → Int
 | 0 => w
 | k + 1 => acTo O L w k + O.getD (L.getD k 0).toNat 0
theorem acTo_in {O L : List Int} {w B : Int} (hB : ∀ i, -B ≤ O.getD i 0 ∧ O.getD i 0 ≤ B) (hw : -100000 ≤ w ∧ w ≤ 100000) (hL : L.length ≤ 2) : ∀ k : Nat, k ≤ L.length → -(2 * B + 100000) ≤ acTo O L w k ∧ acTo O L w k ≤ 2 * B + 100000 := by
 have h0 := hB 0
 intro k hk
 have b0 := hB (L.getD 0 0).toNat
 have b1 := hB (L.getD 1 0).toNat
 rcases k with _ | _ | _ | k
 ·simp only [acTo]; omega
 ·simp only [acTo]; omega
 ·simp only [acTo]; omega
 ·omega
theorem acTo_end {P S W : List Int} (h : Cl P S W) {j : Nat} (hj : j < P.length) : orTo P S W j ++ [acTo (orTo P S W j) (prxAt P S j) (W.getD j 0) (prxAt P S j).length] = orTo P S W (j + 1) := by
 have e0 : orTo P S W (j + 1) = orTo P S W j ++ [W.getD j 0 + (if 0 ≤ S.getD j 0 then (orTo P S W j).getD (S.getD j 0).toNat 0 else 0) + (if 1 ≤ j then (orTo P S W j).getD (P.getD j 0).toNat 0 else 0)] := rfl
 rw [e0]
 congr 2
 by_cases h0 : j = 0
 ·subst h0
  have := h.p0.2
  rw [show prxAt P S 0 = [] by simp [prxAt], if_neg (by omega), if_neg (by omega)]
  simp [acTo]
 ·rw [if_pos (show 1 ≤ j by omega)]
  by_cases hs : 0 ≤ S.getD j 0
  ·rw [if_pos hs, show prxAt P S j = [S.getD j 0, P.getD j 0] by simp only [prxAt, if_neg h0, if_pos hs]; rfl]
   rfl
  ·rw [if_neg hs, show prxAt P S j = [P.getD j 0] by simp only [prxAt, if_neg h0, if_neg hs]; rfl, Int.add_zero]
   rfl
theorem added_c (P S W : List Int) (h : Cl P S W) : CallA Tryz.prog 155 [aLL (prxTo P S P.length), .sh (.one (.fn 157 [dCl P S W]))] [rL (orTo P S W W.length)] [] := by
 have hl := h.len
 have hW := h.lW
 have hML := prxTo_len P S P.length
 have hMa : ∀ j, j < P.length → (prxTo P S P.length).getD (j * 1) [] = prxAt P S j := fun j hj => by rw [Nat.mul_one]; exact prxTo_at P S hj
 have hin := fun j (hj : j ≤ P.length) i => orTo_fit h (show j ≤ W.length by omega) i
 have hst := fun j (hj : j < P.length) => acTo_end h hj
 have hmem := fun j (hj : j < P.length) => prxAt_mem h hj
 have hw := h.w
 have hol := orTo_len P S W
 have hpl := prxAt_len P S
 clear h
 generalize prxTo P S P.length = M at *
 refine cA_ _ Tryz.func155 rfl Tryz.ntmps155 sO_ ?_
 repeat' (first | (refine Two.mk ?_ ?_ <;> intro _) | refine goA ?_ | (refine neA ?_; first | refine nxA ?_ | refine Done.ret (.one rA_ .nil) (.sh (.sh .nil)) ?_ rfl) | fail)
 refine WpA.loop_slots2 (fun j id => [(1, .c (.fn 157 [dCl P S W])), (5, .own id (.sl true 1 (ints (orTo P S W j)))), (12, .c (.sl false 1 (LLs M))), (13, vJ P.length), (14, vJ j)]) (fun j => j ≤ P.length) (fun j => P.length - j) 0 _ (by omega) ⟨rfl, by exact own_ints (l := []) rfl, rfl, int_eq (by omega), rfl, trivial⟩ ?_
 intro j id s nx hj
 by_cases hlt : j < P.length
 ·have ha := hMa j hlt
  have hst := hst j hlt
  have hmem := hmem j hlt
  have hpl := hpl j
  have hin := hin j hj
  have hol := hol j
  have hw := hw (j * 1) (by omega)
  have hC := ordOwn_c P S W j (by omega)
  rw [show W.getD j 0 = W.getD (j * 1) 0 by rw [Nat.mul_one], ← ha] at hst
  rw [← ha] at hmem hpl
  generalize orTo P S W j = X at *
  clear ha hMa
  repeat' (first | (refine Two.mk ?_ ?_ <;> intro _) | (guard_target =~ CallN_; first | refine RunU.cons (step_call_clo (hC) xR_ xR_ (.sh .nil) (.sh wS_ .nil) rfl) ?_) | refine goA ?_ | (refine neA ?_; first | refine nxA ?_ | refine Done.ret (.one rA_ .nil) (.sh (.sh .nil)) ?_ rfl) | fail)
  all_goals try (exfalso; omega)
  clear hC
  refine WpA.loop_slots2 (fun k id => [(1, .c (.fn 157 [dCl P S W])), (5, .own id (.sl true 1 (ints X))), (8, vJ (acTo X (M.getD (j * 1) []) (W.getD (j * 1) 0) k)), (12, .c (.sl false 1 (LLs M))), (13, vJ P.length), (14, vJ j), (22, .c (.sl false 1 (ints (M.getD (j * 1) [])))), (23, vJ (M.getD (j * 1) []).length), (24, vJ k)]) (fun k => k ≤ (M.getD (j * 1) []).length) (fun k => (M.getD (j * 1) []).length - k) 0 _ (by omega) ⟨rfl, xR_, rfl, rfl, rfl, rfl, rfl, rfl, rfl, trivial⟩ ?_
  intro k id s nx hk
  have b0 := acTo_in (L := M.getD (j * 1) []) hin hw hpl k hk
  by_cases hkl : k < (M.getD (j * 1) []).length
  ·have m1 := hmem (k * 1) (by omega)
   have b1 := hin (((M.getD (j * 1) []).getD (k * 1) 0).toNat * 1)
   have b2 := acTo_in (L := M.getD (j * 1) []) hin hw hpl (k + 1) hkl
   have e : acTo X (M.getD (j * 1) []) (W.getD (j * 1) 0) k + X.getD (((M.getD (j * 1) []).getD (k * 1) 0).toNat * 1) 0 = acTo X (M.getD (j * 1) []) (W.getD (j * 1) 0) (k + 1) := by
    simp only [Nat.mul_one]; rfl
   clear hst hmem hin
   generalize acTo X (M.getD (j * 1) []) (W.getD (j * 1) 0) k = y at *
   repeat' (first | (refine Two.mk ?_ ?_ <;> intro _) | refine goA ?_ | (refine neA ?_; first | refine nxA ?_ | refine Done.ret (.one rA_ .nil) (.sh (.sh .nil)) ?_ rfl) | fail)
   all_goals try (exfalso; omega)
   all_goals exact ⟨k + 1, by omega, ⟨_, rfl, rfl, int_eq e, rfl, rfl, rfl, rfl, rfl, int_eq (by omega), trivial⟩, by omega⟩
  ·obtain rfl : k = (M.getD (j * 1) []).length := by omega
   clear hmem hin
   repeat' (first | (refine Two.mk ?_ ?_ <;> intro _) | refine goA ?_ | (refine neA ?_; first | refine nxA ?_ | refine Done.ret (.one rA_ .nil) (.sh (.sh .nil)) ?_ rfl) | fail)
   all_goals try (exfalso; omega)
   all_goals exact ⟨j + 1, by omega, ⟨_, rfl, by exact own_ints hst, rfl, rfl, int_eq (by omega), trivial⟩, by omega⟩
 ·obtain rfl : j = P.length := by omega
  rw [hW]
  clear hin hst hmem hw hMa
  repeat' (first | (refine Two.mk ?_ ?_ <;> intro _) | refine goA ?_ | (refine neA ?_; first | refine nxA ?_ | refine Done.ret (.one rA_ .nil) (.sh (.sh .nil)) ?_ rfl) | fail)
  all_goals first | rfl | (exfalso; omega)
theorem implOr_c (P S W : List Int) (h : Cl P S W) : CallA Tryz.prog 105 [aCl P S W] [rL (orTo P S W W.length)] [] := by
 have hP := clPrx_c P S W h
 have hE := added_c P S W h
 clear h
 refine cA_ _ Tryz.func105 rfl Tryz.ntmps105 sO_ ?_
 repeat' (first | (refine Two.mk ?_ ?_ <;> intro _) | (guard_target =~ CallN_; first | refine RunU.cons (sC_ (hP) (.sh .nil) (.shAgg rfl gA_ .nil) rfl) ?_ | refine RunU.cons (sC_ (hE) (.sh (.sh .nil)) (.sh wS_ (.sh wS_ .nil)) rfl) ?_) | (guard_target =~ IsN; first | refine RunU.cons (step_makeFunc (.cons (.root rfl) .nil) rfl) ?_) | refine goA ?_ | (refine neA ?_; first | refine nxA ?_ | refine Done.ret (.one rA_ .nil) (.sh .nil) ?_ rfl) | fail)
 all_goals rfl
end Go.Proofs.YtmgmpnhlehonmaaGreat
