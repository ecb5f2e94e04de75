/- Orders of clusters: the program. No condition. -/
import Derived.Test.YtmgmpnhlehonmaaGreatOGyJ
set_option linter.unusedVariables false
set_option linter.unusedSimpArgs false
namespace Go.Proofs.YtmgmpnhlehonmaaGreat
set_option maxRecDepth 100000
set_option maxHeartbeats 20000000
open Go.Pv
open Go.ChangeShapes Go.WideShapes Go.ChangeAt Go.RowKit
attribute [local irreducible] RunU WpA Step CallG CallNG Done DoneN
instance fnOk155 : FnOk Tryz.prog 155 := ⟨_, Tryz.func155, rfl, by decide⟩
instance fnOk105 : FnOk Tryz.prog 105 := ⟨_, Tryz.func105, rfl, by decide⟩
instance fnOk157 : FnOk Tryz.prog 157 := ⟨_, Tryz.func157, rfl, by decide⟩
abbrev dCl (P S W : List Int) : D := .pt false [.sl false 1 (ints P), .sl false 1 (ints S), .sl false 1 (ints W)]
theorem ordOwn_c (P S W : List Int) (j : Nat) (hj : j < W.length) : CallA Tryz.prog 157 [aI j, .sh (.one (dCl P S W))] [rI (W.getD (j * 1) 0)] [] := by
 refine cA_ _ Tryz.func157 rfl Tryz.ntmps157 sO_ ?_
 repeat' (first | (refine Two.mk ?_ ?_ <;> intro _) | refine goA ?_ | (refine neA ?_; first | refine nxA ?_ | refine Done.ret (.one rA_ .nil) (.sh (.sh .nil)) ?_ rfl) | fail)
 all_goals first | rfl | (exfalso; omega)
def acTo (O L : List Int) (w : Int) : Nat → Int
 | 0 => w
 | k + 1 => acTo O L w k + O.getD (L.getD k 0).toNat 0
theorem acTo_in {O L : List Int} {w B : Int} (hB : ∀ i, -B ≤ O.getD i 0 ∧ O.getD i 0 ≤ B) (hw : -100000 ≤ w ∧ w ≤ 100000) (hL : L.length ≤ 2) : ∀ k : Nat, k ≤ L.length → -(2 * B + 100000) ≤ acTo O L w k ∧ acTo O L w k ≤ 2 * B + 100000 := by
 have h0 := hB 0
 intro k hk
 have b0 := hB (L.getD 0 0).toNat
 have b1 := hB (L.getD 1 0).toNat
 rcases k with _ | _ | _ | k
 ·simp only [acTo]; omega
 ·simp only [acTo]; omega
 ·simp only [acTo]; omega
 ·omega
theorem acTo_end {P S W : List Int} (h : Cl P S W) {j : Nat} (hj : j < P.length) : orTo P S W j ++ [acTo (orTo P S W j) (prxAt P S j) (W.getD j 0) (prxAt P S j).length] = orTo P S W (j + 1) := by
 have e0 : orTo P S W (j + 1) = orTo P S W j ++ [W.getD j 0 + (if 0 ≤ S.getD j 0 then (orTo P S W j).getD (S.getD j 0).toNat 0 else 0) + (if 1 ≤ j then (orTo P S W j).getD (P.getD j 0).toNat 0 else 0)] := rfl
 rw [e0]
 congr 2
 by_cases h0 : j = 0
 ·subst h0
  have := h.p0.2
  rw [show prxAt P S 0 = [] by simp [prxAt], if_neg (by omega), if_neg (by omega)]
  simp [acTo]
 ·rw [if_pos (show 1 ≤ j by omega)]
  by_cases hs : 0 ≤ S.getD j 0
  ·rw [if_pos hs, show prxAt P S j = [S.getD j 0, P.getD j 0] by simp only [prxAt, if_neg h0, if_pos hs]; rfl]
   rfl
  ·rw [if_neg hs, show prxAt P S j = [P.getD j 0] by simp only [prxAt, if_neg h0, if_neg hs]; rfl, Int.add_zero]
   rfl
theorem added_c (P S W : List Int) (h : Cl P S W) : CallA Tryz.prog 155 [aLL (prxTo P S P.length), .sh (.one (.fn 157 [dCl P S W]))] [rL (orTo P S W W.length)] [] := by
 have hl := h.len
 have hW := h.lW
 have hML := prxTo_len P S P.length
 have hMa : ∀ j, j < P.length → (prxTo P S P.length).getD (j * 1) [] = prxAt P S j := fun j hj => by rw [Nat.mul_one]; exact prxTo_at P S hj
 have hin := fun j (hj : j ≤ P.length) i => orTo_fit h (show j ≤ W.length by omega) i
 have hst := fun j (hj : j < P.length) => acTo_end h hj
 have hmem := fun j (hj : j < P.length) => prxAt_mem h hj
 have hw := h.w
 have hol := orTo_len P S W
 have hpl := prxAt_len P S
 clear h
 generalize prxTo P S P.length = M at *
 refine cA_ _ Tryz.func155 rfl Tryz.ntmps155 sO_ ?_
 repeat' (first | (refine Two.mk ?_ ?_ <;> intro _) | refine goA ?_ | (refine neA ?_; first | refine nxA ?_ | refine Done.ret (.one rA_ .nil) (.sh (.sh .nil)) ?_ rfl) | fail)
 refine WpA.loop_slots2 (fun j id => [(1, .c (.fn 157 [dCl P S W])), (5, .own id (.sl true 1 (ints (orTo P S W j)))), (12, .c (.sl false 1 (LLs M))), (13, vJ P.length), (14, vJ j)]) (fun j => j ≤ P.length) (fun j => P.length - j) 0 _ (by omega) ⟨rfl, by exact own_ints (l := []) rfl, rfl, int_eq (by omega), rfl, trivial⟩ ?_
 intro j id s nx hj
 by_cases hlt : j < P.length
 ·have ha := hMa j hlt
  have hst := hst j hlt
  have hmem := hmem j hlt
  have hpl := hpl j
  have hin := hin j hj
  have hol := hol j
  have hw := hw (j * 1) (by omega)
  have hC := ordOwn_c P S W j (by omega)
  rw [show W.getD j 0 = W.getD (j * 1) 0 by rw [Nat.mul_one], ← ha] at hst
  rw [← ha] at hmem hpl
  generalize orTo P S W j = X at *
  clear ha hMa
  repeat' (first | (refine Two.mk ?_ ?_ <;> intro _) | (guard_target =~ CallN_; first | refine RunU.cons (step_call_clo (hC) xR_ xR_ (.sh .nil) (.sh wS_ .nil) rfl) ?_) | refine goA ?_ | (refine neA ?_; first | refine nxA ?_ | refine Done.ret (.one rA_ .nil) (.sh (.sh .nil)) ?_ rfl) | fail)
  all_goals try (exfalso; omega)
  clear hC
  refine WpA.loop_slots2 (fun k id => [(1, .c (.fn 157 [dCl P S W])), (5, .own id (.sl true 1 (ints X))), (8, vJ (acTo X (M.getD (j * 1) []) (W.getD (j * 1) 0) k)), (12, .c (.sl false 1 (LLs M))), (13, vJ P.length), (14, vJ j), (22, .c (.sl false 1 (ints (M.getD (j * 1) [])))), (23, vJ (M.getD (j * 1) []).length), (24, vJ k)]) (fun k => k ≤ (M.getD (j * 1) []).length) (fun k => (M.getD (j * 1) []).length - k) 0 _ (by omega) ⟨rfl, xR_, rfl, rfl, rfl, rfl, rfl, rfl, rfl, trivial⟩ ?_
  intro k id s nx hk
  have b0 := acTo_in (L := M.getD (j * 1) []) hin hw hpl k hk
  by_cases hkl : k < (M.getD (j * 1) []).length
  ·have m1 := hmem (k * 1) (by omega)
   have b1 := hin (((M.getD (j * 1) []).getD (k * 1) 0).toNat * 1)
   have b2 := acTo_in (L := M.getD (j * 1) []) hin hw hpl (k + 1) hkl
   have e : acTo X (M.getD (j * 1) []) (W.getD (j * 1) 0) k + X.getD (((M.getD (j * 1) []).getD (k * 1) 0).toNat * 1) 0 = acTo X (M.getD (j * 1) []) (W.getD (j * 1) 0) (k + 1) := by
    simp only [Nat.mul_one]; rfl
   clear hst hmem hin
   generalize acTo X (M.getD (j * 1) []) (W.getD (j * 1) 0) k = y at *
   repeat' (first | (refine Two.mk ?_ ?_ <;> intro _) | refine goA ?_ | (refine neA ?_; first | refine nxA ?_ | refine Done.ret (.one rA_ .nil) (.sh (.sh .nil)) ?_ rfl) | fail)
   all_goals try (exfalso; omega)
   all_goals exact ⟨k + 1, by omega, ⟨_, rfl, rfl, int_eq e, rfl, rfl, rfl, rfl, rfl, int_eq (by omega), trivial⟩, by omega⟩
  ·obtain rfl : k = (M.getD (j * 1) []).length := by omega
   clear hmem hin
   repeat' (first | (refine Two.mk ?_ ?_ <;> intro _) | refine goA ?_ | (refine neA ?_; first | refine nxA ?_ | refine Done.ret (.one rA_ .nil) (.sh (.sh .nil)) ?_ rfl) | fail)
   all_goals try (exfalso; omega)
   all_goals exact ⟨j + 1, by omega, ⟨_, rfl, by exact own_ints hst, rfl, rfl, int_eq (by omega), trivial⟩, by omega⟩
 ·obtain rfl : j = P.length := by omega
  rw [hW]
  clear hin hst hmem hw hMa
  repeat' (first | (refine Two.mk ?_ ?_ <;> intro _) | refine goA ?_ | (refine neA ?_; first | refine nxA ?_ | refine Done.ret (.one rA_ .nil) (.sh (.sh .nil)) ?_ rfl) | fail)
  all_goals first | rfl | (exfalso; omega)
theorem implOr_c (P S W : List Int) (h : Cl P S W) : CallA Tryz.prog 105 [aCl P S W] [rL (orTo P S W W.length)] [] := by
 have hP := clPrx_c P S W h
 have hE := added_c P S W h
 clear h
 refine cA_ _ Tryz.func105 rfl Tryz.ntmps105 sO_ ?_
 repeat' (first | (refine Two.mk ?_ ?_ <;> intro _) | (guard_target =~ CallN_; first | refine RunU.cons (sC_ (hP) (.sh .nil) (.shAgg rfl gA_ .nil) rfl) ?_ | refine RunU.cons (sC_ (hE) (.sh (.sh .nil)) (.sh wS_ (.sh wS_ .nil)) rfl) ?_) | (guard_target =~ IsN; first | refine RunU.cons (step_makeFunc (.cons (.root rfl) .nil) rfl) ?_) | refine goA ?_ | (refine neA ?_; first | refine nxA ?_ | refine Done.ret (.one rA_ .nil) (.sh .nil) ?_ rfl) | fail)
 all_goals rfl
end Go.Proofs.YtmgmpnhlehonmaaGreat
