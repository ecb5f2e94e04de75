/- Products with a limit, one step of the program's walk through a forest. No condition. -/
import Derived.Test.YtmgmpnhlehonmaaGreatKGrG
import Derived.Test.YtmgmpnhlehonmaaGreatKNuA
set_option linter.unusedVariables false
set_option linter.unusedSimpArgs false
namespace Go.Proofs.YtmgmpnhlehonmaaGreat
set_option maxHeartbeats 20000000
open Go.Pv
open Go.ChangeShapes Go.WideShapes Go.ChangeAt Go.RowKit
attribute [local irreducible] RunU WpA Step CallG CallNG Done DoneN
instance fnOk96 : FnOk Tryz.prog 96 := ⟨_, Tryz.func96, rfl, by decide⟩
def apN (E : List (List Int)) (v : Int) : Nat → List Int
 | 0 => []
 | j + 1 => if ea E j = v then apN E v j ++ [eb E j] else if eb E j = v then apN E v j ++ [ea E j] else apN E v j
def adjL (E : List (List Int)) (n j : Nat) : List (List Int) := (List.range n).map fun i : Nat => apN E i j
theorem adjL_len (E : List (List Int)) (n j : Nat) : (adjL E n j).length = n := by simp [adjL]
theorem adjL_at (E : List (List Int)) {n i : Nat} (j : Nat) (h : i < n) : (adjL E n j).getD i [] = apN E i j := by simp [adjL, List.getD, h]
theorem apN_len (E : List (List Int)) (v : Int) : ∀ j, (apN E v j).length ≤ j
 | 0 => Nat.le_refl _
 | j + 1 => by
  have := apN_len E v j
  rw [apN]
  split
  ·rw [List.length_append, List.length_singleton]; omega
  ·split
   ·rw [List.length_append, List.length_singleton]; omega
   ·omega
theorem extL {A B : List (List Int)} (h : A.length = B.length) (hk : ∀ k, k < A.length → A.getD k [] = B.getD k []) : A = B := by
 refine List.ext_getElem h fun k h1 h2 => ?_
 have := hk k h1
 simpa [List.getD, h1, h2] using this
theorem getD_setL {L : List (List Int)} {i k : Nat} {v : List Int} (hi : i < L.length) : (L.set i v).getD k [] = if i = k then v else L.getD k [] := by
 simp only [List.getD_eq_getElem?_getD, List.getElem?_set]
 split
 ·rename_i e; subst e; simp [hi]
 ·rfl
theorem adjL_step {E : List (List Int)} {n j : Nat} (g : 0 ≤ ea E j ∧ ea E j < eb E j ∧ eb E j < n) :
  ((adjL E n j).set (ea E j).toNat ((adjL E n j).getD (ea E j).toNat [] ++ [eb E j])).set (eb E j).toNat (((adjL E n j).set (ea E j).toNat ((adjL E n j).getD (ea E j).toNat [] ++ [eb E j])).getD (eb E j).toNat [] ++ [ea E j]) = adjL E n (j + 1) := by
 have hl := adjL_len E n j
 have hl2 := adjL_len E n (j + 1)
 refine extL (by simp [adjL_len]) fun k hk => ?_
 simp only [List.length_set, hl] at hk
 have ea' : ((ea E j).toNat : Int) = ea E j := by omega
 have eb' : ((eb E j).toNat : Int) = eb E j := by omega
 rw [getD_setL (by simp [hl]; omega), getD_setL (by omega), getD_setL (by omega), adjL_at E j hk, adjL_at E (j + 1) hk, adjL_at E j (by omega), adjL_at E j (by omega), ea', eb', apN]
 by_cases h1 : (eb E j).toNat = k
 ·have : (k : Int) = eb E j := by omega
  rw [if_pos h1, if_neg (by omega), if_neg (by omega), if_pos this.symm, this]
 ·rw [if_neg h1]
  by_cases h2 : (ea E j).toNat = k
  ·have : (k : Int) = ea E j := by omega
   rw [if_pos h2, if_pos this.symm, this]
  ·rw [if_neg h2, if_neg (by omega), if_neg (by omega)]
theorem own_mk {id n : Nat} {E : List (List Int)} : AV.own id (.sl true 1 (List.replicate n (D.sl true 1 []))) = AV.own id (.sl true 1 (LL (adjL E n 0))) := by
 have : LL (adjL E n 0) = List.replicate n (D.sl true 1 []) := by
  simp [LL, adjL, apN, ints, List.map_const']
 rw [this]
def srtTo (A : List (List Int)) (j : Nat) : List (List Int) := (A.take j).map srt ++ A.drop j
theorem srtTo_len (A : List (List Int)) {j : Nat} (h : j ≤ A.length) : (srtTo A j).length = A.length := by simp [srtTo]; omega
theorem srtTo_at (A : List (List Int)) {j k : Nat} (h : j ≤ A.length) : (srtTo A j).getD k [] = if k < j then srt (A.getD k []) else A.getD k [] := by
 unfold srtTo
 by_cases hk : k < j
 ·have h1 : k < A.length := by omega
  rw [if_pos hk]
  simp [List.getD, List.getElem?_append, hk, h1, List.getElem?_take, show k < min j A.length by omega]
 ·rw [if_neg hk]
  simp only [List.getD_eq_getElem?_getD, List.getElem?_append, List.length_map, List.length_take]
  rw [if_neg (by omega), List.getElem?_drop, show j + (k - min j A.length) = k by omega]
theorem srtTo_step (A : List (List Int)) {j : Nat} (h : j < A.length) : (srtTo A j).set j (srt ((srtTo A j).getD j [])) = srtTo A (j + 1) := by
 have h1 := srtTo_len A (show j ≤ A.length by omega)
 have h2 := srtTo_len A (show j + 1 ≤ A.length by omega)
 refine extL (by rw [List.length_set, h1, h2]) fun k hk => ?_
 have a1 := srtTo_at A (j := j) (k := j) (by omega)
 have a2 := srtTo_at A (j := j) (k := k) (by omega)
 have a3 := srtTo_at A (j := j + 1) (k := k) (by omega)
 rw [if_neg (Nat.lt_irrefl j)] at a1
 rw [getD_setL (by omega), a1, a2, a3]
 by_cases e : j = k
 ·subst e; rw [if_pos rfl, if_pos (Nat.lt_succ_self j)]
 ·rw [if_neg e]
  by_cases hk : k < j
  ·rw [if_pos hk, if_pos (by omega)]
  ·rw [if_neg hk, if_neg (by omega)]
theorem neighbours_c (w : List Int) (E : List (List Int)) (hw : w.length ≤ 40) (hE : E.length ≤ 1000) (hg : GoodE w.length E) : CallA Tryz.prog 96 [aGr w E] [rLL ((adjL E w.length E.length).map srt)] [] := by
 refine cA_ _ Tryz.func96 rfl Tryz.ntmps96 sO_ ?_
 repeat' (first | (refine Two.mk ?_ ?_ <;> intro _) | (guard_target =~ RunU _ _ _ _ [] _ _ _ _; first | refine RunU.nilL ?_ | refine RunU.nilD (by simp only [List.reverse_cons, List.reverse_nil, List.nil_append, List.cons_append, List.map_cons, List.map_nil, List.append_nil, fpE, rdE, wkE, rdOf, List.append_eq, List.singleton_append]; decide) ?_) | refine goH ?_ | refine nxA ?_ | refine Done.ret (.one rA_ .nil) (.sh .nil) ?_ rfl)
 refine WpA.loop_slots2 (fun j id => [(3, .own id (.sl true 1 (LL (adjL E w.length j)))), (13, .c (.sl false 1 (LLs E))), (14, vGI E.length), (15, vGI j)]) (fun j => j ≤ E.length) (fun j => E.length - j) 0 _ (by omega) ⟨by exact own_mk, rfl, rfl, rfl, trivial⟩ ?_
 intro j id s nx hj
 have hl := adjL_len E w.length j
 by_cases hlt : j < E.length
 ·have g := hg j hlt
  have r0 : (E.getD (j * 1) []).getD (0 * 1) 0 = ea E j := by rw [Nat.mul_one]; rfl
  have r1 : (E.getD (j * 1) []).getD (1 * 1) 0 = eb E j := by rw [Nat.mul_one]; rfl
  have r2 : (E.getD (j * 1) []).length = 2 := by rw [Nat.mul_one]; exact g.1
  have g1 := g.2.1
  rw [← r0, ← r1] at g1
  have la : ((adjL E w.length j).getD (((E.getD (j * 1) []).getD (0 * 1) 0).toNat * 1) []).length ≤ 1000 := by
   rw [Nat.mul_one, adjL_at E j (by omega)]; have := apN_len E (((E.getD (j * 1) []).getD (0 * 1) 0).toNat : Int) j; omega
  generalize hA : adjL E w.length j = A at *
  have lb : ((A.set (((E.getD (j * 1) []).getD (0 * 1) 0).toNat * 1) (A.getD (((E.getD (j * 1) []).getD (0 * 1) 0).toNat * 1) [] ++ [(E.getD (j * 1) []).getD (1 * 1) 0])).getD (((E.getD (j * 1) []).getD (1 * 1) 0).toNat * 1) []).length ≤ 1001 := by
   rw [getD_setL (by omega)]
   split
   ·rw [List.length_append, List.length_singleton]; omega
   ·rw [Nat.mul_one, ← hA, adjL_at E j (by omega)]; have := apN_len E (((E.getD (j * 1) []).getD (1 * 1) 0).toNat : Int) j; omega
  have ls : (A.set (((E.getD (j * 1) []).getD (0 * 1) 0).toNat * 1) (A.getD (((E.getD (j * 1) []).getD (0 * 1) 0).toNat * 1) [] ++ [(E.getD (j * 1) []).getD (1 * 1) 0])).length = A.length := List.length_set
  have e1 := adjL_step g.2.1
  rw [hA, ← r0, ← r1] at e1
  rw [← Nat.mul_one (((E.getD (j * 1) []).getD (0 * 1) 0).toNat), ← Nat.mul_one (((E.getD (j * 1) []).getD (1 * 1) 0).toNat)] at e1
  repeat' (first | (refine Two.mk ?_ ?_ <;> intro _) | (guard_target =~ RunU _ _ _ _ [] _ _ _ _; first | refine RunU.nilL ?_ | refine RunU.nilD (by simp only [List.reverse_cons, List.reverse_nil, List.nil_append, List.cons_append, List.map_cons, List.map_nil, List.append_nil, fpE, rdE, wkE, rdOf, List.append_eq, List.singleton_append]; decide) ?_) | (guard_target =~ RunU _ _ _ _ (Oper.mk (some 19) (Op.move _) _ _ _ none :: _) _ _ _ _; first | refine RunU.consW (stepW_move_headL rfl rfl) ?_ | refine RunU.consW (stepW_move_header rfl rfl) ?_) | (guard_target =~ RunU _ _ _ _ (Oper.mk (some 35) (Op.move _) _ _ _ none :: _) _ _ _ _; first | refine RunU.consW (stepW_move_headL rfl rfl) ?_ | refine RunU.consW (stepW_move_header rfl rfl) ?_) | (guard_target =~ RunU _ _ _ _ (Oper.mk _ (Op.call ⟨Callee.builtin Builtin.append, _, _⟩) _ _ _ none :: _) _ _ _ _; refine RunU.consK step_any xR_ xR_ (by exact hdr_set rfl) ?_) | refine goH ?_ | refine nxA ?_ | refine Done.ret (.one rA_ .nil) (.sh .nil) ?_ rfl)
  all_goals try (exfalso; omega)
  exact ⟨j + 1, by omega, ⟨_, by exact own_LL e1, rfl, rfl, int_eq (by omega), trivial⟩, by omega⟩
 ·have ej : j = E.length := by omega
  subst ej
  generalize hA : adjL E w.length E.length = A at *
  have ha : ∀ k, k < A.length → (A.getD k []).length ≤ 1000 := fun k hk => by
   rw [← hA, adjL_at E _ (by omega)]; have := apN_len E (k : Int) E.length; omega
  repeat' (first | (refine Two.mk ?_ ?_ <;> intro _) | (guard_target =~ RunU _ _ _ _ [] _ _ _ _; first | refine RunU.nilL ?_ | refine RunU.nilD (by simp only [List.reverse_cons, List.reverse_nil, List.nil_append, List.cons_append, List.map_cons, List.map_nil, List.append_nil, fpE, rdE, wkE, rdOf, List.append_eq, List.singleton_append]; decide) ?_) | refine goH ?_ | refine nxA ?_ | refine Done.ret (.one rA_ .nil) (.sh .nil) ?_ rfl)
  all_goals try (exfalso; omega)
  refine WpA.loop_slots (ι := Nat) (fun j => [(3, .own id (.sl true 1 (LL (srtTo A j)))), (52, .als 3 id []), (53, vGI A.length), (54, vGI j)]) (fun j => j ≤ A.length) (fun j => A.length - j) 0 (by omega) ⟨by exact own_LL (by simp [srtTo]), rfl, rfl, rfl, trivial⟩ ?_
  intro j s nx hj
  have hl2 := srtTo_len A hj
  by_cases hlt : j < A.length
  ·have hb : ((srtTo A j).getD (j * 1) []).length ≤ 1000 := by
    rw [Nat.mul_one, srtTo_at A hj, if_neg (by omega)]; exact ha j hlt
   repeat' (first | (refine Two.mk ?_ ?_ <;> intro _) | (guard_target =~ RunU _ _ _ _ [] _ _ _ _; first | refine RunU.nilL ?_ | refine RunU.nilD (by simp only [List.reverse_cons, List.reverse_nil, List.nil_append, List.cons_append, List.map_cons, List.map_nil, List.append_nil, fpE, rdE, wkE, rdOf, List.append_eq, List.singleton_append]; decide) ?_) | (guard_target =~ CallN_; first | refine RunU.cons (step_call_ioN0 (CallN.of_flat (sort_c ((srtTo A j).getD (j * 1) []) (by omega)) rfl (isFlat_ints _)) iA .nil .nil xR_ xR_ rfl) ?_) | refine goH ?_ | refine nxA ?_ | refine Done.ret (.one rA_ .nil) (.sh .nil) ?_ rfl)
   all_goals try (exfalso; omega)
   have e2 : (srtTo A j).set (j * 1) (srt ((srtTo A j).getD (j * 1) [])) = srtTo A (j + 1) := by rw [Nat.mul_one]; exact srtTo_step A hlt
   exact ⟨j + 1, by omega, ⟨by exact own_put_LL (by omega) e2, rfl, rfl, int_eq (by omega), trivial⟩, by omega⟩
  ·have ej : j = A.length := by omega
   subst ej
   repeat' (first | (refine Two.mk ?_ ?_ <;> intro _) | (guard_target =~ RunU _ _ _ _ [] _ _ _ _; first | refine RunU.nilL ?_ | refine RunU.nilD (by simp only [List.reverse_cons, List.reverse_nil, List.nil_append, List.cons_append, List.map_cons, List.map_nil, List.append_nil, fpE, rdE, wkE, rdOf, List.append_eq, List.singleton_append]; decide) ?_) | refine goH ?_ | refine nxA ?_ | refine Done.ret (.one rA_ .nil) (.sh .nil) ?_ rfl)
   all_goals try (exfalso; omega)
   simp [srtTo]
instance fnOk77 : FnOk Tryz.prog 77 := ⟨_, Tryz.func77, rfl, by decide⟩
instance fnOk78 : FnOk Tryz.prog 78 := ⟨_, Tryz.func78, rfl, by decide⟩
instance fnOk188 : FnOk Tryz.prog 188 := ⟨_, Tryz.func188, rfl, by decide⟩
def nbL (E : List (List Int)) (n : Nat) : List (List Int) := (List.range n).map fun i : Nat => near E i
theorem nbL_len (E : List (List Int)) (n : Nat) : (nbL E n).length = n := by simp [nbL]
theorem nbL_at (E : List (List Int)) {n i : Nat} (h : i < n) : (nbL E n).getD i [] = near E i := by simp [nbL, List.getD, h]
theorem apN_perm {n : Nat} {E : List (List Int)} (hg : GoodE n E) (v : Int) : ∀ j, j ≤ E.length → (apN E v j).Perm (lowN E v j ++ uppN E v j)
 | 0, _ => List.Perm.refl _
 | j + 1, hj => by
  have ih := apN_perm hg v j (by omega)
  have g := (hg j (by omega)).2.1
  rw [apN, lowN, uppN]
  by_cases h1 : ea E j = v
  ·rw [if_pos h1, if_neg (by omega), if_pos h1, ← List.append_assoc]
   exact List.Perm.append_right _ ih
  ·rw [if_neg h1]
   by_cases h2 : eb E j = v
   ·rw [if_pos h2, if_pos h2, if_neg h1, List.append_assoc]
    refine (List.Perm.append_right _ ih).trans ?_
    rw [List.append_assoc]
    exact List.Perm.append_left _ List.perm_append_comm
   ·rw [if_neg h2, if_neg h2, if_neg h1]
    exact ih
theorem adj_srt {n : Nat} {E : List (List Int)} (hg : GoodE n E) : (adjL E n E.length).map srt = nbL E n := by
 unfold adjL nbL
 rw [List.map_map]
 refine List.map_congr_left fun i _ => ?_
 have h1 : (srt (apN E i E.length)).Perm (apN E i E.length) := List.mergeSort_perm _ _
 refine sort_unique (h1.trans (apN_perm hg i E.length (Nat.le_refl _))) (srt_sorted _) ((near_sorted hg i).imp fun h => by omega)
theorem nbrs_c (w : List Int) (E : List (List Int)) (hg : IsGr w E) : CallA Tryz.prog 96 [aGr w E] [rLL (nbL E w.length)] [] := by
 have h1 := hg.few
 have h2 := hg.1
 rw [← adj_srt hg.2.2.1]
 exact neighbours_c w E (by omega) (by omega) hg.2.2.1
theorem times_c (a b : Int) (ha : -1000000000000 ≤ a ∧ a ≤ 1000000000000) (hb : -1000000000000 ≤ b ∧ b ≤ 1000000000000) : CallA Tryz.prog 77 [aI a, aI b] [rI (tms a b).1, rB (tms a b).2] [] := by
 have hle := tms_le (a := a) (b := b)
 have hdef : tms a b = if a = 0 ∨ b = 0 then (0, true) else if 1000000000000 / (b.natAbs : Int) < (a.natAbs : Int) then (0, false) else (a * b, true) := rfl
 by_cases h0 : a = 0 ∨ b = 0
 ·rw [if_pos h0] at hdef
  rw [hdef]
  refine cA_ _ Tryz.func77 rfl Tryz.ntmps77 sO_ ?_
  repeat' (first | (refine Two.mk ?_ ?_ <;> intro _) | (guard_target =~ CallN_; first | refine RunU.cons (sC_ (abs_c a (by omega)) (.sh .nil) (.sh wS_ .nil) rfl) ?_ | refine RunU.cons (sC_ (abs_c b (by omega)) (.sh .nil) (.sh wS_ .nil) rfl) ?_) | refine goA ?_ | (guard_target =~ IsG; first | refine psA ?_ | refine gdA ?_) | refine nxA ?_ | refine Done.ret (.one rA_ (.one rA_ .nil)) (.sh (.sh .nil)) ?_ rfl)
  all_goals first | rfl | (exfalso; omega)
 ·rw [if_neg h0] at hdef
  by_cases h1 : 1000000000000 / (b.natAbs : Int) < (a.natAbs : Int)
  ·rw [if_pos h1] at hdef
   rw [hdef]
   refine cA_ _ Tryz.func77 rfl Tryz.ntmps77 sO_ ?_
   repeat' (first | (refine Two.mk ?_ ?_ <;> intro _) | (guard_target =~ CallN_; first | refine RunU.cons (sC_ (abs_c a (by omega)) (.sh .nil) (.sh wS_ .nil) rfl) ?_ | refine RunU.cons (sC_ (abs_c b (by omega)) (.sh .nil) (.sh wS_ .nil) rfl) ?_) | refine goA ?_ | (guard_target =~ IsG; first | refine psA ?_ | refine gdA ?_) | refine nxA ?_ | refine Done.ret (.one rA_ (.one rA_ .nil)) (.sh (.sh .nil)) ?_ rfl)
   all_goals first | rfl | (exfalso; omega)
  ·rw [if_neg h1] at hdef
   have hm : -1000000000000 ≤ a * b ∧ a * b ≤ 1000000000000 := by rw [hdef] at hle; omega
   rw [hdef]
   clear hdef hle
   refine cA_ _ Tryz.func77 rfl Tryz.ntmps77 sO_ ?_
   repeat' (first | (refine Two.mk ?_ ?_ <;> intro _) | (guard_target =~ CallN_; first | refine RunU.cons (sC_ (abs_c a (by omega)) (.sh .nil) (.sh wS_ .nil) rfl) ?_ | refine RunU.cons (sC_ (abs_c b (by omega)) (.sh .nil) (.sh wS_ .nil) rfl) ?_) | refine goA ?_ | (guard_target =~ IsG; first | refine psA ?_ | refine gdA ?_) | refine nxA ?_ | refine Done.ret (.one rA_ (.one rA_ .nil)) (.sh (.sh .nil)) ?_ rfl)
   all_goals first | rfl | (exfalso; omega)
theorem isValue_c (x : Int) : CallA Tryz.prog 78 [aI x] [rB (decide (-1000000000000 ≤ x ∧ x ≤ 1000000000000))] [] := by
 refine cA_ _ Tryz.func78 rfl Tryz.ntmps78 sO_ ?_
 repeat' (first | (refine Two.mk ?_ ?_ <;> intro _) | (guard_target =~ CallN_; first | refine RunU.cons (sC_ (inRange_c _ _ _) (.sh (.sh (.sh .nil))) (.sh wS_ (.sh wS_ (.sh wS_ .nil))) rfl) ?_) | refine goA ?_ | refine nxA ?_ | refine Done.ret (.one rA_ .nil) (.sh .nil) ?_ rfl)
 all_goals rfl
abbrev dWk (w : List Int) (N : List (List Int)) (s : VS) : D := .pt true [.sl false 1 (ints w), .sl true 1 (LL N), .sl true 1 (ints s.f), .sl true 1 (ints s.g), .sl true 1 (bools s.seen), .lit (.bool s.large)]
def stP (p r f g : Int) : Int := if okS p r f g = true then p * f else 0
def stR (p r f g : Int) : Int := if okS p r f g = true then r * f - p * g else 0
def stL (p r f g : Int) (b : Bool) : Bool := if okS p r f g = true then b else true
theorem step_c (w : List Int) (N : List (List Int)) (f g : List Int) (sn : List Bool) (lg : Bool) (p r x y : Int) (hp : -1000000000000 ≤ p ∧ p ≤ 1000000000000) (hr : -1000000000000 ≤ r ∧ r ≤ 1000000000000) (hx : -1000000000000 ≤ x ∧ x ≤ 1000000000000) (hy : -1000000000000 ≤ y ∧ y ≤ 1000000000000) :
  CallNS Tryz.prog 188 (dWk w N ⟨f, g, sn, lg⟩) [aI p, aI r, aI x, aI y] [rI (stP p r x y), rI (stR p r x y)] (dWk w N ⟨f, g, sn, stL p r x y lg⟩) := by
 have l1 := tms_le (a := r) (b := x)
 have l2 := tms_le (a := p) (b := y)
 have l3 := tms_le (a := p) (b := x)
 have hok : okS p r x y = true ↔ (tms r x).2 = true ∧ (tms p y).2 = true ∧ (tms p x).2 = true ∧ (-1000000000000 ≤ (tms r x).1 - (tms p y).1 ∧ (tms r x).1 - (tms p y).1 ≤ 1000000000000) := by
  simp only [okS, Bool.and_eq_true, decide_eq_true_eq, and_assoc]
 by_cases ho : okS p r x y = true
 ·obtain ⟨q1, q2, q3⟩ := okS_parts ho
  have e1 : stP p r x y = (tms p x).1 := by rw [stP, if_pos ho, q3]
  have e2 : stR p r x y = (tms r x).1 - (tms p y).1 := by rw [stR, if_pos ho, q1, q2]
  have e3 : stL p r x y lg = lg := by rw [stL, if_pos ho]
  rw [e1, e2, e3]
  have hk := hok.1 ho
  clear hok
  refine cN_ _ Tryz.func188 rfl Tryz.ntmps188 ?_
  repeat' (first | (refine Two.mk ?_ ?_ <;> intro _) | (guard_target =~ CallN_; first | refine RunU.cons (sC_ (times_c r x hr hx) (.sh (.sh .nil)) (.sh wS_ (.sh wS_ .nil)) rfl) ?_ | refine RunU.cons (sC_ (times_c p y hp hy) (.sh (.sh .nil)) (.sh wS_ (.sh wS_ .nil)) rfl) ?_ | refine RunU.cons (sC_ (times_c p x hp hx) (.sh (.sh .nil)) (.sh wS_ (.sh wS_ .nil)) rfl) ?_ | refine RunU.cons (sC_ (isValue_c _) (.sh .nil) (.sh wS_ .nil) rfl) ?_) | refine goA ?_ | (guard_target =~ IsG; first | refine psA ?_ | (guard_target =~ CallS_; first | refine RunU.doit rfl rfl (sC_ (times_c r x hr hx) (.sh (.sh .nil)) (.sh wS_ (.sh wS_ .nil)) rfl) ?_ | refine RunU.doit rfl rfl (sC_ (times_c p y hp hy) (.sh (.sh .nil)) (.sh wS_ (.sh wS_ .nil)) rfl) ?_ | refine RunU.doit rfl rfl (sC_ (times_c p x hp hx) (.sh (.sh .nil)) (.sh wS_ (.sh wS_ .nil)) rfl) ?_ | refine RunU.doit rfl rfl (sC_ (isValue_c _) (.sh .nil) (.sh wS_ .nil) rfl) ?_) | refine gdA ?_) | refine nxA ?_ | ((first | refine DoneN.ret (.one rA_ (.one rA_ .nil)) rfl ?_ ?_ | refine DoneN.normal (.one rA_ (.one rA_ .nil)) rfl ?_ ?_) <;> try exact rfl))
  all_goals first | rfl | (exfalso; simp_all; done) | (exfalso; simp_all; omega)
 ·have e1 : stP p r x y = 0 := by rw [stP, if_neg ho]
  have e2 : stR p r x y = 0 := by rw [stR, if_neg ho]
  have e3 : stL p r x y lg = true := by rw [stL, if_neg ho]
  rw [e1, e2, e3]
  rw [hok] at ho
  clear hok
  refine cN_ _ Tryz.func188 rfl Tryz.ntmps188 ?_
  repeat' (first | (refine Two.mk ?_ ?_ <;> intro _) | (guard_target =~ CallN_; first | refine RunU.cons (sC_ (times_c r x hr hx) (.sh (.sh .nil)) (.sh wS_ (.sh wS_ .nil)) rfl) ?_ | refine RunU.cons (sC_ (times_c p y hp hy) (.sh (.sh .nil)) (.sh wS_ (.sh wS_ .nil)) rfl) ?_ | refine RunU.cons (sC_ (times_c p x hp hx) (.sh (.sh .nil)) (.sh wS_ (.sh wS_ .nil)) rfl) ?_ | refine RunU.cons (sC_ (isValue_c _) (.sh .nil) (.sh wS_ .nil) rfl) ?_) | refine goA ?_ | (guard_target =~ IsG; first | refine psA ?_ | (guard_target =~ CallS_; first | refine RunU.doit rfl rfl (sC_ (times_c r x hr hx) (.sh (.sh .nil)) (.sh wS_ (.sh wS_ .nil)) rfl) ?_ | refine RunU.doit rfl rfl (sC_ (times_c p y hp hy) (.sh (.sh .nil)) (.sh wS_ (.sh wS_ .nil)) rfl) ?_ | refine RunU.doit rfl rfl (sC_ (times_c p x hp hx) (.sh (.sh .nil)) (.sh wS_ (.sh wS_ .nil)) rfl) ?_ | refine RunU.doit rfl rfl (sC_ (isValue_c _) (.sh .nil) (.sh wS_ .nil) rfl) ?_) | refine gdA ?_) | refine nxA ?_ | ((first | refine DoneN.ret (.one rA_ (.one rA_ .nil)) rfl ?_ ?_ | refine DoneN.normal (.one rA_ (.one rA_ .nil)) rfl ?_ ?_) <;> try exact rfl))
  all_goals first | rfl | (exfalso; simp_all; done) | (exfalso; simp_all; omega)
end Go.Proofs.YtmgmpnhlehonmaaGreat
