/- Arrows, and sums of products. No condition. -/
import Derived.Test.YtmgmpnhlehonmaaGreatKHaC
set_option linter.unusedVariables false
set_option linter.unusedSimpArgs false
namespace Go.Proofs.YtmgmpnhlehonmaaGreat
set_option maxHeartbeats 20000000
open Go.Pv
open Go.ChangeShapes Go.WideShapes Go.ChangeAt Go.RowKit
attribute [local irreducible] RunU WpA Step CallG CallNG Done DoneN
instance fnOk123 : FnOk Tryz.prog 123 := ⟨_, Tryz.func123, rfl, by decide⟩
instance fnOk62 : FnOk Tryz.prog 62 := ⟨_, Tryz.func62, rfl, by decide⟩
instance fnOk9 : FnOk Tryz.prog 9 := ⟨_, Tryz.func9, rfl, by decide⟩
def matF (n : Nat) (f : Nat → Nat → Int) : List (List Int) := (List.range n).map fun i => (List.range n).map fun k => f i k
theorem matF_len (n : Nat) (f : Nat → Nat → Int) : (matF n f).length = n := by simp [matF]
theorem matF_row {n i : Nat} (f : Nat → Nat → Int) (h : i < n) : (matF n f).getD i [] = (List.range n).map fun k => f i k := by simp [matF, List.getD, h]
theorem matF_rlen {n i : Nat} (f : Nat → Nat → Int) (h : i < n) : ((matF n f).getD i []).length = n := by rw [matF_row f h]; simp
theorem matF_congr {n : Nat} {f g : Nat → Nat → Int} (h : ∀ i k, i < n → k < n → f i k = g i k) : matF n f = matF n g := by
 unfold matF
 refine List.map_congr_left fun i hi => List.map_congr_left fun k hk => h i k (by simpa using hi) (by simpa using hk)
theorem matF_set {n a b : Nat} {f : Nat → Nat → Int} {v : Int} (ha : a < n) (hb : b < n) : (matF n f).set a (((matF n f).getD a []).set b v) = matF n fun i k => if i = a ∧ k = b then v else f i k := by
 rw [matF_row f ha]
 unfold matF
 refine List.ext_getElem (by simp) fun i h1 h2 => ?_
 simp only [List.length_set, List.length_map, List.length_range] at h1
 rw [List.getElem_set]
 simp only [List.getElem_map, List.getElem_range]
 by_cases e : a = i
 ·subst e
  rw [if_pos rfl]
  refine List.ext_getElem (by simp) fun k h3 h4 => ?_
  rw [List.getElem_set]
  simp only [List.getElem_map, List.getElem_range, true_and]
  by_cases e2 : b = k
  ·rw [if_pos e2, if_pos e2.symm]
  ·rw [if_neg e2, if_neg (Ne.symm e2)]
 ·rw [if_neg e]
  refine List.map_congr_left fun k _ => ?_
  rw [if_neg (fun h => e h.1.symm)]
theorem own_LLr {id : Nat} {ds : List D} {A : List (List Int)} {v : AV} (h : v = .own id (.sl true 1 ds)) (e : ds = LL A) : v = AV.own id (.sl true 1 (LL A)) := by rw [h, e]
theorem own_overL {id : Nat} {A A' : List (List Int)} {k : Nat} {m : List Int} (e : A.set k m = A') : AV.own id (.sl true 1 (D.over (LL A) k [.sl true 1 (ints m)])) = AV.own id (.sl true 1 (LL A')) := by
 rw [show D.over (LL A) k [.sl true 1 (ints m)] = LL (A.set k m) by simp only [D.over, LL, List.map_set], e]
theorem square_c (n : Nat) (hn : n ≤ 1000) : CallA Tryz.prog 123 [aI n] [rLL (matF n fun _ _ => 0)] [] := by
 have e0 : (matF n fun _ _ => 0) = List.replicate n (List.replicate n 0) := by simp [matF, List.map_const']
 rw [e0]
 have hset : ∀ j, j < n → (List.replicate j (List.replicate n (0 : Int)) ++ List.replicate (n - j) []).set j (List.replicate n 0) = List.replicate (j + 1) (List.replicate n 0) ++ List.replicate (n - (j + 1)) [] := fun j hj => by
  rw [List.set_append_right _ _ (by simp), List.length_replicate, Nat.sub_self, show n - j = (n - (j + 1)) + 1 by omega, List.replicate_succ, List.set_cons_zero, List.replicate_succ', List.append_assoc]
  rfl
 refine cA_ _ Tryz.func123 rfl Tryz.ntmps123 sO_ ?_
 repeat' (first | (refine Two.mk ?_ ?_ <;> intro _) | refine goA ?_ | refine nxA ?_ | refine Done.ret (.one rA_ .nil) (.sh .nil) ?_ rfl)
 refine WpA.loop_ids2 (fun j i3 _ => [(0, vGI n), (3, .own i3 (.sl true 1 (LL (List.replicate j (List.replicate n (0 : Int)) ++ List.replicate (n - j) [])))), (8, vGI n), (9, vGI j)]) (fun j => j ≤ n) (fun j => n - j) 0 _ 0 (by omega) ⟨rfl, by exact own_LLr rfl (by simp [LL, ints]), int_eq (by simp), rfl, trivial⟩ ?_
 intro j i3 _ s nx hj
 have hl : (List.replicate j (List.replicate n (0 : Int)) ++ List.replicate (n - j) []).length = n := by simp; omega
 by_cases hlt : j < n
 ·have e := hset j hlt
  rw [show ∀ A : List (List Int), A.set j (List.replicate n 0) = A.set (j * 1) (List.replicate ((n : Int)).toNat 0) from fun A => by rw [Nat.mul_one]; rfl] at e
  generalize List.replicate j (List.replicate n (0 : Int)) ++ List.replicate (n - j) [] = A at *
  repeat' (first | (refine Two.mk ?_ ?_ <;> intro _) | refine goA ?_ | refine nxA ?_ | refine Done.ret (.one rA_ .nil) (.sh .nil) ?_ rfl)
  all_goals try (exfalso; omega)
  exact ⟨j + 1, by omega, ⟨_, 0, rfl, by exact own_overL e, rfl, int_eq (by omega), trivial⟩, by omega⟩
 ·have ej : j = n := by omega
  subst ej
  have e : List.replicate j (List.replicate j (0 : Int)) ++ List.replicate (j - j) [] = List.replicate j (List.replicate j 0) := by simp
  rw [e] at *
  repeat' (first | (refine Two.mk ?_ ?_ <;> intro _) | refine goA ?_ | refine nxA ?_ | refine Done.ret (.one rA_ .nil) (.sh .nil) ?_ rfl)
  all_goals try (exfalso; omega)
  all_goals rfl
noncomputable def lkS (w : List Int) (E : List (List Int)) (i k : Int) : Int × Bool := setS w E (offL (pth w E i k) w.length)
theorem lk_sym {w : List Int} {E : List (List Int)} (hg : IsGr w E) {i k : Int} (hi : 0 ≤ i ∧ i < w.length) (hk : 0 ≤ k ∧ k < w.length) : lkS w E k i = lkS w E i k := by
 unfold lkS
 have : offL (pth w E k i) w.length = offL (pth w E i k) w.length := by
  rw [pth_rev hg hi hk]
  unfold offL
  refine List.map_congr_left fun v _ => ?_
  simp
 rw [this]
def lkOk (w : List Int) (E : List (List Int)) : Prop := ∀ i k : Nat, i < w.length → k < w.length → (lkS w E i k).2 = true
noncomputable def lkB (w : List Int) (E : List (List Int)) : Bool := @decide (lkOk w E) (Classical.propDecidable _)
theorem lkB_iff (w : List Int) (E : List (List Int)) : lkB w E = true ↔ lkOk w E := by unfold lkB; exact @decide_eq_true_iff _ (Classical.propDecidable _)
noncomputable def lkL (w : List Int) (E : List (List Int)) : List (List Int) := matF w.length fun a b => (lkS w E a b).1
noncomputable def lkT (w : List Int) (E : List (List Int)) (i k : Nat) : List (List Int) := matF w.length fun a b => if max a b < i ∨ (max a b = i ∧ min a b < k) then (lkS w E a b).1 else 0
theorem lkT_zero (w : List Int) (E : List (List Int)) : (matF w.length fun _ _ => (0 : Int)) = lkT w E 0 0 := matF_congr fun i k _ _ => by rw [if_neg (by omega)]
theorem lkT_all (w : List Int) (E : List (List Int)) : lkT w E w.length 0 = lkL w E := matF_congr fun i k hi hk => by rw [if_pos (by omega)]
theorem lkT_row (w : List Int) (E : List (List Int)) (i : Nat) : lkT w E i (i + 1) = lkT w E (i + 1) 0 := matF_congr fun a b _ _ => by
 by_cases h : max a b < i ∨ (max a b = i ∧ min a b < i + 1)
 ·rw [if_pos h, if_pos (by omega)]
 ·rw [if_neg h, if_neg (by omega)]
theorem lkT_step {w : List Int} {E : List (List Int)} (hg : IsGr w E) {i k : Nat} (hi : i < w.length) (hk : k ≤ i) :
  ((lkT w E i k).set i (((lkT w E i k).getD i []).set k (lkS w E i k).1)).set k ((((lkT w E i k).set i (((lkT w E i k).getD i []).set k (lkS w E i k).1)).getD k []).set i (lkS w E i k).1) = lkT w E i (k + 1) := by
 unfold lkT
 rw [matF_set hi (by omega), matF_set (by omega) hi]
 refine matF_congr fun a b ha hb => ?_
 by_cases h1 : a = k ∧ b = i
 ·rw [if_pos h1, if_pos (by omega), h1.1, h1.2, lk_sym hg (i := (i : Int)) (k := (k : Int)) (by omega) (by omega)]
 ·rw [if_neg h1]
  by_cases h2 : a = i ∧ b = k
  ·rw [if_pos h2, if_pos (by omega), h2.1, h2.2]
  ·rw [if_neg h2]
   by_cases h3 : max a b < i ∨ (max a b = i ∧ min a b < k)
   ·rw [if_pos h3, if_pos (by omega)]
   ·rw [if_neg h3, if_neg (by omega)]
noncomputable def lkR (w : List Int) (E : List (List Int)) : List (List Int) := if lkB w E = true then lkL w E else []
noncomputable def lkC (w : List Int) (E : List (List Int)) : Int := if lkB w E = true then 0 else 3
theorem linkingMatrix_c (w : List Int) (E : List (List Int)) (hg : IsGr w E) (hc : E.length + 1 = w.length) : CallA Tryz.prog 62 [aSpl w E] [rLL (lkR w E), rI (lkC w E)] [] := by
 have hlen := hg.1
 have hNl := nbL_len E w.length
 have hSq := square_c (nbL E w.length).length (by omega)
 have hbad : ¬ lkOk w E → lkR w E = [] ∧ lkC w E = 3 := fun h => by
  have : ¬ lkB w E = true := fun h2 => h ((lkB_iff w E).1 h2)
  exact ⟨if_neg this, if_neg this⟩
 have hgood : lkOk w E → lkR w E = lkL w E ∧ lkC w E = 0 := fun h => by
  have := (lkB_iff w E).2 h
  exact ⟨if_pos this, if_pos this⟩
 refine cA_ _ Tryz.func62 rfl Tryz.ntmps62 sO_ ?_
 repeat' (first | (refine Two.mk ?_ ?_ <;> intro _) | (guard_target =~ CallN_; first | refine RunU.cons (sC_ (hSq) (.sh .nil) (.sh wS_ .nil) rfl) ?_) | refine goA ?_ | refine nxA ?_ | refine Done.ret (.one rA_ (.one rA_ .nil)) (.sh .nil) ?_ rfl)
 all_goals try (exfalso; omega)
 refine WpA.loop_slots2 (fun i i4 => [(1, .own 1 (.pt true [.sl false 1 (ints w), .sl false 1 (LLs E), .sl false 1 (LLs (nbL E w.length))])), (4, .own i4 (.sl true 1 (LL (lkT w E i 0)))), (14, vGI w.length), (15, vGI i)]) (fun i => i ≤ w.length ∧ ∀ a b : Nat, a < i → b ≤ a → (lkS w E a b).2 = true) (fun i => w.length - i) 0 _ ⟨by omega, fun a b h => by omega⟩ ⟨rfl, by exact own_LL (by rw [hNl, lkT_zero]), int_eq (by rw [matF_len, hNl]), rfl, trivial⟩ ?_
 rintro i i4 s nx ⟨hi, hok⟩
 by_cases hlt : i < w.length
 ·clear hSq
  repeat' (first | (refine Two.mk ?_ ?_ <;> intro _) | refine goA ?_ | refine nxA ?_ | refine Done.ret (.one rA_ (.one rA_ .nil)) (.sh .nil) ?_ rfl)
  all_goals try (exfalso; omega)
  refine WpA.loop_slots2 (fun k i4 => [(1, .own 1 (.pt true [.sl false 1 (ints w), .sl false 1 (LLs E), .sl false 1 (LLs (nbL E w.length))])), (4, .own i4 (.sl true 1 (LL (lkT w E i k)))), (5, vGI i), (14, vGI w.length), (15, vGI i), (19, vGI ((i : Int) + 1)), (20, vGI k)]) (fun k => k ≤ i + 1 ∧ ∀ b : Nat, b < k → (lkS w E i b).2 = true) (fun k => i + 1 - k) 0 _ ⟨by omega, fun b h => by omega⟩ ⟨rfl, xR_, rfl, rfl, rfl, rfl, rfl, trivial⟩ ?_
  rintro k i4 s nx ⟨hk, hok2⟩
  by_cases hlk : k < i + 1
  ·have hL := linking_c w E i k hg (by omega) (by omega) (pth_ne hg hc (by omega) (by omega))
   obtain ⟨s1, s2⟩ := set_eq hg (offL (pth w E i k) w.length)
   have hst := lkT_step hg hlt (show k ≤ i by omega)
   have hAl : (lkT w E i k).length = w.length := matF_len _ _
   have hAi : ((lkT w E i k).getD (i * 1) []).length = w.length := by rw [Nat.mul_one]; exact matF_rlen _ hlt
   have hBk : (((lkT w E i k).set (i * 1) (((lkT w E i k).getD (i * 1) []).set (k * 1) (lkS w E i k).1)).getD (k * 1) []).length = w.length := by
    rw [Nat.mul_one, Nat.mul_one]
    unfold lkT
    rw [matF_set hlt (by omega)]
    exact matF_rlen _ (by omega)
   have hlS : lkS w E i k = setS w E (offL (pth w E i k) w.length) := rfl
   rw [← hlS] at s1 s2
   rw [show ∀ (A : List (List Int)) (d : Int), (A.set i ((A.getD i []).set k d)).set k (((A.set i ((A.getD i []).set k d)).getD k []).set i d) = (A.set (i * 1) ((A.getD (i * 1) []).set (k * 1) d)).set (k * 1) (((A.set (i * 1) ((A.getD (i * 1) []).set (k * 1) d)).getD (k * 1) []).set (i * 1) d) from fun A d => by rw [Nat.mul_one, Nat.mul_one]] at hst
   cases hb : (lkS w E i k).2 with
   | true =>
    rw [s1, hb] at hL
    have s3 := s2 (by rw [s1]; exact hb)
    rw [s3] at hL
    generalize hA : lkT w E i k = A at *
    generalize hd : (lkS w E i k).1 = d at *
    have hls : (A.set (i * 1) ((A.getD (i * 1) []).set (k * 1) d)).length = A.length := List.length_set
    clear s1 s2 s3 hbad hgood hlS hd
    repeat' (first | (refine Two.mk ?_ ?_ <;> intro _) | (guard_target =~ CallN_; first | refine RunU.cons (sC_ (hL) (.sh (.sh (.sh .nil))) (.shAgg rfl gA_ (.sh wS_ (.sh wS_ .nil))) rfl) ?_) | (guard_target =~ IsN; first | refine RunU.cons (step_store_LL xR_ xR_ xR_ (by omega) (by omega)) ?_) | refine goA ?_ | refine nxA ?_ | refine Done.ret (.one rA_ (.one rA_ .nil)) (.sh .nil) ?_ rfl)
    all_goals try (exfalso; simp_all; done)
    all_goals try (exfalso; omega)
    refine ⟨k + 1, ⟨by omega, fun b h => ?_⟩, ⟨_, rfl, by exact own_LL hst, rfl, rfl, rfl, rfl, int_eq (by omega), trivial⟩, by omega⟩
    by_cases e : b = k
    ·rw [e]; exact hb
    ·exact hok2 b (by omega)
   | false =>
    rw [s1, hb] at hL
    have hno : ¬ lkOk w E := fun h => by rw [h i k hlt (by omega)] at hb; cases hb
    obtain ⟨z1, z2⟩ := hbad hno
    rw [z1, z2]
    clear s1 s2 hbad hgood hst hBk
    repeat' (first | (refine Two.mk ?_ ?_ <;> intro _) | (guard_target =~ CallN_; first | refine RunU.cons (sC_ (hL) (.sh (.sh (.sh .nil))) (.shAgg rfl gA_ (.sh wS_ (.sh wS_ .nil))) rfl) ?_) | refine goA ?_ | refine nxA ?_ | refine Done.ret (.one rA_ (.one rA_ .nil)) (.sh .nil) ?_ rfl)
    all_goals first | rfl | (exfalso; simp_all; done) | (exfalso; omega)
  ·have ek : k = i + 1 := by omega
   subst ek
   clear hbad hgood
   repeat' (first | (refine Two.mk ?_ ?_ <;> intro _) | refine goA ?_ | refine nxA ?_ | refine Done.ret (.one rA_ (.one rA_ .nil)) (.sh .nil) ?_ rfl)
   all_goals try (exfalso; omega)
   refine ⟨i + 1, ⟨by omega, fun a b h1 h2 => ?_⟩, ⟨_, rfl, by exact own_LL (lkT_row w E i), rfl, int_eq (by omega), trivial⟩, by omega⟩
   by_cases e : a = i
   ·rw [e]; exact hok2 b (by omega)
   ·exact hok a b (by omega) h2
 ·have ei : i = w.length := by omega
  subst ei
  have hall : lkOk w E := fun a b ha hb => by
   by_cases h : b ≤ a
   ·exact hok a b ha h
   ·rw [lk_sym hg (i := (b : Int)) (k := (a : Int)) (by omega) (by omega)]
    exact hok b a hb (by omega)
  obtain ⟨z1, z2⟩ := hgood hall
  rw [z1, z2, ← lkT_all]
  clear hbad hgood hSq
  repeat' (first | (refine Two.mk ?_ ?_ <;> intro _) | refine goA ?_ | refine nxA ?_ | refine Done.ret (.one rA_ (.one rA_ .nil)) (.sh .nil) ?_ rfl)
  all_goals try (exfalso; omega)
  all_goals rfl
instance fnOk10 : FnOk Tryz.prog 10 := ⟨_, Tryz.func10, rfl, by decide⟩
noncomputable def lmR (w : List Int) (E : List (List Int)) : List (List Int) := if chkC w E [] = 0 then lkR w E else []
noncomputable def lmC (w : List Int) (E : List (List Int)) : Int := if chkC w E [] = 0 then lkC w E else chkC w E []
noncomputable def lkRow (w : List Int) (E : List (List Int)) (i k : Nat) : List Int := (List.range k).map fun b : Nat => (lkS w E i b).1
noncomputable def lkRows (w : List Int) (E : List (List Int)) (i : Nat) : List (List Int) := (List.range i).map fun a : Nat => lkRow w E a w.length
theorem lkRow_len (w : List Int) (E : List (List Int)) (i k : Nat) : (lkRow w E i k).length = k := by simp [lkRow]
theorem lkRows_len (w : List Int) (E : List (List Int)) (i : Nat) : (lkRows w E i).length = i := by simp [lkRows]
theorem specLinkingMatrix_c (w : List Int) (E : List (List Int)) (hw : w.length ≤ 2000000) (hE : E.length ≤ 2000000) : CallA Tryz.prog 10 [aGr w E] [rLL (lmR w E), rI (lmC w E)] [] := by
 have hC := l13Code_c w E [] hw hE (by simp)
 unfold lmR lmC
 by_cases h : chkC w E [] = 0
 ·rw [if_pos h, if_pos h]
  rw [h] at hC
  obtain ⟨hg, _, hcn⟩ := chk_zero h
  have hlen := hg.1
  have hbad : ¬ lkOk w E → lkR w E = [] ∧ lkC w E = 3 := fun h => by
   have : ¬ lkB w E = true := fun h2 => h ((lkB_iff w E).1 h2)
   exact ⟨if_neg this, if_neg this⟩
  have hgood : lkOk w E → lkR w E = lkL w E ∧ lkC w E = 0 := fun h => by
   have := (lkB_iff w E).2 h
   exact ⟨if_pos this, if_pos this⟩
  clear h
  refine cA_ _ Tryz.func10 rfl Tryz.ntmps10 sO_ ?_
  repeat' (first | (refine Two.mk ?_ ?_ <;> intro _) | (guard_target =~ CallN_; first | refine RunU.cons (sC_ (hC) (.sh (.sh .nil)) (.shAgg rfl gA_ (.sh wS_ .nil)) rfl) ?_) | refine goA ?_ | refine nxA ?_ | refine Done.ret (.one rA_ (.one rA_ .nil)) (.sh .nil) ?_ rfl)
  all_goals try (exfalso; simp_all; done)
  refine WpA.loop_slots2 (fun i i5 => [(1, .own 1 (.pt true [.sl false 1 (ints w), .sl false 1 (LLs E)])), (5, .own i5 (.sl true 1 (LL (lkRows w E i)))), (6, vGI i)]) (fun i => i ≤ w.length ∧ ∀ a b : Nat, a < i → b < w.length → (lkS w E a b).2 = true) (fun i => w.length - i) 0 _ ⟨by omega, fun a b h => by omega⟩ ⟨rfl, xR_, rfl, trivial⟩ ?_
  rintro i i5 s nx ⟨hi, hok⟩
  have hrl := lkRows_len w E i
  by_cases hlt : i < w.length
  ·clear hC
   repeat' (first | (refine Two.mk ?_ ?_ <;> intro _) | refine goA ?_ | refine nxA ?_ | refine Done.ret (.one rA_ (.one rA_ .nil)) (.sh .nil) ?_ rfl)
   all_goals try (exfalso; omega)
   refine WpA.loop_ids2 (fun k i5 i7 => [(1, .own 1 (.pt true [.sl false 1 (ints w), .sl false 1 (LLs E)])), (5, .own i5 (.sl true 1 (LL (lkRows w E i)))), (6, vGI i), (7, .own i7 (.sl true 1 (ints (lkRow w E i k)))), (8, vGI k)]) (fun k => k ≤ w.length ∧ ∀ b : Nat, b < k → (lkS w E i b).2 = true) (fun k => w.length - k) 0 _ _ ⟨by omega, fun b h => by omega⟩ ⟨rfl, xR_, rfl, xR_, rfl, trivial⟩ ?_
   rintro k i5 i7 s nx ⟨hk, hok2⟩
   have hwl := lkRow_len w E i k
   by_cases hlk : k < w.length
   ·have hL := l13Linking_c w E i k hg (by omega) (by omega)
    have hlS : lkS w E i k = setS w E (offL (pth w E i k) w.length) := rfl
    rw [← hlS] at hL
    have e : lkRow w E i k ++ [(lkS w E i k).1] = lkRow w E i (k + 1) := by simp [lkRow, List.range_succ]
    cases hb : (lkS w E i k).2 with
    | true =>
     rw [hb] at hL
     clear hbad hgood hlS
     generalize hd : (lkS w E i k).1 = d at *
     repeat' (first | (refine Two.mk ?_ ?_ <;> intro _) | (guard_target =~ CallN_; first | refine RunU.cons (sC_ (hL) (.sh (.sh (.sh .nil))) (.shAgg rfl gA_ (.sh wS_ (.sh wS_ .nil))) rfl) ?_) | refine goA ?_ | refine nxA ?_ | refine Done.ret (.one rA_ (.one rA_ .nil)) (.sh .nil) ?_ rfl)
     all_goals try (exfalso; simp_all; done)
     all_goals try (exfalso; omega)
     refine ⟨k + 1, ⟨by omega, fun b h => ?_⟩, ⟨_, _, rfl, rfl, rfl, by exact own_ints e, int_eq (by omega), trivial⟩, by omega⟩
     by_cases e : b = k
     ·rw [e]; exact hb
     ·exact hok2 b (by omega)
    | false =>
     rw [hb] at hL
     have hno : ¬ lkOk w E := fun h => by rw [h i k hlt hlk] at hb; cases hb
     obtain ⟨z1, z2⟩ := hbad hno
     rw [z1, z2]
     clear hbad hgood
     repeat' (first | (refine Two.mk ?_ ?_ <;> intro _) | (guard_target =~ CallN_; first | refine RunU.cons (sC_ (hL) (.sh (.sh (.sh .nil))) (.shAgg rfl gA_ (.sh wS_ (.sh wS_ .nil))) rfl) ?_) | refine goA ?_ | refine nxA ?_ | refine Done.ret (.one rA_ (.one rA_ .nil)) (.sh .nil) ?_ rfl)
     all_goals first | rfl | (exfalso; simp_all; done) | (exfalso; omega)
   ·have ek : k = w.length := by omega
    subst ek
    have e : lkRows w E i ++ [lkRow w E i w.length] = lkRows w E (i + 1) := by simp [lkRows, List.range_succ]
    clear hbad hgood
    repeat' (first | (refine Two.mk ?_ ?_ <;> intro _) | refine goA ?_ | refine nxA ?_ | refine Done.ret (.one rA_ (.one rA_ .nil)) (.sh .nil) ?_ rfl)
    all_goals try (exfalso; omega)
    refine ⟨i + 1, ⟨by omega, fun a b h1 h2 => ?_⟩, ⟨_, rfl, by exact own_LL e, int_eq (by omega), trivial⟩, by omega⟩
    by_cases e : a = i
    ·rw [e]; exact hok2 b h2
    ·exact hok a b (by omega) h2
  ·have ei : i = w.length := by omega
   subst ei
   obtain ⟨z1, z2⟩ := hgood hok
   have e : lkRows w E w.length = lkL w E := rfl
   rw [z1, z2, ← e]
   clear hbad hgood hC
   repeat' (first | (refine Two.mk ?_ ?_ <;> intro _) | refine goA ?_ | refine nxA ?_ | refine Done.ret (.one rA_ (.one rA_ .nil)) (.sh .nil) ?_ rfl)
   all_goals try (exfalso; omega)
   all_goals rfl
 ·rw [if_neg h, if_neg h]
  generalize chkC w E [] = c at *
  refine cA_ _ Tryz.func10 rfl Tryz.ntmps10 sO_ ?_
  repeat' (first | (refine Two.mk ?_ ?_ <;> intro _) | (guard_target =~ CallN_; first | refine RunU.cons (sC_ (hC) (.sh (.sh .nil)) (.shAgg rfl gA_ (.sh wS_ .nil)) rfl) ?_) | refine goA ?_ | refine nxA ?_ | refine Done.ret (.one rA_ (.one rA_ .nil)) (.sh .nil) ?_ rfl)
  all_goals first | rfl | (exfalso; simp_all; done) | (exfalso; omega)
instance fnOk94 : FnOk Tryz.prog 94 := ⟨_, Tryz.func94, rfl, by decide⟩
instance fnOk142 : FnOk Tryz.prog 142 := ⟨_, Tryz.func142, rfl, by decide⟩
instance fnOk84 : FnOk Tryz.prog 84 := ⟨_, Tryz.func84, rfl, by decide⟩
instance fnOk92 : FnOk Tryz.prog 92 := ⟨_, Tryz.func92, rfl, by decide⟩
instance fnOk89 : FnOk Tryz.prog 89 := ⟨_, Tryz.func89, rfl, by decide⟩
theorem setS_le (w : List Int) (E : List (List Int)) (K : List Bool) : (setS w E K).1.natAbs ≤ 1000000000000 := by
 unfold setS
 split
 ·show (1 : Int).natAbs ≤ _
  omega
 ·unfold detS
  split
  ·split
   ·rename_i d h
    exact dS_le _ _ _ _ (by omega) h
   ·show (0 : Int).natAbs ≤ _
    omega
  ·show (0 : Int).natAbs ≤ _
   omega
theorem lkL_le (w : List Int) (E : List (List Int)) (i k : Nat) : (((lkL w E).getD i []).getD k 0).natAbs ≤ 1000000000000 := by
 unfold lkL
 by_cases hi : i < w.length
 ·rw [matF_row _ hi]
  by_cases hk : k < w.length
  ·rw [List.getD_eq_getElem?_getD, List.getElem?_map, List.getElem?_range hk]
   exact setS_le _ _ _
  ·rw [List.getD_eq_getElem?_getD, List.getElem?_eq_none (by simp; omega)]
   simp
 ·rw [show (matF w.length fun a b => (lkS w E a b).1).getD i [] = [] by rw [List.getD_eq_getElem?_getD, List.getElem?_eq_none (by rw [matF_len]; omega)]; rfl]
  simp
def dot (a b : List Int) : Nat → Int
 | 0 => 0
 | j + 1 => dot a b j + a.getD j 0 * b.getD j 0
theorem prod_le {x y : Int} {a b : Nat} (hx : x.natAbs ≤ a) (hy : y.natAbs ≤ b) : (x * y).natAbs ≤ a * b := by
 rw [Int.natAbs_mul]; exact Nat.mul_le_mul hx hy
theorem dot_le {a b : List Int} (ha : ∀ i, (a.getD i 0).natAbs ≤ 1000000000000) (hb : ∀ i, (b.getD i 0).natAbs ≤ 1000) : ∀ j, (dot a b j).natAbs ≤ 1000000000000000 * j
 | 0 => by simp [dot]
 | j + 1 => by
  have h1 := dot_le ha hb j
  have h2 := prod_le (ha j) (hb j)
  rw [dot]
  omega
theorem scalar_c (a b : List Int) (h : a.length ≤ b.length) (hl : a.length ≤ 40) (ha : ∀ i, (a.getD i 0).natAbs ≤ 1000000000000) (hb : ∀ i, (b.getD i 0).natAbs ≤ 1000) : CallA Tryz.prog 94 [aL a, aL b] [rI (dot a b a.length)] [] := by
 refine cA_ _ Tryz.func94 rfl Tryz.ntmps94 sO_ ?_
 repeat' (first | (refine Two.mk ?_ ?_ <;> intro _) | refine goA ?_ | refine nxA ?_ | refine Done.ret (.one rA_ .nil) (.sh (.sh .nil)) ?_ rfl)
 refine WpA.loop_slots (ι := Nat) (fun j => [(1, .c (.sl false 1 (ints b))), (5, .c (.lit (.int .i64 (dot a b j)))), (8, .c (.sl false 1 (ints a))), (9, vGI a.length), (10, vGI j)]) (fun j => j ≤ a.length) (fun j => a.length - j) 0 (by omega) ⟨rfl, rfl, rfl, rfl, rfl, trivial⟩ ?_
 intro j s nx hj
 by_cases hlt : j < a.length
 ·have h1 := dot_le ha hb j
  have h2 := prod_le (ha j) (hb j)
  have h2' : (a.getD (j * 1) 0 * b.getD (j * 1) 0).natAbs ≤ 1000000000000 * 1000 := by rw [Nat.mul_one]; exact h2
  have e : dot a b j + a.getD (j * 1) 0 * b.getD (j * 1) 0 = dot a b (j + 1) := by rw [Nat.mul_one, dot]
  generalize hp : a.getD (j * 1) 0 * b.getD (j * 1) 0 = p at *
  repeat' (first | (refine Two.mk ?_ ?_ <;> intro _) | refine goA ?_ | refine nxA ?_ | refine Done.ret (.one rA_ .nil) (.sh (.sh .nil)) ?_ rfl)
  all_goals try (exfalso; omega)
  all_goals first | (rw [hp]; omega) | exact ⟨j + 1, by omega, ⟨rfl, int_eq (by rw [← e, ← hp]), rfl, rfl, int_eq (by omega), trivial⟩, by omega⟩
 ·have ej : j = a.length := by omega
  subst ej
  repeat' (first | (refine Two.mk ?_ ?_ <;> intro _) | refine goA ?_ | refine nxA ?_ | refine Done.ret (.one rA_ .nil) (.sh (.sh .nil)) ?_ rfl)
  all_goals try (exfalso; omega)
  all_goals rfl
def Arr (w A : List Int) : Prop := A.length = w.length ∧ Within A 0 1000
instance decArr (w A : List Int) : Decidable (Arr w A) := by unfold Arr; infer_instance
theorem areArrows_c (w : List Int) (E : List (List Int)) (A : List Int) (hw : w.length ≤ 2000000) (hA : A.length ≤ 2000000) : CallA Tryz.prog 142 [aGr w E, aL A] [rB (decide (Arr w A))] [] := by
 have hW := within_c A 0 1000 (by omega)
 by_cases h1 : A.length = w.length
 ·have e : decide (Arr w A) = decide (Within A 0 1000) := by unfold Arr; simp [h1]
  rw [e]
  generalize decide (Within A 0 1000) = bw at *
  clear e
  refine cA_ _ Tryz.func142 rfl Tryz.ntmps142 sO_ ?_
  repeat' (first | (refine Two.mk ?_ ?_ <;> intro _) | (guard_target =~ CallN_; first | refine RunU.cons (sC_ (hW) (.sh (.sh (.sh .nil))) (.sh wS_ (.sh wS_ (.sh wS_ .nil))) rfl) ?_) | refine goA ?_ | (guard_target =~ IsG; first | refine psA ?_ | (guard_target =~ CallS_; first | refine RunU.doit rfl rfl (sC_ (hW) (.sh (.sh (.sh .nil))) (.sh wS_ (.sh wS_ (.sh wS_ .nil))) rfl) ?_) | refine gdA ?_) | refine nxA ?_ | refine Done.ret (.one rA_ .nil) (.sh (.sh .nil)) ?_ rfl)
  all_goals first | rfl | (exfalso; omega) | (exfalso; simp_all; done)
 ·have e : decide (Arr w A) = false := by unfold Arr; simp [h1]
  rw [e]
  refine cA_ _ Tryz.func142 rfl Tryz.ntmps142 sO_ ?_
  repeat' (first | (refine Two.mk ?_ ?_ <;> intro _) | (guard_target =~ CallN_; first | refine RunU.cons (sC_ (hW) (.sh (.sh (.sh .nil))) (.sh wS_ (.sh wS_ (.sh wS_ .nil))) rfl) ?_) | refine goA ?_ | (guard_target =~ IsG; first | refine psA ?_ | (guard_target =~ CallS_; first | refine RunU.doit rfl rfl (sC_ (hW) (.sh (.sh (.sh .nil))) (.sh wS_ (.sh wS_ (.sh wS_ .nil))) rfl) ?_) | refine gdA ?_) | refine nxA ?_ | refine Done.ret (.one rA_ .nil) (.sh (.sh .nil)) ?_ rfl)
  all_goals first | rfl | (exfalso; omega) | (exfalso; simp_all; done)
def caC (w : List Int) (E : List (List Int)) (A : List Int) : Int := if IsGr w E then if Arr w A then 0 else 2 else 1
theorem checkArrows_c (w : List Int) (E : List (List Int)) (A : List Int) (hw : w.length ≤ 2000000) (hE : E.length ≤ 2000000) (hA : A.length ≤ 2000000) : CallA Tryz.prog 84 [aGr w E, aL A] [rI (caC w E A)] [] := by
 have hI := implIsGraph_c w E hw hE
 have hR := areArrows_c w E A hw hA
 unfold caC
 by_cases hg : IsGr w E
 ·rw [if_pos hg]
  rw [decide_eq_true hg] at hI
  by_cases ha : Arr w A
  ·rw [if_pos ha]
   rw [decide_eq_true ha] at hR
   refine cA_ _ Tryz.func84 rfl Tryz.ntmps84 sO_ ?_
   repeat' (first | (refine Two.mk ?_ ?_ <;> intro _) | (guard_target =~ CallN_; first | refine RunU.cons (sC_ (hI) (.sh .nil) (.shAgg rfl gA_ .nil) rfl) ?_ | refine RunU.cons (sC_ (hR) (.sh (.sh .nil)) (.shAgg rfl gA_ (.sh wS_ .nil)) rfl) ?_) | refine goA ?_ | refine nxA ?_ | refine Done.ret (.one rA_ .nil) (.sh (.sh .nil)) ?_ rfl)
   all_goals first | rfl | (exfalso; simp_all; done)
  ·rw [if_neg ha]
   rw [decide_eq_false ha] at hR
   refine cA_ _ Tryz.func84 rfl Tryz.ntmps84 sO_ ?_
   repeat' (first | (refine Two.mk ?_ ?_ <;> intro _) | (guard_target =~ CallN_; first | refine RunU.cons (sC_ (hI) (.sh .nil) (.shAgg rfl gA_ .nil) rfl) ?_ | refine RunU.cons (sC_ (hR) (.sh (.sh .nil)) (.shAgg rfl gA_ (.sh wS_ .nil)) rfl) ?_) | refine goA ?_ | refine nxA ?_ | refine Done.ret (.one rA_ .nil) (.sh (.sh .nil)) ?_ rfl)
   all_goals first | rfl | (exfalso; simp_all; done)
 ·rw [if_neg hg]
  rw [decide_eq_false hg] at hI
  refine cA_ _ Tryz.func84 rfl Tryz.ntmps84 sO_ ?_
  repeat' (first | (refine Two.mk ?_ ?_ <;> intro _) | (guard_target =~ CallN_; first | refine RunU.cons (sC_ (hI) (.sh .nil) (.shAgg rfl gA_ .nil) rfl) ?_ | refine RunU.cons (sC_ (hR) (.sh (.sh .nil)) (.shAgg rfl gA_ (.sh wS_ .nil)) rfl) ?_) | refine goA ?_ | refine nxA ?_ | refine Done.ret (.one rA_ .nil) (.sh (.sh .nil)) ?_ rfl)
  all_goals first | rfl | (exfalso; simp_all; done)
theorem l13Arrows_c (w : List Int) (E : List (List Int)) (A : List Int) (hw : w.length ≤ 2000000) (hA : A.length ≤ 2000000) : CallA Tryz.prog 92 [aGr w E, aL A] [rB (decide (Arr w A))] [] := by
 refine cA_ _ Tryz.func92 rfl Tryz.ntmps92 sO_ ?_
 repeat' (first | (refine Two.mk ?_ ?_ <;> intro _) | refine goA ?_ | refine nxA ?_ | refine Done.ret (.one rA_ .nil) (.sh (.sh .nil)) ?_ rfl)
 refine WpA.loop_slots (ι := Nat) (fun j => [(1, .c (.sl false 1 (ints A))), (2, .own 2 (.pt true [.sl false 1 (ints w), .sl false 1 (LLs E)])), (5, vGI j)]) (fun j => j ≤ A.length ∧ ∀ i, i < j → 0 ≤ A.getD i 0 ∧ A.getD i 0 ≤ 1000) (fun j => A.length - j) 0 ⟨by omega, fun i hi => by omega⟩ ⟨rfl, rfl, rfl, trivial⟩ ?_
 rintro j s nx ⟨hj, hok⟩
 by_cases hlt : j < A.length
 ·have hV := l01In_c (A.getD (j * 1) 0) 0 1000
  have ej : A.getD (j * 1) 0 = A.getD j 0 := by rw [Nat.mul_one]
  by_cases hr : 0 ≤ A.getD (j * 1) 0 ∧ A.getD (j * 1) 0 ≤ 1000
  ·rw [decide_eq_true hr] at hV
   repeat' (first | (refine Two.mk ?_ ?_ <;> intro _) | (guard_target =~ CallN_; first | refine RunU.cons (sC_ (hV) (.sh (.sh (.sh .nil))) (.sh wS_ (.sh wS_ (.sh wS_ .nil))) rfl) ?_) | refine goA ?_ | refine nxA ?_ | refine Done.ret (.one rA_ .nil) (.sh (.sh .nil)) ?_ rfl)
   all_goals try (exfalso; simp_all; done)
   all_goals try (exfalso; omega)
   refine ⟨j + 1, ⟨by omega, fun i hi => ?_⟩, ⟨rfl, rfl, int_eq (by omega), trivial⟩, by omega⟩
   by_cases e : i = j
   ·rw [e, ← ej]; exact hr
   ·exact hok i (by omega)
  ·rw [decide_eq_false hr] at hV
   have hna : decide (Arr w A) = false := decide_eq_false fun h => hr (by rw [ej]; exact h.2 j hlt)
   rw [hna]
   clear hna
   repeat' (first | (refine Two.mk ?_ ?_ <;> intro _) | (guard_target =~ CallN_; first | refine RunU.cons (sC_ (hV) (.sh (.sh (.sh .nil))) (.sh wS_ (.sh wS_ (.sh wS_ .nil))) rfl) ?_) | refine goA ?_ | refine nxA ?_ | refine Done.ret (.one rA_ .nil) (.sh (.sh .nil)) ?_ rfl)
   all_goals first | rfl | (exfalso; simp_all; done) | (exfalso; omega)
 ·have e : decide (Arr w A) = decide (A.length = w.length) := by
   have : Within A 0 1000 := fun i hi => hok i (by omega)
   unfold Arr
   simp [this]
  rw [e]
  clear e hok
  by_cases h1 : A.length = w.length
  ·rw [decide_eq_true h1]
   repeat' (first | (refine Two.mk ?_ ?_ <;> intro _) | refine goA ?_ | refine nxA ?_ | refine Done.ret (.one rA_ .nil) (.sh (.sh .nil)) ?_ rfl)
   all_goals first | rfl | (exfalso; omega) | (simp [h1]; done)
  ·rw [decide_eq_false h1]
   repeat' (first | (refine Two.mk ?_ ?_ <;> intro _) | refine goA ?_ | refine nxA ?_ | refine Done.ret (.one rA_ .nil) (.sh (.sh .nil)) ?_ rfl)
   all_goals first | rfl | (exfalso; omega) | (simp; omega)
def lcC (w : List Int) (E : List (List Int)) (A : List Int) : Int := if caC w E A = 0 then chkC w E [] else caC w E A
theorem caC_zero {w : List Int} {E : List (List Int)} {A : List Int} (h : caC w E A = 0) : IsGr w E ∧ Arr w A := by
 unfold caC at h
 split at h
 ·rename_i h1
  split at h
  ·rename_i h2; exact ⟨h1, h2⟩
  ·omega
 ·omega
theorem l13List_c (w : List Int) (E : List (List Int)) (A : List Int) (hw : w.length ≤ 2000000) (hE : E.length ≤ 2000000) (hA : A.length ≤ 2000000) : CallA Tryz.prog 89 [aGr w E, aL A] [rI (lcC w E A)] [] := by
 have hI := specIsGraph_c w E hw hE
 have hR := l13Arrows_c w E A hw hA
 have hC := l13Code_c w E [] hw hE (by simp)
 unfold lcC caC
 by_cases hg : IsGr w E
 ·rw [if_pos hg]
  rw [decide_eq_true hg] at hI
  by_cases ha : Arr w A
  ·rw [if_pos ha, if_pos rfl]
   rw [decide_eq_true ha] at hR
   generalize chkC w E [] = c at *
   refine cA_ _ Tryz.func89 rfl Tryz.ntmps89 sO_ ?_
   repeat' (first | (refine Two.mk ?_ ?_ <;> intro _) | (guard_target =~ CallN_; first | refine RunU.cons (sC_ (hI) (.sh .nil) (.shAgg rfl gA_ .nil) rfl) ?_ | refine RunU.cons (sC_ (hR) (.sh (.sh .nil)) (.shAgg rfl gA_ (.sh wS_ .nil)) rfl) ?_ | refine RunU.cons (sC_ (hC) (.sh (.sh .nil)) (.shAgg rfl gA_ (.sh wS_ .nil)) rfl) ?_) | refine goA ?_ | refine nxA ?_ | refine Done.ret (.one rA_ .nil) (.sh (.sh .nil)) ?_ rfl)
   all_goals first | rfl | (exfalso; simp_all; done)
  ·rw [if_neg ha, if_neg (by omega)]
   rw [decide_eq_false ha] at hR
   refine cA_ _ Tryz.func89 rfl Tryz.ntmps89 sO_ ?_
   repeat' (first | (refine Two.mk ?_ ?_ <;> intro _) | (guard_target =~ CallN_; first | refine RunU.cons (sC_ (hI) (.sh .nil) (.shAgg rfl gA_ .nil) rfl) ?_ | refine RunU.cons (sC_ (hR) (.sh (.sh .nil)) (.shAgg rfl gA_ (.sh wS_ .nil)) rfl) ?_ | refine RunU.cons (sC_ (hC) (.sh (.sh .nil)) (.shAgg rfl gA_ (.sh wS_ .nil)) rfl) ?_) | refine goA ?_ | refine nxA ?_ | refine Done.ret (.one rA_ .nil) (.sh (.sh .nil)) ?_ rfl)
   all_goals first | rfl | (exfalso; simp_all; done)
 ·rw [if_neg hg, if_neg (by omega)]
  rw [decide_eq_false hg] at hI
  refine cA_ _ Tryz.func89 rfl Tryz.ntmps89 sO_ ?_
  repeat' (first | (refine Two.mk ?_ ?_ <;> intro _) | (guard_target =~ CallN_; first | refine RunU.cons (sC_ (hI) (.sh .nil) (.shAgg rfl gA_ .nil) rfl) ?_ | refine RunU.cons (sC_ (hR) (.sh (.sh .nil)) (.shAgg rfl gA_ (.sh wS_ .nil)) rfl) ?_ | refine RunU.cons (sC_ (hC) (.sh (.sh .nil)) (.shAgg rfl gA_ (.sh wS_ .nil)) rfl) ?_) | refine goA ?_ | refine nxA ?_ | refine Done.ret (.one rA_ .nil) (.sh (.sh .nil)) ?_ rfl)
  all_goals first | rfl | (exfalso; simp_all; done)
end Go.Proofs.YtmgmpnhlehonmaaGreat
