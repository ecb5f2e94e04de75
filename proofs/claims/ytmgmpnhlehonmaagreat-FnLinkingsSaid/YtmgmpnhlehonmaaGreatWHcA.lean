/- Determinants of forests as sums over matchings (plain). No condition. -/
import Derived.Test.YtmgmpnhlehonmaaGreatWGrW
import Derived.Test.YtmgmpnhlehonmaaGreatWHaB
import Derived.Test.YtmgmpnhlehonmaaGreatWHfB
import Derived.Test.YtmgmpnhlehonmaaGreatWPvR
import Derived.Test.YtmgmpnhlehonmaaGreatWTy
set_option linter.unusedVariables false
set_option linter.unusedSimpArgs false
namespace Go.Proofs.YtmgmpnhlehonmaaGreat
set_option maxHeartbeats 20000000
open Go.Pv
open Go.ChangeShapes Go.WideShapes Go.ChangeAt Go.RowKit
attribute [local irreducible] Za WpA Zg Xf Zz Z6 Zd
instance fnOk123 : Zs Tryz.prog 123 := ⟨_, Tryz.func123, rfl, by decide⟩
instance fnOk62 : Zs Tryz.prog 62 := ⟨_, Tryz.func62, rfl, by decide⟩
instance fnOk9 : Zs Tryz.prog 9 := ⟨_, Tryz.func9, rfl, by decide⟩
def Jw (n : Nat) (f : Nat -> Nat -> Int) : List (List Int) := (List.range n).map fun i => (List.range n).map fun k => f i k
theorem Jm (n : Nat) (f : Nat -> Nat -> Int) : (Jw n f).length = n := by simp [Jw]
theorem Zhs {n i : Nat} (f : Nat -> Nat -> Int) (h : i < n) : (Jw n f).getD i [] = (List.range n).map fun k => f i k := by simp [Jw, List.getD, h]
theorem Ja {n i : Nat} (f : Nat -> Nat -> Int) (h : i < n) : ((Jw n f).getD i []).length = n := by rw [Zhs f h]; simp
theorem Yo {n : Nat} {f g : Nat -> Nat -> Int} (h : ∀ i k, i < n -> k < n -> f i k = g i k) : Jw n f = Jw n g := by
 unfold Jw
 refine List.map_congr_left fun i hi => List.map_congr_left fun k hk => h i k (by simpa using hi) (by simpa using hk)
theorem Wf {n a b : Nat} {f : Nat -> Nat -> Int} {v : Int} (ha : a < n) (hb : b < n) : (Jw n f).set a (((Jw n f).getD a []).set b v) = Jw n fun i k => if i = a /\ k = b then v else f i k := by
 rw [Zhs f ha]
 unfold Jw
 refine List.ext_getElem (by simp) fun i h1 h2 => ?_
 simp only [List.length_set, List.length_map, List.length_range] at h1
 rw [List.getElem_set]
 simp only [List.getElem_map, List.getElem_range]
 by_cases e : a = i
 ·subst e
  rw [if_pos rfl]
  refine List.ext_getElem (by simp) fun k h3 h4 => ?_
  rw [List.getElem_set]
  simp only [List.getElem_map, List.getElem_range, true_and]
  by_cases e2 : b = k
  ·rw [if_pos e2, if_pos e2.symm]
  ·rw [if_neg e2, if_neg (Ne.symm e2)]
 ·rw [if_neg e]
  refine List.map_congr_left fun k _ => ?_
  rw [if_neg (fun h => e h.1.symm)]
theorem Zx6 {id : Nat} {ds : List D} {A : List (List Int)} {v : AV} (h : v = .own id (.sl true 1 ds)) (e : ds = LL A) : v = AV.own id (.sl true 1 (LL A)) := by rw [h, e]
theorem Zsl {id : Nat} {A A' : List (List Int)} {k : Nat} {m : List Int} (e : A.set k m = A') : AV.own id (.sl true 1 (D.over (LL A) k [.sl true 1 (Ze m)])) = AV.own id (.sl true 1 (LL A')) := by
 rw [show D.over (LL A) k [.sl true 1 (Ze m)] = LL (A.set k m) by simp only [D.over, LL, List.map_set], e]
theorem Znx (n : Nat) (hn : n <= 1000) : Zj Tryz.prog 123 [aI n] [rLL (Jw n fun _ _ => 0)] [] := by
 have e0 : (Jw n fun _ _ => 0) = List.replicate n (List.replicate n 0) := by simp [Jw, List.map_const']
 rw [e0]
 have hset : ∀ j, j < n -> (List.replicate j (List.replicate n (0 : Int)) ++ List.replicate (n - j) []).set j (List.replicate n 0) = List.replicate (j + 1) (List.replicate n 0) ++ List.replicate (n - (j + 1)) [] := fun j hj => by
  rw [List.set_append_right _ _ (by simp), List.length_replicate, Nat.sub_self, show n - j = (n - (j + 1)) + 1 by omega, List.replicate_succ, List.set_cons_zero, List.replicate_succ', List.append_assoc]
  rfl
 refine cA_ _ Tryz.func123 rfl Tryz.ntmps123 sO_ ?_
 repeat' (first | (refine w2_ ?_ ?_ <;> intro _) | refine a1_ ?_|fail)
 refine WpA.loop_ids2 (fun j i3 _ => [(0, vGI n), (3, .own i3 (.sl true 1 (LL (List.replicate j (List.replicate n (0 : Int)) ++ List.replicate (n - j) [])))), (8, vGI n), (9, vGI j)]) (fun j => j <= n) (fun j => n - j) 0 _ 0 j2 ⟨rfl, by exact Zx6 rfl (by simp [LL, Ze]), Zb (by simp), rfl, trivial⟩ ?_
 intro j i3 _ s nx hj
 have hl : (List.replicate j (List.replicate n (0 : Int)) ++ List.replicate (n - j) []).length = n := by simp; omega
 by_cases hlt : j < n
 ·have e := hset j hlt
  rw [show ∀ A : List (List Int), A.set j (List.replicate n 0) = A.set (j * 1) (List.replicate ((n : Int)).toNat 0) from fun A => by rw [Nat.mul_one]; rfl] at e
  generalize List.replicate j (List.replicate n (0 : Int)) ++ List.replicate (n - j) [] = A at *
  repeat' (first | (refine w2_ ?_ ?_ <;> intro _) | refine a1_ ?_|fail)
  all_goals try (exfalso; omega)
  exact ⟨j + 1, by omega, ⟨_, 0, rfl, by exact Zsl e, rfl, Zb j2, trivial⟩, by omega⟩
 ·have ej : j = n := by omega
  subst ej
  have e : List.replicate j (List.replicate j (0 : Int)) ++ List.replicate (j - j) [] = List.replicate j (List.replicate j 0) := by simp
  rw [e] at *
  repeat' (first | (refine w2_ ?_ ?_ <;> intro _) | refine a1_ ?_|fail)
  all_goals try (exfalso; omega)
  all_goals rfl
noncomputable def lkS (w : List Int) (E : List (List Int)) (i k : Int) : Int × Bool := Yt w E (V5 (pth w E i k) w.length)
theorem Zpy {w : List Int} {E : List (List Int)} (hg : Zp w E) {i k : Int} (hi : 0 <= i /\ i < w.length) (hk : 0 <= k /\ k < w.length) : lkS w E k i = lkS w E i k := by
 unfold lkS
 have : V5 (pth w E k i) w.length = V5 (pth w E i k) w.length := by
  rw [Zxt hg hi hk]
  unfold V5
  refine List.map_congr_left fun v _ => ?_
  simp
 rw [this]
def Zht (w : List Int) (E : List (List Int)) : Prop := ∀ i k : Nat, i < w.length -> k < w.length -> (lkS w E i k).2 = true
noncomputable def lkB (w : List Int) (E : List (List Int)) : Bool := @decide (Zht w E) (Classical.propDecidable _)
theorem Zci (w : List Int) (E : List (List Int)) : lkB w E = true ↔ Zht w E := by unfold lkB; exact @decide_eq_true_iff _ (Classical.propDecidable _)
noncomputable def lkL (w : List Int) (E : List (List Int)) : List (List Int) := Jw w.length fun a b => (lkS w E a b).1
noncomputable def lkT (w : List Int) (E : List (List Int)) (i k : Nat) : List (List Int) := Jw w.length fun a b => if max a b < i \/ (max a b = i /\ min a b < k) then (lkS w E a b).1 else 0
theorem Zu7 (w : List Int) (E : List (List Int)) : (Jw w.length fun _ _ => (0 : Int)) = lkT w E 0 0 := Yo fun i k _ _ => by rw [if_neg j2]
theorem Zx7 (w : List Int) (E : List (List Int)) : lkT w E w.length 0 = lkL w E := Yo fun i k hi hk => by rw [if_pos j2]
theorem Zx8 (w : List Int) (E : List (List Int)) (i : Nat) : lkT w E i (i + 1) = lkT w E (i + 1) 0 := Yo fun a b _ _ => by
 by_cases h : max a b < i \/ (max a b = i /\ min a b < i + 1)
 ·rw [if_pos h, if_pos j2]
 ·rw [if_neg h, if_neg j2]
theorem Zu8 {w : List Int} {E : List (List Int)} (hg : Zp w E) {i k : Nat} (hi : i < w.length) (hk : k <= i) :
  ((lkT w E i k).set i (((lkT w E i k).getD i []).set k (lkS w E i k).1)).set k ((((lkT w E i k).set i (((lkT w E i k).getD i []).set k (lkS w E i k).1)).getD k []).set i (lkS w E i k).1) = lkT w E i (k + 1) := by
 unfold lkT
 rw [Wf hi j2, Wf j2 hi]
 refine Yo fun a b ha hb => ?_
 by_cases h1 : a = k /\ b = i
 ·rw [if_pos h1, if_pos j2, h1.1, h1.2, Zpy hg (i := (i : Int)) (k := (k : Int)) j2 j2]
 ·rw [if_neg h1]
  by_cases h2 : a = i /\ b = k
  ·rw [if_pos h2, if_pos j2, h2.1, h2.2]
  ·rw [if_neg h2]
   by_cases h3 : max a b < i \/ (max a b = i /\ min a b < k)
   ·rw [if_pos h3, if_pos j2]
   ·rw [if_neg h3, if_neg j2]
noncomputable def lkR (w : List Int) (E : List (List Int)) : List (List Int) := if lkB w E = true then lkL w E else []
noncomputable def lkC (w : List Int) (E : List (List Int)) : Int := if lkB w E = true then 0 else 3
theorem Zfk (w : List Int) (E : List (List Int)) (hg : Zp w E) (hc : E.length + 1 = w.length) : Zj Tryz.prog 62 [Zpt w E] [rLL (lkR w E), rI (lkC w E)] [] := by
 have hlen := hg.1
 have hNl := Qu E w.length
 have hSq := Znx (nbL E w.length).length j2
 have hbad : ¬ Zht w E -> lkR w E = [] /\ lkC w E = 3 := fun h => by
  have : ¬ lkB w E = true := fun h2 => h ((Zci w E).1 h2)
  exact ⟨if_neg this, if_neg this⟩
 have hgood : Zht w E -> lkR w E = lkL w E /\ lkC w E = 0 := fun h => by
  have := (Zci w E).2 h
  exact ⟨if_pos this, if_pos this⟩
 refine cA_ _ Tryz.func62 rfl Tryz.ntmps62 sO_ ?_
 repeat' (first | (refine w2_ ?_ ?_ <;> intro _) | refine kM_ hSq ?_ | refine a2_ ?_|fail)
 all_goals try (exfalso; omega)
 refine WpA.loop_slots2 (fun i i4 => [(1, .own 1 (.pt true [.sl false 1 (Ze w), .sl false 1 (LLs E), .sl false 1 (LLs (nbL E w.length))])), (4, .own i4 (.sl true 1 (LL (lkT w E i 0)))), (14, vGI w.length), (15, vGI i)]) (fun i => i <= w.length /\ ∀ a b : Nat, a < i -> b <= a -> (lkS w E a b).2 = true) (fun i => w.length - i) 0 _ ⟨by omega, fun a b h => by omega⟩ ⟨rfl, by exact V1 (by rw [hNl, Zu7]), Zb (by rw [Jm, hNl]), rfl, trivial⟩ ?_
 rintro i i4 s nx ⟨hi, hok⟩
 by_cases hlt : i < w.length
 ·clear hSq
  repeat' (first | (refine w2_ ?_ ?_ <;> intro _) | refine a2_ ?_|fail)
  all_goals try (exfalso; omega)
  refine WpA.loop_slots2 (fun k i4 => [(1, .own 1 (.pt true [.sl false 1 (Ze w), .sl false 1 (LLs E), .sl false 1 (LLs (nbL E w.length))])), (4, .own i4 (.sl true 1 (LL (lkT w E i k)))), (5, vGI i), (14, vGI w.length), (15, vGI i), (19, vGI ((i : Int) + 1)), (20, vGI k)]) (fun k => k <= i + 1 /\ ∀ b : Nat, b < k -> (lkS w E i b).2 = true) (fun k => i + 1 - k) 0 _ ⟨by omega, fun b h => by omega⟩ ⟨rfl, xR_, rfl, rfl, rfl, rfl, rfl, trivial⟩ ?_
  rintro k i4 s nx ⟨hk, hok2⟩
  by_cases hlk : k < i + 1
  ·have hL := Zj0 w E i k hg j2 j2 (Zlk hg hc j2 j2)
   obtain ⟨s1, s2⟩ := Zdw hg (V5 (pth w E i k) w.length)
   have hst := Zu8 hg hlt (show k <= i by omega)
   have hAl : (lkT w E i k).length = w.length := Jm _ _
   have hAi : ((lkT w E i k).getD (i * 1) []).length = w.length := by rw [Nat.mul_one]; exact Ja _ hlt
   have hBk : (((lkT w E i k).set (i * 1) (((lkT w E i k).getD (i * 1) []).set (k * 1) (lkS w E i k).1)).getD (k * 1) []).length = w.length := by
    rw [Nat.mul_one, Nat.mul_one]
    unfold lkT
    rw [Wf hlt j2]
    exact Ja _ j2
   have hlS : lkS w E i k = Yt w E (V5 (pth w E i k) w.length) := rfl
   rw [<- hlS] at s1 s2
   rw [show ∀ (A : List (List Int)) (d : Int), (A.set i ((A.getD i []).set k d)).set k (((A.set i ((A.getD i []).set k d)).getD k []).set i d) = (A.set (i * 1) ((A.getD (i * 1) []).set (k * 1) d)).set (k * 1) (((A.set (i * 1) ((A.getD (i * 1) []).set (k * 1) d)).getD (k * 1) []).set (i * 1) d) from fun A d => by rw [Nat.mul_one, Nat.mul_one]] at hst
   cases hb : (lkS w E i k).2 with
   | true =>
    rw [s1, hb] at hL
    have s3 := s2 (by rw [s1]; exact hb)
    rw [s3] at hL
    generalize hA : lkT w E i k = A at *
    generalize hd : (lkS w E i k).1 = d at *
    have hls : (A.set (i * 1) ((A.getD (i * 1) []).set (k * 1) d)).length = A.length := List.length_set
    clear s1 s2 s3 hbad hgood hlS hd
    repeat' (first | (refine w2_ ?_ ?_ <;> intro _) | (guard_target =~ Zh; first | refine Za.cons (sC_ (hL) (.sh (.sh (.sh .nil))) (.shAgg rfl gA_ (.sh wS_ (.sh wS_ .nil))) rfl) ?_) | (guard_target =~ IsN; first | refine Za.cons (Zaw xR_ xR_ xR_ j2 j2) ?_) | refine a2_ ?_|fail)
    all_goals try (exfalso; simp_all; done)
    all_goals try (exfalso; omega)
    refine ⟨k + 1, ⟨by omega, fun b h => ?_⟩, ⟨_, rfl, by exact V1 hst, rfl, rfl, rfl, rfl, Zb j2, trivial⟩, by omega⟩
    by_cases e : b = k
    ·rw [e]; exact hb
    ·exact hok2 b j2
   | false =>
    rw [s1, hb] at hL
    have hno : ¬ Zht w E := fun h => by rw [h i k hlt j2] at hb; cases hb
    obtain ⟨z1, z2⟩ := hbad hno
    rw [z1, z2]
    clear s1 s2 hbad hgood hst hBk
    repeat' (first | (refine w2_ ?_ ?_ <;> intro _) | (guard_target =~ Zh; first | refine Za.cons (sC_ (hL) (.sh (.sh (.sh .nil))) (.shAgg rfl gA_ (.sh wS_ (.sh wS_ .nil))) rfl) ?_) | refine a2_ ?_|fail)
    all_goals first | rfl | (exfalso; simp_all; done) | (exfalso; omega)
  ·have ek : k = i + 1 := by omega
   subst ek
   clear hbad hgood
   repeat' (first | (refine w2_ ?_ ?_ <;> intro _) | refine a2_ ?_|fail)
   all_goals try (exfalso; omega)
   refine ⟨i + 1, ⟨by omega, fun a b h1 h2 => ?_⟩, ⟨_, rfl, by exact V1 (Zx8 w E i), rfl, Zb j2, trivial⟩, by omega⟩
   by_cases e : a = i
   ·rw [e]; exact hok2 b j2
   ·exact hok a b j2 h2
 ·have ei : i = w.length := by omega
  subst ei
  have hall : Zht w E := fun a b ha hb => by
   by_cases h : b <= a
   ·exact hok a b ha h
   ·rw [Zpy hg (i := (b : Int)) (k := (a : Int)) j2 j2]
    exact hok b a hb j2
  obtain ⟨z1, z2⟩ := hgood hall
  rw [z1, z2, <- Zx7]
  clear hbad hgood hSq
  repeat' (first | (refine w2_ ?_ ?_ <;> intro _) | refine a2_ ?_|fail)
  all_goals try (exfalso; omega)
  all_goals rfl
instance fnOk10 : Zs Tryz.prog 10 := ⟨_, Tryz.func10, rfl, by decide⟩
noncomputable def lmR (w : List Int) (E : List (List Int)) : List (List Int) := if Y2 w E [] = 0 then lkR w E else []
noncomputable def lmC (w : List Int) (E : List (List Int)) : Int := if Y2 w E [] = 0 then lkC w E else Y2 w E []
noncomputable def Zeo (w : List Int) (E : List (List Int)) (i k : Nat) : List Int := (List.range k).map fun b : Nat => (lkS w E i b).1
noncomputable def Hm (w : List Int) (E : List (List Int)) (i : Nat) : List (List Int) := (List.range i).map fun a : Nat => Zeo w E a w.length
theorem Zsm (w : List Int) (E : List (List Int)) (i k : Nat) : (Zeo w E i k).length = k := by simp [Zeo]
theorem Zpz (w : List Int) (E : List (List Int)) (i : Nat) : (Hm w E i).length = i := by simp [Hm]
theorem Zab (w : List Int) (E : List (List Int)) (hw : w.length <= 2000000) (hE : E.length <= 2000000) : Zj Tryz.prog 9 [aGr w E] [rLL (lmR w E), rI (lmC w E)] [] := by
 unfold lmR lmC
 by_cases h : Y2 w E [] = 0
 ·have hC := Ut w E [] (by simp) h
  rw [if_pos h, if_pos h]
  obtain ⟨hg, _, hcn⟩ := Ye h
  have hM := Zfk w E hg hcn
  generalize lkR w E = R at *
  generalize lkC w E = c at *
  refine cA_ _ Tryz.func9 rfl Tryz.ntmps9 sO_ ?_
  repeat' (first | (refine w2_ ?_ ?_ <;> intro _) | (guard_target =~ Zh; first | refine Za.cons (Z2 (hC) (.sh (.mv vA_ .nil)) (.sh (.agg rfl j5) (.mv .nil)) rfl) ?_ | refine Za.cons (sC_ (hM) (.sh .nil) (.shAgg rfl gA_ .nil) rfl) ?_) | refine a2_ ?_|fail)
  all_goals first | rfl | (exfalso; simp_all; done) | (exfalso; omega)
 ·have hC := Ub w E [] hw hE (by simp) h
  rw [if_neg h, if_neg h]
  generalize Y2 w E [] = c at *
  refine cA_ _ Tryz.func9 rfl Tryz.ntmps9 sO_ ?_
  repeat' (first | (refine w2_ ?_ ?_ <;> intro _) | (guard_target =~ Zh; first | refine Za.cons (Z2 (hC) (.sh (.mv vA_ .nil)) (.sh (.agg rfl j5) (.mv .nil)) rfl) ?_) | refine a2_ ?_|fail)
  all_goals first | rfl | (exfalso; simp_all; done) | (exfalso; omega)
theorem Zac (w : List Int) (E : List (List Int)) (hw : w.length <= 2000000) (hE : E.length <= 2000000) : Zj Tryz.prog 10 [aGr w E] [rLL (lmR w E), rI (lmC w E)] [] := by
 have hC := H5 w E [] hw hE (by simp)
 unfold lmR lmC
 by_cases h : Y2 w E [] = 0
 ·rw [if_pos h, if_pos h]
  rw [h] at hC
  obtain ⟨hg, _, hcn⟩ := Ye h
  have hlen := hg.1
  have hbad : ¬ Zht w E -> lkR w E = [] /\ lkC w E = 3 := fun h => by
   have : ¬ lkB w E = true := fun h2 => h ((Zci w E).1 h2)
   exact ⟨if_neg this, if_neg this⟩
  have hgood : Zht w E -> lkR w E = lkL w E /\ lkC w E = 0 := fun h => by
   have := (Zci w E).2 h
   exact ⟨if_pos this, if_pos this⟩
  clear h
  refine cA_ _ Tryz.func10 rfl Tryz.ntmps10 sO_ ?_
  repeat' (first | (refine w2_ ?_ ?_ <;> intro _) | (guard_target =~ Zh; first | refine Za.cons (sC_ (hC) (.sh (.sh .nil)) (.shAgg rfl gA_ (.sh wS_ .nil)) rfl) ?_) | refine a2_ ?_|fail)
  all_goals try (exfalso; simp_all; done)
  refine WpA.loop_slots2 (fun i i5 => [(1, .own 1 (.pt true [.sl false 1 (Ze w), .sl false 1 (LLs E)])), (5, .own i5 (.sl true 1 (LL (Hm w E i)))), (6, vGI i)]) (fun i => i <= w.length /\ ∀ a b : Nat, a < i -> b < w.length -> (lkS w E a b).2 = true) (fun i => w.length - i) 0 _ ⟨by omega, fun a b h => by omega⟩ ⟨rfl, xR_, rfl, trivial⟩ ?_
  rintro i i5 s nx ⟨hi, hok⟩
  have hrl := Zpz w E i
  by_cases hlt : i < w.length
  ·clear hC
   repeat' (first | (refine w2_ ?_ ?_ <;> intro _) | refine a2_ ?_|fail)
   all_goals try (exfalso; omega)
   refine WpA.loop_ids2 (fun k i5 i7 => [(1, .own 1 (.pt true [.sl false 1 (Ze w), .sl false 1 (LLs E)])), (5, .own i5 (.sl true 1 (LL (Hm w E i)))), (6, vGI i), (7, .own i7 (.sl true 1 (Ze (Zeo w E i k)))), (8, vGI k)]) (fun k => k <= w.length /\ ∀ b : Nat, b < k -> (lkS w E i b).2 = true) (fun k => w.length - k) 0 _ _ ⟨by omega, fun b h => by omega⟩ ⟨rfl, xR_, rfl, xR_, rfl, trivial⟩ ?_
   rintro k i5 i7 s nx ⟨hk, hok2⟩
   have hwl := Zsm w E i k
   by_cases hlk : k < w.length
   ·have hL := Zce w E i k hg j2 j2
    have hlS : lkS w E i k = Yt w E (V5 (pth w E i k) w.length) := rfl
    rw [<- hlS] at hL
    have e : Zeo w E i k ++ [(lkS w E i k).1] = Zeo w E i (k + 1) := by simp [Zeo, List.range_succ]
    cases hb : (lkS w E i k).2 with
    | true =>
     rw [hb] at hL
     clear hbad hgood hlS
     generalize hd : (lkS w E i k).1 = d at *
     repeat' (first | (refine w2_ ?_ ?_ <;> intro _) | (guard_target =~ Zh; first | refine Za.cons (sC_ (hL) (.sh (.sh (.sh .nil))) (.shAgg rfl gA_ (.sh wS_ (.sh wS_ .nil))) rfl) ?_) | refine a2_ ?_|fail)
     all_goals try (exfalso; simp_all; done)
     all_goals try (exfalso; omega)
     refine ⟨k + 1, ⟨by omega, fun b h => ?_⟩, ⟨_, _, rfl, rfl, rfl, by exact Zq e, Zb j2, trivial⟩, by omega⟩
     by_cases e : b = k
     ·rw [e]; exact hb
     ·exact hok2 b j2
    | false =>
     rw [hb] at hL
     have hno : ¬ Zht w E := fun h => by rw [h i k hlt hlk] at hb; cases hb
     obtain ⟨z1, z2⟩ := hbad hno
     rw [z1, z2]
     clear hbad hgood
     repeat' (first | (refine w2_ ?_ ?_ <;> intro _) | (guard_target =~ Zh; first | refine Za.cons (sC_ (hL) (.sh (.sh (.sh .nil))) (.shAgg rfl gA_ (.sh wS_ (.sh wS_ .nil))) rfl) ?_) | refine a2_ ?_|fail)
     all_goals first | rfl | (exfalso; simp_all; done) | (exfalso; omega)
   ·have ek : k = w.length := by omega
    subst ek
    have e : Hm w E i ++ [Zeo w E i w.length] = Hm w E (i + 1) := by simp [Hm, List.range_succ]
    clear hbad hgood
    repeat' (first | (refine w2_ ?_ ?_ <;> intro _) | refine a2_ ?_|fail)
    all_goals try (exfalso; omega)
    refine ⟨i + 1, ⟨by omega, fun a b h1 h2 => ?_⟩, ⟨_, rfl, by exact V1 e, Zb j2, trivial⟩, by omega⟩
    by_cases e : a = i
    ·rw [e]; exact hok2 b h2
    ·exact hok a b j2 h2
  ·have ei : i = w.length := by omega
   subst ei
   obtain ⟨z1, z2⟩ := hgood hok
   have e : Hm w E w.length = lkL w E := rfl
   rw [z1, z2, <- e]
   clear hbad hgood hC
   repeat' (first | (refine w2_ ?_ ?_ <;> intro _) | refine a2_ ?_|fail)
   all_goals try (exfalso; omega)
   all_goals rfl
 ·rw [if_neg h, if_neg h]
  generalize Y2 w E [] = c at *
  refine cA_ _ Tryz.func10 rfl Tryz.ntmps10 sO_ ?_
  repeat' (first | (refine w2_ ?_ ?_ <;> intro _) | (guard_target =~ Zh; first | refine Za.cons (sC_ (hC) (.sh (.sh .nil)) (.shAgg rfl gA_ (.sh wS_ .nil)) rfl) ?_) | refine a2_ ?_|fail)
  all_goals first | rfl | (exfalso; simp_all; done) | (exfalso; omega)
structure Pa (E : List (List Int)) (i k : Int) (P : List Int) : Prop where
 nb : NB E P
 hd : P.head? = some i
 ls : P.getLast? = some k
theorem Pa.eq {w : List Int} {E : List (List Int)} (hg : Zp w E) {i k : Int} (hi : 0 <= i /\ i < w.length) {P : List Int} (h : Pa E i k P) : pth w E i k = P := by
 obtain ⟨l, rfl⟩ := List.head?_eq_some_iff.1 h.hd
 obtain ⟨q, e⟩ := List.getLast?_eq_some_iff.1 h.ls
 exact Zb9 hg hi h.nb e
theorem Zll {w : List Int} {E : List (List Int)} (hg : Zp w E) (he : E.length + 1 = w.length) {i k : Int} (hi : 0 <= i /\ i < w.length) (hk : 0 <= k /\ k < w.length) : Pa E i k (pth w E i k) := by
 obtain ⟨z, hz⟩ := W8 hg he hi hk
 obtain ⟨l, q, k1, k2, k3⟩ := Hj hg hi hz
 rw [k3]
 exact ⟨k1, rfl, by rw [k2]; simp⟩
theorem Zu9 (p : List Int) (a : Int) (q : List Int) : (p ++ a :: q).getLast? = (a :: q).getLast? := by
 rw [List.getLast?_append, List.getLast?_cons]; rfl
theorem Pa.suf {E : List (List Int)} {r k a : Int} {p q : List Int} (h : Pa E r k (p ++ a :: q)) : Pa E a k (a :: q) :=
 ⟨NB.right p h.nb, rfl, by have := h.ls; rwa [Zu9] at this⟩
theorem Xag {E : List (List Int)} {a b : Int} {P : List Int} (h : Pa E a b P) (hne : a ≠ b) : ∃ q, P = a :: (q ++ [b]) := by
 obtain ⟨l, e⟩ := List.head?_eq_some_iff.1 h.hd
 obtain ⟨q, e2⟩ := List.getLast?_eq_some_iff.1 h.ls
 cases q with
 | nil => rw [e] at e2; simp at e2; exact absurd e2.1 hne
 | cons x q =>
  rw [e] at e2
  simp only [List.cons_append, List.cons.injEq] at e2
  exact ⟨q, by rw [e, e2.2]⟩
end Go.Proofs.YtmgmpnhlehonmaaGreat
namespace Go.Proofs.YtmgmpnhlehonmaaGreat
def wo (V : List Int) (x : Int) : List Int := V.filter fun y => decide (y ≠ x)
theorem Zl {V : List Int} {x y : Int} : y ∈ wo V x ↔ y ∈ V /\ y ≠ x := by simp [wo]
theorem Vy (V : List Int) (x y : Int) : wo (wo V x) y = wo (wo V y) x := by
 unfold wo
 rw [List.filter_filter, List.filter_filter]
 congr 1
 funext z
 exact Bool.and_comm _ _
theorem Jx {V : List Int} {x : Int} (h : x ∉ V) : wo V x = V := by
 unfold wo
 rw [List.filter_eq_self]
 intro y hy
 exact decide_eq_true fun e => h (e ▸ hy)
theorem Zw {V : List Int} (h : V.Nodup) (x : Int) : (wo V x).Nodup := h.filter _
theorem Yu (V : List Int) (x : Int) : wo (x :: V) x = wo V x := by simp [wo]
theorem Zp0 (V : List Int) {x y : Int} (h : y ≠ x) : wo (y :: V) x = y :: wo V x := by simp [wo, h]
theorem Qd (V W : List Int) (x : Int) : wo (V ++ W) x = wo V x ++ wo W x := by simp [wo]
theorem Zlm {V W : List Int} (h : V.Perm W) (x : Int) : (wo V x).Perm (wo W x) := h.filter _
theorem Zva {V S : List Int} {φ : Int -> Int} {x : Int} (hS : ∀ a ∈ S, ∀ b ∈ S, φ a = φ b -> a = b) (hV : ∀ a ∈ V, a ∈ S) (hx : x ∈ S) : wo (V.map φ) (φ x) = (wo V x).map φ := by
 unfold wo
 rw [List.filter_map]
 congr 1
 refine List.filter_congr fun y hy => ?_
 simp only [Function.comp]
 refine decide_eq_decide.2 (not_congr ⟨fun e => hS _ (hV _ hy) _ hx e, fun e => by rw [e]⟩)
def prL (a : Int -> Int) : List Int -> Int
 | [] => 1
 | x :: V => a x * prL a V
theorem Zhu (a : Int -> Int) : ∀ V W, prL a (V ++ W) = prL a V * prL a W
 | [], W => by simp [prL]
 | x :: V, W => by rw [List.cons_append, prL, prL, Zhu a V W, Int.mul_assoc]
theorem Zvb (a : Int -> Int) {V W : List Int} (h : V.Perm W) : prL a V = prL a W := by
 induction h with
 | nil => rfl
 | cons x _ ih => rw [prL, prL, ih]
 | swap x y l => simp only [prL]; rw [<- Int.mul_assoc, <- Int.mul_assoc, Int.mul_comm (a y)]
 | trans _ _ h1 h2 => rw [h1, h2]
theorem Zj3 {a b : Int -> Int} : ∀ {V : List Int}, (∀ x ∈ V, a x = b x) -> prL a V = prL b V
 | [], _ => rfl
 | x :: V, h => by rw [prL, prL, h x (by simp), Zj3 fun y hy => h y (by simp [hy])]
theorem Zq8 (a : Int -> Int) (φ : Int -> Int) : ∀ V : List Int, prL a (V.map φ) = prL (fun x => a (φ x)) V
 | [] => rfl
 | x :: V => by rw [List.map_cons, prL, prL, Zq8 a φ V]
theorem Zx9 (a : Int -> Int) {V : List Int} (hn : V.Nodup) {v : Int} (hv : v ∈ V) : prL a V = a v * prL a (wo V v) := by
 induction V with
 | nil => simp at hv
 | cons x V ih =>
  rw [List.nodup_cons] at hn
  by_cases e : x = v
  ·subst e; rw [Yu, Jx hn.1, prL]
  ·rw [Zp0 _ e, prL, prL, ih hn.2 (by rcases List.mem_cons.1 hv with h | h; exact absurd h.symm e; exact h), <- Int.mul_assoc, <- Int.mul_assoc, Int.mul_comm (a x)]
abbrev e0 (e : List Int) : Int := e.getD 0 0
abbrev e1 (e : List Int) : Int := e.getD 1 0
def Dm (a : Int -> Int) : List (List Int) -> List Int -> Int
 | [], V => prL a V
 | e :: E, V => Dm a E V - if e0 e ∈ V /\ e1 e ∈ V then Dm a E (wo (wo V (e0 e)) (e1 e)) else 0
theorem Jy (a : Int -> Int) (E : List (List Int)) {e : List Int} {V : List Int} (h : ¬ (e0 e ∈ V /\ e1 e ∈ V)) : Dm a (e :: E) V = Dm a E V := by rw [Dm, if_neg h, Int.sub_zero]
theorem Uu {a b : Int -> Int} : ∀ (E : List (List Int)) {V : List Int}, (∀ x ∈ V, a x = b x) -> Dm a E V = Dm b E V
 | [], V, h => Zj3 h
 | e :: E, V, h => by
  rw [Dm, Dm, Uu E h, Uu E (V := wo (wo V (e0 e)) (e1 e)) fun x hx => h x (Zl.1 (Zl.1 hx).1).1]
theorem Jn (a : Int -> Int) : ∀ (E : List (List Int)) {V W : List Int}, V.Perm W -> Dm a E V = Dm a E W
 | [], V, W, h => Zvb a h
 | e :: E, V, W, h => by
  rw [Dm, Dm, Jn a E h, Jn a E (Zlm (Zlm h (e0 e)) (e1 e))]
  congr 1
  by_cases hc : e0 e ∈ V /\ e1 e ∈ V
  ·rw [if_pos hc, if_pos ⟨h.mem_iff.1 hc.1, h.mem_iff.1 hc.2⟩]
  ·rw [if_neg hc, if_neg (fun q => hc ⟨h.mem_iff.2 q.1, h.mem_iff.2 q.2⟩)]
theorem Zya (a : Int -> Int) (E : List (List Int)) (e f : List Int) (V : List Int) : Dm a (e :: f :: E) V = Dm a (f :: e :: E) V := by
 have down : ∀ {x y z : Int} {V : List Int}, z ∈ wo (wo V x) y -> z ∈ V := fun h => (Zl.1 (Zl.1 h).1).1
 simp only [Dm]
 by_cases he : e0 e ∈ V /\ e1 e ∈ V
 ·by_cases hf : e0 f ∈ V /\ e1 f ∈ V
  ·simp only [if_pos he, if_pos hf]
   have key : (e0 f ∈ wo (wo V (e0 e)) (e1 e) /\ e1 f ∈ wo (wo V (e0 e)) (e1 e)) ↔ (e0 e ∈ wo (wo V (e0 f)) (e1 f) /\ e1 e ∈ wo (wo V (e0 f)) (e1 f)) := by
    simp only [Zl]
    constructor
    ·rintro ⟨⟨⟨h1, h2⟩, h3⟩, ⟨⟨h4, h5⟩, h6⟩⟩
     exact ⟨⟨⟨he.1, fun q => h2 q.symm⟩, fun q => h5 q.symm⟩, ⟨⟨he.2, fun q => h3 q.symm⟩, fun q => h6 q.symm⟩⟩
    ·rintro ⟨⟨⟨h1, h2⟩, h3⟩, ⟨⟨h4, h5⟩, h6⟩⟩
     exact ⟨⟨⟨hf.1, fun q => h2 q.symm⟩, fun q => h5 q.symm⟩, ⟨⟨hf.2, fun q => h3 q.symm⟩, fun q => h6 q.symm⟩⟩
   have hw : wo (wo (wo (wo V (e0 e)) (e1 e)) (e0 f)) (e1 f) = wo (wo (wo (wo V (e0 f)) (e1 f)) (e0 e)) (e1 e) := by
    rw [Vy (wo V (e0 e)) (e1 e) (e0 f), Vy V (e0 e) (e0 f), Vy (wo (wo V (e0 f)) (e0 e)) (e1 e) (e1 f), Vy (wo V (e0 f)) (e0 e) (e1 f)]
   rw [hw]
   by_cases hk : e0 f ∈ wo (wo V (e0 e)) (e1 e) /\ e1 f ∈ wo (wo V (e0 e)) (e1 e)
   ·rw [if_pos hk, if_pos (key.1 hk)]; omega
   ·rw [if_neg hk, if_neg (fun q => hk (key.2 q))]; omega
  ·have hk : ¬ (e0 f ∈ wo (wo V (e0 e)) (e1 e) /\ e1 f ∈ wo (wo V (e0 e)) (e1 e)) := fun q => hf ⟨down q.1, down q.2⟩
   simp only [if_pos he, if_neg hf, if_neg hk]
   omega
 ·by_cases hf : e0 f ∈ V /\ e1 f ∈ V
  ·have hk : ¬ (e0 e ∈ wo (wo V (e0 f)) (e1 f) /\ e1 e ∈ wo (wo V (e0 f)) (e1 f)) := fun q => he ⟨down q.1, down q.2⟩
   simp only [if_neg he, if_pos hf, if_neg hk]
   omega
  ·simp only [if_neg he, if_neg hf]
theorem Wg (a : Int -> Int) {E F : List (List Int)} (h : E.Perm F) : ∀ V, Dm a E V = Dm a F V := by
 induction h with
 | nil => exact fun _ => rfl
 | cons e _ ih => intro V; rw [Dm, Dm, ih, ih]
 | swap e f l => exact fun V => Zya a l f e V
 | trans _ _ h1 h2 => intro V; rw [h1, h2]
def nbs (v : Int) : List (List Int) -> List Int
 | [] => []
 | e :: E => if e0 e = v then e1 e :: nbs v E else if e1 e = v then e0 e :: nbs v E else nbs v E
def smL (f : Int -> Int) : List Int -> Int
 | [] => 0
 | j :: l => f j + smL f l
theorem Vk {f g : Int -> Int} : ∀ {l : List Int}, (∀ j ∈ l, f j = g j) -> smL f l = smL g l
 | [], _ => rfl
 | j :: l, h => by rw [smL, smL, h j (by simp), Vk fun i hi => h i (by simp [hi])]
theorem Zvc (f : Int -> Int) {l m : List Int} (h : l.Perm m) : smL f l = smL f m := by
 induction h with
 | nil => rfl
 | cons x _ ih => rw [smL, smL, ih]
 | swap x y l => simp only [smL]; omega
 | trans _ _ h1 h2 => rw [h1, h2]
theorem Zq9 (f g : Int -> Int) : ∀ l, smL (fun j => f j - g j) l = smL f l - smL g l
 | [] => rfl
 | j :: l => by rw [smL, smL, smL, Zq9 f g l]; omega
theorem Zln (c : Int) (f : Int -> Int) : ∀ l, smL (fun j => c * f j) l = c * smL f l
 | [] => by simp [smL]
 | j :: l => by rw [smL, smL, Zln c f l, Int.mul_add]
def Zdx (E : List (List Int)) : Prop := ∀ e ∈ E, e0 e ≠ e1 e
theorem Zj4 (a : Int -> Int) : ∀ (E : List (List Int)), Zdx E -> ∀ {V : List Int}, V.Nodup -> ∀ {v : Int}, v ∈ V ->
  Dm a E V = a v * Dm a E (wo V v) - smL (fun j => if j ∈ V then Dm a E (wo (wo V v) j) else 0) (nbs v E)
 | [], _, V, hn, v, hv => by simp only [Dm, nbs, smL, Int.sub_zero]; exact Zx9 a hn hv
 | e :: E, hE, V, hn, v, hv => by
  have ih := fun {V : List Int} (hn : V.Nodup) {v : Int} (hv : v ∈ V) => Zj4 a E (fun f hf => hE f (by simp [hf])) hn hv
  have hne := hE e (by simp)
  have hoff : ∀ U : List Int, v ∉ U -> (e0 e = v \/ e1 e = v) -> Dm a (e :: E) U = Dm a E U := fun U hU hv => Jy a E fun q => hU (by rcases hv with rfl | rfl; exact q.1; exact q.2)
  have hvw : ∀ j, v ∉ wo (wo V v) j := fun j q => (Zl.1 (Zl.1 q).1).2 rfl
  have hvv : v ∉ wo V v := fun q => (Zl.1 q).2 rfl
  by_cases h0 : e0 e = v
  ·rw [nbs, if_pos h0, smL, hoff _ hvv (.inl h0), Vk (g := fun j => if j ∈ V then Dm a E (wo (wo V v) j) else 0) (fun j _ => by rw [hoff _ (hvw j) (.inl h0)]), hoff _ (hvw _) (.inl h0)]
   rw [Dm, ih hn hv, h0]
   by_cases h1 : e1 e ∈ V
   ·rw [if_pos ⟨hv, h1⟩, if_pos h1]; omega
   ·rw [if_neg (fun q => h1 q.2), if_neg h1]; omega
  ·by_cases h1 : e1 e = v
   ·rw [nbs, if_neg h0, if_pos h1, smL, hoff _ hvv (.inr h1), Vk (g := fun j => if j ∈ V then Dm a E (wo (wo V v) j) else 0) (fun j _ => by rw [hoff _ (hvw j) (.inr h1)]), hoff _ (hvw _) (.inr h1)]
    rw [Dm, ih hn hv, h1, Vy V (e0 e) v]
    by_cases h2 : e0 e ∈ V
    ·rw [if_pos ⟨h2, hv⟩, if_pos h2]; omega
    ·rw [if_neg (fun q => h2 q.1), if_neg h2]; omega
   ·rw [nbs, if_neg h0, if_neg h1, Dm, ih hn hv, Dm]
    have hA : (e0 e ∈ wo V v /\ e1 e ∈ wo V v) ↔ (e0 e ∈ V /\ e1 e ∈ V) := by
     simp only [Zl]
     exact ⟨fun q => ⟨q.1.1, q.2.1⟩, fun q => ⟨⟨q.1, h0⟩, ⟨q.2, h1⟩⟩⟩
    have hW : ∀ U : List Int, wo (wo (wo U (e0 e)) (e1 e)) v = wo (wo (wo U v) (e0 e)) (e1 e) := fun U => by
     rw [Vy (wo U (e0 e)) (e1 e) v, Vy U (e0 e) v]
    by_cases h2 : e0 e ∈ V /\ e1 e ∈ V
    ·have hv2 : v ∈ wo (wo V (e0 e)) (e1 e) := Zl.2 ⟨Zl.2 ⟨hv, fun q => h0 q.symm⟩, fun q => h1 q.symm⟩
     rw [if_pos h2, if_pos (hA.2 h2), ih (Zw (Zw hn _) _) hv2, hW]
     have hs : smL (fun j => if j ∈ V then Dm a (e :: E) (wo (wo V v) j) else 0) (nbs v E) = smL (fun j => if j ∈ V then Dm a E (wo (wo V v) j) else 0) (nbs v E) - smL (fun j => if j ∈ wo (wo V (e0 e)) (e1 e) then Dm a E (wo (wo (wo (wo V v) (e0 e)) (e1 e)) j) else 0) (nbs v E) := by
      rw [<- Zq9]
      refine Vk fun j _ => ?_
      by_cases hj : j ∈ V
      ·rw [if_pos hj, if_pos hj, Dm]
       by_cases hj2 : j = e0 e \/ j = e1 e
       ·rw [if_neg (c := j ∈ wo (wo V (e0 e)) (e1 e)) (fun q => by
         have := Zl.1 q
         have := Zl.1 this.1
         omega), if_neg (fun q => by
         have h3 := (Zl.1 q.1).2
         have h4 := (Zl.1 q.2).2
         omega)]
       ·rw [if_pos (c := j ∈ wo (wo V (e0 e)) (e1 e)) (Zl.2 ⟨Zl.2 ⟨hj, by omega⟩, by omega⟩), if_pos ⟨Zl.2 ⟨(hA.2 h2).1, by omega⟩, Zl.2 ⟨(hA.2 h2).2, by omega⟩⟩]
        rw [Vy (wo (wo V v) j) (e0 e) (e1 e), Vy (wo V v) j (e1 e), Vy (wo (wo V v) (e1 e)) j (e0 e), Vy (wo V v) (e1 e) (e0 e)]
      ·rw [if_neg hj, if_neg hj, if_neg (fun q => hj (Zl.1 (Zl.1 q).1).1)]; rfl
     rw [hs, Int.mul_sub]
     omega
    ·rw [if_neg h2, if_neg (fun q => h2 (hA.1 q)), Int.sub_zero, Int.sub_zero]
     rw [Vk (f := fun j => if j ∈ V then Dm a (e :: E) (wo (wo V v) j) else 0) (g := fun j => if j ∈ V then Dm a E (wo (wo V v) j) else 0)]
     intro j _
     rw [Jy a E (V := wo (wo V v) j) fun q => h2 ⟨(Zl.1 (Zl.1 q.1).1).1, (Zl.1 (Zl.1 q.2).1).1⟩]
theorem Zhv {a b : Int -> Int} {E : List (List Int)} (hE : Zdx E) {V : List Int} (hn : V.Nodup) {v : Int} (hv : v ∈ V) (hb : b v = a v + 1) (h : ∀ x ∈ V, x ≠ v -> b x = a x) : Dm b E V = Dm a E V + Dm a E (wo V v) := by
 have h1 : ∀ U : List Int, (∀ x ∈ U, x ∈ wo V v) -> Dm b E U = Dm a E U := fun U hU => Uu E fun x hx => h x (Zl.1 (hU x hx)).1 (Zl.1 (hU x hx)).2
 rw [Zj4 b E hE hn hv, Zj4 a E hE hn hv, hb, h1 _ (fun _ h => h), Vk (g := fun j => if j ∈ V then Dm a E (wo (wo V v) j) else 0) (fun j _ => by rw [h1 _ fun x hx => (Zl.1 hx).1]), Int.add_mul]
 omega
theorem Zvd (a : Int -> Int) {φ : Int -> Int} {S : List Int} (hS : ∀ x ∈ S, ∀ y ∈ S, φ x = φ y -> x = y) : ∀ (E : List (List Int)) (V : List Int), (∀ x ∈ V, x ∈ S) -> (∀ e ∈ E, e0 e ∈ S /\ e1 e ∈ S) -> Dm a (E.map fun e => [φ (e0 e), φ (e1 e)]) (V.map φ) = Dm (fun x => a (φ x)) E V
 | [], V, _, _ => by rw [List.map_nil, Dm, Dm]; exact Zq8 a φ V
 | e :: E, V, hV, hE => by
  have he := hE e (by simp)
  have ih := fun V hV => Zvd a hS E V hV fun f hf => hE f (by simp [hf])
  rw [List.map_cons, Dm, Dm, ih V hV]
  have hm : ∀ x, x ∈ S -> (φ x ∈ V.map φ ↔ x ∈ V) := fun x hx => by
   rw [List.mem_map]
   exact ⟨fun ⟨y, hy, e⟩ => by rw [<- hS y (hV y hy) x hx e]; exact hy, fun h => ⟨x, h, rfl⟩⟩
  have hw : wo (wo (V.map φ) (φ (e0 e))) (φ (e1 e)) = (wo (wo V (e0 e)) (e1 e)).map φ := by
   rw [Zva hS hV he.1, Zva hS (fun x hx => hV x (Zl.1 hx).1) he.2]
  have hA : (e0 [φ (e0 e), φ (e1 e)] ∈ V.map φ /\ e1 [φ (e0 e), φ (e1 e)] ∈ V.map φ) ↔ (e0 e ∈ V /\ e1 e ∈ V) := by
   rw [show e0 [φ (e0 e), φ (e1 e)] = φ (e0 e) from rfl, show e1 [φ (e0 e), φ (e1 e)] = φ (e1 e) from rfl, hm _ he.1, hm _ he.2]
  by_cases h : e0 e ∈ V /\ e1 e ∈ V
  ·rw [if_pos h, if_pos (hA.2 h)]
   rw [show wo (wo (V.map φ) (e0 [φ (e0 e), φ (e1 e)])) (e1 [φ (e0 e), φ (e1 e)]) = wo (wo (V.map φ) (φ (e0 e))) (φ (e1 e)) from rfl, hw, ih _ fun x hx => hV x (Zl.1 (Zl.1 hx).1).1]
  ·rw [if_neg h, if_neg (fun q => h (hA.1 q))]
theorem Zj5 (a : Int -> Int) (p : List Int -> Bool) : ∀ (E : List (List Int)) (V : List Int), (∀ e ∈ E, p e = false -> ¬ (e0 e ∈ V /\ e1 e ∈ V)) -> Dm a (E.filter p) V = Dm a E V
 | [], V, _ => rfl
 | e :: E, V, h => by
  have hs : ∀ U : List Int, (∀ x ∈ U, x ∈ V) -> Dm a (E.filter p) U = Dm a E U := fun U hU => Zj5 a p E U fun f hf hp q => h f (by simp [hf]) hp ⟨hU _ q.1, hU _ q.2⟩
  cases hp : p e with
  | true =>
   rw [List.filter_cons_of_pos hp, Dm, Dm, hs V fun _ h => h, hs _ fun x hx => (Zl.1 (Zl.1 hx).1).1]
  | false =>
   rw [List.filter_cons_of_neg (by rw [hp]; decide), hs V fun _ h => h, Jy a E (h e (by simp) hp)]
theorem H6 (a : Int -> Int) : ∀ (E : List (List Int)) (V W : List Int), (∀ x ∈ V, x ∉ W) -> (∀ e ∈ E, ¬ (e0 e ∈ V /\ e1 e ∈ W) /\ ¬ (e0 e ∈ W /\ e1 e ∈ V)) -> Dm a E (V ++ W) = Dm a E V * Dm a E W
 | [], V, W, _, _ => Zhu a V W
 | e :: E, V, W, hd, hE => by
  have ih := fun V W hd hE => H6 a E V W hd hE
  have he := hE e (by simp)
  have hE' : ∀ f ∈ E, ¬ (e0 f ∈ V /\ e1 f ∈ W) /\ ¬ (e0 f ∈ W /\ e1 f ∈ V) := fun f hf => hE f (by simp [hf])
  rw [Dm, Dm, Dm, ih V W hd hE']
  by_cases h1 : e0 e ∈ V /\ e1 e ∈ V
  ·have hn : ¬ (e0 e ∈ W /\ e1 e ∈ W) := fun q => hd _ h1.1 q.1
   rw [if_pos ⟨List.mem_append_left _ h1.1, List.mem_append_left _ h1.2⟩, if_pos h1, if_neg hn, Int.sub_zero, Int.sub_mul]
   rw [Qd, Qd, Jx (V := W) (hd _ h1.1), Jx (V := W) (hd _ h1.2), ih _ _ (fun x hx => hd x (Zl.1 (Zl.1 hx).1).1) fun f hf => ⟨fun q => (hE' f hf).1 ⟨(Zl.1 (Zl.1 q.1).1).1, q.2⟩, fun q => (hE' f hf).2 ⟨q.1, (Zl.1 (Zl.1 q.2).1).1⟩⟩]
  ·rw [if_neg h1, Int.sub_zero]
   by_cases h2 : e0 e ∈ W /\ e1 e ∈ W
   ·have hv0 : e0 e ∉ V := fun q => hd _ q h2.1
    have hv1 : e1 e ∉ V := fun q => hd _ q h2.2
    rw [if_pos ⟨List.mem_append_right _ h2.1, List.mem_append_right _ h2.2⟩, if_pos h2, Int.mul_sub]
    rw [Qd, Qd, Jx (V := V) hv0, Jx (V := V) hv1, ih _ _ (fun x hx q => hd x hx (Zl.1 (Zl.1 q).1).1) fun f hf => ⟨fun q => (hE' f hf).1 ⟨q.1, (Zl.1 (Zl.1 q.2).1).1⟩, fun q => (hE' f hf).2 ⟨(Zl.1 (Zl.1 q.1).1).1, q.2⟩⟩]
   ·rw [if_neg h2, Int.sub_zero, if_neg, Int.sub_zero]
    rintro ⟨q1, q2⟩
    rcases List.mem_append.1 q1 with q1 | q1 <;> rcases List.mem_append.1 q2 with q2 | q2
    ·exact h1 ⟨q1, q2⟩
    ·exact he.1 ⟨q1, q2⟩
    ·exact he.2 ⟨q1, q2⟩
    ·exact h2 ⟨q1, q2⟩
end Go.Proofs.YtmgmpnhlehonmaaGreat
