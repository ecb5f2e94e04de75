/- What a graph is: the program's test. No condition. -/
import Derived.Test.YtmgmpnhlehonmaaGreatWGrB
import Derived.Test.YtmgmpnhlehonmaaGreatWSpA
set_option linter.unusedVariables false
set_option linter.unusedSimpArgs false
namespace Go.Proofs.YtmgmpnhlehonmaaGreat
set_option maxHeartbeats 20000000
open Go.Pv
open Go.ChangeShapes Go.WideShapes Go.ChangeAt Go.RowKit
attribute [local irreducible] Za WpA Zg Xf Zz Z6 Zd
instance fnOk170 : Zs Tryz.prog 170 := ⟨_, Tryz.func170, rfl, by decide⟩
instance fnOk138 : Zs Tryz.prog 138 := ⟨_, Tryz.func138, rfl, by decide⟩
instance fnOk139 : Zs Tryz.prog 139 := ⟨_, Tryz.func139, rfl, by decide⟩
instance fnOk140 : Zs Tryz.prog 140 := ⟨_, Tryz.func140, rfl, by decide⟩
instance fnOk81 : Zs Tryz.prog 81 := ⟨_, Tryz.func81, rfl, by decide⟩
theorem Xbj (x y : Int) : Zj Tryz.prog 170 [aI x, aI y] [rI (if x < y then -1 else if y < x then 1 else 0)] [] := by
 refine cA_ _ Tryz.func170 rfl Tryz.ntmps170 sO_ ?_
 have h0 : ∀ u : Int, u = (if x < y then -1 else if y < x then 1 else 0) -> [rI u] = [rI (if x < y then -1 else if y < x then 1 else 0)] := fun u h => by rw [h]
 repeat' (first | (refine w2_ ?_ ?_ <;> intro _) | refine kM_ (Zxs _) ?_ | refine a1_ ?_|fail)
 all_goals try (exfalso; omega)
 all_goals first | (refine h0 _ ?_; split <;> first | omega | (split <;> omega)) | (simp_all; done)
theorem Zdl {a b : List Int} {i : Nat} (ha : i < a.length) (hb : i < b.length) : Vs (a.drop i) (b.drop i) = if a.getD i 0 < b.getD i 0 then -1 else if b.getD i 0 < a.getD i 0 then 1 else Vs (a.drop (i + 1)) (b.drop (i + 1)) := by
 rw [List.drop_eq_getElem_cons ha, List.drop_eq_getElem_cons hb, Vs]
 simp [List.getD, ha, hb]
theorem Zjs (a b : List Int) (ha : a.length <= 1000000000) (hb : b.length <= 1000000000) : Zj Tryz.prog 138 [aL a, aL b] [rI (Vs a b)] [] := by
 refine cA_ _ Tryz.func138 rfl Tryz.ntmps138 sO_ ?_
 repeat' (first | (refine w2_ ?_ ?_ <;> intro _) | refine a1_ ?_|fail)
 refine WpA.loop_slots (ι := Nat) (fun j => [(0, .c (.sl false 1 (Ze a))), (1, .c (.sl false 1 (Ze b))), (9, .c (.sl false 1 (Ze a))), (10, .c (.lit (.int .i64 a.length))), (11, .c (.lit (.int .i64 (j : Int))))]) (fun j => j <= a.length /\ Vs a b = Vs (a.drop j) (b.drop j)) (fun j => a.length - j) 0 ⟨by omega, rfl⟩ ⟨rfl, rfl, rfl, rfl, rfl, trivial⟩ ?_
 intro j s nx hj
 have hj2 := hj.2
 by_cases h1 : j < a.length
 ·by_cases h2 : j < b.length
  ·have e1 := Zdl h1 h2
   have hc := Xbj (a.getD (j * 1) 0) (b.getD (j * 1) 0)
   have e0 : j * 1 = j := Nat.mul_one j
   rw [<- hj2] at e1
   rcases Int.lt_trichotomy (a.getD j 0) (b.getD j 0) with h | h | h
   ·rw [e0, if_pos h] at hc
    rw [if_pos h] at e1
    rw [<- e0] at hc
    repeat' (first | (refine w2_ ?_ ?_ <;> intro _) | refine kM_ hc ?_ | refine a1_ ?_|fail)
    all_goals try (exfalso; omega)
    all_goals simp_all
   ·rw [e0, if_neg j2, if_neg j2] at hc
    rw [if_neg j2, if_neg j2] at e1
    rw [<- e0] at hc
    repeat' (first | (refine w2_ ?_ ?_ <;> intro _) | refine kM_ hc ?_ | refine a1_ ?_|fail)
    all_goals try (exfalso; omega)
    exact ⟨j + 1, ⟨by omega, e1⟩, ⟨rfl, rfl, rfl, rfl, Zb j2, trivial⟩, by omega⟩
   ·rw [e0, if_neg j2, if_pos h] at hc
    rw [if_neg j2, if_pos h] at e1
    rw [<- e0] at hc
    repeat' (first | (refine w2_ ?_ ?_ <;> intro _) | refine kM_ hc ?_ | refine a1_ ?_|fail)
    all_goals try (exfalso; omega)
    all_goals simp_all
  ·have e1 : Vs a b = 1 := by
    rw [hj2, List.drop_eq_getElem_cons h1, show b.drop j = [] from List.drop_eq_nil_of_le j2]; rfl
   repeat' (first | (refine w2_ ?_ ?_ <;> intro _) | refine a1_ ?_|fail)
   all_goals try (exfalso; omega)
   rw [e1]
 ·have ha' : a.drop j = [] := List.drop_eq_nil_of_le j2
  by_cases h2 : a.length < b.length
  ·have e1 : Vs a b = -1 := by
    rw [hj2, ha', List.drop_eq_getElem_cons (show j < b.length by omega)]; rfl
   repeat' (first | (refine w2_ ?_ ?_ <;> intro _) | refine a1_ ?_|fail)
   all_goals try (exfalso; omega)
   rw [e1]
  ·have e1 : Vs a b = 0 := by
    rw [hj2, ha', show b.drop j = [] from List.drop_eq_nil_of_le j2]; rfl
   repeat' (first | (refine w2_ ?_ ?_ <;> intro _) | refine a1_ ?_|fail)
   all_goals try (exfalso; omega)
   rw [e1]
def Zej (l : List Int) : Nat -> Int
 | 0 => l.getD 0 0
 | j + 1 => max (Zej l j) (l.getD (j + 1) 0)
theorem Xbk (l : List Int) (hl : l.length <= 1000000000) (h0 : 0 < l.length) : Zj Tryz.prog 139 [aL l] [rI (Zej l (l.length - 1))] [] := by
 refine cA_ _ Tryz.func139 rfl Tryz.ntmps139 sO_ ?_
 repeat' (first | (refine w2_ ?_ ?_ <;> intro _) | refine a1_ ?_|fail)
 all_goals try (exfalso; omega)
 refine WpA.loop_slots (ι := Nat) (fun j => [(0, .c (.sl false 1 (Ze l))), (3, .c (.lit (.int .i64 (Zej l j)))), (4, .c (.lit (.int .i64 ((j : Int) + 1))))]) (fun j => j + 1 <= l.length) (fun j => l.length - j) 0 j2 ⟨rfl, rfl, rfl, trivial⟩ ?_
 intro j s nx hj
 by_cases h1 : j + 1 < l.length
 ·repeat' (first | (refine w2_ ?_ ?_ <;> intro _) | refine a1_ ?_|fail)
  all_goals try (exfalso; omega)
  exact ⟨j + 1, by omega, ⟨rfl, Zb (by rw [Nat.mul_one]; rfl), Zb j2, trivial⟩, by omega⟩
 ·have e : l.length - 1 = j := by omega
  repeat' (first | (refine w2_ ?_ ?_ <;> intro _) | refine a1_ ?_|fail)
  all_goals try (exfalso; omega)
  rw [e]
end Go.Proofs.YtmgmpnhlehonmaaGreat
