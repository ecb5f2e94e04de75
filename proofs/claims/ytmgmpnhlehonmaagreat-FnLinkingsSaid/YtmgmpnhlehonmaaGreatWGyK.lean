/- FnResolutions: the graph of a cluster has its intersection matrix, is negative definite with the determinant 1, and the product of the matrix and the orders has the opposites of the excesses. No condition. -/
import Derived.Test.YtmgmpnhlehonmaaGreatWGxG
set_option linter.unusedVariables false
set_option linter.unusedSimpArgs false
namespace Go.Proofs.YtmgmpnhlehonmaaGreat
set_option maxRecDepth 100000
set_option maxHeartbeats 20000000
open Go.Pv
open Go.ChangeShapes Go.WideShapes Go.ChangeAt Go.RowKit
attribute [local irreducible] Za WpA Zg Xf Zz Z6 Zd
instance fnOk22 : Zs Tryz.prog 22 := ⟨_, Tryz.func22, rfl, by decide⟩
def Hw (r x : List Int) : Nat -> Int
 | 0 => 0
 | k + 1 => Hw r x k + r.getD (k * 1) 0 * x.getD (k * 1) 0
def apL (M : List (List Int)) (x : List Int) (n : Nat) : Nat -> List Int
 | 0 => []
 | i + 1 => apL M x n i ++ [Hw (M.getD (i * 1) []) x n]
theorem H9 (M : List (List Int)) (x : List Int) (n : Nat) : ∀ i, (apL M x n i).length = i
 | 0 => rfl
 | i + 1 => by rw [apL, List.length_append, H9 M x n i]; rfl
theorem Zxb (M : List (List Int)) (x : List Int) (n : Nat) {i : Nat} : ∀ m, i < m -> (apL M x n m).getD i 0 = Hw (M.getD i []) x n
 | 0, h => by omega
 | m + 1, h => by
  rw [apL]
  by_cases e : i = m
  ·subst e
   rw [List.getD_eq_getElem?_getD, List.getElem?_append_right (by rw [H9]; omega), H9, Nat.sub_self, Nat.mul_one]; rfl
  ·rw [List.getD_eq_getElem?_getD, List.getElem?_append_left (by rw [H9]; omega), <- List.getD_eq_getElem?_getD, Zxb M x n m j2]
theorem Zti (M : List (List Int)) (x : List Int) (n : Nat) (hM : M.length = n) (hr : ∀ i, i < n -> (M.getD (i * 1) []).length = n) (hx : x.length = n) (hn : n <= 1000)
  (hb : ∀ i k, i < n -> k <= n -> -4000000000000000000 <= Hw (M.getD (i * 1) []) x k /\ Hw (M.getD (i * 1) []) x k <= 4000000000000000000) (hp : ∀ i k, i < n -> k < n -> -4000000000000000000 <= (M.getD (i * 1) []).getD (k * 1) 0 * x.getD (k * 1) 0 /\ (M.getD (i * 1) []).getD (k * 1) 0 * x.getD (k * 1) 0 <= 4000000000000000000) :
  Zj Tryz.prog 22 [aLL M, aL x] [rL (apL M x n n)] [] := by
 refine cA_ _ Tryz.func22 rfl Tryz.ntmps22 sO_ ?_
 repeat' (first | (refine w2_ ?_ ?_ <;> intro _) | refine a1_ ?_|fail)
 refine WpA.loop_slots2 (fun i i5 => [(0, .c (.sl false 1 (LLs M))), (1, .c (.sl false 1 (Ze x))), (5, .own i5 (.sl true 1 (Ze (apL M x n i)))), (6, vG i)]) (fun i => i <= n) (fun i => n - i) 0 _ j2 ⟨rfl, rfl, by exact Zq (l := []) rfl, rfl, trivial⟩ ?_
 intro i i5 s nx hi
 have hal := H9 M x n i
 by_cases hlt : i < n
 ·have hri := hr i hlt
  have hst : apL M x n (i + 1) = apL M x n i ++ [Hw (M.getD (i * 1) []) x n] := rfl
  have hbi := fun k hk => hb i k hlt hk
  have hpi := fun k hk => hp i k hlt hk
  clear hb hp hr
  generalize apL M x n i = A at *
  repeat' (first | (refine w2_ ?_ ?_ <;> intro _) | refine a1_ ?_|fail)
  all_goals try (exfalso; omega)
  refine WpA.loop_slots (ι := Nat) (fun k => [(0, .c (.sl false 1 (LLs M))), (1, .c (.sl false 1 (Ze x))), (5, .own i5 (.sl true 1 (Ze A))), (6, vG i), (7, vG (Hw (M.getD (i * 1) []) x k)), (8, vG k)]) (fun k => k <= n) (fun k => n - k) 0 j2 ⟨rfl, rfl, rfl, rfl, rfl, rfl, trivial⟩ ?_
  intro k s nx hk
  have b1 := hbi k hk
  by_cases hkl : k < n
  ·have b2 := hpi k hkl
   have b3 := hbi (k + 1) hkl
   have hds : Hw (M.getD (i * 1) []) x (k + 1) = Hw (M.getD (i * 1) []) x k + (M.getD (i * 1) []).getD (k * 1) 0 * x.getD (k * 1) 0 := rfl
   clear hbi hpi hst
   repeat' (first | (refine w2_ ?_ ?_ <;> intro _ <;> try (exfalso; omega)) | refine a1_ ?_|fail)
   all_goals try (exfalso; omega)
   all_goals exact ⟨k + 1, by omega, ⟨rfl, rfl, rfl, rfl, Zb j2, Zb j2, trivial⟩, by omega⟩
  ·obtain rfl : k = n := by omega
   clear hbi hpi
   repeat' (first | (refine w2_ ?_ ?_ <;> intro _ <;> try (exfalso; omega)) | refine a1_ ?_|fail)
   all_goals try (exfalso; omega)
   all_goals exact ⟨i + 1, by omega, ⟨_, rfl, rfl, by exact Zq hst.symm, Zb j2, trivial⟩, by omega⟩
 ·obtain rfl : i = n := by omega
  clear hb hp hr
  repeat' (first | (refine w2_ ?_ ?_ <;> intro _) | refine a1_ ?_|fail)
  all_goals first | rfl | (exfalso; omega)
attribute [local irreducible] J5 decIsCl Zp decIsGr
end Go.Proofs.YtmgmpnhlehonmaaGreat
