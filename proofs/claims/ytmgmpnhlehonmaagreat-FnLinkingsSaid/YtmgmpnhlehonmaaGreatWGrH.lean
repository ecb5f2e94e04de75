/- The program's walk through a forest, and F and G of all vertices. No condition. -/
import Derived.Test.YtmgmpnhlehonmaaGreatWGrD
import Derived.Test.YtmgmpnhlehonmaaGreatWGrL
import Derived.Test.YtmgmpnhlehonmaaGreatWGrI
set_option linter.unusedVariables false
set_option linter.unusedSimpArgs false
namespace Go.Proofs.YtmgmpnhlehonmaaGreat
set_option maxHeartbeats 20000000
open Go.Pv
open Go.ChangeShapes Go.WideShapes Go.ChangeAt Go.RowKit
attribute [local irreducible] Za WpA Zg Xf Zz Z6 Zd
instance fnOk96 : Zs Tryz.prog 96 := ⟨_, Tryz.func96, rfl, by decide⟩
def apN (E : List (List Int)) (v : Int) : Nat -> List Int
 | 0 => []
 | j + 1 => if ea E j = v then apN E v j ++ [eb E j] else if eb E j = v then apN E v j ++ [ea E j] else apN E v j
def W5 (E : List (List Int)) (n j : Nat) : List (List Int) := (List.range n).map fun i : Nat => apN E i j
theorem Zcc (E : List (List Int)) (n j : Nat) : (W5 E n j).length = n := by simp [W5]
theorem W6 (E : List (List Int)) {n i : Nat} (j : Nat) (h : i < n) : (W5 E n j).getD i [] = apN E i j := by simp [W5, List.getD, h]
theorem Zfz (E : List (List Int)) (v : Int) : ∀ j, (apN E v j).length <= j
 | 0 => Nat.le_refl _
 | j + 1 => by
  have := Zfz E v j
  rw [apN]
  split
  ·rw [List.length_append, List.length_singleton]; omega
  ·split
   ·rw [List.length_append, List.length_singleton]; omega
   ·omega
theorem extL {A B : List (List Int)} (h : A.length = B.length) (hk : ∀ k, k < A.length -> A.getD k [] = B.getD k []) : A = B := by
 refine List.ext_getElem h fun k h1 h2 => ?_
 have := hk k h1
 simpa [List.getD, h1, h2] using this
theorem Qb {L : List (List Int)} {i k : Nat} {v : List Int} (hi : i < L.length) : (L.set i v).getD k [] = if i = k then v else L.getD k [] := by
 simp only [List.getD_eq_getElem?_getD, List.getElem?_set]
 split
 ·rename_i e; subst e; simp [hi]
 ·rfl
theorem Zsf {E : List (List Int)} {n j : Nat} (g : 0 <= ea E j /\ ea E j < eb E j /\ eb E j < n) :
  ((W5 E n j).set (ea E j).toNat ((W5 E n j).getD (ea E j).toNat [] ++ [eb E j])).set (eb E j).toNat (((W5 E n j).set (ea E j).toNat ((W5 E n j).getD (ea E j).toNat [] ++ [eb E j])).getD (eb E j).toNat [] ++ [ea E j]) = W5 E n (j + 1) := by
 have hl := Zcc E n j
 have hl2 := Zcc E n (j + 1)
 refine extL (by simp [Zcc]) fun k hk => ?_
 simp only [List.length_set, hl] at hk
 have ea' : ((ea E j).toNat : Int) = ea E j := by omega
 have eb' : ((eb E j).toNat : Int) = eb E j := by omega
 rw [Qb (by simp [hl]; omega), Qb j2, Qb j2, W6 E j hk, W6 E (j + 1) hk, W6 E j j2, W6 E j j2, ea', eb', apN]
 by_cases h1 : (eb E j).toNat = k
 ·have : (k : Int) = eb E j := by omega
  rw [if_pos h1, if_neg j2, if_neg j2, if_pos this.symm, this]
 ·rw [if_neg h1]
  by_cases h2 : (ea E j).toNat = k
  ·have : (k : Int) = ea E j := by omega
   rw [if_pos h2, if_pos this.symm, this]
  ·rw [if_neg h2, if_neg j2, if_neg j2]
theorem Xab {id n : Nat} {E : List (List Int)} : AV.own id (.sl true 1 (List.replicate n (D.sl true 1 []))) = AV.own id (.sl true 1 (LL (W5 E n 0))) := by
 have : LL (W5 E n 0) = List.replicate n (D.sl true 1 []) := by
  simp [LL, W5, apN, Ze, List.map_const']
 rw [this]
def Qk (A : List (List Int)) (j : Nat) : List (List Int) := (A.take j).map srt ++ A.drop j
theorem Zdr (A : List (List Int)) {j : Nat} (h : j <= A.length) : (Qk A j).length = A.length := by simp [Qk]; omega
theorem Zcd (A : List (List Int)) {j k : Nat} (h : j <= A.length) : (Qk A j).getD k [] = if k < j then srt (A.getD k []) else A.getD k [] := by
 unfold Qk
 by_cases hk : k < j
 ·have h1 : k < A.length := by omega
  rw [if_pos hk]
  simp [List.getD, List.getElem?_append, hk, h1, List.getElem?_take, show k < min j A.length by omega]
 ·rw [if_neg hk]
  simp only [List.getD_eq_getElem?_getD, List.getElem?_append, List.length_map, List.length_take]
  rw [if_neg j2, List.getElem?_drop, show j + (k - min j A.length) = k by omega]
theorem Zpk (A : List (List Int)) {j : Nat} (h : j < A.length) : (Qk A j).set j (srt ((Qk A j).getD j [])) = Qk A (j + 1) := by
 have h1 := Zdr A (show j <= A.length by omega)
 have h2 := Zdr A (show j + 1 <= A.length by omega)
 refine extL (by rw [List.length_set, h1, h2]) fun k hk => ?_
 have a1 := Zcd A (j := j) (k := j) j2
 have a2 := Zcd A (j := j) (k := k) j2
 have a3 := Zcd A (j := j + 1) (k := k) j2
 rw [if_neg (Nat.lt_irrefl j)] at a1
 rw [Qb j2, a1, a2, a3]
 by_cases e : j = k
 ·subst e; rw [if_pos rfl, if_pos (Nat.lt_succ_self j)]
 ·rw [if_neg e]
  by_cases hk : k < j
  ·rw [if_pos hk, if_pos j2]
  ·rw [if_neg hk, if_neg j2]
theorem Zlb (w : List Int) (E : List (List Int)) (hw : w.length <= 40) (hE : E.length <= 1000) (hg : Z0 w.length E) : Zj Tryz.prog 96 [aGr w E] [rLL ((W5 E w.length E.length).map srt)] [] := by
 refine cA_ _ Tryz.func96 rfl Tryz.ntmps96 j6 ?_
 repeat' (first | (guard_target =~ WpA _ _ _ _ _ _; first | refine WpA.seq ?_ | refine WpA.drawU ?_ | refine WpA.regionU ?_ | refine WpA.block ?_ | refine WpA.ret ?_ | refine WpA.skip ?_ | refine WpA.exit ?_ | refine WpA.cond_true rfl ?_ | refine WpA.cond_false rfl ?_ | refine WpA.cond_ntrue rfl ?_ | refine WpA.cond_dec rfl (fun _ => ?_) (fun _ => ?_) | refine WpA.cond_not rfl (fun _ => ?_) (fun _ => ?_) | refine WpA.cond rfl (fun _ => ?_) (fun _ => ?_)) | (guard_target =~ Za _ _ _ _ [] _ _ _ _; first | refine Za.nilL ?_ | refine Za.nilD p7 ?_) | (guard_target =~ Za _ _ _ _ (Oper.mk _ _ _ _ _ none :: _) _ _ _ _; refine Za.cons Zc ?_) | refine Z8.next ?_ | refine Zk.next ?_ | refine d1_ ?_|fail)
 refine WpA.loop_slots2 (fun j id => [(3, .own id (.sl true 1 (LL (W5 E w.length j)))), (13, .c (.sl false 1 (LLs E))), (14, vGI E.length), (15, vGI j)]) (fun j => j <= E.length) (fun j => E.length - j) 0 _ j2 ⟨by exact Xab, rfl, rfl, rfl, trivial⟩ ?_
 intro j id s nx hj
 have hl := Zcc E w.length j
 by_cases hlt : j < E.length
 ·have g := hg j hlt
  have r0 : (E.getD (j * 1) []).getD (0 * 1) 0 = ea E j := by rw [Nat.mul_one]; rfl
  have r1 : (E.getD (j * 1) []).getD (1 * 1) 0 = eb E j := by rw [Nat.mul_one]; rfl
  have r2 : (E.getD (j * 1) []).length = 2 := by rw [Nat.mul_one]; exact g.1
  have g1 := g.2.1
  rw [<- r0, <- r1] at g1
  have la : ((W5 E w.length j).getD (((E.getD (j * 1) []).getD (0 * 1) 0).toNat * 1) []).length <= 1000 := by
   rw [Nat.mul_one, W6 E j j2]; have := Zfz E (((E.getD (j * 1) []).getD (0 * 1) 0).toNat : Int) j; omega
  generalize hA : W5 E w.length j = A at *
  have lb : ((A.set (((E.getD (j * 1) []).getD (0 * 1) 0).toNat * 1) (A.getD (((E.getD (j * 1) []).getD (0 * 1) 0).toNat * 1) [] ++ [(E.getD (j * 1) []).getD (1 * 1) 0])).getD (((E.getD (j * 1) []).getD (1 * 1) 0).toNat * 1) []).length <= 1001 := by
   rw [Qb j2]
   split
   ·rw [List.length_append, List.length_singleton]; omega
   ·rw [Nat.mul_one, <- hA, W6 E j j2]; have := Zfz E (((E.getD (j * 1) []).getD (1 * 1) 0).toNat : Int) j; omega
  have ls : (A.set (((E.getD (j * 1) []).getD (0 * 1) 0).toNat * 1) (A.getD (((E.getD (j * 1) []).getD (0 * 1) 0).toNat * 1) [] ++ [(E.getD (j * 1) []).getD (1 * 1) 0])).length = A.length := List.length_set
  have e1 := Zsf g.2.1
  rw [hA, <- r0, <- r1] at e1
  rw [<- Nat.mul_one (((E.getD (j * 1) []).getD (0 * 1) 0).toNat), <- Nat.mul_one (((E.getD (j * 1) []).getD (1 * 1) 0).toNat)] at e1
  repeat' (first | (guard_target =~ WpA _ _ _ _ _ _; first | refine WpA.seq ?_ | refine WpA.drawU ?_ | refine WpA.regionU ?_ | refine WpA.block ?_ | refine WpA.ret ?_ | refine WpA.skip ?_ | refine WpA.exit ?_ | refine WpA.cond_true rfl ?_ | refine WpA.cond_false rfl ?_ | refine WpA.cond_ntrue rfl ?_ | refine WpA.cond_dec rfl (fun _ => ?_) (fun _ => ?_) | refine WpA.cond_not rfl (fun _ => ?_) (fun _ => ?_) | refine WpA.cond rfl (fun _ => ?_) (fun _ => ?_)) | (guard_target =~ Za _ _ _ _ [] _ _ _ _; first | refine Za.nilL ?_ | refine Za.nilD p7 ?_) | (guard_target =~ Za _ _ _ _ (Oper.mk (some 19) (Op.move _) _ _ _ none :: _) _ _ _ _; first | refine Za.consW (Wa rfl rfl) ?_ | refine Za.consW (Un rfl rfl) ?_) | (guard_target =~ Za _ _ _ _ (Oper.mk (some 35) (Op.move _) _ _ _ none :: _) _ _ _ _; first | refine Za.consW (Wa rfl rfl) ?_ | refine Za.consW (Un rfl rfl) ?_) | (guard_target =~ Za _ _ _ _ (Oper.mk _ (Op.call ⟨Callee.builtin Builtin.append, _, _⟩) _ _ _ none :: _) _ _ _ _; refine Za.consK Zc xR_ xR_ (by exact Zxq rfl) ?_) | (guard_target =~ Za _ _ _ _ (Oper.mk _ _ _ _ _ none :: _) _ _ _ _; refine Za.cons Zc ?_) | refine Z8.next ?_ | refine Zk.next ?_ | refine d1_ ?_|fail)
  all_goals try (exfalso; omega)
  exact ⟨j + 1, by omega, ⟨_, by exact V1 e1, rfl, rfl, Zb j2, trivial⟩, by omega⟩
 ·have ej : j = E.length := by omega
  subst ej
  generalize hA : W5 E w.length E.length = A at *
  have ha : ∀ k, k < A.length -> (A.getD k []).length <= 1000 := fun k hk => by
   rw [<- hA, W6 E _ j2]; have := Zfz E (k : Int) E.length; omega
  repeat' (first | (guard_target =~ WpA _ _ _ _ _ _; first | refine WpA.seq ?_ | refine WpA.drawU ?_ | refine WpA.regionU ?_ | refine WpA.block ?_ | refine WpA.ret ?_ | refine WpA.skip ?_ | refine WpA.exit ?_ | refine WpA.cond_true rfl ?_ | refine WpA.cond_false rfl ?_ | refine WpA.cond_ntrue rfl ?_ | refine WpA.cond_dec rfl (fun _ => ?_) (fun _ => ?_) | refine WpA.cond_not rfl (fun _ => ?_) (fun _ => ?_) | refine WpA.cond rfl (fun _ => ?_) (fun _ => ?_)) | (guard_target =~ Za _ _ _ _ [] _ _ _ _; first | refine Za.nilL ?_ | refine Za.nilD p7 ?_) | (guard_target =~ Za _ _ _ _ (Oper.mk _ _ _ _ _ none :: _) _ _ _ _; refine Za.cons Zc ?_) | refine Z8.next ?_ | refine Zk.next ?_ | refine d1_ ?_|fail)
  all_goals try (exfalso; omega)
  refine WpA.loop_slots (ι := Nat) (fun j => [(3, .own id (.sl true 1 (LL (Qk A j)))), (52, .als 3 id []), (53, vGI A.length), (54, vGI j)]) (fun j => j <= A.length) (fun j => A.length - j) 0 j2 ⟨by exact V1 (by simp [Qk]), rfl, rfl, rfl, trivial⟩ ?_
  intro j s nx hj
  have hl2 := Zdr A hj
  by_cases hlt : j < A.length
  ·have hb : ((Qk A j).getD (j * 1) []).length <= 1000 := by
    rw [Nat.mul_one, Zcd A hj, if_neg j2]; exact ha j hlt
   repeat' (first | (guard_target =~ WpA _ _ _ _ _ _; first | refine WpA.seq ?_ | refine WpA.drawU ?_ | refine WpA.regionU ?_ | refine WpA.block ?_ | refine WpA.ret ?_ | refine WpA.skip ?_ | refine WpA.exit ?_ | refine WpA.cond_true rfl ?_ | refine WpA.cond_false rfl ?_ | refine WpA.cond_ntrue rfl ?_ | refine WpA.cond_dec rfl (fun _ => ?_) (fun _ => ?_) | refine WpA.cond_not rfl (fun _ => ?_) (fun _ => ?_) | refine WpA.cond rfl (fun _ => ?_) (fun _ => ?_)) | (guard_target =~ Za _ _ _ _ [] _ _ _ _; first | refine Za.nilL ?_ | refine Za.nilD p7 ?_) | (guard_target =~ Za _ _ _ _ (Oper.mk _ (Op.call ⟨Callee.value _, _, _⟩) _ _ _ none :: _) _ _ _ _; first | refine Za.cons (Zg3 (Zm9.of_flat (Xaa ((Qk A j).getD (j * 1) []) j2) rfl (Znb _)) iA .nil .nil xR_ xR_ rfl) ?_) | (guard_target =~ Za _ _ _ _ (Oper.mk _ _ _ _ _ none :: _) _ _ _ _; refine Za.cons Zc ?_) | refine Z8.next ?_ | refine Zk.next ?_ | refine d1_ ?_|fail)
   all_goals try (exfalso; omega)
   have e2 : (Qk A j).set (j * 1) (srt ((Qk A j).getD (j * 1) [])) = Qk A (j + 1) := by rw [Nat.mul_one]; exact Zpk A hlt
   exact ⟨j + 1, by omega, ⟨by exact Za6 j2 e2, rfl, rfl, Zb j2, trivial⟩, by omega⟩
  ·have ej : j = A.length := by omega
   subst ej
   repeat' (first | (guard_target =~ WpA _ _ _ _ _ _; first | refine WpA.seq ?_ | refine WpA.drawU ?_ | refine WpA.regionU ?_ | refine WpA.block ?_ | refine WpA.ret ?_ | refine WpA.skip ?_ | refine WpA.exit ?_ | refine WpA.cond_true rfl ?_ | refine WpA.cond_false rfl ?_ | refine WpA.cond_ntrue rfl ?_ | refine WpA.cond_dec rfl (fun _ => ?_) (fun _ => ?_) | refine WpA.cond_not rfl (fun _ => ?_) (fun _ => ?_) | refine WpA.cond rfl (fun _ => ?_) (fun _ => ?_)) | (guard_target =~ Za _ _ _ _ [] _ _ _ _; first | refine Za.nilL ?_ | refine Za.nilD p7 ?_) | (guard_target =~ Za _ _ _ _ (Oper.mk _ _ _ _ _ none :: _) _ _ _ _; refine Za.cons Zc ?_) | refine Z8.next ?_ | refine Zk.next ?_ | refine d1_ ?_|fail)
   all_goals try (exfalso; omega)
   simp [Qk]
instance fnOk77 : Zs Tryz.prog 77 := ⟨_, Tryz.func77, rfl, by decide⟩
instance fnOk78 : Zs Tryz.prog 78 := ⟨_, Tryz.func78, rfl, by decide⟩
instance fnOk188 : Zs Tryz.prog 188 := ⟨_, Tryz.func188, rfl, by decide⟩
def nbL (E : List (List Int)) (n : Nat) : List (List Int) := (List.range n).map fun i : Nat => Zf E i
theorem Qu (E : List (List Int)) (n : Nat) : (nbL E n).length = n := by simp [nbL]
theorem Zlc (E : List (List Int)) {n i : Nat} (h : i < n) : (nbL E n).getD i [] = Zf E i := by simp [nbL, List.getD, h]
theorem Zhf {n : Nat} {E : List (List Int)} (hg : Z0 n E) (v : Int) : ∀ j, j <= E.length -> (apN E v j).Perm (J3 E v j ++ Jv E v j)
 | 0, _ => List.Perm.refl _
 | j + 1, hj => by
  have ih := Zhf hg v j j2
  have g := (hg j j2).2.1
  rw [apN, J3, Jv]
  by_cases h1 : ea E j = v
  ·rw [if_pos h1, if_neg j2, if_pos h1, <- List.append_assoc]
   exact List.Perm.append_right _ ih
  ·rw [if_neg h1]
   by_cases h2 : eb E j = v
   ·rw [if_pos h2, if_pos h2, if_neg h1, List.append_assoc]
    refine (List.Perm.append_right _ ih).trans ?_
    rw [List.append_assoc]
    exact List.Perm.append_left _ List.perm_append_comm
   ·rw [if_neg h2, if_neg h2, if_neg h1]
    exact ih
theorem Zxv {n : Nat} {E : List (List Int)} (hg : Z0 n E) : (W5 E n E.length).map srt = nbL E n := by
 unfold W5 nbL
 rw [List.map_map]
 refine List.map_congr_left fun i _ => ?_
 have h1 : (srt (apN E i E.length)).Perm (apN E i E.length) := List.mergeSort_perm _ _
 refine Zni (h1.trans (Zhf hg i E.length (Nat.le_refl _))) (Zpj _) ((Zek hg i).imp fun h => by omega)
theorem Zum (w : List Int) (E : List (List Int)) (hg : Zp w E) : Zj Tryz.prog 96 [aGr w E] [rLL (nbL E w.length)] [] := by
 have h1 := hg.few
 have h2 := hg.1
 rw [<- Zxv hg.2.2.1]
 exact Zlb w E j2 j2 hg.2.2.1
theorem Vx (a b : Int) (ha : -1000000000000 <= a /\ a <= 1000000000000) (hb : -1000000000000 <= b /\ b <= 1000000000000) : Zj Tryz.prog 77 [aI a, aI b] [rI (tms a b).1, rB (tms a b).2] [] := by
 have hle := Vu (a := a) (b := b)
 have hdef : tms a b = if a = 0 \/ b = 0 then (0, true) else if 1000000000000 / (b.natAbs : Int) < (a.natAbs : Int) then (0, false) else (a * b, true) := rfl
 by_cases h0 : a = 0 \/ b = 0
 ·rw [if_pos h0] at hdef
  rw [hdef]
  refine cA_ _ Tryz.func77 rfl Tryz.ntmps77 sO_ ?_
  repeat' (first | (refine w2_ ?_ ?_ <;> intro _) | refine kM_ (Zjy a j2) ?_ | refine kM_ (Zjy b j2) ?_ | refine a2_ ?_|fail)
  all_goals first | rfl | (exfalso; omega)
 ·rw [if_neg h0] at hdef
  by_cases h1 : 1000000000000 / (b.natAbs : Int) < (a.natAbs : Int)
  ·rw [if_pos h1] at hdef
   rw [hdef]
   refine cA_ _ Tryz.func77 rfl Tryz.ntmps77 sO_ ?_
   repeat' (first | (refine w2_ ?_ ?_ <;> intro _) | refine kM_ (Zjy a j2) ?_ | refine kM_ (Zjy b j2) ?_ | refine a2_ ?_|fail)
   all_goals first | rfl | (exfalso; omega)
  ·rw [if_neg h1] at hdef
   have hm : -1000000000000 <= a * b /\ a * b <= 1000000000000 := by rw [hdef] at hle; omega
   rw [hdef]
   clear hdef hle
   refine cA_ _ Tryz.func77 rfl Tryz.ntmps77 sO_ ?_
   repeat' (first | (refine w2_ ?_ ?_ <;> intro _) | refine kM_ (Zjy a j2) ?_ | refine kM_ (Zjy b j2) ?_ | refine a2_ ?_|fail)
   all_goals first | rfl | (exfalso; omega)
theorem Wd (x : Int) : Zj Tryz.prog 78 [aI x] [rB (decide (-1000000000000 <= x /\ x <= 1000000000000))] [] := by
 refine cA_ _ Tryz.func78 rfl Tryz.ntmps78 sO_ ?_
 repeat' (first | (refine w2_ ?_ ?_ <;> intro _) | refine kM_ (Zdk _ _ _) ?_ | refine a1_ ?_|fail)
 all_goals rfl
abbrev dWk (w : List Int) (N : List (List Int)) (s : VS) : D := .pt true [.sl false 1 (Ze w), .sl true 1 (LL N), .sl true 1 (Ze s.f), .sl true 1 (Ze s.g), .sl true 1 (Xz s.seen), .lit (.bool s.large)]
def stP (p r f g : Int) : Int := if okS p r f g = true then p * f else 0
def stR (p r f g : Int) : Int := if okS p r f g = true then r * f - p * g else 0
def stL (p r f g : Int) (b : Bool) : Bool := if okS p r f g = true then b else true
theorem Xac (w : List Int) (N : List (List Int)) (f g : List Int) (sn : List Bool) (lg : Bool) (p r x y : Int) (hp : -1000000000000 <= p /\ p <= 1000000000000) (hr : -1000000000000 <= r /\ r <= 1000000000000) (hx : -1000000000000 <= x /\ x <= 1000000000000) (hy : -1000000000000 <= y /\ y <= 1000000000000) :
  Xn Tryz.prog 188 (dWk w N ⟨f, g, sn, lg⟩) [aI p, aI r, aI x, aI y] [rI (stP p r x y), rI (stR p r x y)] (dWk w N ⟨f, g, sn, stL p r x y lg⟩) := by
 have l1 := Vu (a := r) (b := x)
 have l2 := Vu (a := p) (b := y)
 have l3 := Vu (a := p) (b := x)
 have hok : okS p r x y = true ↔ (tms r x).2 = true /\ (tms p y).2 = true /\ (tms p x).2 = true /\ (-1000000000000 <= (tms r x).1 - (tms p y).1 /\ (tms r x).1 - (tms p y).1 <= 1000000000000) := by
  simp only [okS, Bool.and_eq_true, decide_eq_true_eq, and_assoc]
 by_cases ho : okS p r x y = true
 ·obtain ⟨q1, q2, q3⟩ := Zdn ho
  have e1 : stP p r x y = (tms p x).1 := by rw [stP, if_pos ho, q3]
  have e2 : stR p r x y = (tms r x).1 - (tms p y).1 := by rw [stR, if_pos ho, q1, q2]
  have e3 : stL p r x y lg = lg := by rw [stL, if_pos ho]
  rw [e1, e2, e3]
  have hk := hok.1 ho
  clear hok
  refine cN_ _ Tryz.func188 rfl Tryz.ntmps188 ?_
  repeat' (first | (refine w2_ ?_ ?_ <;> intro _) | refine kM_ (Vx r x hr hx) ?_ | refine kM_ (Vx p y hp hy) ?_ | refine kM_ (Vx p x hp hx) ?_ | refine kM_ (Wd _) ?_ | (guard_target =~ IsG; first | refine psA ?_ | (guard_target =~ Z3; first | refine Za.doit rfl rfl (sC_ (Vx r x hr hx) mA8 rD8 rfl) ?_ | refine Za.doit rfl rfl (sC_ (Vx p y hp hy) mA8 rD8 rfl) ?_ | refine Za.doit rfl rfl (sC_ (Vx p x hp hx) mA8 rD8 rfl) ?_ | refine Za.doit rfl rfl (sC_ (Wd _) mA8 rD8 rfl) ?_)) | refine ax_ ?_ | ((first | refine Zd.ret (.one rA_ (.one rA_ .nil)) rfl ?_ ?_ | refine Zd.normal (.one rA_ (.one rA_ .nil)) rfl ?_ ?_) <;> try exact rfl)|fail)
  all_goals first | rfl | (exfalso; simp_all; done) | (exfalso; simp_all; omega)
 ·have e1 : stP p r x y = 0 := by rw [stP, if_neg ho]
  have e2 : stR p r x y = 0 := by rw [stR, if_neg ho]
  have e3 : stL p r x y lg = true := by rw [stL, if_neg ho]
  rw [e1, e2, e3]
  rw [hok] at ho
  clear hok
  refine cN_ _ Tryz.func188 rfl Tryz.ntmps188 ?_
  repeat' (first | (refine w2_ ?_ ?_ <;> intro _) | refine kM_ (Vx r x hr hx) ?_ | refine kM_ (Vx p y hp hy) ?_ | refine kM_ (Vx p x hp hx) ?_ | refine kM_ (Wd _) ?_ | (guard_target =~ IsG; first | refine psA ?_ | (guard_target =~ Z3; first | refine Za.doit rfl rfl (sC_ (Vx r x hr hx) mA8 rD8 rfl) ?_ | refine Za.doit rfl rfl (sC_ (Vx p y hp hy) mA8 rD8 rfl) ?_ | refine Za.doit rfl rfl (sC_ (Vx p x hp hx) mA8 rD8 rfl) ?_ | refine Za.doit rfl rfl (sC_ (Wd _) mA8 rD8 rfl) ?_)) | refine ax_ ?_ | ((first | refine Zd.ret (.one rA_ (.one rA_ .nil)) rfl ?_ ?_ | refine Zd.normal (.one rA_ (.one rA_ .nil)) rfl ?_ ?_) <;> try exact rfl)|fail)
  all_goals first | rfl | (exfalso; simp_all; done) | (exfalso; simp_all; omega)
instance fnOk171 : Zs Tryz.prog 171 := ⟨_, Tryz.func171, rfl, by decide⟩
theorem Zxw (vs : VS -> Int -> VS) (q : VS × Int × Int) (c : Int) (h : q.1.sn c = false) :
  Ya vs q c = (⟨(vs q.1 c).f, (vs q.1 c).g, (vs q.1 c).seen, stL q.2.1 q.2.2 ((vs q.1 c).fa c) ((vs q.1 c).ga c) (vs q.1 c).large⟩, stP q.2.1 q.2.2 ((vs q.1 c).fa c) ((vs q.1 c).ga c), stR q.2.1 q.2.2 ((vs q.1 c).fa c) ((vs q.1 c).ga c)) := by
 unfold Ya stP stR stL
 rw [if_neg (by rw [h]; decide)]
 split <;> rfl
theorem U7 {α : Type} {f : α -> Int -> α} {l : List Int} {j : Nat} (h : j < l.length) (a : α) : (l.take (j + 1)).foldl f a = f ((l.take j).foldl f a) (l.getD j 0) := by
 rw [List.take_add_one, List.getElem?_eq_getElem h, List.foldl_append]
 simp [List.getD, h]
theorem Zun {id : Nat} {w w' : List Int} {N N' : List (List Int)} {s s' : VS} (h1 : w = w') (h2 : N = N') (h3 : s.f = s'.f) (h4 : s.g = s'.g) (h5 : s.seen = s'.seen) (h6 : s.large = s'.large) : AV.own id (dWk w N s) = AV.own id (dWk w' N' s') := by
 cases s; cases s'; simp only at h3 h4 h5 h6; subst h1 h2 h3 h4 h5 h6; rfl
theorem Zqy {w : List Int} {E : List (List Int)} (hg : Zp w E) : ∀ (k : Nat) (s : VS) (v : Int), VSn w.length s -> VSb s -> (0 <= v /\ v < w.length) -> Zfj s.seen <= k -> s.sn v = false ->
  Xn Tryz.prog 171 (dWk w (nbL E w.length) s) [aI v] [] (dWk w (nbL E w.length) (vis w E k s v))
 | 0, s, v, hn, hb, hv, hk, hsn => by
  have := Zha s.seen v.toNat (by rw [hn.2.2]; omega) hsn
  omega
 | k + 1, s, v, hn, hb, hv, hk, hsn => by
  have IH := Zqy hg k
  have hcnt := Zha s.seen v.toNat (by rw [hn.2.2]; omega) hsn
  have hw := hg.2.1
  have hwv := hw v.toNat j2
  have hlen : w.length <= 40 := hg.1.2
  have hwall : ∀ i, -1000 <= w.getD i 0 /\ w.getD i 0 <= 1000 := fun i => by
   by_cases hi : i < w.length
   ·exact hw i hi
   ·rw [List.getD_eq_getElem?_getD, List.getElem?_eq_none j2]; decide
  have hNl := Qu E w.length
  have hNv : (nbL E w.length).getD (v.toNat * 1) [] = Zf E v := by
   rw [Nat.mul_one, Zlc E j2]; congr 1; omega
  have hrl := Jh hg.2.2.1 v
  have hrin : ∀ j, j < (Zf E v).length -> 0 <= (Zf E v).getD j 0 /\ (Zf E v).getD j 0 < w.length := fun j hj => Vf hg.2.2.1 (Z4 hj)
  -- the state behind j neighbours
  let st0 : VS × Int × Int := ({ s with seen := s.seen.set v.toNat true }, 1, -(w.getD v.toNat 0))
  have hst : ∀ j, Inv w.length st0.1 (((Zf E v).take j).foldl (Ya (vis w E k)) st0).1 /\ PrB (((Zf E v).take j).foldl (Ya (vis w E k)) st0).2 := fun j =>
   Zhb (n := w.length) (fun s v a b => Zfw (E := E) hwall k s v a b) ((Zf E v).take j) st0 ⟨hn.1, hn.2.1, by simp [st0, hn.2.2]⟩ hb ⟨Zz7, by have := hwall v.toNat; show -1000000000000 <= -(w.getD v.toNat 0) /\ -(w.getD v.toNat 0) <= 1000000000000; omega⟩
  have hfin : vis w E (k + 1) s v = { (((Zf E v).take (Zf E v).length).foldl (Ya (vis w E k)) st0).1 with
    f := (((Zf E v).take (Zf E v).length).foldl (Ya (vis w E k)) st0).1.f.set v.toNat (((Zf E v).take (Zf E v).length).foldl (Ya (vis w E k)) st0).2.2
    g := (((Zf E v).take (Zf E v).length).foldl (Ya (vis w E k)) st0).1.g.set v.toNat (((Zf E v).take (Zf E v).length).foldl (Ya (vis w E k)) st0).2.1 } := by
   rw [List.take_length]; rfl
  rw [hfin]
  obtain ⟨n1, n2, n3⟩ := hn
  have q0 : ((Zf E v).take 0).foldl (Ya (vis w E k)) st0 = st0 := by simp
  have hwv2 : -1000 <= w.getD (v.toNat * 1) 0 /\ w.getD (v.toNat * 1) 0 <= 1000 := hwall _
  have hNr : ((nbL E w.length).getD (v.toNat * 1) []).length = (Zf E v).length := by rw [hNv]
  refine cN_ _ Tryz.func171 rfl Tryz.ntmps171 ?_
  clear hfin
  repeat' (first | (guard_target =~ WpA _ _ _ _ _ _; first | refine WpA.seq ?_ | refine WpA.drawU ?_ | refine WpA.regionU ?_ | refine WpA.block ?_ | refine WpA.ret ?_ | refine WpA.skip ?_ | refine WpA.exit ?_ | refine WpA.cond_true rfl ?_ | refine WpA.cond_false rfl ?_ | refine WpA.cond_ntrue rfl ?_ | refine WpA.cond_dec rfl (fun _ => ?_) (fun _ => ?_) | refine WpA.cond_not rfl (fun _ => ?_) (fun _ => ?_) | refine WpA.cond rfl (fun _ => ?_) (fun _ => ?_)) | (guard_target =~ Za _ _ _ _ [] _ _ _ _; first | refine Za.nilL ?_ | refine Za.nilD (by kernel_rfl) ?_) | (guard_target =~ Za _ _ _ _ (Oper.mk _ _ _ _ _ none :: _) _ _ _ _; refine Za.cons Zc ?_) | refine Z8.next ?_ | refine Zk.next ?_ | ((first | refine Zd.ret .nil rfl ?_ ?_ | refine Zd.normal .nil rfl ?_ ?_) <;> try exact rfl)|fail)
  refine WpA.loop_slots (ι := Nat) (fun j => [(0, .own 0 (dWk w (nbL E w.length) (((Zf E v).take j).foldl (Ya (vis w E k)) st0).1)), (1, vGI v), (4, vGI (((Zf E v).take j).foldl (Ya (vis w E k)) st0).2.1), (5, vGI (((Zf E v).take j).foldl (Ya (vis w E k)) st0).2.2), (28, .als 0 0 (([] ++ [0 + 1]) ++ [v.toNat * 1])), (29, vGI (Zf E v).length), (30, vGI j)]) (fun j => j <= (Zf E v).length) (fun j => (Zf E v).length - j) 0 j2 ⟨?_, rfl, ?_, ?_, rfl, ?_, rfl, trivial⟩ ?_
  ·rw [q0]; exact Zun (s := ⟨s.f, s.g, s.seen.set (v.toNat * 1) true, s.large⟩) rfl rfl rfl rfl (by rw [Nat.mul_one]) rfl
  ·rw [q0]; rfl
  ·rw [q0]; exact Zb (by rw [Nat.mul_one])
  ·exact Zb (by rw [hNr])
  intro j s2 nx hj
  obtain ⟨⟨ln, hb2, hmono⟩, hp⟩ := hst j
  by_cases hlt : j < (Zf E v).length
  ·have hnext := U7 (f := Ya (vis w E k)) hlt st0
   generalize hq : List.foldl (Ya (vis w E k)) st0 (List.take j (Zf E v)) = q at *
   obtain ⟨⟨f, g, sn, lg⟩, p, r⟩ := q
   have hcn : Zfj sn <= k := by
    have := Zjv st0.1.seen sn (by rw [ln.2.2]; simp [st0, n3]) hmono
    have e : Zfj st0.1.seen + 1 = Zfj s.seen := hcnt
    omega
   have hcr := hrin j hlt
   have hce : ((nbL E w.length).getD (v.toNat * 1) []).getD (j * 1) 0 = (Zf E v).getD j 0 := by rw [hNv, Nat.mul_one]
   rw [<- hce] at hcr hnext
   obtain ⟨l1, l2, l3⟩ := ln
   simp only at l1 l2 l3
   obtain ⟨hp1, hp2⟩ := hp
   simp only at hp1 hp2
   generalize hc : ((nbL E w.length).getD (v.toNat * 1) []).getD (j * 1) 0 = c at hcr hnext
   cases hsc : sn.getD (c.toNat * 1) false with
   | true =>
    have hne : Ya (vis w E k) (⟨f, g, sn, lg⟩, p, r) c = (⟨f, g, sn, lg⟩, p, r) := by
     unfold Ya
     rw [if_pos (show VS.sn ⟨f, g, sn, lg⟩ c = true by unfold VS.sn; rw [<- Nat.mul_one c.toNat]; exact hsc)]
    rw [hne] at hnext
    subst hc
    clear hst hmono hb2
    repeat' (first | (guard_target =~ WpA _ _ _ _ _ _; first | refine WpA.seq ?_ | refine WpA.drawU ?_ | refine WpA.regionU ?_ | refine WpA.block ?_ | refine WpA.ret ?_ | refine WpA.skip ?_ | refine WpA.exit ?_ | refine WpA.cond_true rfl ?_ | refine WpA.cond_false rfl ?_ | refine WpA.cond_ntrue rfl ?_ | refine WpA.cond_dec rfl (fun _ => ?_) (fun _ => ?_) | refine WpA.cond_not rfl (fun _ => ?_) (fun _ => ?_) | refine WpA.cond rfl (fun _ => ?_) (fun _ => ?_)) | (guard_target =~ Za _ _ _ _ [] _ _ _ _; first | refine Za.nilL ?_ | refine Za.nilD (by kernel_rfl) ?_) | (guard_target =~ Za _ _ _ _ (Oper.mk _ _ _ _ _ none :: _) _ _ _ _; refine Za.cons Zc ?_) | refine Z8.next ?_ | refine Zk.next ?_ | ((first | refine Zd.ret .nil rfl ?_ ?_ | refine Zd.normal .nil rfl ?_ ?_) <;> try exact rfl)|fail)
    all_goals try (exfalso; simp_all; done)
    all_goals try (exfalso; omega)
    refine ⟨j + 1, by omega, ?_, by omega⟩
    rw [hnext]
    exact ⟨rfl, rfl, rfl, rfl, rfl, rfl, Zb j2, trivial⟩
   | false =>
    have hsn2 : VS.sn ⟨f, g, sn, lg⟩ c = false := by unfold VS.sn; rw [<- Nat.mul_one c.toNat]; exact hsc
    have hinv := Zfw (E := E) hwall k ⟨f, g, sn, lg⟩ c ⟨l1, l2, l3⟩ hb2
    have hV := IH ⟨f, g, sn, lg⟩ c ⟨l1, l2, l3⟩ hb2 hcr hcn hsn2
    rw [Zxw _ _ _ hsn2] at hnext
    simp only [VS.fa, VS.ga] at hnext
    rw [<- Nat.mul_one c.toNat] at hnext
    generalize hs1 : vis w E k ⟨f, g, sn, lg⟩ c = s1 at *
    obtain ⟨f1, g1, sn1, lg1⟩ := s1
    obtain ⟨⟨m1, m2, m3⟩, ⟨b1, b2⟩, _⟩ := hinv
    simp only at m1 m2 m3 b1 b2 hnext
    have b3 := b1 (c.toNat * 1)
    have b4 := b2 (c.toNat * 1)
    have hS := Xac w (nbL E w.length) f1 g1 sn1 lg1 p r (f1.getD (c.toNat * 1) 0) (g1.getD (c.toNat * 1) 0) hp1 hp2 b3 b4
    subst hc
    clear hst hmono hb2 b1 b2 IH hs1
    repeat' (first | (guard_target =~ WpA _ _ _ _ _ _; first | refine WpA.seq ?_ | refine WpA.drawU ?_ | refine WpA.regionU ?_ | refine WpA.block ?_ | refine WpA.ret ?_ | refine WpA.skip ?_ | refine WpA.exit ?_ | refine WpA.cond_true rfl ?_ | refine WpA.cond_false rfl ?_ | refine WpA.cond_ntrue rfl ?_ | refine WpA.cond_dec rfl (fun _ => ?_) (fun _ => ?_) | refine WpA.cond_not rfl (fun _ => ?_) (fun _ => ?_) | refine WpA.cond rfl (fun _ => ?_) (fun _ => ?_)) | (guard_target =~ Za _ _ _ _ [] _ _ _ _; first | refine Za.nilL ?_ | refine Za.nilD (by kernel_rfl) ?_) | (guard_target =~ Za _ _ _ _ (Oper.mk _ (Op.call ⟨Callee.value _, _, _⟩) _ _ _ none :: _) _ _ _ _; first | refine Za.cons (Hf (hV) iA (.sh .nil) (.sh lcA .nil) xR_ xR_ rfl) ?_ | refine Za.cons (Zg4 (hS) iA (.sh (.sh (.sh (.sh .nil)))) (.sh lcA (.sh lcA (.sh lcA (.sh lcA .nil)))) xR_ xR_ rfl) ?_) | (guard_target =~ Za _ _ _ _ (Oper.mk _ _ _ _ _ none :: _) _ _ _ _; refine Za.cons Zc ?_) | refine Z8.next ?_ | refine Zk.next ?_ | ((first | refine Zd.ret .nil rfl ?_ ?_ | refine Zd.normal .nil rfl ?_ ?_) <;> try exact rfl)|fail)
    all_goals try (exfalso; simp_all; done)
    all_goals try (exfalso; omega)
    refine ⟨j + 1, by omega, ?_, by omega⟩
    rw [hnext]
    exact ⟨rfl, rfl, rfl, rfl, rfl, rfl, Zb j2, trivial⟩
  ·have ej : j = (Zf E v).length := by omega
   subst ej
   generalize hq : List.foldl (Ya (vis w E k)) st0 (List.take (Zf E v).length (Zf E v)) = q at *
   obtain ⟨⟨f, g, sn, lg⟩, p, r⟩ := q
   obtain ⟨l1, l2, l3⟩ := ln
   simp only at l1 l2 l3
   obtain ⟨hp1, hp2⟩ := hp
   simp only at hp1 hp2
   clear hst hmono hb2 IH
   repeat' (first | (guard_target =~ WpA _ _ _ _ _ _; first | refine WpA.seq ?_ | refine WpA.drawU ?_ | refine WpA.regionU ?_ | refine WpA.block ?_ | refine WpA.ret ?_ | refine WpA.skip ?_ | refine WpA.exit ?_ | refine WpA.cond_true rfl ?_ | refine WpA.cond_false rfl ?_ | refine WpA.cond_ntrue rfl ?_ | refine WpA.cond_dec rfl (fun _ => ?_) (fun _ => ?_) | refine WpA.cond_not rfl (fun _ => ?_) (fun _ => ?_) | refine WpA.cond rfl (fun _ => ?_) (fun _ => ?_)) | (guard_target =~ Za _ _ _ _ [] _ _ _ _; first | refine Za.nilL ?_ | refine Za.nilD (by kernel_rfl) ?_) | (guard_target =~ Za _ _ _ _ (Oper.mk _ _ _ _ _ none :: _) _ _ _ _; refine Za.cons Zc ?_) | refine Z8.next ?_ | refine Zk.next ?_ | ((first | refine Zd.ret .nil rfl ?_ ?_ | refine Zd.normal .nil rfl ?_ ?_) <;> try exact rfl)|fail)
   all_goals try (exfalso; omega)
   all_goals (rw [Nat.mul_one]; rfl)
end Go.Proofs.YtmgmpnhlehonmaaGreat
