/- Where the product of all absolute weights plus one is small, determinants are computed without a number that is too large. No condition. -/
import Derived.Test.YtmgmpnhlehonmaaGreatWTy
import Derived.Test.YtmgmpnhlehonmaaGreatWGqB
import Derived.Test.YtmgmpnhlehonmaaGreatWSpA
import Derived.Test.YtmgmpnhlehonmaaGreatWPvR
import Derived.Test.YtmgmpnhlehonmaaGreatWPvX
import Derived.Test.YtmgmpnhlehonmaaGreatWGrD
import Derived.Test.YtmgmpnhlehonmaaGreatWHfB
import Derived.Test.YtmgmpnhlehonmaaGreatWHcA
import Derived.Test.YtmgmpnhlehonmaaGreatWGrW
set_option linter.unusedVariables false
set_option linter.unusedSimpArgs false
namespace Go.Proofs.YtmgmpnhlehonmaaGreat
set_option maxHeartbeats 20000000
open Go.Pv
open Go.ChangeShapes Go.WideShapes Go.ChangeAt Go.RowKit
attribute [local irreducible] Za WpA Zg Xf Zz Z6 Zd
theorem Yk {P : Program} {n : NN} {nid : Nat} {st : Nat -> AV} {d : Nat} {x y : Operand} {a b : Int} {ts : Array TypeId} {ty pos aft g} (hx : Go.Pv.Lit st x (.int .i64 a)) (hy : Go.Pv.Lit st y (.int .i64 b)) (hd : n d = true) :
  Zg P n ⟨some d, .call ⟨.builtin .min, #[x, y], ts⟩, ty, pos, aft, g⟩ nid st (Z5 x ++ Z5 y) [(d, .c (.lit (.int .i64 (if b < a then b else a))))] := by
 have := Vz (P := P) (n := n) (nid := nid) (st := st) (o := ⟨some d, .call ⟨.builtin .min, #[x, y], ts⟩, ty, pos, aft, g⟩) (d := d) (u := .int .i64 (if b < a then b else a)) [(x, .int .i64 a), (y, .int .i64 b)] rfl hd rfl (by simpa using ⟨hx, hy⟩) (fun ev w hev => by
  have e1 := hev (x, .int .i64 a) (by simp)
  have e2 := hev (y, .int .i64 b) (by simp)
  simp only at e1 e2
  simp [execOp, resolve, invoke, builtin, e1, e2, Builtin.min_, Builtin.min2])
 simpa using this
end Go.Proofs.YtmgmpnhlehonmaaGreat
namespace Go.Proofs.YtmgmpnhlehonmaaGreat
theorem Zf7 {w : List Int} {E : List (List Int)} {v : Int} : (bvE w E v).Perm ([v, (w.length : Int)] :: E) := (Jp _).trans (List.perm_append_singleton _ _)
theorem Zbf {w : List Int} {v : Int} (hv : 0 <= v /\ v < w.length) {x : Int} (hx : 0 <= x /\ x < w.length) : awt (bvW w v) x = awt w x + if x = v then 1 else 0 := by
 unfold awt
 rw [Zvi hv, if_neg (by omega), show ((x.toNat : Nat) : Int) = x by omega]
 split <;> omega
theorem Zrg {w : List Int} {v : Int} (hv : 0 <= v /\ v < w.length) : awt (bvW w v) w.length = 1 := by
 unfold awt
 rw [Int.toNat_natCast, Zvi hv, if_pos rfl]
 rfl
theorem Xbo {w : List Int} {E : List (List Int)} (hg : Zp w E) {v : Int} (hv : 0 <= v /\ v < w.length) {U : List Int} (hU : U.Nodup) (hin : ∀ x ∈ U, 0 <= x /\ x < w.length) :
  Dm (awt (bvW w v)) (bvE w E v) (if v ∈ U then (w.length : Int) :: U else U) = Dm (awt w) E U := by
 rw [Wg _ Zf7]
 have hnU : (w.length : Int) ∉ U := fun q => by have := hin _ q; omega
 by_cases h : v ∈ U
 ·rw [if_pos h, Dm, if_pos (show e0 [v, (w.length : Int)] ∈ (w.length : Int) :: U /\ e1 [v, (w.length : Int)] ∈ (w.length : Int) :: U from ⟨by simp [e0, h], by simp [e1]⟩)]
  have hn : ((w.length : Int) :: U).Nodup := List.nodup_cons.2 ⟨hnU, hU⟩
  have hnb : nbs (w.length : Int) E = [] := by
   have key : ∀ F : List (List Int), (∀ e ∈ F, e0 e ≠ (w.length : Int) /\ e1 e ≠ (w.length : Int)) -> nbs (w.length : Int) F = [] := by
    intro F
    induction F with
    | nil => exact fun _ => rfl
    | cons e F ih => intro h; rw [nbs, if_neg (h e (by simp)).1, if_neg (h e (by simp)).2, ih fun f hf => h f (by simp [hf])]
   refine key E fun e he => ?_
   obtain ⟨a, b, rfl, h1, h2, h3⟩ := Qe hg.2.2.1 e he
   show a ≠ _ /\ b ≠ _
   omega
  have e1' : Dm (awt (bvW w v)) E ((w.length : Int) :: U) = Dm (awt (bvW w v)) E U := by
   rw [Zj4 _ E (Zdy hg.2.2.1) hn (v := (w.length : Int)) (by simp), hnb, smL, Zrg hv, Int.one_mul, Yu, Jx hnU]
   omega
  have e2' : wo (wo ((w.length : Int) :: U) (e0 [v, (w.length : Int)])) (e1 [v, (w.length : Int)]) = wo U v := by
   show wo (wo ((w.length : Int) :: U) v) (w.length : Int) = wo U v
   rw [Vy, Yu, Jx hnU]
  rw [e1', e2']
  have h1 := Zhv (a := awt w) (b := awt (bvW w v)) (Zdy hg.2.2.1) hU h (by rw [Zbf hv hv, if_pos rfl]) (fun x hx hne => by rw [Zbf hv (hin x hx), if_neg hne, Int.add_zero])
  have h2 : Dm (awt (bvW w v)) E (wo U v) = Dm (awt w) E (wo U v) := Uu E fun x hx => by
   have := Zl.1 hx
   rw [Zbf hv (hin x this.1), if_neg this.2, Int.add_zero]
  omega
 ·rw [if_neg h, Jy _ E (fun q => h q.1)]
  exact Uu E fun x hx => by rw [Zbf hv (hin x hx), if_neg (fun (e : x = v) => h (e ▸ hx)), Int.add_zero]
end Go.Proofs.YtmgmpnhlehonmaaGreat
namespace Go.Proofs.YtmgmpnhlehonmaaGreat
set_option maxRecDepth 100000
set_option maxHeartbeats 20000000
open Go.Pv
open Go.ChangeShapes Go.WideShapes Go.ChangeAt Go.RowKit
attribute [local irreducible] Za WpA Zg Xf Zz Z6 Zd
def Vc (P S : List Int) (i : Nat) : Prop := if i = 0 then P.getD 0 0 = -1 /\ S.getD 0 0 = -1 else (0 <= P.getD i 0 /\ P.getD i 0 <= (i : Int) - 1) /\ (S.getD i 0 = -1 \/ 0 <= S.getD i 0 /\ (S.getD i 0 = P.getD (P.getD i 0).toNat 0 \/ S.getD i 0 = S.getD (P.getD i 0).toNat 0))
instance (P S : List Int) (i : Nat) : Decidable (Vc P S i) := by unfold Vc; infer_instance
def J4 (P S : List Int) (i : Nat) : Prop := ∀ j, j < i -> ¬ (0 <= S.getD i 0 /\ S.getD i 0 = S.getD j 0 /\ P.getD i 0 = P.getD j 0)
instance (P S : List Int) (i : Nat) : Decidable (J4 P S i) := by unfold J4; infer_instance
def J5 (P S W : List Int) : Prop := (1 <= P.length /\ P.length <= 24) /\ (S.length = P.length /\ W.length = P.length) /\ Yz W (-100000) 100000 /\ ∀ i, i < P.length -> Vc P S i /\ J4 P S i
instance decIsCl (P S W : List Int) : Decidable (J5 P S W) := by unfold J5; infer_instance
structure Cl (P S W : List Int) : Prop where
 len : 1 <= P.length /\ P.length <= 24
 lS : S.length = P.length
 lW : W.length = P.length
 w : ∀ i, i < P.length -> -100000 <= W.getD i 0 /\ W.getD i 0 <= 100000
 p0 : P.getD 0 0 = -1 /\ S.getD 0 0 = -1
 p : ∀ i, 1 <= i -> i < P.length -> 0 <= P.getD i 0 /\ P.getD i 0 <= (i : Int) - 1
 s : ∀ i, i < P.length -> S.getD i 0 = -1 \/ 0 <= S.getD i 0 /\ S.getD i 0 <= (i : Int) - 2
 sp : ∀ i, 1 <= i -> i < P.length -> S.getD i 0 = -1 \/ 0 <= S.getD i 0 /\ (S.getD i 0 = P.getD (P.getD i 0).toNat 0 \/ S.getD i 0 = S.getD (P.getD i 0).toNat 0)
 fresh : ∀ i j, i < P.length -> j < i -> ¬ (0 <= S.getD i 0 /\ S.getD i 0 = S.getD j 0 /\ P.getD i 0 = P.getD j 0)
theorem J5.cl {P S W : List Int} (h : J5 P S W) : Cl P S W := by
 obtain ⟨h1, ⟨h2, h3⟩, h4, h5⟩ := h
 have p0 : P.getD 0 0 = -1 /\ S.getD 0 0 = -1 := by
  have := (h5 0 j2).1
  rwa [Vc, if_pos rfl] at this
 have pl : ∀ i, 1 <= i -> i < P.length -> (0 <= P.getD i 0 /\ P.getD i 0 <= (i : Int) - 1) /\ (S.getD i 0 = -1 \/ 0 <= S.getD i 0 /\ (S.getD i 0 = P.getD (P.getD i 0).toNat 0 \/ S.getD i 0 = S.getD (P.getD i 0).toNat 0)) := fun i h1 hi => by
  have := (h5 i hi).1
  rwa [Vc, if_neg j2] at this
 have hs : ∀ m i, i < m -> i < P.length -> S.getD i 0 = -1 \/ 0 <= S.getD i 0 /\ S.getD i 0 <= (i : Int) - 2 := by
  intro m
  induction m with
  | zero => intro i hi; omega
  | succ m ih =>
   intro i hi hl
   by_cases h0 : i = 0
   ·subst h0; exact .inl p0.2
   ·obtain ⟨q1, q2⟩ := pl i j2 hl
    rcases q2 with q2 | ⟨q2, q3 | q3⟩
    ·exact .inl q2
    ·refine .inr ⟨q2, ?_⟩
     by_cases e : (P.getD i 0).toNat = 0
     ·rw [e, p0.1] at q3; omega
     ·have := (pl (P.getD i 0).toNat j2 j2).1
      omega
    ·refine .inr ⟨q2, ?_⟩
     have := ih (P.getD i 0).toNat j2 j2
     omega
 exact ⟨h1, h2, h3, fun i hi => h4 i j2, p0, fun i a b => (pl i a b).1, fun i hi => hs (i + 1) i j2 hi, fun i a b => (pl i a b).2, fun i j hi hj => (h5 i hi).2 j hj⟩
instance fnOk150 : Zs Tryz.prog 150 := ⟨_, Tryz.func150, rfl, by decide⟩
instance fnOk100 : Zs Tryz.prog 100 := ⟨_, Tryz.func100, rfl, by decide⟩
abbrev aCl (P S W : List Int) : Arg := .sh (.agg [.sl false 1 (Ze P), .sl false 1 (Ze S), .sl false 1 (Ze W)])
abbrev vJ (x : Int) : AV := .c (.lit (.int .i64 x))
abbrev vCl (P S W : List Int) : AV := .own 1 (.pt true [.sl false 1 (Ze P), .sl false 1 (Ze S), .sl false 1 (Ze W)])
def Zh3 (P S : List Int) (i : Nat) (j : Int) : Prop := 0 <= j /\ (P.getD i 0 = j \/ S.getD i 0 = j)
instance (P S : List Int) (i : Nat) (j : Int) : Decidable (Zh3 P S i j) := by unfold Zh3; infer_instance
theorem Zrh (P S W : List Int) (i j : Int) (hi : 0 <= i /\ i < P.length) (hS : S.length = P.length) (hl : P.length <= 24) : Zj Tryz.prog 150 [aCl P S W, aI i, aI j] [rB (decide (Zh3 P S (i.toNat * 1) j))] [] := by
 refine cA_ _ Tryz.func150 rfl Tryz.ntmps150 sO_ ?_
 repeat' (first | (refine w2_ ?_ ?_ <;> intro _) | refine a1_ ?_|fail)
 all_goals try (exfalso; omega)
 all_goals (unfold Zh3; simp_all; try (intro h; omega))
def pe (P S : List Int) (i j : Nat) : Int := if i = j then 1 else if P.getD i 0 = (j : Int) \/ S.getD i 0 = (j : Int) then -1 else 0
theorem Zvk (P S : List Int) (i j : Nat) : -1 <= pe P S i j /\ pe P S i j <= 1 := by
 unfold pe
 split
 ·omega
 ·split <;> omega
theorem Zvl (P S : List Int) (i j k : Nat) : -1 <= pe P S i j * pe P S i k /\ pe P S i j * pe P S i k <= 1 := by
 unfold pe
 split <;> (try split) <;> (try split) <;> (try split) <;> simp
def Uz (P S : List Int) : Nat -> Nat -> Nat -> Int
 | 0, _, _ => 0
 | j + 1, i, k => Uz P S j i k - pe P S j i * pe P S j k
theorem Zlp (P S : List Int) (i k : Nat) : ∀ j : Nat, -(j : Int) <= Uz P S j i k /\ Uz P S j i k <= j
 | 0 => by simp [Uz]
 | j + 1 => by
  have := Zlp P S i k j
  have := Zvl P S j i k
  simp only [Uz]
  omega
def Zag (P S : List Int) (n i : Nat) : Nat -> List (List Int)
 | 0 => []
 | m + 1 => Zag P S n i m ++ if Uz P S n i (i + 1 + m) = 1 then [[(i : Int), ((i + 1 + m : Nat) : Int)]] else []
def Jq (P S : List Int) (n : Nat) : Nat -> List (List Int)
 | 0 => []
 | i + 1 => Jq P S n i ++ Zag P S n i (n - 1 - i)
theorem Zh4 (P S : List Int) (n i : Nat) : ∀ m, (Zag P S n i m).length <= m
 | 0 => Nat.le_refl _
 | m + 1 => by
  have := Zh4 P S n i m
  rw [Zag, List.length_append]
  split <;> simp <;> omega
theorem Zh5 (P S : List Int) (n : Nat) : ∀ i, (Jq P S n i).length <= i * n
 | 0 => by simp [Jq]
 | i + 1 => by
  have h1 := Zh5 P S n i
  have h2 := Zh4 P S n i (n - 1 - i)
  rw [Jq, List.length_append, Nat.add_mul]
  omega
theorem Zn7 {P S : List Int} {n i : Nat} : ∀ (m : Nat) (e : List Int), e ∈ Zag P S n i m -> ∃ x : Nat, x < m /\ e = [(i : Int), ((i + 1 + x : Nat) : Int)]
 | 0, e, h => by simp [Zag] at h
 | m + 1, e, h => by
  rw [Zag] at h
  rcases List.mem_append.1 h with h | h
  ·obtain ⟨x, h1, h2⟩ := Zn7 m e h
   exact ⟨x, by omega, h2⟩
  ·split at h
   ·rw [List.mem_singleton] at h
    exact ⟨m, by omega, h⟩
   ·simp at h
theorem Zn8 {P S : List Int} {n : Nat} : ∀ (i : Nat) (e : List Int), e ∈ Jq P S n i -> ∃ a b : Nat, a < i /\ a < b /\ b < n /\ e = [(a : Int), (b : Int)]
 | 0, e, h => by simp [Jq] at h
 | i + 1, e, h => by
  rw [Jq] at h
  rcases List.mem_append.1 h with h | h
  ·obtain ⟨a, b, h1, h2, h3, h4⟩ := Zn8 i e h
   exact ⟨a, b, by omega, h2, h3, h4⟩
  ·obtain ⟨x, h1, h2⟩ := Zn7 _ e h
   exact ⟨i, i + 1 + x, by omega, by omega, by omega, h2⟩
instance fnOk177 : Zs Tryz.prog 177 := ⟨_, Tryz.func177, rfl, by decide⟩
def prR (P S : List Int) (n i : Nat) : List Int := (List.range n).map fun t => pe P S i t
def prM (P S : List Int) (n : Nat) (i : Nat) : List (List Int) := (List.range i).map fun t => prR P S n t
theorem Zri (P S : List Int) (n i : Nat) : (prR P S n i).length = n := by simp [prR]
theorem Zrj (P S : List Int) (n i : Nat) : (prM P S n i).length = i := by simp [prM]
theorem Zvm (P S : List Int) (n i : Nat) : prM P S n (i + 1) = prM P S n i ++ [prR P S n i] := by simp [prM, List.range_succ]
def prJ (P S : List Int) (n i j : Nat) : List Int := (List.range n).map fun t => if t < j /\ (P.getD i 0 = (t : Int) \/ S.getD i 0 = (t : Int)) then -1 else 0
theorem J6 (P S : List Int) (n i j : Nat) : (prJ P S n i j).length = n := by simp [prJ]
theorem Zh6 (P S : List Int) {n t : Nat} (i j : Nat) (h : t < n) : (prJ P S n i j).getD t 0 = if t < j /\ (P.getD i 0 = (t : Int) \/ S.getD i 0 = (t : Int)) then -1 else 0 := by simp [prJ, List.getD_eq_getElem?_getD, h]
theorem Zvn (P S : List Int) {n t : Nat} (i : Nat) (h : t < n) : (prR P S n i).getD t 0 = pe P S i t := by simp [prR, List.getD_eq_getElem?_getD, h]
theorem Zvo (P S : List Int) (n i : Nat) : prJ P S n i 0 = List.replicate n 0 := by simp [prJ, List.map_const']
theorem Zkd {A : List Int} {i k : Nat} {v : Int} (h : i < A.length) : (A.set i v).getD k 0 = if i = k then v else A.getD k 0 := by
 by_cases e : i = k
 ·subst e; rw [if_pos rfl, List.getD_eq_getElem?_getD, List.getElem?_set_self h]; rfl
 ·rw [if_neg e, List.getD_eq_getElem?_getD, List.getElem?_set_ne e, <- List.getD_eq_getElem?_getD]
theorem Zyl {P S : List Int} {n i j : Nat} (hj : j < n) (h : P.getD i 0 = (j : Int) \/ S.getD i 0 = (j : Int)) : (prJ P S n i j).set j (-1) = prJ P S n i (j + 1) := by
 refine Q8 (by simp [J6]) fun k hk => ?_
 simp only [List.length_set, J6] at hk
 rw [Zkd (by rw [J6]; exact hj), Zh6 _ _ _ _ hk, Zh6 _ _ _ _ hk]
 by_cases e : j = k
 ·subst e; rw [if_pos rfl, if_pos ⟨by omega, h⟩]
 ·rw [if_neg e]
  by_cases h2 : k < j
  ·simp [h2, show k < j + 1 by omega]
  ·rw [if_neg (fun q => h2 q.1), if_neg (fun q => by have := q.1; omega)]
theorem Xal {P S : List Int} {n i j : Nat} (h : ¬ (P.getD i 0 = (j : Int) \/ S.getD i 0 = (j : Int))) : prJ P S n i j = prJ P S n i (j + 1) := by
 refine Q8 (by simp [J6]) fun k hk => ?_
 simp only [J6] at hk
 rw [Zh6 _ _ _ _ hk, Zh6 _ _ _ _ hk]
 by_cases e : j = k
 ·subst e; rw [if_neg (fun q => by have := q.1; omega), if_neg (fun q => h q.2)]
 ·by_cases h2 : k < j
  ·simp [h2, show k < j + 1 by omega]
  ·rw [if_neg (fun q => h2 q.1), if_neg (fun q => by have := q.1; omega)]
theorem Zym {P S W : List Int} (h : Cl P S W) {i : Nat} (hi : i < P.length) : (prJ P S P.length i i).set i 1 = prR P S P.length i := by
 refine Q8 (by simp [J6, Zri]) fun k hk => ?_
 simp only [List.length_set, J6] at hk
 rw [Zkd (by rw [J6]; exact hi), Zh6 _ _ _ _ hk, Zvn _ _ _ hk, pe]
 by_cases e : i = k
 ·rw [if_pos e, if_pos e]
 ·rw [if_neg e, if_neg e]
  have hs := h.s i hi
  have hp : P.getD i 0 <= (i : Int) - 1 := by
   by_cases h0 : i = 0
   ·subst h0; have := h.p0.1; omega
   ·exact (h.p i j2 hi).2
  by_cases h2 : k < i
  ·simp [h2]
  ·rw [if_neg (fun q => h2 q.1), if_neg (fun q => by omega)]
theorem Zvp (P S W : List Int) (h : Cl P S W) : Zj Tryz.prog 177 [aCl P S W] [rLL (prM P S P.length P.length)] [] := by
 have hl := h.len
 have hS := h.lS
 refine cA_ _ Tryz.func177 rfl Tryz.ntmps177 sO_ ?_
 repeat' (first | (refine w2_ ?_ ?_ <;> intro _) | refine a1_ ?_|fail)
 refine WpA.loop_slots2 (fun i id => [(1, vCl P S W), (3, .own id (.sl true 1 (LL (prM P S P.length i)))), (4, vJ i)]) (fun i => i <= P.length) (fun i => P.length - i) 0 _ j2 ⟨rfl, xR_, rfl, trivial⟩ ?_
 intro i id s nx hi
 have hpl := Zrj P S P.length i
 by_cases hlt : i < P.length
 ·have hend := Zym h hlt
  have hst := Zvm P S P.length i
  rw [<- hend] at hst
  repeat' (first | (refine w2_ ?_ ?_ <;> intro _) | refine a1_ ?_|fail)
  all_goals try (exfalso; omega)
  refine WpA.loop_slots2 (fun j id5 => [(1, vCl P S W), (3, .own id (.sl true 1 (LL (prM P S P.length i)))), (4, vJ i), (5, .own id5 (.sl true 1 (Ze (prJ P S P.length i j)))), (6, vJ j)]) (fun j => j <= i) (fun j => i - j) 0 _ j2 ⟨rfl, rfl, rfl, by exact Zq (Zvo P S P.length i).symm, rfl, trivial⟩ ?_
  intro j id5 s nx hj
  have hjl := J6 P S P.length i j
  by_cases hji : j < i
  ·have hN := Zrh P S W i j j2 hS hl.2
   by_cases hn : P.getD i 0 = (j : Int) \/ S.getD i 0 = (j : Int)
   ·have e := Zyl (P := P) (S := S) (n := P.length) (i := i) (j := j) j2 hn
    rw [decide_eq_true (show Zh3 P S ((i : Int).toNat * 1) j from ⟨by omega, by simpa using hn⟩)] at hN
    rw [show (prJ P S P.length i j).set j (-1) = (prJ P S P.length i j).set (j * 1) (-1) by rw [Nat.mul_one]] at e
    clear hst hend h
    repeat' (first | (refine w2_ ?_ ?_ <;> intro _) | (guard_target =~ Zh; first | refine Za.cons (sC_ (hN) (.sh (.sh (.sh .nil))) (.shAgg rfl gA_ (.sh wS_ (.sh wS_ .nil))) rfl) ?_) | refine a1_ ?_|fail)
    all_goals try (exfalso; omega)
    all_goals exact ⟨j + 1, by omega, ⟨_, rfl, rfl, rfl, by exact Zq e, Zb j2, trivial⟩, by omega⟩
   ·have e := Xal (P := P) (S := S) (n := P.length) (i := i) (j := j) hn
    rw [decide_eq_false (show ¬ Zh3 P S ((i : Int).toNat * 1) j from fun q => hn (by simpa using q.2))] at hN
    clear hst hend h
    repeat' (first | (refine w2_ ?_ ?_ <;> intro _) | (guard_target =~ Zh; first | refine Za.cons (sC_ (hN) (.sh (.sh (.sh .nil))) (.shAgg rfl gA_ (.sh wS_ (.sh wS_ .nil))) rfl) ?_) | refine a1_ ?_|fail)
    all_goals try (exfalso; omega)
    all_goals exact ⟨j + 1, by omega, ⟨_, rfl, rfl, rfl, by exact Zq e, Zb j2, trivial⟩, by omega⟩
  ·obtain rfl : j = i := by omega
   rw [show (prJ P S P.length j j).set j 1 = (prJ P S P.length j j).set (j * 1) 1 by rw [Nat.mul_one]] at hst
   clear hend h
   repeat' (first | (refine w2_ ?_ ?_ <;> intro _) | refine a1_ ?_|fail)
   all_goals try (exfalso; omega)
   all_goals exact ⟨j + 1, by omega, ⟨_, rfl, by exact V1 hst.symm, Zb j2, trivial⟩, by omega⟩
 ·obtain rfl : i = P.length := by omega
  repeat' (first | (refine w2_ ?_ ?_ <;> intro _) | refine a1_ ?_|fail)
  all_goals first | rfl | (exfalso; omega)
instance fnOk151 : Zs Tryz.prog 151 := ⟨_, Tryz.func151, rfl, by decide⟩
def mtR (P S : List Int) (n i : Nat) (k : Nat) : List Int := (List.range k).map fun t => Uz P S n i t
def mtM (P S : List Int) (n : Nat) (i : Nat) : List (List Int) := (List.range i).map fun t => mtR P S n t n
theorem Zrk (P S : List Int) (n i k : Nat) : (mtR P S n i k).length = k := by simp [mtR]
theorem Zrl (P S : List Int) (n i : Nat) : (mtM P S n i).length = i := by simp [mtM]
theorem Zvq (P S : List Int) (n i k : Nat) : mtR P S n i (k + 1) = mtR P S n i k ++ [Uz P S n i k] := by simp [mtR, List.range_succ]
theorem Zvr (P S : List Int) (n i : Nat) : mtM P S n (i + 1) = mtM P S n i ++ [mtR P S n i n] := by simp [mtM, List.range_succ]
theorem Zvs (P S : List Int) (n : Nat) {m i : Nat} (h : i < m) : (prM P S n m).getD i [] = prR P S n i := by simp [prM, List.getD_eq_getElem?_getD, h]
theorem Zvt (P S W : List Int) (h : Cl P S W) : Zj Tryz.prog 151 [aCl P S W] [rLL (mtM P S P.length P.length)] [] := by
 have hl := h.len
 have hP := Zvp P S W h
 have hML := Zrj P S P.length P.length
 have hrl : ∀ i, i < P.length -> ((prM P S P.length P.length).getD i []).length = P.length := fun i hi => by rw [Zvs _ _ _ hi, Zri]
 have hat : ∀ i k, i < P.length -> k < P.length -> ((prM P S P.length P.length).getD i []).getD k 0 = pe P S i k := fun i k hi hk => by rw [Zvs _ _ _ hi, Zvn _ _ _ hk]
 generalize prM P S P.length P.length = M at *
 refine cA_ _ Tryz.func151 rfl Tryz.ntmps151 sO_ ?_
 repeat' (first | (refine w2_ ?_ ?_ <;> intro _) | (guard_target =~ Zh; first | refine Za.cons (sC_ (hP) (.sh .nil) (.shAgg rfl gA_ .nil) rfl) ?_) | refine a1_ ?_|fail)
 clear hP h
 refine WpA.loop_ids2 (fun i i3 i4 => [(3, .own i3 (.sl true 1 (LL M))), (4, .own i4 (.sl true 1 (LL (mtM P S P.length i)))), (5, vJ i)]) (fun i => i <= P.length) (fun i => P.length - i) 0 _ _ j2 ⟨xR_, xR_, rfl, trivial⟩ ?_
 intro i i3 i4 s nx hi
 have hl1 := Zrl P S P.length i
 by_cases hlt : i < P.length
 ·have hst := Zvr P S P.length i
  repeat' (first | (refine w2_ ?_ ?_ <;> intro _) | refine a1_ ?_|fail)
  all_goals try (exfalso; omega)
  refine WpA.loop_ids3 (fun k i3 i4 i6 => [(3, .own i3 (.sl true 1 (LL M))), (4, .own i4 (.sl true 1 (LL (mtM P S P.length i)))), (5, vJ i), (6, .own i6 (.sl true 1 (Ze (mtR P S P.length i k)))), (7, vJ k)]) (fun k => k <= P.length) (fun k => P.length - k) 0 _ _ _ j2 ⟨rfl, rfl, rfl, by exact Zq (l := []) rfl, rfl, trivial⟩ ?_
  intro k i3 i4 i6 s nx hk
  have hl2 := Zrk P S P.length i k
  by_cases hkl : k < P.length
  ·have hst2 := Zvq P S P.length i k
   repeat' (first | (refine w2_ ?_ ?_ <;> intro _) | refine a1_ ?_|fail)
   all_goals try (exfalso; omega)
   refine WpA.loop_ids3 (fun j i3 i4 i6 => [(3, .own i3 (.sl true 1 (LL M))), (4, .own i4 (.sl true 1 (LL (mtM P S P.length i)))), (5, vJ i), (6, .own i6 (.sl true 1 (Ze (mtR P S P.length i k)))), (7, vJ k), (8, vJ (Uz P S j i k)), (9, vJ j)]) (fun j => j <= P.length) (fun j => P.length - j) 0 _ _ _ j2 ⟨rfl, rfl, rfl, rfl, rfl, rfl, rfl, trivial⟩ ?_
   intro j i3 i4 i6 s nx hj
   by_cases hjl : j < P.length
   ·have r1 := hrl (j * 1) j2
    have a1 := hat (j * 1) (i * 1) j2 j2
    have a2 := hat (j * 1) (k * 1) j2 j2
    have m1 := Zvl P S (j * 1) (i * 1) (k * 1)
    have m2 := Zlp P S i k j
    have e : Uz P S j i k - (M.getD (j * 1) []).getD (i * 1) 0 * (M.getD (j * 1) []).getD (k * 1) 0 = Uz P S (j + 1) i k := by rw [a1, a2]; simp only [Nat.mul_one]; rfl
    rw [<- a1, <- a2] at m1
    clear a1 a2 hrl hat hst hst2
    repeat' (first | (refine w2_ ?_ ?_ <;> intro _) | refine a1_ ?_|fail)
    all_goals try (exfalso; omega)
    all_goals exact ⟨j + 1, by omega, ⟨_, _, _, rfl, rfl, rfl, rfl, rfl, Zb e, Zb j2, trivial⟩, by omega⟩
   ·obtain rfl : j = P.length := by omega
    clear hrl hat hst
    repeat' (first | (refine w2_ ?_ ?_ <;> intro _) | refine a1_ ?_|fail)
    all_goals try (exfalso; omega)
    all_goals exact ⟨k + 1, by omega, ⟨_, _, _, rfl, rfl, rfl, by exact Zq hst2.symm, Zb j2, trivial⟩, by omega⟩
  ·obtain rfl : k = P.length := by omega
   clear hrl hat
   repeat' (first | (refine w2_ ?_ ?_ <;> intro _) | refine a1_ ?_|fail)
   all_goals try (exfalso; omega)
   all_goals exact ⟨i + 1, by omega, ⟨_, _, rfl, by exact V1 hst.symm, Zb j2, trivial⟩, by omega⟩
 ·obtain rfl : i = P.length := by omega
  clear hrl hat
  repeat' (first | (refine w2_ ?_ ?_ <;> intro _) | refine a1_ ?_|fail)
  all_goals first | rfl | (exfalso; omega)
instance fnOk101 : Zs Tryz.prog 101 := ⟨_, Tryz.func101, rfl, by decide⟩
def Hr (P S : List Int) (n i : Nat) : List Int := (List.range i).map fun t => Uz P S n t t
theorem Zn9 (P S : List Int) (n i : Nat) : (Hr P S n i).length = i := by simp [Hr]
theorem Zst (P S : List Int) (n i : Nat) : Hr P S n (i + 1) = Hr P S n i ++ [Uz P S n i i] := by simp [Hr, List.range_succ]
theorem Zvu (P S : List Int) (n : Nat) {m i : Nat} (h : i < m) : (mtM P S n m).getD i [] = mtR P S n i n := by simp [mtM, List.getD_eq_getElem?_getD, h]
theorem Xam (P S : List Int) (n i : Nat) {k m : Nat} (h : k < m) : (mtR P S n i m).getD k 0 = Uz P S n i k := by simp [mtR, List.getD_eq_getElem?_getD, h]
abbrev dGr (w : List Int) (E : List (List Int)) : D := .pt true [.sl true 1 (Ze w), .sl true 1 (LL E)]
theorem H8 {id : Nat} {w w' : List Int} {E E' : List (List Int)} (h : w = w') (h2 : E = E') : AV.own id (dGr w E) = AV.own id (dGr w' E') := by rw [h, h2]
theorem Zoa (P S W : List Int) (h : Cl P S W) : Zj Tryz.prog 101 [aCl P S W] [.agg [.sl true 1 (Ze (Hr P S P.length P.length)), .sl true 1 (LL (Jq P S P.length P.length))]] [] := by
 have hl := h.len
 have hM := Zvt P S W h
 have hML := Zrl P S P.length P.length
 have hrl : ∀ i, i < P.length -> ((mtM P S P.length P.length).getD i []).length = P.length := fun i hi => by rw [Zvu _ _ _ hi, Zrk]
 have hat : ∀ i k, i < P.length -> k < P.length -> ((mtM P S P.length P.length).getD i []).getD k 0 = Uz P S P.length i k := fun i k hi hk => by rw [Zvu _ _ _ hi, Xam _ _ _ _ hk]
 generalize mtM P S P.length P.length = M at *
 refine cA_ _ Tryz.func101 rfl Tryz.ntmps101 sO_ ?_
 repeat' (first | (refine w2_ ?_ ?_ <;> intro _) | (guard_target =~ Zh; first | refine Za.cons (sC_ (hM) (.sh .nil) (.shAgg rfl gA_ .nil) rfl) ?_) | refine ac_ ?_|fail)
 clear hM h
 refine WpA.loop_ids2 (fun i i3 i4 => [(2, .own 2 (.pt true [.sl true 1 [], .sl true 1 []])), (3, .own i3 (dGr (Hr P S P.length i) (Jq P S P.length i))), (4, .own i4 (.sl true 1 (LL M))), (5, vJ i)]) (fun i => i <= P.length) (fun i => P.length - i) 0 _ _ j2 ⟨rfl, xR_, xR_, rfl, trivial⟩ ?_
 intro i i3 i4 s nx hi
 have hwl := Zn9 P S P.length i
 have hel := Zh5 P S P.length i
 have hin : i * P.length <= 24 * 24 := Nat.mul_le_mul j2 hl.2
 by_cases hlt : i < P.length
 ·have r1 := hrl (i * 1) j2
  have a1 := hat (i * 1) (i * 1) j2 j2
  have hw := Zst P S P.length i
  have e1 : Hr P S P.length i ++ [(M.getD (i * 1) []).getD (i * 1) 0] = Hr P S P.length (i + 1) := by rw [hw, a1]; simp only [Nat.mul_one]
  repeat' (first | (refine w2_ ?_ ?_ <;> intro _) | refine ac_ ?_|fail)
  all_goals try (exfalso; omega)
  refine WpA.loop_ids2 (fun m i3 i4 => [(2, .own 2 (.pt true [.sl true 1 [], .sl true 1 []])), (3, .own i3 (dGr (Hr P S P.length (i + 1)) (Jq P S P.length i ++ Zag P S P.length i m))), (4, .own i4 (.sl true 1 (LL M))), (5, vJ i), (6, vJ (i + 1 + m : Nat))]) (fun m => m <= P.length - 1 - i) (fun m => P.length - m) 0 _ _ j2 ⟨rfl, by exact H8 e1 (by simp [Zag]), rfl, rfl, Zb (by simp), trivial⟩ ?_
  clear a1 r1 e1 hw
  intro m i3 i4 s nx hm
  have hrw := Zh4 P S P.length i m
  by_cases hml : i + 1 + m < P.length
  ·have r1 := hrl (i * 1) j2
   have a1 := hat (i * 1) ((i + 1 + m) * 1) j2 j2
   have hr : Zag P S P.length i (m + 1) = Zag P S P.length i m ++ if Uz P S P.length i (i + 1 + m) = 1 then [[(i : Int), ((i + 1 + m : Nat) : Int)]] else [] := rfl
   have hEl : (Jq P S P.length i ++ Zag P S P.length i m).length <= 1000 := by rw [List.length_append]; omega
   have a2 : Uz P S P.length i (i + 1 + m) = (M.getD (i * 1) []).getD ((i + 1 + m) * 1) 0 := by rw [a1]; simp only [Nat.mul_one]
   rw [a2] at hr
   by_cases h1 : (M.getD (i * 1) []).getD ((i + 1 + m) * 1) 0 = 1
   ·rw [if_pos h1] at hr
    have e2 : (Jq P S P.length i ++ Zag P S P.length i m) ++ [[(i : Int), ((i + 1 + m : Nat) : Int)]] = Jq P S P.length i ++ Zag P S P.length i (m + 1) := by rw [hr, List.append_assoc]
    generalize Jq P S P.length i ++ Zag P S P.length i m = EE at *
    clear hrl hat a1 a2
    repeat' (first | (refine w2_ ?_ ?_ <;> intro _) | refine ac_ ?_|fail)
    all_goals try (exfalso; omega)
    all_goals exact ⟨m + 1, by omega, ⟨_, _, rfl, by exact H8 rfl e2, rfl, rfl, Zb j2, trivial⟩, by omega⟩
   ·rw [if_neg h1, List.append_nil] at hr
    rw [<- hr]
    clear hrl hat a1 a2
    repeat' (first | (refine w2_ ?_ ?_ <;> intro _) | refine ac_ ?_|fail)
    all_goals try (exfalso; omega)
    all_goals exact ⟨m + 1, by omega, ⟨_, _, rfl, by exact H8 rfl (by rw [hr]), rfl, rfl, Zb j2, trivial⟩, by omega⟩
  ·obtain rfl : m = P.length - 1 - i := by omega
   have e3 : Jq P S P.length i ++ Zag P S P.length i (P.length - 1 - i) = Jq P S P.length (i + 1) := rfl
   clear hrl hat
   repeat' (first | (refine w2_ ?_ ?_ <;> intro _) | refine ac_ ?_|fail)
   all_goals try (exfalso; omega)
   all_goals exact ⟨i + 1, by omega, ⟨_, _, rfl, by exact H8 rfl e3, rfl, Zb j2, trivial⟩, by omega⟩
 ·obtain rfl : i = P.length := by omega
  clear hrl hat
  repeat' (first | (refine w2_ ?_ ?_ <;> intro _) | refine ac_ ?_|fail)
  all_goals first | rfl | (exfalso; omega)
end Go.Proofs.YtmgmpnhlehonmaaGreat
namespace Go.Proofs.YtmgmpnhlehonmaaGreat
theorem Zzt {P S W : List Int} (h : Cl P S W) {j k : Nat} (hj : j < P.length) (hk : j < k) : pe P S j k = 0 := by
 unfold pe
 rw [if_neg (by omega), if_neg]
 by_cases h0 : j = 0
 ·subst h0
  have := h.p0
  omega
 ·have h1 := (h.p j (by omega) hj).2
  have h2 := h.s j hj
  omega
theorem Zyn (P S : List Int) (j : Nat) : pe P S j j = 1 := if_pos rfl
theorem Zvv {P S W : List Int} (h : Cl P S W) {a b : Nat} : ∀ n, n <= P.length -> (n <= a \/ n <= b) -> Uz P S n a b = 0
 | 0, _, _ => rfl
 | n + 1, hn, hab => by
  rw [Uz, Zvv h n (by omega) (by omega)]
  rcases hab with q | q
  ·rw [Zzt h (by omega) (show n < a by omega)]; simp
  ·rw [Zzt h (by omega) (show n < b by omega)]; simp
theorem Zp3 {P S W : List Int} (h : Cl P S W) {n a : Nat} (ha : a < n) : pe P S n a = if (a : Int) = P.getD n 0 \/ (a : Int) = S.getD n 0 then -1 else 0 := by
 unfold pe
 rw [if_neg (by omega)]
 by_cases h1 : (a : Int) = P.getD n 0 \/ (a : Int) = S.getD n 0
 ·rw [if_pos h1, if_pos (by omega)]
 ·rw [if_neg h1, if_neg (by omega)]
theorem Xan {P S W : List Int} (h : Cl P S W) {n : Nat} (h1 : 1 <= n) (hn : n < P.length) (hs : 0 <= S.getD n 0) : (S.getD n 0 < P.getD n 0) /\ Uz P S n (S.getD n 0).toNat (P.getD n 0).toNat = 1 := by
 have hp := h.p n h1 hn
 have hsp : 0 <= S.getD n 0 /\ (S.getD n 0 = P.getD (P.getD n 0).toNat 0 \/ S.getD n 0 = S.getD (P.getD n 0).toNat 0) := by
  rcases h.sp n h1 hn with q | q
  ·omega
  ·exact q
 obtain ⟨p, ep⟩ : ∃ p : Nat, P.getD n 0 = p := ⟨(P.getD n 0).toNat, by omega⟩
 obtain ⟨q, eq⟩ : ∃ q : Nat, S.getD n 0 = q := ⟨(S.getD n 0).toNat, by omega⟩
 have hfr := fun j (hj : j < n) => h.fresh n j hn hj
 simp only [ep, eq, Int.toNat_natCast] at hp hsp hfr hs ⊢
 have hp0 : p ≠ 0 := by
  intro e
  subst e
  have := h.p0
  omega
 have hqp : q < p := by
  have h2 := (h.p p (by omega) (by omega)).2
  have h3 := h.s p (by omega)
  omega
 refine ⟨by omega, ?_⟩
 have key : ∀ j, p < j -> j <= n -> Uz P S j q p = 1 := by
  intro j
  induction j with
  | zero => intro a; omega
  | succ j ih =>
   intro hj hjn
   rw [Uz]
   by_cases e : j = p
   ·subst e
    rw [Zvv h j (by omega) (.inr (Nat.le_refl _)), Zyn, Zp3 h hqp, if_pos (by omega)]
    decide
   ·rw [ih (by omega) (by omega)]
    have h4 : pe P S j q * pe P S j p = 0 := by
     rw [Zp3 h (by omega), Zp3 h (by omega)]
     by_cases c1 : (p : Int) = P.getD j 0 \/ (p : Int) = S.getD j 0
     ·by_cases c2 : (q : Int) = P.getD j 0 \/ (q : Int) = S.getD j 0
      ·exfalso
       rcases c1 with c1 | c1
       ·rcases c2 with c2 | c2
        ·omega
        ·exact hfr j (by omega) ⟨by omega, by omega, by omega⟩
       ·rcases c2 with c2 | c2
        ·have h5 : 0 <= S.getD j 0 /\ (S.getD j 0 = P.getD (P.getD j 0).toNat 0 \/ S.getD j 0 = S.getD (P.getD j 0).toNat 0) := by
          rcases h.sp j (by omega) (by omega) with q | q
          ·omega
          ·exact q
         rw [<- c2, Int.toNat_natCast] at h5
         by_cases hq0 : q = 0
         ·subst hq0
          have := h.p0
          omega
         ·have h6 := (h.p q (by omega) (by omega)).2
          have h7 := h.s q (by omega)
          omega
        ·omega
      ·rw [if_neg c2]; simp
     ·rw [if_neg c1]; simp
    rw [h4]
    decide
 exact key n (by omega) (Nat.le_refl _)
theorem Zvw (a : Int -> Int) {E : List (List Int)} (hE : Zdx E) {n : Int} (hn : ∀ e ∈ E, e0 e ≠ n /\ e1 e ≠ n) {V : List Int} (hV : V.Nodup) (hnV : n ∉ V) : Dm a E (n :: V) = a n * Dm a E V := by
 have key : ∀ F : List (List Int), (∀ e ∈ F, e0 e ≠ n /\ e1 e ≠ n) -> nbs n F = [] := by
  intro F
  induction F with
  | nil => exact fun _ => rfl
  | cons e F ih => intro h; rw [nbs, if_neg (h e (by simp)).1, if_neg (h e (by simp)).2, ih fun f hf => h f (by simp [hf])]
 rw [Zj4 a E hE (List.nodup_cons.2 ⟨hnV, hV⟩) (v := n) (by simp), key E hn, smL, Yu, Jx hnV]
 omega
theorem Zob (a : Int -> Int) {E : List (List Int)} {n : Int} {U : List Int} (hU : U.Nodup) (hn : n ∈ U) : Dm a E U = Dm a E (n :: wo U n) := by
 refine Jn a E ?_
 rw [List.perm_ext_iff_of_nodup hU (List.nodup_cons.2 ⟨fun q => (Zl.1 q).2 rfl, Zw hU n⟩)]
 intro x
 rw [List.mem_cons, Zl]
 constructor
 ·intro hx
  by_cases e : x = n
  ·exact .inl e
  ·exact .inr ⟨hx, e⟩
 ·rintro (rfl | q)
  ·exact hn
  ·exact q.1
def Pos (w : List Int) (E : List (List Int)) : Prop := ∀ U : List Int, U.Nodup -> (∀ x ∈ U, 0 <= x /\ x < w.length) -> 0 < Dm (awt w) E U
theorem Pos.bv {w : List Int} {E : List (List Int)} (h : Pos w E) (hg : Zp w E) {v : Int} (hv : 0 <= v /\ v < w.length) : Pos (bvW w v) (bvE w E v) := by
 intro U hU hin
 rw [Zyj] at hin
 by_cases hn : (w.length : Int) ∈ U
 ·have hW := Zw hU (w.length : Int)
  have hWin : ∀ x ∈ wo U (w.length : Int), 0 <= x /\ x < w.length := fun x hx => by
   have h1 := Zl.1 hx
   have := hin x h1.1
   omega
  rw [Zob _ hU hn]
  have e := Xbo hg hv hW hWin
  by_cases hvU : v ∈ wo U (w.length : Int)
  ·rw [if_pos hvU] at e
   rw [e]
   exact h _ hW hWin
  ·rw [if_neg hvU] at e
   have hnW : (w.length : Int) ∉ wo U (w.length : Int) := fun q => (Zl.1 q).2 rfl
   rw [Wg _ Zf7, Jy _ E (by
    rintro ⟨q, _⟩
    rcases List.mem_cons.1 q with q | q
    ·have : v = (w.length : Int) := by simpa [e0] using q
     omega
    ·exact hvU (by simpa [e0] using q)), Zvw _ (Zdy hg.2.2.1) ?_ hW hnW, Zrg hv, Int.one_mul]
   ·rw [Wg _ Zf7, Jy _ E (fun q => hvU (by simpa [e0] using q.1))] at e
    rw [e]
    exact h _ hW hWin
   ·intro e he
    obtain ⟨a, b, rfl, h1, h2, h3⟩ := Qe hg.2.2.1 e he
    show a ≠ _ /\ b ≠ _
    omega
 ·have hin2 : ∀ x ∈ U, 0 <= x /\ x < w.length := fun x hx => by
   have := hin x hx
   have : x ≠ (w.length : Int) := fun e => hn (e ▸ hx)
   omega
  rw [Wg _ Zf7, Jy _ E (fun q => hn (by simpa [e1] using q.2))]
  by_cases hvU : v ∈ U
  ·rw [Zhv (a := awt w) (b := awt (bvW w v)) (Zdy hg.2.2.1) hU hvU (by rw [Zbf hv hv, if_pos rfl]) (fun x hx hne => by rw [Zbf hv (hin2 x hx), if_neg hne, Int.add_zero])]
   have h1 := h U hU hin2
   have h2 := h (wo U v) (Zw hU v) (fun x hx => hin2 x (Zl.1 hx).1)
   omega
  ·rw [Uu (b := awt w) E (fun x hx => by rw [Zbf hv (hin2 x hx), if_neg (fun (e : x = v) => hvU (e ▸ hx)), Int.add_zero])]
   exact h U hU hin2
theorem Zd4 (a : Int -> Int) {E : List (List Int)} (hE : Zdx E) {V : List Int} (hn : V.Nodup) (v : Int) : Dm (fun x => a x + if x = v then 1 else 0) E V = Dm a E V + if v ∈ V then Dm a E (wo V v) else 0 := by
 by_cases h : v ∈ V
 ·rw [if_pos h]
  exact Zhv hE hn h (by simp) (fun x _ hne => by simp [hne])
 ·rw [if_neg h, Int.add_zero]
  exact Uu E fun x hx => by
   have : x ≠ v := fun e => h (e ▸ hx)
   simp [this]
theorem Xao {w : List Int} {i k : Int} (hi : 0 <= i /\ i < w.length) (hk : 0 <= k /\ k < w.length) (hik : i ≠ k) {x : Int} (hx : 0 <= x /\ x < w.length) : awt (beW w i k) x = (awt w x + if x = i then 1 else 0) + if x = k then 1 else 0 := by
 unfold awt
 rw [Zvj hi hk hik, if_neg (by omega), show ((x.toNat : Nat) : Int) = x by omega]
 by_cases h1 : x = i
 ·rw [if_pos (.inl h1), if_pos h1, if_neg (by omega)]; omega
 ·by_cases h2 : x = k
  ·rw [if_pos (.inr h2), if_neg h1, if_pos h2]; omega
  ·rw [if_neg (by omega), if_neg h1, if_neg h2]; omega
theorem Zyo {w : List Int} {i k : Int} (hi : 0 <= i /\ i < w.length) (hk : 0 <= k /\ k < w.length) (hik : i ≠ k) : awt (beW w i k) w.length = 1 := by
 unfold awt
 rw [Int.toNat_natCast, Zvj hi hk hik, if_pos rfl]
 rfl
theorem Zyp (w : List Int) (E : List (List Int)) (i k : Int) : (beE w E i k).Perm ([i, (w.length : Int)] :: [k, (w.length : Int)] :: E.filter fun e => decide (e ≠ [min i k, max i k])) := by
 unfold beE
 refine (Jp _).trans ?_
 rw [Xaj]
 exact List.perm_append_comm
theorem Pos.be {w : List Int} {E : List (List Int)} (h : Pos w E) (hg : Zp w E) {i k : Int} (hi : 0 <= i /\ i < w.length) (hk : 0 <= k /\ k < w.length) (ha : Adj E i k) : Pos (beW w i k) (beE w E i k) := by
 have hik := (hg.2.2.1.adj ha).2.2
 have hperm := Zyp w E i k
 have hr := Xak hg.2.2.1 ha
 have hEp : E.Perm ([min i k, max i k] :: E.filter fun e => decide (e ≠ [min i k, max i k])) := by
  rw [List.perm_ext_iff_of_nodup (Zh2 hg.2.2.1) (List.nodup_cons.2 ⟨by simp, (Zh2 hg.2.2.1).filter _⟩)]
  intro e
  rw [List.mem_cons, List.mem_filter, decide_eq_true_eq]
  constructor
  ·intro he
   by_cases q : e = [min i k, max i k]
   ·exact .inl q
   ·exact .inr ⟨he, q⟩
  ·rintro (rfl | q)
   ·exact hr
   ·exact q.1
 have hF : ∀ e ∈ E.filter (fun e => decide (e ≠ [min i k, max i k])), e ∈ E := fun e he => (List.mem_filter.1 he).1
 generalize hFF : E.filter (fun e => decide (e ≠ [min i k, max i k])) = F at *
 have nlF : Zdx F := fun e he => Zdy hg.2.2.1 e (hF e he)
 have inF : ∀ e ∈ F, e0 e ≠ (w.length : Int) /\ e1 e ≠ (w.length : Int) := fun e he => by
  obtain ⟨a, b, rfl, h1, h2, h3⟩ := Qe hg.2.2.1 e (hF e he)
  show a ≠ _ /\ b ≠ _
  omega
 -- the old graph by F
 have hold : ∀ V : List Int, Dm (awt w) E V = Dm (awt w) F V - if i ∈ V /\ k ∈ V then Dm (awt w) F (wo (wo V i) k) else 0 := fun V => by
  rw [Wg _ hEp, Dm]
  by_cases hlt : i < k
  ·rw [show e0 [min i k, max i k] = i by show min i k = i; omega, show e1 [min i k, max i k] = k by show max i k = k; omega]
  ·rw [show e0 [min i k, max i k] = k by show min i k = k; omega, show e1 [min i k, max i k] = i by show max i k = i; omega, Vy V k i]
   by_cases c : i ∈ V /\ k ∈ V
   ·rw [if_pos c, if_pos ⟨c.2, c.1⟩]
   ·rw [if_neg c, if_neg (fun q => c ⟨q.2, q.1⟩)]
 have hpos : ∀ V : List Int, V.Nodup -> (∀ x ∈ V, 0 <= x /\ x < w.length) -> 0 < Dm (awt w) F V := fun V hV hin => by
  have h1 := h V hV hin
  have h2 := hold V
  by_cases c : i ∈ V /\ k ∈ V
  ·rw [if_pos c] at h2
   have h3 := hold (wo (wo V i) k)
   rw [if_neg (fun q => (Zl.1 q.2).2 rfl)] at h3
   have h4 := h (wo (wo V i) k) (Zw (Zw hV i) k) (fun x hx => hin x (Zl.1 (Zl.1 hx).1).1)
   omega
  ·rw [if_neg c] at h2
   omega
 -- the new numbers by the old ones
 have hnew : ∀ V : List Int, V.Nodup -> (∀ x ∈ V, 0 <= x /\ x < w.length) -> Dm (awt (beW w i k)) F V = (Dm (awt w) F V + if i ∈ V then Dm (awt w) F (wo V i) else 0) + if k ∈ V then (Dm (awt w) F (wo V k) + if i ∈ wo V k then Dm (awt w) F (wo (wo V k) i) else 0) else 0 := fun V hV hin => by
  rw [Uu (b := fun x => (fun x => awt w x + if x = i then 1 else 0) x + if x = k then 1 else 0) F (fun x hx => Xao hi hk hik (hin x hx)), Zd4 _ nlF hV, Zd4 _ nlF hV, Zd4 _ nlF (Zw hV k)]
 intro U hU hin
 rw [Zyk] at hin
 rw [Wg _ hperm]
 by_cases hn : (w.length : Int) ∈ U
 ·have hW := Zw hU (w.length : Int)
  have hWin : ∀ x ∈ wo U (w.length : Int), 0 <= x /\ x < w.length := fun x hx => by
   have h1 := Zl.1 hx
   have := hin x h1.1
   omega
  have hnW : (w.length : Int) ∉ wo U (w.length : Int) := fun q => (Zl.1 q).2 rfl
  rw [Zob _ hU hn]
  generalize wo U (w.length : Int) = V at *
  have hin1 : ∀ x : Int, x ≠ (w.length : Int) -> (x ∈ (w.length : Int) :: V ↔ x ∈ V) := fun x hx => by
   rw [List.mem_cons]
   exact ⟨fun q => q.resolve_left hx, .inr⟩
  have eX : Dm (awt (beW w i k)) ([k, (w.length : Int)] :: F) ((w.length : Int) :: V) = Dm (awt (beW w i k)) F V - if k ∈ V then Dm (awt (beW w i k)) F (wo V k) else 0 := by
   rw [Dm, Zvw _ nlF inF hW hnW, Zyo hi hk hik, Int.one_mul]
   congr 1
   rw [show e0 [k, (w.length : Int)] = k from rfl, show e1 [k, (w.length : Int)] = (w.length : Int) from rfl, Vy, Yu, Jx hnW]
   by_cases c : k ∈ V
   ·rw [if_pos c, if_pos (show k ∈ (w.length : Int) :: V /\ (w.length : Int) ∈ (w.length : Int) :: V from ⟨List.mem_cons_of_mem _ c, List.mem_cons_self⟩)]
   ·rw [if_neg c, if_neg (show ¬ (k ∈ (w.length : Int) :: V /\ (w.length : Int) ∈ (w.length : Int) :: V) from fun q => c ((hin1 k (by omega)).1 q.1))]
  have eY : Dm (awt (beW w i k)) ([k, (w.length : Int)] :: F) (wo V i) = Dm (awt (beW w i k)) F (wo V i) := Jy _ F (fun q => hnW (Zl.1 (show (w.length : Int) ∈ wo V i from q.2)).1)
  rw [Dm, eX, show e0 [i, (w.length : Int)] = i from rfl, show e1 [i, (w.length : Int)] = (w.length : Int) from rfl, Vy, Yu, Jx hnW, eY]
  have a1 := hnew V hW hWin
  have a2 := hnew (wo V k) (Zw hW k) (fun x hx => hWin x (Zl.1 hx).1)
  have a3 := hnew (wo V i) (Zw hW i) (fun x hx => hWin x (Zl.1 hx).1)
  have b1 := h V hW hWin
  have b2 := hold V
  have c1 : i ∉ wo V i := fun q => (Zl.1 q).2 rfl
  have c2 : k ∉ wo V k := fun q => (Zl.1 q).2 rfl
  rw [if_neg c2] at a2
  rw [if_neg c1] at a3
  have c3 : i ∈ wo V k ↔ i ∈ V := by rw [Zl]; exact ⟨fun q => q.1, fun q => ⟨q, hik⟩⟩
  have c4 : k ∈ wo V i ↔ k ∈ V := by rw [Zl]; exact ⟨fun q => q.1, fun q => ⟨q, fun e => hik e.symm⟩⟩
  have c5 : i ∉ wo (wo V i) k := fun q => (Zl.1 (Zl.1 q).1).2 rfl
  rw [Vy V k i] at a1 a2
  by_cases ci : i ∈ V
  ·rw [if_pos (show i ∈ (w.length : Int) :: V /\ (w.length : Int) ∈ (w.length : Int) :: V from ⟨List.mem_cons_of_mem _ ci, List.mem_cons_self⟩)]
   by_cases ck : k ∈ V
   ·rw [if_pos ck]
    rw [if_pos ci, if_pos ck, if_pos (c3.2 ci)] at a1
    rw [if_pos (c3.2 ci)] at a2
    rw [if_pos (c4.2 ck), if_neg c5] at a3
    rw [if_pos ⟨ci, ck⟩] at b2
    omega
   ·rw [if_neg ck]
    rw [if_pos ci, if_neg ck] at a1
    rw [if_neg (fun q => ck (c4.1 q))] at a3
    rw [if_neg (fun q => ck q.2)] at b2
    omega
  ·rw [if_neg (show ¬ (i ∈ (w.length : Int) :: V /\ (w.length : Int) ∈ (w.length : Int) :: V) from fun q => ci ((hin1 i (by omega)).1 q.1))]
   by_cases ck : k ∈ V
   ·rw [if_pos ck]
    rw [if_neg ci, if_pos ck, if_neg (fun q => ci (c3.1 q))] at a1
    rw [if_neg (fun q => ci (c3.1 q))] at a2
    rw [if_neg (fun q => ci q.1)] at b2
    omega
   ·rw [if_neg ck]
    rw [if_neg ci, if_neg ck] at a1
    rw [if_neg (fun q => ci q.1)] at b2
    omega
 ·have hin2 : ∀ x ∈ U, 0 <= x /\ x < w.length := fun x hx => by
   have := hin x hx
   have : x ≠ (w.length : Int) := fun e => hn (e ▸ hx)
   omega
  rw [Jy _ _ (fun q => hn q.2), Jy _ _ (fun q => hn q.2), hnew U hU hin2]
  have h1 := hpos U hU hin2
  have h2 := hpos (wo U i) (Zw hU i) (fun x hx => hin2 x (Zl.1 hx).1)
  have h3 := hpos (wo U k) (Zw hU k) (fun x hx => hin2 x (Zl.1 hx).1)
  have h4 := hpos (wo (wo U k) i) (Zw (Zw hU k) i) (fun x hx => hin2 x (Zl.1 (Zl.1 hx).1).1)
  split <;> split <;> (try split) <;> omega
end Go.Proofs.YtmgmpnhlehonmaaGreat
namespace Go.Proofs.YtmgmpnhlehonmaaGreat
set_option maxHeartbeats 20000000
open Go.Pv
open Go.ChangeShapes Go.WideShapes Go.ChangeAt Go.RowKit
attribute [local irreducible] Za WpA Zg Xf Zz Z6 Zd
def Zsu (n : Nat) (f : Nat -> Int) : List Int := (List.range n).map f
theorem Zvx (n : Nat) (f : Nat -> Int) : (Zsu n f).length = n := by simp [Zsu]
theorem Zyq {n i : Nat} (f : Nat -> Int) (h : i < n) : (Zsu n f).getD i 0 = f i := by simp [Zsu, List.getD, h]
def Zvy (w : List Int) (E : List (List Int)) (i j : Nat) : List Int := Zsu w.length fun k => if k = i then w.getD i 0 else if (k : Int) ∈ (Zf E i).take j then 1 else 0
def mtx (w : List Int) (E : List (List Int)) (i : Nat) : List (List Int) := (List.range i).map fun a : Nat => Zvy w E a (Zf E a).length
theorem Zlq (w : List Int) (E : List (List Int)) (i : Nat) : (mtx w E i).length = i := by simp [mtx]
theorem Zvz (w : List Int) (E : List (List Int)) {i n : Nat} (h : i < n) : (mtx w E n).getD i [] = Zvy w E i (Zf E i).length := by simp [mtx, List.getD, h]
theorem Zv0 (w : List Int) (E : List (List Int)) (i j : Nat) : (Zvy w E i j).length = w.length := Zvx _ _
end Go.Proofs.YtmgmpnhlehonmaaGreat
namespace Go.Proofs.YtmgmpnhlehonmaaGreat
def Xp (f : Nat -> Int) : Nat -> Int
 | 0 => 0
 | n + 1 => Xp f n + f n
theorem Ud {f g : Nat -> Int} : ∀ {n : Nat}, (∀ k, k < n -> f k = g k) -> Xp f n = Xp g n
 | 0, _ => rfl
 | n + 1, h => by rw [Xp, Xp, Ud fun k hk => h k (by omega), h n (by omega)]
theorem Zcm (f g : Nat -> Int) : ∀ n, Xp (fun k => f k + g k) n = Xp f n + Xp g n
 | 0 => rfl
 | n + 1 => by rw [Xp, Xp, Xp, Zcm f g n]; omega
theorem Zh7 (f g : Nat -> Int) : ∀ n, Xp (fun k => f k - g k) n = Xp f n - Xp g n
 | 0 => rfl
 | n + 1 => by rw [Xp, Xp, Xp, Zh7 f g n]; omega
theorem Zoc (c : Int) (f : Nat -> Int) : ∀ n, Xp (fun k => c * f k) n = c * Xp f n
 | 0 => by simp [Xp]
 | n + 1 => by rw [Xp, Xp, Zoc c f n, Int.mul_add]
theorem Wi {f : Nat -> Int} : ∀ {n : Nat}, (∀ k, k < n -> f k = 0) -> Xp f n = 0
 | 0, _ => rfl
 | n + 1, h => by rw [Xp, Wi fun k hk => h k (by omega), h n (by omega)]; rfl
theorem Zv1 (f : Nat -> Int) (n : Nat) : Xp (fun k => - f k) n = - Xp f n := by
 have := Zoc (-1) f n
 simpa using this
theorem Zke (f : Nat -> Nat -> Int) (m : Nat) : ∀ n, Xp (fun i => Xp (f i) m) n = Xp (fun j => Xp (fun i => f i j) n) m
 | 0 => by rw [Xp]; exact (Wi fun _ _ => rfl).symm
 | n + 1 => by
  rw [Xp, Zke f m n, <- Zcm]
  exact Ud fun j _ => rfl
theorem Wj (f : Nat -> Int) (x : Nat) : ∀ n, Xp (fun k => if k = x then f k else 0) n = if x < n then f x else 0
 | 0 => by simp [Xp]
 | n + 1 => by
  rw [Xp, Wj f x n]
  by_cases e : n = x
  ·subst e; rw [if_neg (Nat.lt_irrefl _), if_pos rfl, if_pos (by omega)]; omega
  ·rw [if_neg e]
   by_cases h : x < n
   ·rw [if_pos h, if_pos (by omega)]; omega
   ·rw [if_neg h, if_neg (by omega)]; rfl
theorem Zp4 (P S : List Int) (i k : Nat) : ∀ m, Uz P S m i k = - Xp (fun j => pe P S j i * pe P S j k) m
 | 0 => rfl
 | m + 1 => by rw [Uz, Xp, Zp4 P S i k m]; omega
theorem Zzu {P S W : List Int} (h : Cl P S W) {n : Nat} (h1 : 1 <= n) (hn : n < P.length) (hs : 0 <= S.getD n 0) : S.getD n 0 < P.getD n 0 := (Xan h h1 hn hs).1
theorem Xap {P S W : List Int} (h : Cl P S W) {j n : Nat} (hj : j < n) (hn : n <= P.length) (f : Nat -> Int) : Xp (fun k => pe P S j k * f k) n = f j - (if 0 <= P.getD j 0 then f (P.getD j 0).toNat else 0) - (if 0 <= S.getD j 0 then f (S.getD j 0).toNat else 0) := by
 have hP : P.getD j 0 < j := by
  by_cases h0 : j = 0
  ·subst h0; have := h.p0; omega
  ·have := h.p j (by omega) (by omega); omega
 have hS : S.getD j 0 < j := by have := h.s j (by omega); omega
 have hne : 0 <= S.getD j 0 -> S.getD j 0 ≠ P.getD j 0 /\ 0 <= P.getD j 0 := fun hs => by
  by_cases h0 : j = 0
  ·subst h0; have := h.p0; omega
  ·have := Zzu h (by omega) (by omega) hs
   omega
 have e : ∀ k, k < n -> pe P S j k * f k = ((if k = j then f k else 0) - (if 0 <= P.getD j 0 then (if k = (P.getD j 0).toNat then f k else 0) else 0)) - (if 0 <= S.getD j 0 then (if k = (S.getD j 0).toNat then f k else 0) else 0) := fun k hk => by
  unfold pe
  by_cases h1 : j = k
  ·subst h1
   rw [if_pos rfl, if_pos rfl]
   have a1 : ¬ j = (P.getD j 0).toNat \/ ¬ 0 <= P.getD j 0 := by omega
   have a2 : ¬ j = (S.getD j 0).toNat \/ ¬ 0 <= S.getD j 0 := by omega
   split
   ·rw [if_neg (by omega)]
    split
    ·rw [if_neg (by omega)]; omega
    ·omega
   ·split
    ·rw [if_neg (by omega)]; omega
    ·omega
  ·rw [if_neg h1, if_neg (show ¬ k = j from fun q => h1 q.symm)]
   by_cases h2 : P.getD j 0 = (k : Int)
   ·rw [if_pos (show P.getD j 0 = (k : Int) \/ S.getD j 0 = (k : Int) from .inl h2), if_pos (show 0 <= P.getD j 0 by omega), if_pos (show k = (P.getD j 0).toNat by omega)]
    split
    ·rename_i hs
     have := (hne hs).1
     rw [if_neg (by omega)]; omega
    ·omega
   ·by_cases h3 : S.getD j 0 = (k : Int)
    ·rw [if_pos (show P.getD j 0 = (k : Int) \/ S.getD j 0 = (k : Int) from .inr h3), if_pos (show 0 <= S.getD j 0 by omega), if_pos (show k = (S.getD j 0).toNat by omega)]
     have := hne (by omega)
     rw [if_pos this.2, if_neg (show ¬ k = (P.getD j 0).toNat by omega)]; omega
    ·rw [if_neg (show ¬ (P.getD j 0 = (k : Int) \/ S.getD j 0 = (k : Int)) by omega)]
     split
     ·rw [if_neg (by omega)]
      split
      ·rw [if_neg (by omega)]; simp
      ·simp
     ·split
      ·rw [if_neg (by omega)]; simp
      ·simp
 rw [Ud e, Zh7, Zh7, Wj, if_pos hj]
 congr 1
 ·congr 1
  by_cases c : 0 <= P.getD j 0
  ·simp only [if_pos c]
   rw [Wj, if_pos (by omega)]
  ·simp only [if_neg c]
   exact Wi fun _ _ => rfl
 ·by_cases c : 0 <= S.getD j 0
  ·simp only [if_pos c]
   rw [Wj, if_pos (by omega)]
  ·simp only [if_neg c]
   exact Wi fun _ _ => rfl
theorem Zv2 (a : Int -> Int) : ∀ E : List (List Int), Dm a E [] = 1
 | [] => rfl
 | e :: E => by rw [Jy a E (by simp), Zv2 a E]
theorem Ql {K : List Bool} {x : Int} : ∀ n, x ∈ kV K n ↔ (0 <= x /\ x < n) /\ kp K x.toNat = true
 | 0 => by
  simp only [kV, List.not_mem_nil, false_iff]
  rintro ⟨h, _⟩
  omega
 | n + 1 => by
  have ih := Ql (K := K) (x := x) n
  rw [kV]
  by_cases hk : kp K n = true
  ·rw [if_pos hk, List.mem_append, List.mem_singleton, ih]
   constructor
   ·rintro (h | rfl)
    ·exact ⟨by omega, h.2⟩
    ·exact ⟨by omega, by rw [Int.toNat_natCast]; exact hk⟩
   ·rintro ⟨h1, h2⟩
    by_cases e : x = n
    ·exact .inr e
    ·exact .inl ⟨by omega, h2⟩
  ·rw [if_neg hk, ih]
   constructor
   ·rintro ⟨h1, h2⟩; exact ⟨by omega, h2⟩
   ·rintro ⟨h1, h2⟩
    refine ⟨?_, h2⟩
    have : x ≠ n := fun e => hk (by rw [e, Int.toNat_natCast] at h2; exact h2)
    omega
theorem Zcn (K : List Bool) : ∀ n, (kV K n).Nodup
 | 0 => List.nodup_nil
 | n + 1 => by
  rw [kV]
  split
  ·rw [List.nodup_append]
   refine ⟨Zcn K n, by simp, fun a ha b hb e => ?_⟩
   rw [List.mem_singleton] at hb
   have := (Ql n).1 ha
   omega
  ·exact Zcn K n
theorem Zsv (n : Nat) : X5 (n + 1) = X5 n ++ [(n : Int)] := by simp [X5, List.range_succ]
theorem Zp5 (K : List Bool) : ∀ n, (kV K n).map (num K) = X5 (cnt (kp K) n)
 | 0 => rfl
 | n + 1 => by
  rw [kV, cnt]
  split
  ·rw [List.map_append, Zp5 K n, Zsv]
   rfl
  ·rw [Zp5 K n]; rfl
theorem Zv3 (E : List (List Int)) (K : List Bool) : ∀ j, j <= E.length -> kE E K j = ((E.take j).filter fun e => kp K (e0 e).toNat && kp K (e1 e).toNat).map fun e => [num K (e0 e), num K (e1 e)]
 | 0, _ => by simp [kE]
 | j + 1, h => by
  have hj : E.getD j [] = E[j] := by rw [List.getD_eq_getElem?_getD, List.getElem?_eq_getElem (by omega)]; rfl
  have ha : ea E j = e0 (E[j]'(by omega)) := by unfold ea; rw [hj]
  have hb : eb E j = e1 (E[j]'(by omega)) := by unfold eb; rw [hj]
  rw [kE, Zv3 E K j (by omega), List.take_add_one, List.getElem?_eq_getElem (by omega), List.filter_append, List.map_append, ha, hb]
  by_cases c : (kp K (e0 (E[j]'(by omega))).toNat && kp K (e1 (E[j]'(by omega))).toNat) = true
  ·rw [if_pos c]
   congr 1
   simp only [Option.toList_some, List.filter_cons, c, if_true, List.filter_nil, List.map_cons, List.map_nil]
  ·rw [if_neg c]
   rw [Bool.not_eq_true] at c
   simp only [Option.toList_some, List.filter_cons, c, List.filter_nil]
   simp
theorem Zv4 {w : List Int} {K : List Bool} : ∀ j, ∀ a, a < j -> kp K a = true -> (kW w K j).getD (cnt (kp K) a) 0 = w.getD a 0
 | 0, a, h, _ => by omega
 | j + 1, a, h, hk => by
  have hl := Hk w K j
  by_cases e : a = j
  ·subst e
   rw [kW, if_pos hk, <- hl, Qa]
  ·have ih := Zv4 (w := w) (K := K) j a (by omega) hk
   have hlt := Qy (kp K) (a := a) (b := j) (by omega) hk
   rw [kW]
   split
   ·rw [V2 (by omega)]; exact ih
   ·exact ih
theorem Zlr {w : List Int} {E : List (List Int)} (hg : Zp w E) (K : List Bool) (hb : (Xy w E K).2 = true) : (Xy w E K).1 = Dm (awt w) E (kV K w.length) := by
 unfold Xy at hb ⊢
 by_cases h : kW w K w.length = []
 ·rw [if_pos h]
  have : (kV K w.length).length = 0 := by rw [Zla, <- Hk w K, h]; rfl
  rw [List.eq_nil_of_length_eq_zero this, Zv2]
 ·rw [if_neg h] at hb ⊢
  rw [Zlo (Zhe hg h) hb, Hk, <- Zp5, Zv3 E K _ (Nat.le_refl _), List.take_length]
  have hinj : ∀ x ∈ kV K w.length, ∀ y ∈ kV K w.length, num K x = num K y -> x = y := fun x hx y hy e => by
   have h1 := (Ql _).1 hx
   have h2 := (Ql _).1 hy
   by_cases q : x < y
   ·have := Zhc (K := K) h1.1.1 q h1.2; omega
   ·by_cases q2 : y < x
    ·have := Zhc (K := K) h2.1.1 q2 h2.2; omega
    ·omega
  have hends : ∀ e ∈ E.filter (fun e => kp K (e0 e).toNat && kp K (e1 e).toNat), e0 e ∈ kV K w.length /\ e1 e ∈ kV K w.length := fun e he => by
   obtain ⟨h1, h2⟩ := List.mem_filter.1 he
   rw [Bool.and_eq_true] at h2
   obtain ⟨a, b, rfl, g1, g2, g3⟩ := Qe hg.2.2.1 e h1
   exact ⟨(Ql _).2 ⟨⟨g1, by show a < _; omega⟩, h2.1⟩, (Ql _).2 ⟨⟨by show 0 <= b; omega, g3⟩, h2.2⟩⟩
  rw [Zvd (awt (kW w K w.length)) hinj _ _ (fun x hx => hx) hends]
  rw [Uu (b := awt w) _ (fun x hx => ?_), Zj5]
  ·intro e he hp q
   obtain ⟨q1, q2⟩ := q
   have h1 := ((Ql _).1 q1).2
   have h2 := ((Ql _).1 q2).2
   rw [h1, h2] at hp
   simp at hp
  ·have h1 := (Ql _).1 hx
   unfold awt num
   rw [Int.toNat_natCast, Zv4 w.length x.toNat (by omega) h1.2]
def ofP (n : Nat) (P : List Int) : List Int := (X5 n).filter fun x => decide (x ∉ P)
theorem Yv {n : Nat} {P : List Int} {x : Int} : x ∈ ofP n P ↔ (0 <= x /\ x < n) /\ x ∉ P := by
 unfold ofP
 rw [List.mem_filter, V3, decide_eq_true_eq]
theorem V4 (n : Nat) (P : List Int) : (ofP n P).Nodup := (Vv n).filter _
def lkD (w : List Int) (E : List (List Int)) (i k : Int) : Int := Dm (awt w) E (ofP w.length (pth w E i k))
theorem Yw (a : Int -> Int) (E : List (List Int)) {V W : List Int} (hV : V.Nodup) (hW : W.Nodup) (h : ∀ x, x ∈ V ↔ x ∈ W) : Dm a E V = Dm a E W :=
 Jn a E ((List.perm_ext_iff_of_nodup hV hW).2 h)
theorem Zv5 {w : List Int} {E : List (List Int)} {P : List Int} : Dm (awt w) E (kV (V5 P w.length) w.length) = Dm (awt w) E (ofP w.length P) := by
 refine Yw _ _ (Zcn _ _) (V4 _ _) fun x => ?_
 rw [Ql, Yv]
 constructor
 ·rintro ⟨h1, h2⟩
  unfold kp at h2
  rw [Zf4 (by omega), show ((x.toNat : Nat) : Int) = x by omega] at h2
  exact ⟨h1, by simpa using h2⟩
 ·rintro ⟨h1, h2⟩
  unfold kp
  rw [Zf4 (by omega), show ((x.toNat : Nat) : Int) = x by omega]
  exact ⟨h1, by simpa using h2⟩
theorem Zzv {w : List Int} {E : List (List Int)} {i k : Int} (h : (lkN w E i k).2 = 0) : Zp w E /\ E.length + 1 = w.length /\ (0 <= i /\ i < w.length) /\ (0 <= k /\ k < w.length) /\ (lkN w E i k).1 = lkD w E i k := by
 unfold lkN at h ⊢
 split at h
 ·rename_i hc
  rw [if_pos hc]
  obtain ⟨hg, hall, he⟩ := Ye hc
  obtain ⟨hi, hk⟩ := Hl hall
  split at h
  ·rename_i hb
   rw [if_pos hb]
   refine ⟨hg, he, hi, hk, ?_⟩
   obtain ⟨s1, s2⟩ := Zdw hg (V5 (pth w E i k) w.length)
   rw [<- s2 (by rw [s1]; exact hb), Zlr hg _ (by rw [s1]; exact hb), Zv5]
   rfl
  ·simp at h
 ·rename_i hc; simp at h; exact absurd h hc
theorem Zf8 {f : Int -> Int} {b : Int} : ∀ {l : List Int}, l.Nodup -> b ∈ l -> smL f l = f b + smL (fun j => if j = b then 0 else f j) l
 | [], _, h => by simp at h
 | x :: l, hn, h => by
  rw [List.nodup_cons] at hn
  rw [smL, smL]
  by_cases e : x = b
  ·subst e
   rw [if_pos rfl, Vk (f := fun j => if j = x then 0 else f j) (g := f) fun j hj => if_neg fun (q : j = x) => hn.1 (q ▸ hj)]
   omega
  ·rw [if_neg e, Zf8 hn.2 (by rcases List.mem_cons.1 h with q | q; exact absurd q.symm e; exact q)]
   omega
theorem Xaq {w : List Int} {E : List (List Int)} (hg : Zp w E) (he : E.length + 1 = w.length) {a c : Int} (ha : 0 <= a /\ a < w.length) (hc : 0 <= c /\ c < w.length) :
  w.getD a.toNat 0 * lkD w E a c + smL (fun b => lkD w E b c) (Zf E a) = if a = c then - Dm (awt w) E (X5 w.length) else 0 := by
 have hnb : ∀ y : Int, y ∈ Zf E a ↔ Adj E a y := fun y => Xm hg.2.2.1
 have hnr : ∀ y ∈ Zf E a, 0 <= y /\ y < w.length := fun y hy => Vf hg.2.2.1 hy
 have haw : awt w a = - w.getD a.toNat 0 := rfl
 by_cases hac : a = c
 ·subst hac
  rw [if_pos rfl]
  have paa : pth w E a a = [a] := Pa.eq hg ha ⟨trivial, rfl, rfl⟩
  have pba : ∀ b ∈ Zf E a, pth w E b a = [b, a] := fun b hb => Pa.eq hg (hnr b hb) ⟨((hnb b).1 hb).symm, rfl, rfl⟩
  have e1 := Zcj (awt w) hg.2.2.1 (Vv w.length) (V3.2 ha)
  have e2 : Dm (awt w) E (wo (X5 w.length) a) = lkD w E a a := by
   unfold lkD
   rw [paa]
   refine Yw _ _ (Zw (Vv _) _) (V4 _ _) fun x => ?_
   rw [Zl, Yv, V3, List.mem_singleton]
  have e3 : smL (fun j => if j ∈ X5 w.length then Dm (awt w) E (wo (wo (X5 w.length) a) j) else 0) (Zf E a) = smL (fun b => lkD w E b a) (Zf E a) := Vk fun j hj => by
   rw [if_pos (V3.2 (hnr j hj))]
   unfold lkD
   rw [pba j hj]
   refine Yw _ _ (Zw (Zw (Vv _) _) _) (V4 _ _) fun x => ?_
   rw [Zl, Zl, Yv, V3]
   simp only [List.mem_cons, List.not_mem_nil, or_false, not_or]
   exact ⟨fun q => ⟨q.1.1, q.2, q.1.2⟩, fun q => ⟨⟨q.1, q.2.2⟩, q.2.1⟩⟩
  rw [e2, e3, haw, Int.neg_mul] at e1
  omega
 ·rw [if_neg hac]
  have hp := Zll hg he ha hc
  obtain ⟨q, eq⟩ := Xag hp hac
  obtain ⟨b0, r', er⟩ : ∃ b0 r', q ++ [c] = b0 :: r' := List.exists_cons_of_ne_nil (by simp)
  rw [er] at eq
  have hpa : pth w E a c = a :: b0 :: r' := eq
  rw [hpa] at hp
  have hnd := hg.forest _ hp.nb
  have hadj := hp.nb.adj
  have hb0 : b0 ∈ Zf E a := (hnb b0).2 hadj
  have hpb : pth w E b0 c = b0 :: r' := Pa.eq hg (hnr b0 hb0) (Pa.suf (p := [a]) hp)
  have hpj : ∀ j ∈ Zf E a, j ≠ b0 -> pth w E j c = j :: a :: b0 :: r' /\ (j :: a :: b0 :: r').Nodup := fun j hj hne => by
   have hN : NB E (j :: a :: b0 :: r') := NB.cons hp.nb ((hnb j).1 hj).symm (fun z l' e => by
    rw [List.cons.injEq] at e
    rw [<- e.1]; exact hne)
   refine ⟨Pa.eq hg (hnr j hj) ⟨hN, rfl, ?_⟩, hg.forest _ hN⟩
   have := hp.ls
   rw [List.getLast?_cons_cons]; exact this
  have haU : a ∈ ofP w.length (b0 :: r') := Yv.2 ⟨ha, (List.nodup_cons.1 hnd).1⟩
  have e1 := Zcj (awt w) hg.2.2.1 (V4 w.length (b0 :: r')) haU
  have e0 : Dm (awt w) E (ofP w.length (b0 :: r')) = lkD w E b0 c := by unfold lkD; rw [hpb]
  have e2 : Dm (awt w) E (wo (ofP w.length (b0 :: r')) a) = lkD w E a c := by
   unfold lkD
   rw [hpa]
   refine Yw _ _ (Zw (V4 _ _) _) (V4 _ _) fun x => ?_
   rw [Zl, Yv, Yv, List.mem_cons (b := a), not_or]
   exact ⟨fun q => ⟨q.1.1, q.2, q.1.2⟩, fun q => ⟨⟨q.1, q.2.2⟩, q.2.1⟩⟩
  have e3 : smL (fun j => if j ∈ ofP w.length (b0 :: r') then Dm (awt w) E (wo (wo (ofP w.length (b0 :: r')) a) j) else 0) (Zf E a) = smL (fun j => if j = b0 then 0 else lkD w E j c) (Zf E a) := Vk fun j hj => by
   by_cases hjb : j = b0
   ·rw [if_pos hjb, if_neg fun q => (Yv.1 q).2 (by rw [hjb]; simp)]
   ·obtain ⟨h1, h2⟩ := hpj j hj hjb
    rw [List.nodup_cons, List.mem_cons, not_or] at h2
    rw [if_neg hjb, if_pos (Yv.2 ⟨hnr j hj, h2.1.2⟩)]
    unfold lkD
    rw [h1]
    refine Yw _ _ (Zw (Zw (V4 _ _) _) _) (V4 _ _) fun x => ?_
    rw [Zl, Zl, Yv, Yv, List.mem_cons (b := j), List.mem_cons (b := a), not_or, not_or]
    exact ⟨fun q => ⟨q.1.1.1, q.2, q.1.2, q.1.1.2⟩, fun q => ⟨⟨⟨q.1, q.2.2.2⟩, q.2.2.1⟩, q.2.1⟩⟩
  rw [e0, e2, e3, haw, Int.neg_mul] at e1
  rw [Zf8 (Ym hg.2.2.1 a) hb0]
  omega
theorem Zrm (f : Nat -> Int) {n : Nat} : ∀ {R : List Int}, R.Nodup -> (∀ x ∈ R, 0 <= x /\ x < n) -> Xp (fun k => if (k : Int) ∈ R then f k else 0) n = smL (fun j => f j.toNat) R
 | [], _, _ => by
  rw [smL]
  exact Wi fun k _ => by simp
 | x :: R, hn, h => by
  rw [List.nodup_cons] at hn
  have hx := h x (by simp)
  rw [smL, <- Zrm f hn.2 fun y hy => h y (by simp [hy])]
  have e := Wj f x.toNat n
  rw [if_pos (by omega)] at e
  rw [<- e, <- Zcm]
  refine Ud fun k hk => ?_
  by_cases q : k = x.toNat
  ·have : (k : Int) = x := by omega
   rw [if_pos q, if_pos (by rw [this]; simp), if_neg (by rw [this]; exact hn.1)]; omega
  ·have : (k : Int) ≠ x := by omega
   rw [if_neg q]
   by_cases q2 : (k : Int) ∈ R
   ·rw [if_pos (by simp [q2]), if_pos q2]; omega
   ·rw [if_neg (by simp [q2, this]), if_neg q2]; rfl
theorem Zyr {w : List Int} {E : List (List Int)} (hg : Zp w E) {b : Nat} (hb : b < w.length) (f : Nat -> Int) : Xp (fun k => (if k = b then w.getD b 0 else if (k : Int) ∈ Zf E b then 1 else 0) * f k) w.length = w.getD b 0 * f b + smL (fun j => f j.toNat) (Zf E b) := by
 have hs : (b : Int) ∉ Zf E b := fun q => (hg.2.2.1.adj ((Xm hg.2.2.1).1 q)).2.2 rfl
 rw [<- Zrm f (Ym hg.2.2.1 b) fun x hx => Vf hg.2.2.1 hx]
 have e := Wj (fun k => w.getD b 0 * f k) b w.length
 rw [if_pos hb] at e
 rw [<- e, <- Zcm]
 refine Ud fun k hk => ?_
 by_cases q : k = b
 ·subst q
  rw [if_pos rfl, if_pos rfl, if_neg hs]; omega
 ·rw [if_neg q, if_neg q]
  by_cases q2 : (k : Int) ∈ Zf E b
  ·rw [if_pos q2, if_pos q2]; omega
  ·rw [if_neg q2, if_neg q2]; omega
theorem Xar {w : List Int} {E : List (List Int)} (hg : Zp w E) (he : E.length + 1 = w.length) {b : Nat} (hb : b < w.length) {c : Int} (hc : 0 <= c /\ c < w.length) :
  Xp (fun k => (if k = b then w.getD b 0 else if (k : Int) ∈ Zf E b then 1 else 0) * lkD w E k c) w.length = if (b : Int) = c then - Dm (awt w) E (X5 w.length) else 0 := by
 rw [Zyr hg hb fun k => lkD w E k c, <- Xaq hg he (a := (b : Int)) (by omega) hc, Int.toNat_natCast]
 congr 1
 exact Vk fun j hj => by
  have := Vf hg.2.2.1 hj
  rw [show ((j.toNat : Nat) : Int) = j by omega]
end Go.Proofs.YtmgmpnhlehonmaaGreat
namespace Go.Proofs.YtmgmpnhlehonmaaGreat
set_option maxRecDepth 100000
set_option maxHeartbeats 20000000
open Go.Pv
open Go.ChangeShapes Go.WideShapes Go.ChangeAt Go.RowKit
attribute [local irreducible] Za WpA Zg Xf Zz Z6 Zd
def prN (a : Int -> Nat) : List Int -> Nat
 | [] => 1
 | x :: l => a x * prN a l
theorem Zbg (a : Int -> Nat) : ∀ l m, prN a (l ++ m) = prN a l * prN a m
 | [], m => by simp [prN]
 | x :: l, m => by rw [List.cons_append, prN, prN, Zbg a l m, Nat.mul_assoc]
theorem Zh8 (a : Int -> Nat) {l m : List Int} (h : l.Perm m) : prN a l = prN a m := by
 induction h with
 | nil => rfl
 | cons x _ ih => rw [prN, prN, ih]
 | swap x y l => rw [prN, prN, prN, prN, Nat.mul_left_comm]
 | trans _ _ h1 h2 => rw [h1, h2]
theorem Zls {a : Int -> Nat} (h : ∀ x, 1 <= a x) : ∀ l, 1 <= prN a l
 | [] => Nat.le_refl _
 | x :: l => Nat.mul_pos (h x) (Zls h l)
theorem Zrn (a : Int -> Nat) (f : Int -> Int) : ∀ l : List Int, prN a (l.map f) = prN (fun x => a (f x)) l
 | [] => rfl
 | x :: l => by rw [List.map_cons, prN, prN, Zrn a f l]
theorem Zd5 (a : Int -> Nat) (B : Int -> List Int) : ∀ l, prN a (parts B l) = prN (fun c => prN a (B c)) l
 | [] => rfl
 | c :: l => by rw [parts, Zbg, prN, Zd5 a B l]
theorem Zh9 {a : Int -> Nat} (h : ∀ x, 1 <= a x) (p : Int -> Bool) : ∀ l, prN a (l.filter p) <= prN a l
 | [] => Nat.le_refl _
 | x :: l => by
  have ih := Zh9 h p l
  rw [List.filter_cons, prN]
  split
  ·rw [prN]; exact Nat.mul_le_mul_left _ ih
  ·exact Nat.le_trans ih (Nat.le_mul_of_pos_left _ (h x))
def pvN (w : List Int) (x : Int) : Nat := (w.getD x.toNat 0).natAbs + 1
theorem Zlt (w : List Int) (x : Int) : 1 <= pvN w x := Nat.le_add_left 1 _
theorem Zlu {a b : Int} (h : (a * b).natAbs <= 1000000000000) : (tms a b).2 = true := by
 unfold tms
 split
 ·rfl
 ·rename_i h0
  split
  ·rename_i h1
   exfalso
   rw [Int.natAbs_mul] at h
   have hb : (0 : Int) < b.natAbs := by omega
   have h2 : (a.natAbs : Int) <= 1000000000000 / (b.natAbs : Int) := by
    rw [Int.le_ediv_iff_mul_le hb]
    rw [<- Int.natCast_mul]
    omega
   omega
  ·rfl
theorem Xas {p r f g : Int} {M : Nat} (h : (p.natAbs + r.natAbs) * (f.natAbs + g.natAbs) <= M) (hM : M <= 1000000000000) : okS p r f g = true := by
 rw [Nat.add_mul, Nat.mul_add, Nat.mul_add] at h
 have e1 : (r * f).natAbs = r.natAbs * f.natAbs := Int.natAbs_mul r f
 have e2 : (p * g).natAbs = p.natAbs * g.natAbs := Int.natAbs_mul p g
 have e3 : (p * f).natAbs = p.natAbs * f.natAbs := Int.natAbs_mul p f
 have t1 := Zlu (a := r) (b := f) j2
 have t2 := Zlu (a := p) (b := g) j2
 have t3 := Zlu (a := p) (b := f) j2
 unfold okS
 rw [t1, t2, t3, Up t1, Up t2]
 exact decide_eq_true j2
theorem Zsw (p r f g : Int) : (p * f).natAbs + (r * f - p * g).natAbs <= (p.natAbs + r.natAbs) * (f.natAbs + g.natAbs) := by
 have e1 : (r * f).natAbs = r.natAbs * f.natAbs := Int.natAbs_mul r f
 have e2 : (p * g).natAbs = p.natAbs * g.natAbs := Int.natAbs_mul p g
 have e3 : (p * f).natAbs = p.natAbs * f.natAbs := Int.natAbs_mul p f
 rw [Nat.add_mul, Nat.mul_add, Nat.mul_add]
 omega
theorem Zro (H : Int -> Int × Int) (A : Int -> Nat) : ∀ (l : List Int) (p r : Int) (M : Nat), (∀ c ∈ l, (H c).1.natAbs + (H c).2.natAbs <= A c) -> (∀ c ∈ l, 1 <= A c) -> p.natAbs + r.natAbs <= M ->
  ((Xq H l (p, r)).1.natAbs + (Xq H l (p, r)).2.natAbs <= M * prN A l) /\ (M * prN A l <= 1000000000000 -> Zfi H l (p, r))
 | [], p, r, M, _, _, h => by
  rw [Xq, prN, Nat.mul_one]
  exact ⟨h, fun _ => trivial⟩
 | c :: l, p, r, M, hA, h1, h => by
  have hc := hA c (by simp)
  have hm : (p.natAbs + r.natAbs) * ((H c).1.natAbs + (H c).2.natAbs) <= M * A c := Nat.mul_le_mul h hc
  obtain ⟨i1, i2⟩ := Zro H A l (p * (H c).1) (r * (H c).1 - p * (H c).2) (M * A c) (fun d hd => hA d (by simp [hd])) (fun d hd => h1 d (by simp [hd])) (Nat.le_trans (Zsw _ _ _ _) hm)
  rw [Xq, prN, <- Nat.mul_assoc]
  refine ⟨i1, fun hM => ⟨Xas hm ?_, i2 hM⟩⟩
  have hp : 1 <= prN A l := by
   have : ∀ m : List Int, (∀ c ∈ m, 1 <= A c) -> 1 <= prN A m := fun m => by
    induction m with
    | nil => intro _; exact Nat.le_refl _
    | cons x m ih => intro q; exact Nat.mul_pos (q x (by simp)) (ih fun y hy => q y (by simp [hy]))
   exact this l fun d hd => h1 d (by simp [hd])
  exact Nat.le_trans (Nat.le_mul_of_pos_right _ hp) hM
theorem Zv6 {w : List Int} {E : List (List Int)} (hg : Zp w E) : ∀ (k : Nat) (v : Int) (t : List Int), NB E (v :: t) -> (0 <= v /\ v < w.length) -> w.length < t.length + 1 + k ->
  (FG w E v (t.headD (-1))).1.natAbs + (FG w E v (t.headD (-1))).2.natAbs <= prN (pvN w) (Xb w.length E v t) /\ (prN (pvN w) (Xb w.length E v t) <= 1000000000000 -> okV w E v (t.headD (-1)))
 | 0, v, t, hnb, hv, hk => by have := hnb.len hg hv; omega
 | k + 1, v, t, hnb, hv, hk => by
  have ih : ∀ c ∈ kids E v (t.headD (-1)), (FG w E c v).1.natAbs + (FG w E c v).2.natAbs <= prN (pvN w) (Xb w.length E c (v :: t)) := fun c hc =>
   (Zv6 hg k c (v :: t) (Y1 hg.2.2.1 hnb hc) (Vp hg.2.2.1 hc) x3).1
  have hvm : v ∈ Xb w.length E v t := (Xo hg.2.2.1 hv).2 ⟨_, Bw.self hnb⟩
  have hsplit : prN (pvN w) (Xb w.length E v t) = pvN w v * prN (fun c => prN (pvN w) (Xb w.length E c (v :: t))) (kids E v (t.headD (-1))) := by
   have hp : (Xb w.length E v t).Perm (v :: wo (Xb w.length E v t) v) := by
    refine (List.perm_ext_iff_of_nodup (Xi _ _ _ _) (List.nodup_cons.2 ⟨fun q => (Zl.1 q).2 rfl, Zw (Xi _ _ _ _) v⟩)).2 fun x => ?_
    rw [List.mem_cons, Zl]
    by_cases e : x = v
    ·subst e; simp [hvm]
    ·simp [e]
   rw [Zh8 _ hp, prN, Zh8 _ (Zd0 hg hnb hv), Zd5]
  obtain ⟨f1, f2⟩ := Zro (fun c => FG w E c v) (fun c => prN (pvN w) (Xb w.length E c (v :: t))) (kids E v (t.headD (-1))) 1 (-(w.getD v.toNat 0)) (pvN w v) ih (fun c _ => Zls (Zlt w) _) (by unfold pvN; omega)
  rw [hsplit, Zk6 hg hnb hv]
  exact ⟨by rw [Nat.add_comm]; exact f1, f2⟩
theorem Xbp {w : List Int} {E : List (List Int)} (hg : Zp w E) (h : prN (pvN w) (X5 w.length) <= 1000000000000) : Zdp w E := fun x hx => by
 obtain ⟨t, h1, h2⟩ := (Zpd hg hx).nb
 rw [h2]
 exact (Zv6 hg w.length x t h1 hx j2).2 (Nat.le_trans (Zh9 (Zlt w) _ _) h)
theorem Zzw (f : List Int) (A : Int -> Nat) : ∀ (l : List Int) (d : Int) (M : Nat), (∀ c ∈ l, (f.getD c.toNat 0).natAbs <= A c) -> (∀ c ∈ l, 1 <= A c) -> d.natAbs <= M -> M * prN A l <= 1000000000000 -> ∃ e, dS f l d = some e
 | [], d, M, _, _, _, _ => ⟨d, rfl⟩
 | c :: l, d, M, hA, h1, hd, hM => by
  rw [prN, <- Nat.mul_assoc] at hM
  have hm : (d * f.getD c.toNat 0).natAbs <= M * A c := by rw [Int.natAbs_mul]; exact Nat.mul_le_mul hd (hA c (by simp))
  have hp : 1 <= prN A l := by
   have : ∀ m : List Int, (∀ c ∈ m, 1 <= A c) -> 1 <= prN A m := fun m => by
    induction m with
    | nil => intro _; exact Nat.le_refl _
    | cons x m ih => intro q; exact Nat.mul_pos (q x (by simp)) (ih fun y hy => q y (by simp [hy]))
   exact this l fun d hd => h1 d (by simp [hd])
  have ht := Zlu (a := d) (b := f.getD c.toNat 0) (Nat.le_trans hm (Nat.le_trans (Nat.le_mul_of_pos_right _ hp) hM))
  rw [dS, if_pos ht, Up ht]
  exact Zzw f A l _ (M * A c) (fun x hx => hA x x4) (fun x hx => h1 x x4) hm hM
theorem Xat {w : List Int} {E : List (List Int)} (hg : Zp w E) (h : prN (pvN w) (X5 w.length) <= 1000000000000) : (U8 w E).2 = true := by
 rw [(Zpp hg).1]
 unfold Zi7
 rw [if_pos ((W7 w E).2 (Xbp hg h))]
 have hroot : ∀ c ∈ rts w E w.length, ((fL w E).getD c.toNat 0).natAbs <= prN (pvN w) (Xb w.length E c []) := fun c hc => by
  have hc' := (Y6 w.length).1 hc
  have hself : Bw E c [] c (-1) := Bw.self (show NB E [c] from trivial)
  have hp : par w E c = -1 := (Zg9 hg hc'.2 hc'.1 hself).symm
  have := (Zv6 hg w.length c [] trivial hc'.1 (by simp)).1
  simp only [List.headD_nil] at this
  rw [Zqu hc'.1, hp]
  omega
 obtain ⟨e, he⟩ := Zzw (fL w E) (fun c => prN (pvN w) (Xb w.length E c [])) (rts w E w.length) 1 1 hroot (fun c _ => Zls (Zlt w) _) (by decide) (by
  rw [Nat.one_mul, <- Zd5, <- Zh8 _ (Zh0 hg)]; exact h)
 rw [he]
def pwL (l : List Int) : Nat := prN (fun x => x.natAbs + 1) l
theorem Zv7 (w : List Int) : prN (pvN w) (X5 w.length) = pwL w := by
 have : w = (X5 w.length).map fun x => w.getD x.toNat 0 := by
  refine Q8 (by simp [X5]) fun k hk => ?_
  have hk' : k < (X5 w.length).length := by simpa [X5] using hk
  simp [X5, List.getD_eq_getElem?_getD, hk]
 unfold pwL
 conv => rhs; rw [this]
 rw [Zrn]
 rfl
theorem Yp (l m : List Int) : pwL (l ++ m) = pwL l * pwL m := Zbg _ l m
theorem J7 (x : Int) : pwL [x] = x.natAbs + 1 := by simp [pwL, prN]
theorem Zd6 {w : List Int} {j : Nat} (h : j < w.length) : w.take (j + 1) = w.take j ++ [w.getD j 0] := by
 rw [List.take_add_one, List.getD_eq_getElem?_getD, List.getElem?_eq_getElem h]
 rfl
theorem Zzx (w : List Int) (K : List Bool) : ∀ j, j <= w.length -> pwL (kW w K j) <= pwL (w.take j)
 | 0, _ => by simp [kW]
 | j + 1, h => by
  have ih := Zzx w K j j2
  rw [kW, Zd6 j2, Yp, J7]
  split
  ·rw [Yp, J7]; exact Nat.mul_le_mul_right _ ih
  ·exact Nat.le_trans ih (Nat.le_mul_of_pos_right _ j2)
theorem Zzy (w : List Int) (K : List Bool) {v : Nat} (hK : kp K v = false) : ∀ j, v < j -> j <= w.length -> pwL (kW w K j) * ((w.getD v 0).natAbs + 1) <= pwL (w.take j)
 | 0, h, _ => by omega
 | j + 1, h, hj => by
  rw [kW, Zd6 j2, Yp, J7]
  by_cases e : v = j
  ·subst e
   rw [if_neg (by rw [hK]; simp)]
   exact Nat.mul_le_mul_right _ (Zzx w K v j2)
  ·have ih := Zzy w K hK j j2 j2
   split
   ·rw [Yp, J7, Nat.mul_right_comm]; exact Nat.mul_le_mul_right _ ih
   ·exact Nat.le_trans ih (Nat.le_mul_of_pos_right _ j2)
def TB (w : List Int) : Prop := ∀ v, v < w.length -> pwL w <= 1000000000000 * ((w.getD v 0).natAbs + 1)
theorem Xau {w : List Int} {E : List (List Int)} (hg : Zp w E) (ht : TB w) {K : List Bool} {v : Nat} (hv : v < w.length) (hK : kp K v = false) : (Xy w E K).2 = true := by
 have h1 := Zzy w K hK w.length hv (Nat.le_refl _)
 rw [List.take_length] at h1
 have h2 := Nat.le_of_mul_le_mul_right (Nat.le_trans h1 (ht v hv)) j2
 unfold Xy
 split
 ·rfl
 ·rename_i h0
  exact Xat (Zhe hg h0) (by rw [Zv7]; exact h2)
end Go.Proofs.YtmgmpnhlehonmaaGreat
