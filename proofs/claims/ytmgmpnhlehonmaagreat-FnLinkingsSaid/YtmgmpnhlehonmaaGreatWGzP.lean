/- What is drawn for linkings: if it is a graph, its product of weights is small. No condition. -/
import Derived.Test.YtmgmpnhlehonmaaGreatWHcA
import Derived.Test.YtmgmpnhlehonmaaGreatWHeA
import Derived.Test.YtmgmpnhlehonmaaGreatWGxG
import Derived.Test.YtmgmpnhlehonmaaGreatWGyK
import Derived.Test.YtmgmpnhlehonmaaGreatWGrF
import Derived.Test.YtmgmpnhlehonmaaGreatWGqB
import Derived.Test.YtmgmpnhlehonmaaGreatWDrC
import Derived.Test.YtmgmpnhlehonmaaGreatWGxC
import Derived.Test.YtmgmpnhlehonmaaGreatWZcE
set_option linter.unusedVariables false
set_option linter.unusedSimpArgs false
namespace Go.Proofs.YtmgmpnhlehonmaaGreat
set_option maxHeartbeats 20000000
open Go.Pv
open Go.ChangeShapes Go.WideShapes Go.ChangeAt Go.RowKit
attribute [local irreducible] Za WpA Zg Xf Zz Z6 Zd
theorem Ziq (r x : List Int) : ∀ k, Hw r x k = Xp (fun j => r.getD j 0 * x.getD j 0) k
 | 0 => rfl
 | k + 1 => by rw [Hw, Xp, Ziq r x k, Nat.mul_one]
theorem Zor {f : Nat -> Int} {b : Int} (hb : 0 <= b) : ∀ n, (∀ k, k < n -> -b <= f k /\ f k <= b) -> -(n * b) <= Xp f n /\ Xp f n <= n * b
 | 0, _ => by simp [Xp]
 | n + 1, h => by
  have ih := Zor hb n fun k hk => h k j2
  have h1 := h n j2
  rw [Xp, show ((n + 1 : Nat) : Int) * b = n * b + b by rw [Int.natCast_succ, Int.add_mul, Int.one_mul]]
  omega
theorem Zos {w : List Int} {E : List (List Int)} {i k : Nat} (hi : i < w.length) (hk : k < w.length) : ((mtx w E w.length).getD (i * 1) []).getD k 0 = if k = i then w.getD i 0 else if (k : Int) ∈ Zf E i then 1 else 0 := by
 rw [Nat.mul_one, Zvz w E hi]
 unfold Zvy
 rw [Zyq _ hk, List.take_length]
def Wm (M : List (List Int)) (a : Nat) (k : Nat) : List Int := (List.range k).map fun b => (M.getD (b * 1) []).getD (a * 1) 0
theorem Zot (M : List (List Int)) (a k : Nat) : (Wm M a k).length = k := by simp [Wm]
theorem Zzj (M : List (List Int)) (a : Nat) {b k : Nat} (h : b < k) : (Wm M a k).getD b 0 = (M.getD (b * 1) []).getD (a * 1) 0 := by simp [Wm, List.getD_eq_getElem?_getD, h]
theorem Ztj (M : List (List Int)) (a k : Nat) : Wm M a k ++ [(M.getD (k * 1) []).getD (a * 1) 0] = Wm M a (k + 1) := by simp [Wm, List.range_succ]
structure LmF (M N : List (List Int)) (d : Int) (n : Nat) : Prop where
 ml : M.length = n
 nl : N.length = n
 sm : n <= 40
 rl : ∀ b, b < n -> (M.getD (b * 1) []).length = n
 sym : ∀ a b, a < n -> b < n -> (M.getD (a * 1) []).getD (b * 1) 0 = (M.getD (b * 1) []).getD (a * 1) 0
 ap : ∀ a, a < n -> (∀ k, k < n -> -1000000000 <= (M.getD (a * 1) []).getD (k * 1) 0 /\ (M.getD (a * 1) []).getD (k * 1) 0 <= 1000000000) -> ∃ p : List Int, p.length = n /\ Zj Tryz.prog 22 [aLL N, aL (Wm M a n)] [rL p] [] /\ ∀ b, b < n -> p.getD (b * 1) 0 = if b = a then -d else 0
theorem Zcw {w : List Int} {E : List (List Int)} (h : lmC w E = 0) : Zp w E /\ E.length + 1 = w.length /\ Zht w E /\ lmR w E = lkL w E := by
 unfold lmC at h
 unfold lmR
 split at h
 ·rename_i hc
  rw [if_pos hc]
  obtain ⟨hg, _, he⟩ := Ye hc
  unfold lkC at h
  unfold lkR
  split at h
  ·rename_i hb
   exact ⟨hg, he, (Zci w E).1 hb, if_pos hb⟩
  ·simp at h
 ·rename_i hc; exact absurd h hc
theorem Zxc {w : List Int} {E : List (List Int)} (h : lmC w E ≠ 0) : lmR w E = [] := by
 unfold lmC at h
 unfold lmR
 split at h
 ·rename_i hc
  rw [if_pos hc]
  unfold lkC at h
  unfold lkR
  split at h
  ·exact absurd rfl h
  ·rename_i hb; exact if_neg hb
 ·rename_i hc; exact if_neg hc
theorem Xbs {w : List Int} {E : List (List Int)} (hg : Zp w E) (hb : Zht w E) {a b : Nat} (ha : a < w.length) (hb2 : b < w.length) : ((lkL w E).getD (a * 1) []).getD b 0 = lkD w E a b := by
 have h1 := hb a b ha hb2
 obtain ⟨s1, s2⟩ := Zdw hg (V5 (pth w E a b) w.length)
 rw [Nat.mul_one, show lkL w E = Jw w.length fun a b => (lkS w E a b).1 from rfl, Zmd _ ha hb2]
 unfold lkS at h1 ⊢
 rw [<- s2 (by rw [s1]; exact h1), Zlr hg _ (by rw [s1]; exact h1), Zv5]
 rfl
theorem Zxd {w : List Int} {E : List (List Int)} (h : lmC w E = 0) {d : Int} (hd : d = Dm (awt w) E (X5 w.length)) : LmF (lmR w E) (mtx w E w.length) d w.length := by
 obtain ⟨hg, he, hok, e⟩ := Zcw h
 have hsy : ∀ a b, a < w.length -> b < w.length -> ((lkL w E).getD (a * 1) []).getD (b * 1) 0 = ((lkL w E).getD (b * 1) []).getD (a * 1) 0 := fun a b ha hb => by
  rw [Nat.mul_one, Nat.mul_one, show lkL w E = Jw w.length fun a b => (lkS w E a b).1 from rfl, Zmd _ ha hb, Zmd _ hb ha, Zpy hg (i := (b : Int)) (k := (a : Int)) j2 j2]
 rw [e]
 refine ⟨Jm _ _, Zlq _ _ _, hg.1.2, fun b hb => by rw [Nat.mul_one]; exact Ja _ hb, hsy, fun a ha hsm => ?_⟩
 have hrow : ∀ i, i < w.length -> ((mtx w E w.length).getD (i * 1) []).length = w.length := fun i hi => by
  rw [Nat.mul_one, Zvz w E hi]; exact Zv0 _ _ _ _
 have hx : ∀ k, k < w.length -> (Wm (lkL w E) a w.length).getD k 0 = lkD w E k a /\ -1000000000 <= (Wm (lkL w E) a w.length).getD k 0 /\ (Wm (lkL w E) a w.length).getD k 0 <= 1000000000 := fun k hk => by
  have h1 := hsm k hk
  rw [hsy a k ha hk] at h1
  rw [Zzj _ _ hk]
  refine ⟨?_, h1⟩
  rw [Nat.mul_one a, Xbs hg hok hk ha]
 have hent : ∀ i k, i < w.length -> k < w.length -> -1000 <= ((mtx w E w.length).getD (i * 1) []).getD k 0 /\ ((mtx w E w.length).getD (i * 1) []).getD k 0 <= 1000 := fun i k hi hk => by
  rw [Zos hi hk]
  have := hg.2.1 i hi
  split
  ·exact this
  ·split <;> omega
 have hpr : ∀ i k, i < w.length -> k < w.length -> -1000000000000 <= ((mtx w E w.length).getD (i * 1) []).getD k 0 * (Wm (lkL w E) a w.length).getD k 0 /\ ((mtx w E w.length).getD (i * 1) []).getD k 0 * (Wm (lkL w E) a w.length).getD k 0 <= 1000000000000 := fun i k hi hk => by
  have h1 := hent i k hi hk
  have h2 := (hx k hk).2
  have h3 : (((mtx w E w.length).getD (i * 1) []).getD k 0 * (Wm (lkL w E) a w.length).getD k 0).natAbs <= 1000 * 1000000000 := by
   rw [Int.natAbs_mul]; exact Nat.mul_le_mul j2 j2
  omega
 have hl40 := hg.1.2
 refine ⟨_, H9 _ _ _ _, Zti (mtx w E w.length) (Wm (lkL w E) a w.length) w.length (Zlq _ _ _) hrow (Zot _ _ _) j2 (fun i k hi hk => ?_) (fun i k hi hk => ?_), fun b hb => ?_⟩
 ·rw [Ziq]
  have := Zor (f := fun j => ((mtx w E w.length).getD (i * 1) []).getD j 0 * (Wm (lkL w E) a w.length).getD j 0) (b := 1000000000000) j2 k fun j hj => hpr i j hi j2
  omega
 ·rw [Nat.mul_one k]
  have := hpr i k hi hk
  omega
 ·rw [Nat.mul_one, Zxb _ _ _ _ hb, Ziq, hd]
  have hlr := Xar hg he hb (c := (a : Int)) j2
  rw [<- Ud (f := fun j => ((mtx w E w.length).getD b []).getD j 0 * (Wm (lkL w E) a w.length).getD j 0) fun j hj => ?_] at hlr
  ·rw [hlr]
   by_cases q : b = a
   ·rw [if_pos q, if_pos j2]
   ·rw [if_neg q, if_neg j2]
  ·have := Zos (E := E) hb hj
   rw [Nat.mul_one] at this
   rw [this, (hx j hj).1]
theorem Yr (x : Int) (l : List Int) : pwL (x :: l) = (x.natAbs + 1) * pwL l := rfl
theorem Zge : ∀ (w : List Int) (p : Nat) (q : Int), p < w.length -> pwL (w.set p q) * ((w.getD p 0).natAbs + 1) = pwL w * (q.natAbs + 1)
 | [], p, q, h => by simp at h
 | x :: w, 0, q, _ => by
  rw [List.set_cons_zero, Yr, Yr, List.getD_cons_zero]
  simp only [Nat.mul_comm, Nat.mul_left_comm]
 | x :: w, p + 1, q, h => by
  have ih := Zge w p q v6
  rw [List.set_cons_succ, Yr, Yr, List.getD_cons_succ, Nat.mul_assoc, ih, Nat.mul_assoc]
def Ng (w : List Int) : Prop := ∀ x ∈ w, x <= -1
theorem Ng.at {w : List Int} (h : Ng w) {p : Nat} (hp : p < w.length) : w.getD p 0 <= -1 := h _ (Z4 hp)
theorem Ng.dec {w : List Int} (h : Ng w) {p : Nat} (hp : p < w.length) : Ng (w.set p (w.getD p 0 - 1)) /\ 2 * pwL (w.set p (w.getD p 0 - 1)) <= 3 * pwL w := by
 have h1 := h.at hp
 have h2 := Zge w p (w.getD p 0 - 1) hp
 refine ⟨fun x hx => ?_, ?_⟩
 ·rcases List.mem_or_eq_of_mem_set hx with q | q
  ·exact h x q
  ·omega
 ·have e : (w.getD p 0 - 1).natAbs + 1 = (w.getD p 0).natAbs + 2 := by omega
  rw [e] at h2
  have h3 : 1 <= (w.getD p 0).natAbs := by omega
  generalize (w.getD p 0).natAbs = a at *
  generalize pwL (w.set p (w.getD p 0 - 1)) = X at *
  generalize pwL w = Y at *
  refine Nat.le_of_mul_le_mul_right (?_ : 2 * X * (a + 1) <= 3 * Y * (a + 1)) j2
  have h4 : Y * 1 <= Y * a := Nat.mul_le_mul_left Y h3
  have e1 : 2 * X * (a + 1) = 2 * (Y * a + Y * 2) := by rw [Nat.mul_assoc, h2, Nat.mul_add]
  have e2 : 3 * Y * (a + 1) = 3 * (Y * a + Y * 1) := by rw [Nat.mul_assoc, Nat.mul_add]
  omega
theorem Ng.snoc {w : List Int} (h : Ng w) {x : Int} (hx : x <= -1) : Ng (w ++ [x]) := fun y hy => by
 rcases List.mem_append.1 hy with q | q
 ·exact h y q
 ·rw [List.mem_singleton] at q; omega
theorem Ng.bv {w : List Int} (h : Ng w) {v : Int} (hv : 0 <= v /\ v < w.length) : Ng (bvW w v) /\ 2 * pwL (bvW w v) <= 9 * pwL w := by
 obtain ⟨h1, h2⟩ := h.dec (p := v.toNat * 1) j2
 unfold bvW
 rw [Yp, J7]
 exact ⟨h1.snoc j2, by rw [show (-1 : Int).natAbs + 1 = 2 from rfl]; omega⟩
theorem Ng.be {w : List Int} (h : Ng w) {i k : Int} (hi : 0 <= i /\ i < w.length) (hk : 0 <= k /\ k < w.length) : Ng (beW w i k) /\ 2 * pwL (beW w i k) <= 9 * pwL w := by
 have h0 := h.snoc (x := -1) j2
 have e0 : pwL (w ++ [-1]) = pwL w * 2 := by rw [Yp, J7]; rfl
 obtain ⟨h1, h2⟩ := h0.dec (p := i.toNat * 1) u4
 obtain ⟨h3, h4⟩ := h1.dec (p := k.toNat * 1) u4
 unfold beW
 exact ⟨h3, by omega⟩
structure D2 (w : List Int) : Prop where
 one : ∀ p, p < w.length -> pwL w <= 1000000000000 * ((w.getD p 0).natAbs + 1)
 two : ∀ p v, p < w.length -> v < w.length -> p ≠ v -> pwL w <= 900000000 * (((w.getD p 0).natAbs + 1) * ((w.getD v 0).natAbs + 1))
theorem D2.tb {w : List Int} (h : D2 w) : TB w := h.one
theorem D2.set {w : List Int} (h : D2 w) {p : Nat} (hp : p < w.length) {q : Int} (hq : q.natAbs <= 1000) : TB (w.set p q) := fun v hv => by
 rw [List.length_set] at hv
 have e := Zge w p q hp
 refine Nat.le_of_mul_le_mul_right (?_ : _ * ((w.getD p 0).natAbs + 1) <= _ * ((w.getD p 0).natAbs + 1)) j2
 rw [e]
 by_cases hpv : p = v
 ·subst hpv
  have h1 := h.one p hp
  rw [show (w.set p q).getD p 0 = q by simp [List.getD_eq_getElem?_getD, hp]]
  calc pwL w * (q.natAbs + 1) <= (1000000000000 * ((w.getD p 0).natAbs + 1)) * (q.natAbs + 1) := Nat.mul_le_mul_right _ h1
   _ = 1000000000000 * (q.natAbs + 1) * ((w.getD p 0).natAbs + 1) := by simp only [Nat.mul_comm, Nat.mul_left_comm]
 ·have h2 := h.two p v hp hv hpv
  rw [show (w.set p q).getD v 0 = w.getD v 0 by simp [List.getD_eq_getElem?_getD, hpv]]
  calc pwL w * (q.natAbs + 1) <= (900000000 * (((w.getD p 0).natAbs + 1) * ((w.getD v 0).natAbs + 1))) * 1001 := Nat.mul_le_mul h2 j2
   _ = 900900000000 * (((w.getD v 0).natAbs + 1) * ((w.getD p 0).natAbs + 1)) := by rw [Nat.mul_right_comm, Nat.mul_comm ((w.getD p 0).natAbs + 1)]
   _ <= 1000000000000 * (((w.getD v 0).natAbs + 1) * ((w.getD p 0).natAbs + 1)) := Nat.mul_le_mul_right _ j2
   _ = 1000000000000 * ((w.getD v 0).natAbs + 1) * ((w.getD p 0).natAbs + 1) := by rw [Nat.mul_assoc]
theorem Zmf : ∀ (w : List Int), (∀ x ∈ w, x.natAbs <= 4) -> pwL w <= 5 ^ w.length
 | [], _ => by simp [pwL, prN]
 | x :: w, h => by
  rw [Yr, List.length_cons, Nat.pow_succ, Nat.mul_comm (5 ^ w.length)]
  exact Nat.mul_le_mul (by have := h x (by simp); omega) (Zmf w fun y hy => h y (by simp [hy]))
theorem Zou : ∀ (w : List Int), (∀ x ∈ w, x.natAbs <= 4) -> ∀ p, p < w.length -> pwL w * 5 <= 5 ^ w.length * ((w.getD p 0).natAbs + 1)
 | [], _, p, h => by simp at h
 | x :: w, h, 0, _ => by
  have h1 := Zmf w fun y hy => h y (by simp [hy])
  rw [Yr, List.length_cons, Nat.pow_succ, List.getD_cons_zero]
  calc (x.natAbs + 1) * pwL w * 5 <= (x.natAbs + 1) * 5 ^ w.length * 5 := Nat.mul_le_mul_right _ (Nat.mul_le_mul_left _ h1)
   _ = 5 ^ w.length * 5 * (x.natAbs + 1) := by simp only [Nat.mul_comm, Nat.mul_left_comm]
 | x :: w, h, p + 1, hp => by
  have ih := Zou w (fun y hy => h y (by simp [hy])) p (by simpa using hp)
  have hx := h x (by simp)
  rw [Yr, List.length_cons, Nat.pow_succ, List.getD_cons_succ]
  calc (x.natAbs + 1) * pwL w * 5 = (x.natAbs + 1) * (pwL w * 5) := Nat.mul_assoc _ _ _
   _ <= 5 * (5 ^ w.length * ((w.getD p 0).natAbs + 1)) := Nat.mul_le_mul j2 ih
   _ = 5 ^ w.length * 5 * ((w.getD p 0).natAbs + 1) := by rw [<- Nat.mul_assoc, Nat.mul_comm 5]
theorem Zir : ∀ (w : List Int), (∀ x ∈ w, x.natAbs <= 4) -> ∀ p v, p < v -> v < w.length -> pwL w * 25 <= 5 ^ w.length * (((w.getD p 0).natAbs + 1) * ((w.getD v 0).natAbs + 1))
 | [], _, p, v, _, h => by simp at h
 | x :: w, h, p, 0, hp, _ => by omega
 | x :: w, h, 0, v + 1, _, hv => by
  have h1 := Zou w (fun y hy => h y (by simp [hy])) v (by simpa using hv)
  rw [Yr, List.length_cons, Nat.pow_succ, List.getD_cons_zero, List.getD_cons_succ]
  calc (x.natAbs + 1) * pwL w * 25 = (x.natAbs + 1) * 5 * (pwL w * 5) := by rw [show 25 = 5 * 5 from rfl]; simp only [Nat.mul_comm, Nat.mul_left_comm, Nat.mul_assoc]
   _ <= (x.natAbs + 1) * 5 * (5 ^ w.length * ((w.getD v 0).natAbs + 1)) := Nat.mul_le_mul_left _ h1
   _ = 5 ^ w.length * 5 * ((x.natAbs + 1) * ((w.getD v 0).natAbs + 1)) := by simp only [Nat.mul_comm, Nat.mul_left_comm, Nat.mul_assoc]
 | x :: w, h, p + 1, v + 1, hp, hv => by
  have ih := Zir w (fun y hy => h y (by simp [hy])) p v j2 (by simpa using hv)
  have hx := h x (by simp)
  rw [Yr, List.length_cons, Nat.pow_succ, List.getD_cons_succ, List.getD_cons_succ]
  calc (x.natAbs + 1) * pwL w * 25 = (x.natAbs + 1) * (pwL w * 25) := Nat.mul_assoc _ _ _
   _ <= 5 * (5 ^ w.length * (((w.getD p 0).natAbs + 1) * ((w.getD v 0).natAbs + 1))) := Nat.mul_le_mul j2 ih
   _ = 5 ^ w.length * 5 * (((w.getD p 0).natAbs + 1) * ((w.getD v 0).natAbs + 1)) := by rw [<- Nat.mul_assoc, Nat.mul_comm 5]
theorem D2.five {w : List Int} (h : ∀ x ∈ w, x.natAbs <= 4) (hl : w.length <= 14) : D2 w where
 one := fun p hp => by
  have h1 := Zmf w h
  have h2 : 5 ^ w.length <= 5 ^ 14 := Nat.pow_le_pow_right (by decide) hl
  have h3 : 1000000000000 * 1 <= 1000000000000 * ((w.getD p 0).natAbs + 1) := Nat.mul_le_mul_left _ j2
  rw [show (5 : Nat) ^ 14 = 6103515625 by decide] at h2
  omega
 two := fun p v hp hv hne => by
  have h2 : 5 ^ w.length <= 5 ^ 14 := Nat.pow_le_pow_right (by decide) hl
  rw [show (5 : Nat) ^ 14 = 6103515625 by decide] at h2
  have key : pwL w * 25 <= 5 ^ w.length * (((w.getD p 0).natAbs + 1) * ((w.getD v 0).natAbs + 1)) := by
   rcases Nat.lt_or_gt_of_ne hne with q | q
   ·exact Zir w h p v q hv
   ·rw [Nat.mul_comm ((w.getD p 0).natAbs + 1)]; exact Zir w h v p q hp
  have h3 := Nat.le_trans key (Nat.mul_le_mul_right _ h2)
  generalize ((w.getD p 0).natAbs + 1) * ((w.getD v 0).natAbs + 1) = Z at *
  omega
theorem D2.ng {w : List Int} (h : Ng w) (hb : pwL w <= 3600000000) : D2 w where
 one := fun p hp => by
  have h3 : 1000000000000 * 1 <= 1000000000000 * ((w.getD p 0).natAbs + 1) := Nat.mul_le_mul_left _ j2
  omega
 two := fun p v hp hv hne => by
  have h1 := h.at hp
  have h2 := h.at hv
  have h3 : 2 * 2 <= ((w.getD p 0).natAbs + 1) * ((w.getD v 0).natAbs + 1) := Nat.mul_le_mul j2 j2
  generalize ((w.getD p 0).natAbs + 1) * ((w.getD v 0).natAbs + 1) = Z at *
  omega
end Go.Proofs.YtmgmpnhlehonmaaGreat
namespace Go.Proofs.YtmgmpnhlehonmaaGreat
theorem Xbf {P S W : List Int} (h : Cl P S W) {i : Nat} (hi : i < P.length) : P.getD i 0 < i /\ S.getD i 0 + 1 < i + 1 /\ (0 <= S.getD i 0 -> S.getD i 0 < P.getD i 0) := by
 have hS := h.s i hi
 by_cases h0 : i = 0
 ·subst h0
  have := h.p0
  omega
 ·have := h.p i (by omega) hi
  refine ⟨by omega, by omega, fun q => Zzu h (by omega) hi q⟩
end Go.Proofs.YtmgmpnhlehonmaaGreat
namespace Go.Proofs.YtmgmpnhlehonmaaGreat
set_option maxRecDepth 100000
set_option maxHeartbeats 20000000
open Go.Pv
open Go.ChangeShapes Go.WideShapes Go.ChangeAt Go.RowKit
attribute [local irreducible] Za WpA Zg Xf Zz Z6 Zd
instance fnOk12 : Zs Tryz.prog 12 := ⟨_, Tryz.func12, rfl, by decide⟩
instance fnOk8 : Zs Tryz.prog 8 := ⟨_, Tryz.func8, rfl, by decide⟩
instance fnOk17 : Zs Tryz.prog 17 := ⟨_, Tryz.func17, rfl, by decide⟩
theorem Zxe : ∀ (n : Nat) (f : Nat -> Int), (∀ i, i < n -> f i <= 0) -> Xp f n <= 0 /\ pwL ((List.range n).map f) <= 2 ^ (- Xp f n).toNat
 | 0, f, _ => by simp [Xp, pwL, prN]
 | n + 1, f, h => by
  obtain ⟨h1, h2⟩ := Zxe n f fun i hi => h i j2
  have h3 := h n j2
  rw [List.range_succ, List.map_append, List.map_cons, List.map_nil, Yp, J7, Xp]
  refine ⟨by omega, ?_⟩
  have h4 : (f n).natAbs + 1 <= 2 ^ (f n).natAbs := Nat.lt_two_pow_self
  rw [show (-(Xp f n + f n)).toNat = (- Xp f n).toNat + (f n).natAbs by omega, Nat.pow_add]
  exact Nat.mul_le_mul h2 h4
theorem Xbt {P S W : List Int} (h : Cl P S W) {j : Nat} (hj : j < P.length) : Xp (fun i => pe P S j i * pe P S j i) P.length <= (if j = 0 then 1 else if j = 1 then 2 else 3) := by
 rw [Xap h hj (Nat.le_refl _)]
 obtain ⟨hP, hS, hSP⟩ := Xbf h hj
 have e0 : pe P S j j = 1 := if_pos rfl
 rw [e0]
 have e1 := Zvk P S j (P.getD j 0).toNat
 have e2 := Zvk P S j (S.getD j 0).toNat
 by_cases h0 : j = 0
 ·subst h0
  rw [if_neg j2, if_neg j2, if_pos rfl]
  omega
 ·rw [if_neg h0]
  by_cases h1 : j = 1
  ·subst h1
   rw [if_pos rfl, if_neg (show ¬ 0 <= S.getD 1 0 by intro q; have := hSP q; omega)]
   split <;> omega
  ·rw [if_neg h1]
   split <;> split <;> omega
theorem Zks (g : Nat -> Int) : ∀ n, (∀ j, j < n -> g j <= (if j = 0 then 1 else if j = 1 then 2 else 3)) -> Xp g n <= (if n = 0 then 0 else if n = 1 then 1 else 3 * (n : Int) - 3)
 | 0, _ => by simp [Xp]
 | n + 1, h => by
  have ih := Zks g n fun j hj => h j j2
  have h1 := h n j2
  rw [Xp]
  by_cases e0 : n = 0
  ·subst e0; simp at ih h1 ⊢; omega
  ·by_cases e1 : n = 1
   ·subst e1; simp at ih h1 ⊢; omega
   ·rw [if_neg e0, if_neg e1] at ih h1
    rw [if_neg j2, if_neg j2]
    omega
theorem Zxf {P S W : List Int} (h : Cl P S W) (hn : P.length <= 14) : pwL (Hr P S P.length P.length) <= 1000000000000 := by
 have h1 : ∀ i, i < P.length -> Uz P S P.length i i <= 0 := fun i hi => by
  rw [Zp4]
  have : ∀ m, 0 <= Xp (fun j => pe P S j i * pe P S j i) m := fun m => by
   induction m with
   | zero => simp [Xp]
   | succ m ih =>
    rw [Xp]
    have : 0 <= pe P S m i * pe P S m i := by
     have := Zvk P S m i
     rcases (show pe P S m i = -1 \/ pe P S m i = 0 \/ pe P S m i = 1 by omega) with e | e | e <;> rw [e] <;> decide
    omega
  have := this P.length
  omega
 obtain ⟨_, h2⟩ := Zxe P.length (fun i => Uz P S P.length i i) h1
 have h3 : - Xp (fun i => Uz P S P.length i i) P.length <= 39 := by
  rw [Ud (g := fun i => - Xp (fun j => pe P S j i * pe P S j i) P.length) fun i _ => Zp4 P S i i P.length, Zv1, Zke]
  have := Zks (fun j => Xp (fun i => pe P S j i * pe P S j i) P.length) P.length fun j hj => Xbt h hj
  split at this
  ·omega
  ·split at this <;> omega
 refine Nat.le_trans h2 (Nat.le_trans (Nat.pow_le_pow_right (by decide) (show (- Xp (fun i => Uz P S P.length i i) P.length).toNat <= 39 by omega)) (by decide))
theorem Zxg (O w : List Int) : ∀ j, j <= w.length -> pwL (pwF O w j) <= pwL (w.take j)
 | 0, _ => by
  rw [pwF, List.take_zero]
  have : ∀ n, pwL (List.replicate n 0) = 1 := fun n => by
   induction n with
   | zero => rfl
   | succ n ih => rw [List.replicate_succ, Yr, ih]; rfl
  rw [this]
  exact Nat.le_refl _
 | j + 1, h => by
  have ih := Zxg O w j j2
  rw [pwF, Zd6 j2, Yp, J7, show w.getD (j * 1) 0 = w.getD j 0 by rw [Nat.mul_one]]
  by_cases hp : (O.getD (j * 1) 0).toNat * 1 < (pwF O w j).length
  ·have e := Zge (pwF O w j) _ (w.getD j 0) hp
   exact Nat.le_trans (Nat.le_mul_of_pos_right _ j2) (Nat.le_trans (Nat.le_of_eq e) (Nat.mul_le_mul_right _ ih))
  ·rw [List.set_eq_of_length_le j2]
   exact Nat.le_trans ih (Nat.le_mul_of_pos_right _ j2)
theorem Zz3 {w : List Int} (h : pwL w <= 1000000000000) : TB w := fun v _ => Nat.le_trans h (Nat.le_mul_of_pos_right _ j2)
theorem Zzk {l : List Int} {kd : Int} {k : Nat} {w : List Int} {E : List (List Int)} {s : St} {W : List Int} {EE : List (List Int)} {S : St} (r : Ke l kd k w E s W EE S) (h0 : kd = 0) : ∀ b : Int, 4 <= b -> Gd b w E -> Ng w -> Ng W /\ 2 ^ k * pwL W <= 9 ^ k * pwL w := by
 have step : ∀ {k X Y Z : Nat}, 2 ^ k * X <= 9 ^ k * Y -> 2 * Y <= 9 * Z -> 2 ^ (k + 1) * X <= 9 ^ (k + 1) * Z := fun {k X Y Z} q1 q2 => by
  rw [Nat.pow_succ, Nat.pow_succ, Nat.mul_right_comm, Nat.mul_assoc (9 ^ k)]
  calc 2 ^ k * X * 2 <= 9 ^ k * Y * 2 := Nat.mul_le_mul_right _ q1
   _ = 9 ^ k * (2 * Y) := by rw [Nat.mul_assoc, Nat.mul_comm Y]
   _ <= 9 ^ k * (9 * Z) := Nat.mul_le_mul_left _ q2
 induction r with
 | done => exact fun b _ _ h => ⟨h, Nat.le_refl _⟩
 | edge d1 _ hE d2 hx d3 r ih =>
  intro b h4 hg h
  have he := And.intro d3.1.1 (d3.1.2.2 j2)
  have hrow := Zqb hg he
  obtain ⟨n1, n2⟩ := h.be hrow.2.1 hrow.2.2
  obtain ⟨i1, i2⟩ := ih _ j2 (hg.edge h4 hrow.2.1 hrow.2.2) n1
  exact ⟨i1, step i2 n2⟩
 | vnone d1 _ hE r ih =>
  intro b h4 hg h
  have hl := hg.len
  have hv := And.intro d1.1.1 (d1.1.2.2 j2)
  obtain ⟨n1, n2⟩ := h.bv hv
  obtain ⟨i1, i2⟩ := ih _ j2 (hg.vert h4 hv) n1
  exact ⟨i1, step i2 n2⟩
 | vert d1 _ hE d2 hx r ih =>
  intro b h4 hg h
  have hl := hg.len
  have hv := And.intro d1.1.1 (d1.1.2.2 j2)
  obtain ⟨n1, n2⟩ := h.bv hv
  obtain ⟨i1, i2⟩ := ih _ j2 (hg.vert h4 hv) n1
  exact ⟨i1, step i2 n2⟩
 | one d1 h1 _ r _ => omega
 | two d1 h1 _ _ _ r _ => exact absurd h0 h1.1
 | lone d1 h1 _ _ _ r _ => exact absurd h0 h1.1
theorem Ztk {l : List Int} {kd : Int} {k : Nat} {w : List Int} {E : List (List Int)} {s : St} {W : List Int} {EE : List (List Int)} {S : St} (r : Ke l kd k w E s W EE S) (h0 : ¬ kd = 0) : (∀ x ∈ w, x.natAbs <= 4) -> (∀ x ∈ W, x.natAbs <= 4) /\ W.length = w.length + k := by
 have add : ∀ {w : List Int} {y s s'}, (∀ x ∈ w, x.natAbs <= 4) -> Dr1 l s 4 y s' -> ∀ x ∈ w ++ [-1 - y], x.natAbs <= 4 := fun {w y s s'} h d x hx => by
  have b1 := d.1.1
  have b2 := d.1.2.2 j2
  rcases List.mem_append.1 hx with q | q
  ·exact h x q
  ·rw [List.mem_singleton] at q; omega
 induction r with
 | done => exact fun h => ⟨h, by omega⟩
 | edge d1 h1 => exact absurd h1 h0
 | vnone d1 h1 => exact absurd h1 h0
 | vert d1 h1 => exact absurd h1 h0
 | one d1 h1 d2 r ih =>
  intro h
  obtain ⟨i1, i2⟩ := ih (add h d2)
  exact ⟨i1, by rw [i2]; simp; omega⟩
 | two d1 h1 d2 d3 hz r ih =>
  intro h
  obtain ⟨i1, i2⟩ := ih (add h d2)
  exact ⟨i1, by rw [i2]; simp; omega⟩
 | lone d1 h1 d2 d3 hz r ih =>
  intro h
  obtain ⟨i1, i2⟩ := ih (add h d2)
  exact ⟨i1, by rw [i2]; simp; omega⟩
theorem Zzl {l : List Int} {kd : Int} {k : Nat} {x : Int} {s : St} {W : List Int} {EE : List (List Int)} {S : St} (r : Ke l kd k [-1 - x] [] s W EE S) (hx : 0 <= x /\ x < 3) (hk : k <= 13) : D2 W /\ TB W := by
 by_cases h0 : kd = 0
 ·obtain ⟨n1, n2⟩ := Zzk r h0 10 j2 ⟨by simp, fun i => by
   rcases i with _ | i
   ·simp; omega
   ·first | (simp; done) | (simp; omega), fun r hr => by simp at hr⟩ (fun y hy => by rw [List.mem_singleton] at hy; omega)
  have h1 : pwL [-1 - x] <= 4 := by rw [J7]; omega
  have h2 : 2 ^ k * pwL W <= 9 ^ k * 4 := Nat.le_trans n2 (Nat.mul_le_mul_left _ h1)
  have h3 : 2 ^ (13 - k) <= 9 ^ (13 - k) := Nat.pow_le_pow_left (by decide) _
  have h4 : 2 ^ 13 * pwL W <= 9 ^ 13 * 4 := by
   rw [show 13 = (13 - k) + k by omega, Nat.pow_add, Nat.pow_add, Nat.mul_assoc, Nat.mul_assoc]
   exact Nat.mul_le_mul h3 h2
  rw [show (2 : Nat) ^ 13 = 8192 by decide, show (9 : Nat) ^ 13 = 2541865828329 by decide] at h4
  exact ⟨D2.ng n1 j2, Zz3 j2⟩
 ·obtain ⟨n1, n2⟩ := Ztk r h0 fun y hy => by rw [List.mem_singleton] at hy; omega
  have hd := D2.five n1 (by rw [n2]; simp; omega)
  exact ⟨hd, hd.tb⟩
theorem Zzm {l : List Int} (hb : By l) {s : St} (hs : OkS l s) (most : Int) (hm : 1 <= most /\ most <= 14) : ∃ (w : List Int) (E : List (List Int)) (s' : St), ((1 <= w.length /\ w.length <= 40) /\ TB w) /\ (∀ i, -2000 <= w.getD i 0 /\ w.getD i 0 <= 2000) /\ E.length <= 80 /\ (∀ r ∈ E, r.length = 2) /\ OkS l s' /\
  Xn Tryz.prog 164 (dSs l s) [aI most] [rGr w E] (dSs l s') := by
 obtain ⟨x0, s0, d0⟩ := Xc hb hs 3
 obtain ⟨kd, s1, d1⟩ := Xc hb d0.2.1 3
 obtain ⟨n, s2, d2⟩ := Xc hb d1.2.1 most
 have hn : 0 <= n /\ n < most := ⟨d2.1.1, d2.1.2.2 j2⟩
 have hx0 : 0 <= x0 /\ x0 < 3 := ⟨d0.1.1, d0.1.2.2 j2⟩
 obtain ⟨W, EE, S, hgo, hg, hS, q1, q2⟩ := Kf hb (kd := kd) n.toNat 10 [-1 - x0] [] s2 ⟨by simp, fun i => by
  rcases i with _ | i
  ·simp; omega
  ·first | (simp; done) | (simp; omega), fun r hr => by simp at hr⟩ j2 d2.2.1
 obtain ⟨hd, ht⟩ := Zzl hgo hx0 j2
 simp only [List.length_singleton, List.length_nil] at q1 q2
 obtain ⟨y, s3, d3⟩ := Xc hb hS 12
 have hl := hg.len
 by_cases hy : y = 0
 ·obtain ⟨p, s4, d4⟩ := Xc hb d3.2.1 W.length
  obtain ⟨q, s5, d5⟩ := Hu hb d4.2.1 [0, 1, 5, -1000, 1000] (by simp)
  have hp : 0 <= p /\ p < W.length := ⟨d4.1.1, d4.1.2.2 j2⟩
  have hq : -1000 <= q /\ q <= 1000 := by
   obtain ⟨i, hi, e⟩ := d5.1
   match i, hi with
   | 0, _ => rw [e]; decide
   | 1, _ => rw [e]; decide
   | 2, _ => rw [e]; decide
   | 3, _ => rw [e]; decide
   | 4, _ => rw [e]; decide
  refine ⟨W.set (p.toNat * 1) q, EE, s5, ⟨by rw [List.length_set]; omega, hd.set j2 j2⟩, fun i => ?_, by omega, fun r hr => (hg.row r hr).1, d5.2.1, Zwl hb most j2 d0 d1 d2 hgo d3 (.inr ⟨hy, p, s4, q, d4, d5, rfl⟩)⟩
  have := hg.bnd i
  rw [Vm]
  split <;> omega
 ·refine ⟨W, EE, s3, ⟨by omega, ht⟩, fun i => ?_, by omega, fun r hr => (hg.row r hr).1, d3.2.1, Zwl hb most j2 d0 d1 d2 hgo d3 (.inl ⟨hy, rfl, rfl⟩)⟩
  have := hg.bnd i
  omega
theorem Zzn {w : List Int} (h : TB w) : TB (w.drop 1) := by
 cases w with
 | nil => exact h
 | cons x w =>
  intro v hv
  have := h (v + 1) (by simp at hv ⊢; omega)
  rw [Yr, List.getD_cons_succ] at this
  exact Nat.le_trans (Nat.le_mul_of_pos_left _ j2) this
theorem Zis {l : List Int} (hb : By l) {s : St} (hs : OkS l s) (most : Int) (hm : 1 <= most /\ most <= 14) : ∃ (w : List Int) (E : List (List Int)) (s' : St), (Gs w E /\ (Zp w E -> TB w)) /\ OkS l s' /\
  Xn Tryz.prog 119 (dSs l s) [aI most] [rGr w E] (dSs l s') := by
 obtain ⟨w, E, s1, ⟨hw, hT⟩, hbd, hE, h22, hs1, hN1⟩ := Zzm hb hs most hm
 obtain ⟨k, s2, d2⟩ := Xc hb hs1 24
 have hN2 := d2.2.2
 by_cases h0 : k = 0
 ·obtain ⟨p, s3, d3⟩ := Xc hb d2.2.1 w.length
  obtain ⟨q, s4, d4⟩ := Hu hb d3.2.1 [1001, -1001] (by simp)
  have hN3 := d3.2.2
  have hN4 := d4.2.2
  have hp : 0 <= p /\ p < w.length := ⟨d3.1.1, d3.1.2.2 j2⟩
  have hq : q = 1001 \/ q = -1001 := by
   obtain ⟨i, hi, e⟩ := d4.1
   match i, hi with
   | 0, _ => rw [e]; decide
   | 1, _ => rw [e]; decide
  refine ⟨w.set (p.toNat * 1) q, E, s4, ⟨⟨by rw [List.length_set]; omega, fun i => ?_, by omega, h22⟩, fun hg => ?_⟩, d4.2.1, ?_⟩
  ·have := hbd i
   rw [Vm]
   split <;> omega
  ·exfalso
   have := hg.2.1 (p.toNat * 1) (by rw [List.length_set]; omega)
   rw [Vm, if_pos ⟨rfl, by omega⟩] at this
   omega
  ·subst h0
   clear d2 d3 d4 hbd hb h22
   refine cN_ _ Tryz.func119 rfl Tryz.ntmps119 ?_
   repeat' (first | (refine w2_ ?_ ?_ <;> intro _) | (guard_target =~ IsW; first | refine WpA.rerootC 17 0 13 rfl rfl rfl rfl ?_ | refine WpA.rerootC 47 13 0 rfl rfl rfl rfl ?_) | (guard_target =~ AtN 14; refine Za.cons (sI_ (hN2) iA (.sh .nil) (.sh lcA .nil) xR_ xR_ rfl) ?_) | (guard_target =~ AtN 21; refine Za.cons (sI_ (hN3) iA (.sh .nil) (.sh lcA .nil) xR_ xR_ rfl) ?_) | (guard_target =~ AtN 24; refine Za.cons (sI_ (hN4) iA (.mv vA_ .nil) (.mv .nil) xR_ xR_ rfl) ?_) | (guard_target =~ Zh; first | refine Za.cons (sV_ (hN1) iA (.sh .nil) (.sh lcA .nil) xR_ xR_ rfl) ?_) | refine ax_ ?_ | (refine neA ?_; first | ((first | refine Zd.ret (.cell inferInstance rfl rfl .nil) rfl ?_ ?_ | refine Zd.normal (.cell inferInstance rfl rfl .nil) rfl ?_ ?_) <;> try exact rfl))|fail)
   all_goals first | rfl | (exfalso; omega)
 ·by_cases h1 : k = 1
  ·obtain ⟨p, s3, d3⟩ := Xc hb d2.2.1 w.length
   obtain ⟨q, s4, d4⟩ := Xc hb d3.2.1 2
   have hN3 := d3.2.2
   have hN4 := d4.2.2
   have hp := d3.1.1
   have hq : 0 <= q /\ q < 2 := ⟨d4.1.1, d4.1.2.2 j2⟩
   refine ⟨w, E ++ [[p, (w.length : Int) - q]], s4, ⟨⟨by omega, hbd, by simp; omega, fun r hr => (List.mem_append.1 hr).elim (h22 r) fun h => by rw [List.mem_singleton] at h; rw [h]; rfl⟩, fun _ => hT⟩, d4.2.1, ?_⟩
   subst h1
   clear d2 d3 d4 hbd hb h22
   refine cN_ _ Tryz.func119 rfl Tryz.ntmps119 ?_
   repeat' (first | (refine w2_ ?_ ?_ <;> intro _) | (guard_target =~ IsW; first | refine WpA.rerootC 28 0 13 rfl rfl rfl rfl ?_ | refine WpA.rerootC 47 13 0 rfl rfl rfl rfl ?_) | (guard_target =~ AtN 14; refine Za.cons (sI_ (hN2) iA (.sh .nil) (.sh lcA .nil) xR_ xR_ rfl) ?_) | (guard_target =~ AtN 32; refine Za.cons (sI_ (hN3) iA (.sh .nil) (.sh lcA .nil) xR_ xR_ rfl) ?_) | (guard_target =~ AtN 35; refine Za.cons (sI_ (hN4) iA (.sh .nil) (.sh lcA .nil) xR_ xR_ rfl) ?_) | (guard_target =~ Zh; first | refine Za.cons (sV_ (hN1) iA (.sh .nil) (.sh lcA .nil) xR_ xR_ rfl) ?_) | refine ax_ ?_ | (refine neA ?_; first | ((first | refine Zd.ret (.cell inferInstance rfl rfl .nil) rfl ?_ ?_ | refine Zd.normal (.cell inferInstance rfl rfl .nil) rfl ?_ ?_) <;> try exact rfl))|fail)
   all_goals first | rfl | (exfalso; omega)
  ·by_cases h2 : k = 2
   ·refine ⟨w.drop 1, E, s2, ⟨⟨by rw [List.length_drop]; omega, fun i => ?_, by omega, h22⟩, fun _ => Zzn hT⟩, d2.2.1, ?_⟩
    ·have := hbd (1 + i)
     rw [List.getD_eq_getElem?_getD, List.getElem?_drop, <- List.getD_eq_getElem?_getD]
     exact this
    ·subst h2
     clear d2 hbd hb h22
     refine cN_ _ Tryz.func119 rfl Tryz.ntmps119 ?_
     repeat' (first | (refine w2_ ?_ ?_ <;> intro _) | (guard_target =~ AtN 14; refine Za.cons (sI_ (hN2) iA (.sh .nil) (.sh lcA .nil) xR_ xR_ rfl) ?_) | (guard_target =~ Zh; first | refine Za.cons (sV_ (hN1) iA (.sh .nil) (.sh lcA .nil) xR_ xR_ rfl) ?_) | (guard_target =~ IsN; first | refine Za.cons (Zsp (l := 1) (by exact .part rfl rfl rfl) rfl rfl j2 rfl) ?_) | refine ax_ ?_ | (refine neA ?_; first | ((first | refine Zd.ret (.cell inferInstance rfl rfl .nil) rfl ?_ ?_ | refine Zd.normal (.cell inferInstance rfl rfl .nil) rfl ?_ ?_) <;> try exact rfl))|fail)
     all_goals first | rfl | (exfalso; omega)
   ·refine ⟨w, E, s2, ⟨⟨by omega, hbd, by omega, h22⟩, fun _ => hT⟩, d2.2.1, ?_⟩
    clear d2 hbd hb h22
    refine cN_ _ Tryz.func119 rfl Tryz.ntmps119 ?_
    repeat' (first | (refine w2_ ?_ ?_ <;> intro _) | (guard_target =~ AtN 14; refine Za.cons (sI_ (hN2) iA (.sh .nil) (.sh lcA .nil) xR_ xR_ rfl) ?_) | (guard_target =~ Zh; first | refine Za.cons (sV_ (hN1) iA (.sh .nil) (.sh lcA .nil) xR_ xR_ rfl) ?_) | refine ax_ ?_ | (refine neA ?_; first | ((first | refine Zd.ret (.cell inferInstance rfl rfl .nil) rfl ?_ ?_ | refine Zd.normal (.cell inferInstance rfl rfl .nil) rfl ?_ ?_) <;> try exact rfl))|fail)
    all_goals first | rfl | (exfalso; omega)
theorem Zmg : ∃ A B C : List Int, (J5 A B C /\ A.length <= 14) /\ Zj Tryz.prog 175 [Zs3 [2, 3], aI 3] [rCl A B C] [] := by
 have h1 := Zkr [2, 3] br23 3 j2
 have h2 := Q3 [2, 3] br23 3 j2
 have e : ∃ cd : List Int, cdL (Km [2, 3] 3) = cd /\ cd.length = 2 /\ (∀ x ∈ cd, -1000000 <= x /\ x <= 1000000) /\ J5 (Zoj 3) (Zok cd 3) (Km [2, 3] 3) := ⟨_, rfl, by decide, by decide, by decide +kernel⟩
 obtain ⟨cd, e1, e2, e3, e4⟩ := e
 rw [e1] at h1
 refine ⟨_, _, _, ⟨e4, by rw [Zim]; omega⟩, Zkn [2, 3] cd (Km [2, 3] 3) 3 j2 j2 (fun i => ?_) h1 h2⟩
 rw [List.getD_eq_getElem?_getD]
 cases q : cd[i]? with
 | none => simp
 | some x => exact e3 x (List.mem_of_getElem? q)
theorem Zet {l : List Int} (hb : By l) {s : St} (hs : OkS l s) (most : Int) (hm : 1 <= most /\ most <= 14) : ∃ (P S W : List Int) (s' : St), (J5 P S W /\ P.length <= 14) /\ OkS l s' /\ Xn Tryz.prog 174 (dSs l s) [aI most] [rCl P S W] (dSs l s') := by
 obtain ⟨n, s00, d0⟩ := Xc hb hs most
 have hn : 0 <= n /\ n < most := ⟨d0.1.1, d0.1.2.2 j2⟩
 obtain ⟨P, S, s0, r0, hg, hs0, e0⟩ := Zru hb n.toNat [-1] [-1] s00 .first d0.2.1
 simp only [List.length_singleton] at e0
 have hpl := Zon r0 .first .first
 have hN0 := Zwm hb most j2 d0 r0
 have hsl := hg.len
 have hl : P.length <= 24 := by omega
 have hl14 : P.length <= 14 := by omega
 obtain ⟨z, s1, d1⟩ := Xc hb hs0 2
 by_cases hz : z = 0
 ·obtain ⟨W', s', r, o, e⟩ := Zz1 hb (n := P.length) P.length (List.replicate P.length 0) s1 d1.2.1
  have hw := Xa7 r fun i => by
   rw [List.getD_eq_getElem?_getD, List.getElem?_replicate]
   split <;> simp
  rw [List.length_replicate] at e
  refine ⟨P, S, W', s', ⟨⟨⟨hg.one, hl⟩, ⟨hsl, e⟩, fun i hi => ?_, hpl⟩, hl14⟩, o, Zwp most j2 hN0 d1 hz r⟩
  have := hw i
  omega
 ·obtain ⟨W', s', r, o, e⟩ := Zz2 hb (P := P) (S := S) P.length (List.replicate P.length 0) s1 d1.2.1
  rw [List.length_replicate] at e
  have hI := Zip P S W' j2 j2 j2
  obtain ⟨A, B, C, hcl, hB⟩ := Zmg
  by_cases hd : J5 P S W'
  ·rw [decide_eq_true hd] at hI
   exact ⟨P, S, W', s', ⟨hd, hl14⟩, o, Zom most hg j2 hN0 d1 hz r hI (fun _ => ⟨rfl, rfl, rfl⟩) (fun h => by cases h)⟩
  ·rw [decide_eq_false hd] at hI
   exact ⟨A, B, C, s', hcl, o, Zom most hg j2 hN0 d1 hz r hI (fun h => by cases h) (fun _ => hB)⟩
section
attribute [local irreducible] J5 decIsCl decIsBr Vq
theorem Zqg {l : List Int} (hb : By l) {s : St} (hs : OkS l s) (most : Int) (hm : 1 <= most /\ most <= 14) : ∃ (P S W : List Int) (s' : St), (J5 P S W /\ P.length <= 14) /\ OkS l s' /\ Xn Tryz.prog 148 (dSs l s) [aI most] [rCl P S W] (dSs l s') := by
 obtain ⟨z, s1, d1⟩ := Xc hb hs 2
 have hz := d1.2.2
 by_cases h0 : z = 0
 ·obtain ⟨T, s2, hT, hs2, hD⟩ := Zw4 hb d1.2.1
  obtain ⟨x, s3, d3⟩ := Xc hb hs2 most
  have hx := d3.2.2
  obtain ⟨n, rfl⟩ : ∃ n : Nat, x = n := ⟨x.toNat, by have := d3.1.1; omega⟩
  have hn : n <= 13 := by have := d3.1.2.2 j2; omega
  obtain ⟨A, B, C, hA, hB, hC, hR⟩ := Zqe T hT n j2
  have hI := Zip A B C j2 j2 j2
  subst h0
  by_cases hc : J5 A B C
  ·rw [decide_eq_true hc] at hI
   refine ⟨A, B, C, s3, ⟨hc, by omega⟩, d3.2.1, ?_⟩
   clear d1 d3 hb hs hs2 hT hc
   refine cN_ _ Tryz.func148 rfl Tryz.ntmps148 ?_
   repeat' (first | (refine w2_ ?_ ?_ <;> intro _ <;> try (exfalso; omega)) | (guard_target =~ AtN 7; refine Za.cons (sI_ (hz) iA (.sh .nil) (.sh lcA .nil) xR_ xR_ rfl) ?_) | (guard_target =~ AtN 10; refine Za.cons (sV_ (hD) iA .nil .nil xR_ xR_ rfl) ?_) | (guard_target =~ AtN 13; refine Za.cons (sI_ (hx) iA (.sh .nil) (.sh lcA .nil) xR_ xR_ rfl) ?_) | (guard_target =~ AtN 15; refine Za.cons (sC_ (hR) (.sh (.sh .nil)) (.shAgg rfl gA_ (.sh wS_ .nil)) rfl) ?_) | (guard_target =~ AtN 17; refine Za.cons (sC_ (hI) (.sh .nil) (.shAgg rfl gA_ .nil) rfl) ?_) | refine ax_ ?_ | (refine neA ?_; first | ((first | refine Zd.ret (.cell inferInstance rfl rfl .nil) rfl ?_ ?_ | refine Zd.normal (.cell inferInstance rfl rfl .nil) rfl ?_ ?_) <;> try exact rfl))|fail)
   all_goals first | rfl | (exfalso; omega)
  ·rw [decide_eq_false hc] at hI
   obtain ⟨P, S, W, s4, hcl, hs4, hE⟩ := Zet hb d3.2.1 most hm
   refine ⟨P, S, W, s4, hcl, hs4, ?_⟩
   clear d1 d3 hb hs hs2 hT hc hcl
   refine cN_ _ Tryz.func148 rfl Tryz.ntmps148 ?_
   repeat' (first | (refine w2_ ?_ ?_ <;> intro _ <;> try (exfalso; omega)) | (guard_target =~ AtN 7; refine Za.cons (sI_ (hz) iA (.sh .nil) (.sh lcA .nil) xR_ xR_ rfl) ?_) | (guard_target =~ AtN 10; refine Za.cons (sV_ (hD) iA .nil .nil xR_ xR_ rfl) ?_) | (guard_target =~ AtN 13; refine Za.cons (sI_ (hx) iA (.sh .nil) (.sh lcA .nil) xR_ xR_ rfl) ?_) | (guard_target =~ AtN 15; refine Za.cons (sC_ (hR) (.sh (.sh .nil)) (.shAgg rfl gA_ (.sh wS_ .nil)) rfl) ?_) | (guard_target =~ AtN 17; refine Za.cons (sC_ (hI) (.sh .nil) (.shAgg rfl gA_ .nil) rfl) ?_) | (guard_target =~ AtN 21; refine Za.cons (sV_ (hE) iA (.sh .nil) (.sh lcA .nil) xR_ xR_ rfl) ?_) | refine ax_ ?_ | (refine neA ?_; first | ((first | refine Zd.ret (.cell inferInstance rfl rfl .nil) rfl ?_ ?_ | refine Zd.normal (.cell inferInstance rfl rfl .nil) rfl ?_ ?_) <;> try exact rfl))|fail)
   all_goals first | rfl | (exfalso; omega)
 ·obtain ⟨P, S, W, s4, hcl, hs4, hE⟩ := Zet hb d1.2.1 most hm
  refine ⟨P, S, W, s4, hcl, hs4, ?_⟩
  clear d1 hb hs hcl
  refine cN_ _ Tryz.func148 rfl Tryz.ntmps148 ?_
  repeat' (first | (refine w2_ ?_ ?_ <;> intro _ <;> try (exfalso; omega)) | (guard_target =~ AtN 7; refine Za.cons (sI_ (hz) iA (.sh .nil) (.sh lcA .nil) xR_ xR_ rfl) ?_) | (guard_target =~ AtN 21; refine Za.cons (sV_ (hE) iA (.sh .nil) (.sh lcA .nil) xR_ xR_ rfl) ?_) | refine ax_ ?_ | (refine neA ?_; first | ((first | refine Zd.ret (.cell inferInstance rfl rfl .nil) rfl ?_ ?_ | refine Zd.normal (.cell inferInstance rfl rfl .nil) rfl ?_ ?_) <;> try exact rfl))|fail)
  all_goals first | rfl | (exfalso; omega)
end
theorem Zit {l : List Int} (hb : By l) {s : St} (hs : OkS l s) : ∃ (w : List Int) (E : List (List Int)) (s' : St), (Gs w E /\ (Zp w E -> TB w)) /\ OkS l s' /\
  Xn Tryz.prog 120 (dSs l s) [] [rGr w E] (dSs l s') := by
 obtain ⟨z, s1, d1⟩ := Xc hb hs 4
 by_cases hz : z = 0
 ·obtain ⟨w, E, s2, hg, hs2, hA⟩ := Zis hb d1.2.1 14 j2
  have h1 := d1.2.2
  refine ⟨w, E, s2, hg, hs2, ?_⟩
  subst hz
  clear hg hs2 d1 hb hs
  refine cN_ _ Tryz.func120 rfl Tryz.ntmps120 ?_
  repeat' (first | (refine w2_ ?_ ?_ <;> intro _) | (guard_target =~ AtN 15; refine Za.cons (sI_ (h1) iA (.sh .nil) (.sh lcA .nil) xR_ xR_ rfl) ?_) | (guard_target =~ AtN 18; refine Za.cons (sV_ (hA) iA (.sh .nil) (.sh lcA .nil) xR_ xR_ rfl) ?_) | refine ax_ ?_ | (refine neA ?_; first | ((first | refine Zd.ret (.cell inferInstance rfl rfl .nil) rfl ?_ ?_ | refine Zd.normal (.cell inferInstance rfl rfl .nil) rfl ?_ ?_) <;> try exact rfl))|fail)
  all_goals first | rfl | (exfalso; omega)
 ·obtain ⟨P, S, W, s2, ⟨hcl, h14⟩, hs2, hD⟩ := Zqg hb d1.2.1 14 j2
  have hc := hcl.cl
  have hG := Zoa P S W hc
  have hlen := hc.len
  have hsm := Zxf hc h14
  have hfew : (Jq P S P.length P.length).length <= 24 * 24 := Nat.le_trans (Zh5 P S P.length P.length) (Nat.mul_le_mul hlen.2 hlen.2)
  have hwl := Zn9 P S P.length P.length
  have hwb : ∀ i, -(2000 : Int) <= (Hr P S P.length P.length).getD i 0 /\ (Hr P S P.length P.length).getD i 0 <= 2000 := fun i => by
   by_cases h : i < P.length
   ·have := Zlp P S i i P.length
    simp only [Hr, List.getD_eq_getElem?_getD, List.getElem?_map, List.getElem?_range h, Option.map_some, Option.getD_some]
    omega
   ·rw [List.getD_eq_getElem?_getD, List.getElem?_eq_none (by rw [hwl]; omega)]
    simp
  have hr : ∀ j, j < (Jq P S P.length P.length).length -> ((Jq P S P.length P.length).getD (j * 1) []).length = 2 /\ (0 <= ((Jq P S P.length P.length).getD (j * 1) []).getD (0 * 1) 0 /\ ((Jq P S P.length P.length).getD (j * 1) []).getD (0 * 1) 0 < (Hr P S P.length P.length).length) /\ (0 <= ((Jq P S P.length P.length).getD (j * 1) []).getD (1 * 1) 0 /\ ((Jq P S P.length P.length).getD (j * 1) []).getD (1 * 1) 0 < (Hr P S P.length P.length).length) := fun j hj => by
   rw [Nat.mul_one]
   have hm : (Jq P S P.length P.length).getD j [] ∈ Jq P S P.length P.length := by rw [List.getD_eq_getElem?_getD, List.getElem?_eq_getElem hj]; exact List.getElem_mem hj
   obtain ⟨a, b, q1, q2, q3, e⟩ := Zn8 _ _ hm
   rw [e, hwl]
   simp only [Nat.zero_mul, Nat.one_mul]
   refine ⟨rfl, ?_, ?_⟩
   ·show 0 <= (a : Int) /\ (a : Int) < _; omega
   ·show 0 <= (b : Int) /\ (b : Int) < _; omega
  generalize Hr P S P.length P.length = w at *
  generalize Jq P S P.length P.length = E at *
  obtain ⟨O, s', r, hO, o, e⟩ := Zr7 hb w.length [] s2 .nil hs2
  simp only [List.length_nil, Nat.zero_add] at e
  refine ⟨_, _, s', ⟨⟨by rw [Zmb]; omega, Zw5 j2 hwb _, ?_, Zw6 (Zmc O E _)⟩, fun _ => Zz3 (Nat.le_trans (Zxg O w w.length (Nat.le_refl _)) (by rw [List.take_length]; exact hsm))⟩, o, Zth d1 hz hD hG j2 j2 hr r hO e⟩
  rw [(Jp _).length_eq, Zgc]
  omega
inductive Zov (l : List Int) : Nat -> List Int -> List (List Int) -> St -> List Int -> List (List Int) -> St -> Prop
 | done {w E s} : Zov l 0 w E s w E s
 | stop {k w E s} (h : Zp w E) (h2 : (1 : Int) ∉ X1 w E) : Zov l (k + 1) w E s w E s
 | bad {k w E s w1 E1 s1 W F S} (h : ¬ Zp w E) (hs : Gs w1 E1 /\ (Zp w1 E1 -> TB w1)) (d : Xn Tryz.prog 120 (dSs l s) [] [rGr w1 E1] (dSs l s1)) (r : Zov l k w1 E1 s1 W F S) : Zov l (k + 1) w E s W F S
 | apart {k w E s w1 E1 s1 W F S} (h : Zp w E) (h2 : (1 : Int) ∈ X1 w E) (hs : Gs w1 E1 /\ (Zp w1 E1 -> TB w1)) (d : Xn Tryz.prog 120 (dSs l s) [] [rGr w1 E1] (dSs l s1)) (r : Zov l k w1 E1 s1 W F S) : Zov l (k + 1) w E s W F S
theorem Zr8 {l : List Int} (hb : By l) : ∀ (k : Nat) (w : List Int) (E : List (List Int)) (s : St), (Gs w E /\ (Zp w E -> TB w)) -> OkS l s -> ∃ W F S, Zov l k w E s W F S /\ (Gs W F /\ (Zp W F -> TB W)) /\ OkS l S
 | 0, w, E, s, hg, hs => ⟨w, E, s, .done, hg, hs⟩
 | k + 1, w, E, s, hg, hs => by
  obtain ⟨w1, E1, s1, hg1, hs1, d⟩ := Zit hb hs
  obtain ⟨W, F, S, r, g, o⟩ := Zr8 hb k w1 E1 s1 hg1 hs1
  by_cases h : Zp w E
  ·by_cases h2 : (1 : Int) ∈ X1 w E
   ·exact ⟨W, F, S, .apart h h2 hg1 d r, g, o⟩
   ·exact ⟨w, E, s, .stop h h2, hg, hs⟩
  ·exact ⟨W, F, S, .bad h hg1 d r, g, o⟩
section
attribute [local irreducible] Zp decIsGr
theorem Zeb {l : List Int} (hb : By l) {s : St} (hs : OkS l s) : ∃ (w : List Int) (E : List (List Int)) (s' : St), (Gs w E /\ (Zp w E -> TB w)) /\ OkS l s' /\
  Xn Tryz.prog 59 (dSs l s) [] [rGr w E] (dSs l s') := by
 obtain ⟨z, s1, d1⟩ := Xc hb hs 16
 have h1 := d1.2.2
 by_cases hz : z = 0
 ·obtain ⟨w, E, s2, hg, hs2, hA⟩ := Zis hb d1.2.1 10 j2
  refine ⟨w, E, s2, hg, hs2, ?_⟩
  subst hz
  clear hg hs2 d1 hb hs
  refine cN_ _ Tryz.func59 rfl Tryz.ntmps59 ?_
  repeat' (first | (refine w2_ ?_ ?_ <;> intro _) | (guard_target =~ AtN 6; refine Za.cons (sI_ (h1) iA (.sh .nil) (.sh lcA .nil) xR_ xR_ rfl) ?_) | (guard_target =~ AtN 9; refine Za.cons (sV_ (hA) iA (.sh .nil) (.sh lcA .nil) xR_ xR_ rfl) ?_) | refine ax_ ?_ | (refine neA ?_; first | ((first | refine Zd.ret (.cell inferInstance rfl rfl .nil) rfl ?_ ?_ | refine Zd.normal (.cell inferInstance rfl rfl .nil) rfl ?_ ?_) <;> try exact rfl))|fail)
  all_goals first | rfl | (exfalso; omega)
 ·obtain ⟨w, E, s2, hg, hs2, hA⟩ := Zit hb d1.2.1
  obtain ⟨W, F, S, hgo, hG, hS⟩ := Zr8 hb 4 w E s2 hg hs2
  refine ⟨W, F, S, hG, hS, ?_⟩
  clear d1 hb hs hS hG hs2
  refine cN_ _ Tryz.func59 rfl Tryz.ntmps59 ?_
  repeat' (first | (refine w2_ ?_ ?_ <;> intro _) | (guard_target =~ AtN 6; refine Za.cons (sI_ (h1) iA (.sh .nil) (.sh lcA .nil) xR_ xR_ rfl) ?_) | (guard_target =~ AtN 11; refine Za.cons (sV_ (hA) iA .nil .nil xR_ xR_ rfl) ?_) | refine ax_ ?_ | (refine neA ?_; first | ((first | refine Zd.ret (.cell inferInstance rfl rfl .nil) rfl ?_ ?_ | refine Zd.normal (.cell inferInstance rfl rfl .nil) rfl ?_ ?_) <;> try exact rfl))|fail)
  all_goals try (exfalso; omega)
  clear h1 hA
  refine WpA.loop_slots (ι := Nat × List Int × List (List Int) × St × Nat) (fun q => [(0, .own 0 (dSs l q.2.2.2.1)), (2, .own 1 (.pt true [.sl true 1 [], .sl true 1 []])), (3, .own q.2.2.2.2 (dG2 q.2.1 q.2.2.1)), (4, vG ((4 - q.1 : Nat) : Int))]) (fun q => (Zov l q.1 q.2.1 q.2.2.1 q.2.2.2.1 W F S /\ q.1 <= 4) /\ Gs q.2.1 q.2.2.1) (fun q => q.1) (4, w, E, s2, _) ⟨⟨hgo, by simp⟩, hg.1⟩ ⟨rfl, rfl, xR_, rfl, trivial⟩ ?_
  clear hgo hg
  rintro ⟨k, w, E, t, i3⟩ st nx ⟨⟨hgo, hk⟩, hg⟩
  simp only at hgo hk hg
  dsimp only
  have hwl := hg.lw
  have hel := hg.le
  cases hgo with
  | done =>
   clear hg
   repeat' (first | (refine w2_ ?_ ?_ <;> intro _ <;> try (exfalso; omega)) | refine ax_ ?_ | (refine neA ?_; first | ((first | refine Zd.ret (.cell inferInstance rfl rfl .nil) rfl ?_ ?_ | refine Zd.normal (.cell inferInstance rfl rfl .nil) rfl ?_ ?_) <;> try exact rfl))|fail)
   all_goals first | rfl | (exfalso; omega)
  | stop h h2 =>
   rename_i k
   have hI := Y4 W F j2 j2
   rw [decide_eq_true h] at hI
   have hL := Yb W F h
   have hcl := Ur W F
   have hH := Zhi (X1 W F) 1 j2
   rw [decide_eq_false h2] at hH
   clear hg h h2
   generalize X1 W F = L at *
   repeat' (first | (refine w2_ ?_ ?_ <;> intro _ <;> try (exfalso; omega)) | (guard_target =~ IsG; first | refine psA ?_ | (guard_target =~ AtS 16; refine Za.doit rfl rfl (sC_ (hI) (.sh .nil) (.shAgg rfl gA_ .nil) rfl) ?_) | (guard_target =~ AtS 20; refine Za.doit rfl rfl (sC_ (hL) (.sh .nil) (.shAgg rfl gA_ .nil) rfl) ?_) | (guard_target =~ AtS 21; refine Za.doit rfl rfl (sC_ (hH) mA8 rD8 rfl) ?_)) | refine ax_ ?_ | (refine neA ?_; first | ((first | refine Zd.ret (.cell inferInstance rfl rfl .nil) rfl ?_ ?_ | refine Zd.normal (.cell inferInstance rfl rfl .nil) rfl ?_ ?_) <;> try exact rfl))|fail)
   all_goals first | rfl | (exfalso; omega) | (exfalso; simp_all; done)
  | bad h hs1 d r =>
   rename_i k w1 E1 t1
   have hI := Y4 w E j2 j2
   rw [decide_eq_false h] at hI
   clear hg h
   repeat' (first | (refine w2_ ?_ ?_ <;> intro _ <;> try (exfalso; omega)) | (guard_target =~ AtN 27; refine Za.cons (sV_ (d) iA .nil .nil xR_ xR_ rfl) ?_) | (guard_target =~ IsG; first | refine psA ?_ | (guard_target =~ AtS 16; refine Za.doit rfl rfl (sC_ (hI) (.sh .nil) (.shAgg rfl gA_ .nil) rfl) ?_)) | refine ax_ ?_ | (refine neA ?_; first | ((first | refine Zd.ret (.cell inferInstance rfl rfl .nil) rfl ?_ ?_ | refine Zd.normal (.cell inferInstance rfl rfl .nil) rfl ?_ ?_) <;> try exact rfl))|fail)
   all_goals try (exfalso; omega)
   all_goals try (exfalso; simp_all; done)
   all_goals exact ⟨(k, w1, E1, t1, _), ⟨⟨r, by simp only; omega⟩, hs1.1⟩, ⟨rfl, rfl, xR_, Zb p9, trivial⟩, by simp only; omega⟩
  | apart h h2 hs1 d r =>
   rename_i k w1 E1 t1
   have hI := Y4 w E j2 j2
   rw [decide_eq_true h] at hI
   have hL := Yb w E h
   have hcl := Ur w E
   have hH := Zhi (X1 w E) 1 j2
   rw [decide_eq_true h2] at hH
   clear hg h h2
   generalize X1 w E = L at *
   repeat' (first | (refine w2_ ?_ ?_ <;> intro _ <;> try (exfalso; omega)) | (guard_target =~ AtN 27; refine Za.cons (sV_ (d) iA .nil .nil xR_ xR_ rfl) ?_) | (guard_target =~ IsG; first | refine psA ?_ | (guard_target =~ AtS 16; refine Za.doit rfl rfl (sC_ (hI) (.sh .nil) (.shAgg rfl gA_ .nil) rfl) ?_) | (guard_target =~ AtS 20; refine Za.doit rfl rfl (sC_ (hL) (.sh .nil) (.shAgg rfl gA_ .nil) rfl) ?_) | (guard_target =~ AtS 21; refine Za.doit rfl rfl (sC_ (hH) mA8 rD8 rfl) ?_)) | refine ax_ ?_ | (refine neA ?_; first | ((first | refine Zd.ret (.cell inferInstance rfl rfl .nil) rfl ?_ ?_ | refine Zd.normal (.cell inferInstance rfl rfl .nil) rfl ?_ ?_) <;> try exact rfl))|fail)
   all_goals try (exfalso; omega)
   all_goals try (exfalso; simp_all; done)
   all_goals exact ⟨(k, w1, E1, t1, _), ⟨⟨r, by simp only; omega⟩, hs1.1⟩, ⟨rfl, rfl, xR_, Zb p9, trivial⟩, by simp only; omega⟩
theorem Ztl {l : List Int} (hb : By l) : ∃ (w : List Int) (E : List (List Int)) (v u : Int), (Gs w E /\ (Zp w E -> TB w)) /\ Zj Tryz.prog 32 [aBy l] [rGr w E, rI v, rI u] [] := by
 obtain ⟨s, hs, hF⟩ := Zik hb
 obtain ⟨w, E, s1, hg, hs1, hA⟩ := Zeb hb hs
 obtain ⟨v, s2, d2⟩ := Xc hb hs1 (w.length : Int)
 have hw := hg.1.lw
 have hE := hg.1.le
 have h2 := d2.2.2
 have hI := Y4 w E j2 j2
 by_cases h : Zp w E
 ·rw [decide_eq_true h] at hI
  obtain ⟨x, s3, d3⟩ := Xc hb d2.2.1 4
  have h3 := d3.2.2
  by_cases hx : 0 < x
  ·have hN := Zdm w E v j2 (fun j hj => (Zoo h j hj).1)
   have hnl := Jh (Zoo h) v
   by_cases hp : 0 < (Zf E v).length
   ·obtain ⟨y, s4, d4⟩ := Xc hb d3.2.1 ((Zf E v).length : Int)
    have h4 := d4.2.2
    have hy : 0 <= y /\ y < (Zf E v).length := ⟨d4.1.1, d4.1.2.2 j2⟩
    refine ⟨w, E, v, (Zf E v).getD (y.toNat * 1) 0, hg, ?_⟩
    clear hg hb d2 d3 d4 hs hs1 h
    generalize Zf E v = R at *
    refine cA_ _ Tryz.func32 rfl Tryz.ntmps32 sO_ ?_
    repeat' (first | (refine w2_ ?_ ?_ <;> intro _ <;> try (exfalso; omega)) | (guard_target =~ AtN 11; refine Za.cons (Z2 (hF) (.sh .nil) (.sh lcA .nil) rfl) ?_) | (guard_target =~ AtN 13; refine Za.cons (sV_ (hA) iA .nil .nil xR_ xR_ rfl) ?_) | (guard_target =~ AtN 19; refine Za.cons (sI_ (h2) iA (.sh .nil) (.sh lcA .nil) xR_ xR_ rfl) ?_) | (guard_target =~ AtN 21; refine Za.cons (sC_ (hI) (.sh .nil) (.shAgg rfl gA_ .nil) rfl) ?_) | (guard_target =~ AtN 29; refine Za.cons (sC_ (hN) (.sh (.sh .nil)) (.shAgg rfl gA_ (.sh wS_ .nil)) rfl) ?_) | (guard_target =~ AtN 39; refine Za.cons (sI_ (h4) iA (.sh .nil) (.sh lcA .nil) xR_ xR_ rfl) ?_) | (guard_target =~ IsG; first | refine psA ?_ | (guard_target =~ AtS 24; refine Za.doit rfl rfl (sI_ (h3) iA (.sh .nil) (.sh lcA .nil) xR_ xR_ rfl) ?_)) | refine ax_ ?_ | (refine neA ?_; first | refine Z6.ret (.cell inferInstance rfl rfl (.one rA_ (.one rA_ .nil))) oS8 ?_ rfl)|fail)
    all_goals first | rfl | (exfalso; omega)
   ·obtain ⟨u, s4, d4⟩ := Xc hb d3.2.1 ((w.length : Int) + 1)
    have h4 := d4.2.2
    refine ⟨w, E, v, u, hg, ?_⟩
    clear hg hb d2 d3 d4 hs hs1 h
    generalize Zf E v = R at *
    refine cA_ _ Tryz.func32 rfl Tryz.ntmps32 sO_ ?_
    repeat' (first | (refine w2_ ?_ ?_ <;> intro _ <;> try (exfalso; omega)) | (guard_target =~ AtN 11; refine Za.cons (Z2 (hF) (.sh .nil) (.sh lcA .nil) rfl) ?_) | (guard_target =~ AtN 13; refine Za.cons (sV_ (hA) iA .nil .nil xR_ xR_ rfl) ?_) | (guard_target =~ AtN 19; refine Za.cons (sI_ (h2) iA (.sh .nil) (.sh lcA .nil) xR_ xR_ rfl) ?_) | (guard_target =~ AtN 21; refine Za.cons (sC_ (hI) (.sh .nil) (.shAgg rfl gA_ .nil) rfl) ?_) | (guard_target =~ AtN 29; refine Za.cons (sC_ (hN) (.sh (.sh .nil)) (.shAgg rfl gA_ (.sh wS_ .nil)) rfl) ?_) | (guard_target =~ AtN 47; refine Za.cons (sI_ (h4) iA (.sh .nil) (.sh lcA .nil) xR_ xR_ rfl) ?_) | (guard_target =~ IsG; first | refine psA ?_ | (guard_target =~ AtS 24; refine Za.doit rfl rfl (sI_ (h3) iA (.sh .nil) (.sh lcA .nil) xR_ xR_ rfl) ?_)) | refine ax_ ?_ | (refine neA ?_; first | refine Z6.ret (.cell inferInstance rfl rfl (.one rA_ (.one rA_ .nil))) oS8 ?_ rfl)|fail)
    all_goals first | rfl | (exfalso; omega)
  ·obtain ⟨u, s4, d4⟩ := Xc hb d3.2.1 ((w.length : Int) + 1)
   have h4 := d4.2.2
   refine ⟨w, E, v, u, hg, ?_⟩
   clear hg hb d2 d3 d4 hs hs1 h
   refine cA_ _ Tryz.func32 rfl Tryz.ntmps32 sO_ ?_
   repeat' (first | (refine w2_ ?_ ?_ <;> intro _ <;> try (exfalso; omega)) | (guard_target =~ AtN 11; refine Za.cons (Z2 (hF) (.sh .nil) (.sh lcA .nil) rfl) ?_) | (guard_target =~ AtN 13; refine Za.cons (sV_ (hA) iA .nil .nil xR_ xR_ rfl) ?_) | (guard_target =~ AtN 19; refine Za.cons (sI_ (h2) iA (.sh .nil) (.sh lcA .nil) xR_ xR_ rfl) ?_) | (guard_target =~ AtN 21; refine Za.cons (sC_ (hI) (.sh .nil) (.shAgg rfl gA_ .nil) rfl) ?_) | (guard_target =~ AtN 47; refine Za.cons (sI_ (h4) iA (.sh .nil) (.sh lcA .nil) xR_ xR_ rfl) ?_) | (guard_target =~ IsG; first | refine psA ?_ | (guard_target =~ AtS 24; refine Za.doit rfl rfl (sI_ (h3) iA (.sh .nil) (.sh lcA .nil) xR_ xR_ rfl) ?_)) | refine ax_ ?_ | (refine neA ?_; first | refine Z6.ret (.cell inferInstance rfl rfl (.one rA_ (.one rA_ .nil))) oS8 ?_ rfl)|fail)
   all_goals first | rfl | (exfalso; omega)
 ·rw [decide_eq_false h] at hI
  obtain ⟨u, s4, d4⟩ := Xc hb d2.2.1 ((w.length : Int) + 1)
  have h4 := d4.2.2
  refine ⟨w, E, v, u, hg, ?_⟩
  clear hg hb d2 d4 hs hs1 h
  refine cA_ _ Tryz.func32 rfl Tryz.ntmps32 sO_ ?_
  repeat' (first | (refine w2_ ?_ ?_ <;> intro _ <;> try (exfalso; omega)) | (guard_target =~ AtN 11; refine Za.cons (Z2 (hF) (.sh .nil) (.sh lcA .nil) rfl) ?_) | (guard_target =~ AtN 13; refine Za.cons (sV_ (hA) iA .nil .nil xR_ xR_ rfl) ?_) | (guard_target =~ AtN 19; refine Za.cons (sI_ (h2) iA (.sh .nil) (.sh lcA .nil) xR_ xR_ rfl) ?_) | (guard_target =~ AtN 21; refine Za.cons (sC_ (hI) (.sh .nil) (.shAgg rfl gA_ .nil) rfl) ?_) | (guard_target =~ AtN 47; refine Za.cons (sI_ (h4) iA (.sh .nil) (.sh lcA .nil) xR_ xR_ rfl) ?_) | refine ax_ ?_ | (refine neA ?_; first | refine Z6.ret (.cell inferInstance rfl rfl (.one rA_ (.one rA_ .nil))) oS8 ?_ rfl)|fail)
  all_goals first | rfl | (exfalso; omega)
structure Tg (w : List Int) (E : List (List Int)) : Prop where
 g : Gs w E
 t : Zp w E -> TB w
theorem Ztm {l : List Int} (hb : By l) : ∃ (w : List Int) (E : List (List Int)) (i k : Int), Tg w E /\ Zj Tryz.prog 12 [aBy l] [rGr w E, rI i, rI k] [] := by
 obtain ⟨s, hs, hF⟩ := Zik hb
 obtain ⟨w, E, s1, hg, hs1, hA⟩ := Zeb hb hs
 obtain ⟨v, s2, d2⟩ := Xc hb hs1 (w.length : Int)
 obtain ⟨x, s3, d3⟩ := Xc hb d2.2.1 24
 obtain ⟨u, s4, d4⟩ := Xc hb d3.2.1 ((w.length : Int) + x / 23)
 have hx : 0 <= x /\ x < 24 := ⟨d3.1.1, d3.1.2.2 j2⟩
 have hw := hg.1.lw
 have h2 := d2.2.2
 have h3 := d3.2.2
 have h4 := d4.2.2
 refine ⟨w, E, v, u, ⟨hg.1, hg.2⟩, ?_⟩
 clear hg hb hs hs1 d2 d3 d4
 refine cA_ _ Tryz.func12 rfl Tryz.ntmps12 sO_ ?_
 repeat' (first | (refine w2_ ?_ ?_ <;> intro _) | (guard_target =~ IsW; first | refine WpA.rerootC 15 5 10 rfl rfl rfl rfl ?_) | (guard_target =~ AtN 9; refine Za.cons (Z2 (hF) (.sh .nil) (.sh lcA .nil) rfl) ?_) | (guard_target =~ AtN 11; refine Za.cons (sV_ (hA) iA .nil .nil xR_ xR_ rfl) ?_) | (guard_target =~ AtN 18; refine Za.cons (sI_ (h2) iA (.sh .nil) (.sh lcA .nil) xR_ xR_ rfl) ?_) | (guard_target =~ AtN 22; refine Za.cons (sI_ (h3) iA (.sh .nil) (.sh lcA .nil) xR_ xR_ rfl) ?_) | (guard_target =~ AtN 25; refine Za.cons (sI_ (h4) iA (.sh .nil) (.sh lcA .nil) xR_ xR_ rfl) ?_) | refine ax_ ?_ | (refine neA ?_; first | refine Z6.ret (.cell inferInstance rfl rfl (.one rA_ (.one rA_ .nil))) oS8 ?_ rfl)|fail)
 all_goals first | rfl | (exfalso; omega)
theorem Zqh {l : List Int} (hb : By l) : ∃ (w : List Int) (E : List (List Int)), Tg w E /\ Zj Tryz.prog 8 [aBy l] [rGr w E] [] := by
 obtain ⟨s, hs, hF⟩ := Zik hb
 obtain ⟨w, E, s1, hg, hs1, hA⟩ := Zeb hb hs
 refine ⟨w, E, ⟨hg.1, hg.2⟩, ?_⟩
 clear hg hb hs hs1
 refine cA_ _ Tryz.func8 rfl Tryz.ntmps8 sO_ ?_
 repeat' (first | (refine w2_ ?_ ?_ <;> intro _) | (guard_target =~ AtN 4; refine Za.cons (Z2 (hF) (.sh .nil) (.sh lcA .nil) rfl) ?_) | (guard_target =~ AtN 5; refine Za.cons (sV_ (hA) iA .nil .nil xR_ xR_ rfl) ?_) | refine ac_ ?_|fail)
 all_goals first | rfl | (exfalso; omega)
theorem Ztn {l : List Int} (hb : By l) : ∃ (w : List Int) (E : List (List Int)) (v u : Int), Tg w E /\ Zj Tryz.prog 17 [aBy l] [rGr w E, rI v, rI u] [] := by
 obtain ⟨w, E, v, u, hg, hA⟩ := Ztl hb
 refine ⟨w, E, v, u, ⟨hg.1, hg.2⟩, ?_⟩
 clear hg hb
 refine cA_ _ Tryz.func17 rfl Tryz.ntmps17 sO_ ?_
 repeat' (first | (refine w2_ ?_ ?_ <;> intro _) | refine kN_ 6 hA ?_ | refine ax_ ?_ | (refine neA ?_; first | refine Z6.ret (.cell inferInstance rfl rfl (.one rA_ (.one rA_ .nil))) oS8 ?_ rfl)|fail)
 all_goals first | rfl | (exfalso; omega)
end
end Go.Proofs.YtmgmpnhlehonmaaGreat
