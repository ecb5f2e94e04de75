/- Calls that write into their first argument and hand it back; whether a slice is nil. No condition. -/
import Derived.Test.YtmgmpnhlehonmaaGreatWPvR
import Derived.Test.YtmgmpnhlehonmaaGreatWPvO
import Derived.Laws.Cover3
set_option linter.unusedVariables false
set_option linter.unusedSimpArgs false
namespace Go.Proofs.YtmgmpnhlehonmaaGreat
def Vs : List Int -> List Int -> Int
 | [], [] => 0
 | [], _ :: _ => -1
 | _ :: _, [] => 1
 | x :: a, y :: b => if x < y then -1 else if y < x then 1 else Vs a b
def X5 (n : Nat) : List Int := (List.range n).map fun i : Nat => (i : Int)
theorem K8 (n : Nat) : (X5 n).length = n := by simp [X5]
theorem H2 {n i : Nat} (h : i < n) : (X5 n).getD i 0 = i := by simp [X5, List.getD, h]
def ea (E : List (List Int)) (j : Nat) : Int := (E.getD j []).getD 0 0
def eb (E : List (List Int)) (j : Nat) : Int := (E.getD j []).getD 1 0
def mrg (p q : Int) (L : List Int) : List Int := L.map fun x => if x = q then p else x
theorem Zk2 (p q : Int) (L : List Int) : (mrg p q L).length = L.length := by simp [mrg]
theorem Zgu {p q : Int} {L : List Int} {i : Nat} (h : i < L.length) : (mrg p q L).getD i 0 = if L.getD i 0 = q then p else L.getD i 0 := by
 simp [mrg, List.getD, h]
theorem Zt7 (p : Int) (L : List Int) : mrg p p L = L := by
 unfold mrg
 conv => rhs; rw [<- List.map_id L]
 refine List.map_congr_left fun x _ => ?_
 split <;> simp_all
theorem Zfr {p q : Int} {L : List Int} {u v : Nat} (hu : u < L.length) (hv : v < L.length) : (mrg p q L).getD u 0 = (mrg p q L).getD v 0 ↔ (L.getD u 0 = L.getD v 0 \/ ((L.getD u 0 = p \/ L.getD u 0 = q) /\ (L.getD v 0 = p \/ L.getD v 0 = q))) := by
 rw [Zgu hu, Zgu hv]
 split <;> split <;> grind
def Qp (n : Nat) (E : List (List Int)) : Nat -> List Int
 | 0 => X5 n
 | j + 1 => mrg ((Qp n E j).getD (ea E j).toNat 0) ((Qp n E j).getD (eb E j).toNat 0) (Qp n E j)
def Xd (n : Nat) (E : List (List Int)) : Nat -> List Int
 | 0 => X5 n
 | j + 1 => mrg (min ((Xd n E j).getD (ea E j).toNat 0) ((Xd n E j).getD (eb E j).toNat 0)) (max ((Xd n E j).getD (ea E j).toNat 0) ((Xd n E j).getD (eb E j).toNat 0)) (Xd n E j)
theorem Zbw (n : Nat) (E : List (List Int)) : ∀ j, (Qp n E j).length = n
 | 0 => K8 n
 | j + 1 => by rw [Qp, Zk2, Zbw n E j]
theorem Q9 (n : Nat) (E : List (List Int)) : ∀ j, (Xd n E j).length = n
 | 0 => K8 n
 | j + 1 => by rw [Xd, Zk2, Q9 n E j]
def Vt (n : Nat) (E : List (List Int)) (j : Nat) : Prop := (E.getD j []).length = 2 /\ (0 <= ea E j /\ ea E j < eb E j /\ eb E j < n) /\ (0 < j -> Vs (E.getD (j - 1) []) (E.getD j []) < 0)
instance (n : Nat) (E : List (List Int)) (j : Nat) : Decidable (Vt n E j) := by unfold Vt; infer_instance
def Z0 (n : Nat) (E : List (List Int)) : Prop := ∀ j, j < E.length -> Vt n E j
instance (n : Nat) (E : List (List Int)) : Decidable (Z0 n E) := by unfold Z0; infer_instance
def Jj (n : Nat) (E : List (List Int)) (j : Nat) : Prop := (Xd n E j).getD (ea E j).toNat 0 ≠ (Xd n E j).getD (eb E j).toNat 0
instance (n : Nat) (E : List (List Int)) (j : Nat) : Decidable (Jj n E j) := by unfold Jj; infer_instance
def Acy (n : Nat) (E : List (List Int)) : Prop := ∀ j, j < E.length -> Jj n E j
instance (n : Nat) (E : List (List Int)) : Decidable (Acy n E) := by unfold Acy; infer_instance
theorem Zqm {n : Nat} {E : List (List Int)} : ∀ j, (∀ i, i < j -> Vt n E i) -> ∀ u v, u < n -> v < n -> ((Qp n E j).getD u 0 = (Qp n E j).getD v 0 ↔ (Xd n E j).getD u 0 = (Xd n E j).getD v 0)
 | 0, _, u, v, _, _ => Iff.rfl
 | j + 1, hg, u, v, hu, hv => by
  have ih := Zqm j (fun i hi => hg i (by omega))
  have g := (hg j (by omega)).2.1
  have l1 := Zbw n E j
  have l2 := Q9 n E j
  have ha : (ea E j).toNat < n := by omega
  have hb : (eb E j).toNat < n := by omega
  rw [Qp, Xd, Zfr (by omega) (by omega), Zfr (by omega) (by omega), ih u v hu hv, ih u _ hu ha, ih u _ hu hb, ih v _ hv ha, ih v _ hv hb]
  generalize (Xd n E j).getD (ea E j).toNat 0 = a
  generalize (Xd n E j).getD (eb E j).toNat 0 = b
  generalize (Xd n E j).getD u 0 = x
  generalize (Xd n E j).getD v 0 = y
  have key : ∀ x : Int, (x = min a b \/ x = max a b) ↔ (x = a \/ x = b) := fun x => by omega
  rw [key, key]
theorem Zxn {n : Nat} {E : List (List Int)} {j : Nat} (hg : ∀ i, i < j + 1 -> Vt n E i) : Jj n E j ↔ (Qp n E j).getD (ea E j).toNat 0 ≠ (Qp n E j).getD (eb E j).toNat 0 := by
 have g := (hg j (by omega)).2.1
 exact not_congr (Zqm j (fun i hi => hg i (by omega)) _ _ (by omega) (by omega)).symm
def Zr (L : List Int) (i : Nat) : Bool := L.getD i 0 == (i : Int)
def cnt (f : Nat -> Bool) : Nat -> Nat
 | 0 => 0
 | n + 1 => cnt f n + if f n then 1 else 0
theorem Zm1 {f g : Nat -> Bool} {q : Nat} (hq : f q = true) (hgq : g q = false) : ∀ n, (∀ i, i < n -> i ≠ q -> f i = g i) -> cnt f n = cnt g n + if q < n then 1 else 0
 | 0, _ => by simp [cnt]
 | n + 1, h => by
  have ih := Zm1 hq hgq n (fun i hi => h i (by omega))
  rw [cnt, cnt, ih]
  by_cases e : n = q
  ·subst e; simp [hq, hgq]
  ·rw [h n (by omega) e]
   by_cases h1 : q < n
   ·rw [if_pos h1, if_pos (show q < n + 1 by omega)]; omega
   ·rw [if_neg h1, if_neg (show ¬ q < n + 1 by omega)]; omega
theorem Za5 (f : Nat -> Bool) : ∀ n, cnt f n <= n
 | 0 => Nat.le_refl _
 | n + 1 => by have := Za5 f n; rw [cnt]; split <;> omega
theorem Zt8 (f : Nat -> Bool) {a b : Nat} (h : a <= b) : cnt f a <= cnt f b := by
 induction b with
 | zero => rw [Nat.le_zero.1 h]; exact Nat.le_refl _
 | succ b ih =>
  rcases Nat.lt_or_ge a (b + 1) with h1 | h1
  ·have := ih (by omega)
   rw [cnt]; omega
  ·rw [Nat.le_antisymm h h1]; exact Nat.le_refl _
theorem Qy (f : Nat -> Bool) {a b : Nat} (h : a < b) (ha : f a = true) : cnt f a < cnt f b := by
 have := Zt8 f (a := a + 1) (b := b) (by omega)
 rw [cnt, ha] at this
 simp at this
 omega
theorem Zqn {f : Nat -> Bool} : ∀ n, (∀ i, i < n -> f i = true) -> cnt f n = n
 | 0, _ => rfl
 | n + 1, h => by rw [cnt, Zqn n (fun i hi => h i (by omega)), h n (by omega)]; rfl
def Zgv (n : Nat) (L : List Int) : Prop := L.length = n /\ ∀ i, i < n -> 0 <= L.getD i 0 /\ L.getD i 0 <= i /\ L.getD (L.getD i 0).toNat 0 = L.getD i 0
theorem Zjm {n : Nat} {L : List Int} {a b : Nat} (h : Zgv n L) (ha : a < n) (hb : b < n) (hab : L.getD a 0 < L.getD b 0) :
  Zgv n (mrg (L.getD a 0) (L.getD b 0) L) /\ cnt (Zr L) n = cnt (Zr (mrg (L.getD a 0) (L.getD b 0) L)) n + 1 := by
 obtain ⟨hl, h⟩ := h
 have h1 := h a ha
 have h2 := h b hb
 generalize hp : L.getD a 0 = p at *
 generalize hq : L.getD b 0 = q at *
 have at' : ∀ i, i < n -> (mrg p q L).getD i 0 = if L.getD i 0 = q then p else L.getD i 0 := fun i hi => Zgu (by omega)
 refine ⟨⟨by rw [Zk2, hl], fun i hi => ?_⟩, ?_⟩
 ·have h3 := h i hi
  rw [at' i hi]
  by_cases e : L.getD i 0 = q
  ·rw [if_pos e, at' _ (by omega), h1.2.2, if_neg (by omega)]
   omega
  ·rw [if_neg e, at' _ (by omega), h3.2.2, if_neg e]
   omega
 ·have hr := Zm1 (f := Zr L) (g := Zr (mrg p q L)) (q := q.toNat) (by unfold Zr; rw [beq_iff_eq, h2.2.2]; omega) (by
   have := at' q.toNat (by omega)
   rw [h2.2.2, if_pos rfl] at this
   simp only [Zr, this, beq_eq_false_iff_ne]
   omega) n (fun i hi hne => by
    have h3 := h i hi
    simp only [Zr, at' i hi]
    by_cases e : L.getD i 0 = q
    ·rw [if_pos e]
     have : L.getD i 0 ≠ (i : Int) := fun e2 => hne (by omega)
     have h4 : p ≠ (i : Int) := by omega
     rw [beq_eq_false_iff_ne.2 this, beq_eq_false_iff_ne.2 h4]
    ·rw [if_neg e])
  rw [hr, if_pos (by omega)]
theorem Zo6 (n : Nat) : Zgv n (X5 n) := by
 refine ⟨K8 n, fun i hi => ?_⟩
 rw [H2 hi, Int.toNat_natCast, H2 hi]
 omega
theorem Qh {n : Nat} {E : List (List Int)} : ∀ j, (∀ i, i < j -> Vt n E i) -> Zgv n (Xd n E j) /\ n <= cnt (Zr (Xd n E j)) n + j /\ (cnt (Zr (Xd n E j)) n + j = n ↔ ∀ i, i < j -> Jj n E i)
 | 0, _ => by
  refine ⟨Zo6 n, ?_⟩
  have : cnt (Zr (Xd n E 0)) n = n := Zqn n fun i hi => by rw [Zr, Xd, H2 hi]; simp
  rw [this]
  exact ⟨by omega, fun _ i hi => absurd hi (by omega), fun _ => by omega⟩
 | j + 1, hg => by
  obtain ⟨h1, h2, h3⟩ := Qh j (fun i hi => hg i (by omega))
  have g := (hg j (by omega)).2.1
  have hall : (∀ i, i < j + 1 -> Jj n E i) ↔ (∀ i, i < j -> Jj n E i) /\ Jj n E j :=
   ⟨fun h => ⟨fun i hi => h i (by omega), h j (by omega)⟩, fun h i hi => by
    by_cases e : i = j
    ·subst e; exact h.2
    ·exact h.1 i (by omega)⟩
  rw [hall]
  by_cases hj : Jj n E j
  ·have hj' := hj
   unfold Jj at hj'
   rw [Xd]
   rcases Int.lt_or_lt_of_ne hj' with h4 | h4
   ·obtain ⟨t1, t2⟩ := Zjm h1 (by omega) (by omega) h4
    rw [Int.min_eq_left (by omega), Int.max_eq_right (by omega)]
    exact ⟨t1, by omega, fun h => ⟨h3.1 (by omega), hj⟩, fun h => by have := h3.2 h.1; omega⟩
   ·obtain ⟨t1, t2⟩ := Zjm h1 (by omega) (by omega) h4
    rw [Int.min_eq_right (by omega), Int.max_eq_left (by omega)]
    exact ⟨t1, by omega, fun h => ⟨h3.1 (by omega), hj⟩, fun h => by have := h3.2 h.1; omega⟩
  ·have e : (Xd n E j).getD (ea E j).toNat 0 = (Xd n E j).getD (eb E j).toNat 0 := Decidable.not_not.1 hj
   rw [Xd, e, Int.min_self, Int.max_self, Zt7]
   exact ⟨h1, by omega, ⟨fun h => by omega, fun h => absurd h.2 hj⟩⟩
theorem Zqo {n : Nat} {E : List (List Int)} : Acy n E ↔ ∀ j, j < E.length -> Jj n E j := Iff.rfl
theorem Zbx {n : Nat} {E : List (List Int)} : Z0 n E ↔ ∀ j, j < E.length -> Vt n E j := Iff.rfl
theorem Wv {n : Nat} {E : List (List Int)} {j : Nat} : Vt n E j ↔ (E.getD j []).length = 2 /\ (0 <= ea E j /\ ea E j < eb E j /\ eb E j < n) /\ (0 < j -> Vs (E.getD (j - 1) []) (E.getD j []) < 0) := Iff.rfl
theorem Zqp {n : Nat} {E : List (List Int)} (hg : Z0 n E) : cnt (Zr (Xd n E E.length)) n + E.length = n ↔ Acy n E := (Qh E.length hg).2.2
theorem Vt.edge {n : Nat} {E : List (List Int)} {j : Nat} (h : Vt n E j) (hj : j < E.length) : E[j]? = some [ea E j, eb E j] := by
 obtain ⟨h1, _⟩ := h
 rw [List.getElem?_eq_getElem hj, Option.some.injEq]
 have e : E.getD j [] = E[j] := by simp [List.getD, hj]
 rw [e] at h1
 unfold ea eb
 rw [e]
 match hx : E[j], h1 with
 | [x, y], _ => rfl
theorem Z0.mem {n : Nat} {E : List (List Int)} (h : Z0 n E) {e : List Int} (he : e ∈ E) : ∃ j, j < E.length /\ e = [ea E j, eb E j] /\ 0 <= ea E j /\ ea E j < eb E j /\ eb E j < n := by
 obtain ⟨j, hj, rfl⟩ := List.getElem_of_mem he
 have := (h j hj).edge hj
 rw [List.getElem?_eq_getElem hj, Option.some.injEq] at this
 exact ⟨j, hj, this, (h j hj).2.1⟩
theorem Z0.adj {n : Nat} {E : List (List Int)} (h : Z0 n E) {x y : Int} (ha : Adj E x y) : (0 <= x /\ x < n) /\ (0 <= y /\ y < n) /\ x ≠ y := by
 rcases ha with ha | ha
 ·obtain ⟨j, hj, e, h1⟩ := h.mem ha
  simp only [List.cons.injEq, and_true] at e
  omega
 ·obtain ⟨j, hj, e, h1⟩ := h.mem ha
  simp only [List.cons.injEq, and_true] at e
  omega
theorem Zdf {E : List (List Int)} {n j : Nat} (h : Vt n E j) (hj : j < E.length) : E.take (j + 1) = E.take j ++ [[ea E j, eb E j]] := by
 rw [List.take_add_one, h.edge hj]; rfl
theorem K9 {n : Nat} {E : List (List Int)} (hg : Z0 n E) (ha : Acy n E) : ∀ j, j <= E.length -> Jt (E.take j) /\ Sep (E.take j) (fun x => (Xd n E j).getD x.toNat 0)
 | 0, _ => ⟨by rw [List.take_zero]; exact Zo5, ⟨fun x y h => by simp [Adj] at h⟩⟩
 | j + 1, hj => by
  obtain ⟨h1, h2⟩ := K9 hg ha j (by omega)
  have g := hg j (by omega)
  have g1 := g.2.1
  have hl := Q9 n E j
  rw [Zdf g (by omega)]
  refine ⟨Zm0 h2 h1 (ha j (by omega)), ⟨fun x y hxy => ?_⟩⟩
  have hmem : ∀ e ∈ E.take j ++ [[ea E j, eb E j]], e ∈ E := by
   rw [<- Zdf g (by omega)]
   exact fun e he => List.mem_of_mem_take he
  have hr := hg.adj (x := x) (y := y) (hxy.imp (hmem _) (hmem _))
  show (Xd n E (j + 1)).getD x.toNat 0 = (Xd n E (j + 1)).getD y.toNat 0
  rw [Xd, Zfr (by omega) (by omega)]
  have hold : Adj (E.take j) x y \/ ((x = ea E j /\ y = eb E j) \/ (x = eb E j /\ y = ea E j)) := by
   rcases hxy with k | k <;> simp only [List.mem_append, List.mem_singleton, List.cons.injEq, and_true] at k <;> rcases k with k | k
   ·exact .inl (.inl k)
   ·exact .inr (.inl k)
   ·exact .inl (.inr k)
   ·exact .inr (.inr ⟨k.2, k.1⟩)
  rcases hold with k | ⟨rfl, rfl⟩ | ⟨rfl, rfl⟩
  ·exact .inl (h2.same x y k)
  ·right; omega
  ·right; omega
def Zp (w : List Int) (E : List (List Int)) : Prop := (1 <= w.length /\ w.length <= 40) /\ (∀ i, i < w.length -> -1000 <= w.getD i 0 /\ w.getD i 0 <= 1000) /\ Z0 w.length E /\ Acy w.length E
instance decIsGr (w : List Int) (E : List (List Int)) : Decidable (Zp w E) := by unfold Zp; infer_instance
theorem Zm2 (w : List Int) (E : List (List Int)) : Zp w E ↔ (1 <= w.length /\ w.length <= 40) /\ (∀ i, i < w.length -> -1000 <= w.getD i 0 /\ w.getD i 0 <= 1000) /\ Z0 w.length E /\ Acy w.length E := Iff.rfl
theorem Zp.forest {w : List Int} {E : List (List Int)} (h : Zp w E) : Jt E := by
 have := (K9 h.2.2.1 h.2.2.2 E.length (Nat.le_refl _)).1
 rwa [List.take_length] at this
def Zv (w : List Int) (E : List (List Int)) (x : Int) : Int := (Xd w.length E E.length).getD x.toNat 0
theorem Zp.sep {w : List Int} {E : List (List Int)} (h : Zp w E) : Sep E (Zv w E) := by
 have := (K9 h.2.2.1 h.2.2.2 E.length (Nat.le_refl _)).2
 rwa [List.take_length] at this
theorem Zp.roots {w : List Int} {E : List (List Int)} (h : Zp w E) : Zgv w.length (Xd w.length E E.length) := (Qh E.length h.2.2.1).1
theorem Zp.count {w : List Int} {E : List (List Int)} (h : Zp w E) : cnt (Zr (Xd w.length E E.length)) w.length + E.length = w.length := (Zqp h.2.2.1).2 h.2.2.2
theorem Zp.few {w : List Int} {E : List (List Int)} (h : Zp w E) : E.length < w.length := by
 have h1 := h.count
 have h2 := h.roots.2 0 (by have := h.1; omega)
 have h3 := Qy (Zr (Xd w.length E E.length)) (a := 0) (b := w.length) (by have := h.1; omega) (by unfold Zr; rw [beq_iff_eq]; omega)
 rw [cnt] at h3
 omega
theorem Ww {n : Nat} {E : List (List Int)} (hg : Z0 n E) {S : Int -> Prop} (hS : ∀ x y, Adj E x y -> S x -> S y) : ∀ j, j <= E.length -> ∀ u v : Nat, u < n -> v < n -> (Xd n E j).getD u 0 = (Xd n E j).getD v 0 -> S u -> S v
 | 0, _, u, v, hu, hv, h, hs => by
  rw [Xd, H2 hu, H2 hv] at h
  rw [<- h]; exact hs
 | j + 1, hj, u, v, hu, hv, h, hs => by
  have ih := Ww hg hS j (by omega)
  have g := hg j (by omega)
  have g1 := g.2.1
  have hl := Q9 n E j
  rw [Xd, Zfr (by omega) (by omega)] at h
  have hmem : [ea E j, eb E j] ∈ E := List.mem_of_getElem? (g.edge (by omega))
  have hab : S (ea E j) ↔ S (eb E j) := ⟨hS _ _ (.inl hmem), hS _ _ (.inr hmem)⟩
  have ea' : ((ea E j).toNat : Int) = ea E j := by omega
  have eb' : ((eb E j).toNat : Int) = eb E j := by omega
  rcases h with h | ⟨h1, h2⟩
  ·exact ih u v hu hv h hs
  ·have key1 : (Xd n E j).getD u 0 = (Xd n E j).getD (ea E j).toNat 0 \/ (Xd n E j).getD u 0 = (Xd n E j).getD (eb E j).toNat 0 := by omega
   have key2 : (Xd n E j).getD v 0 = (Xd n E j).getD (ea E j).toNat 0 \/ (Xd n E j).getD v 0 = (Xd n E j).getD (eb E j).toNat 0 := by omega
   have sa : S (ea E j) := by
    rcases key1 with k | k
    ·have := ih u _ hu (by omega) k hs
     rwa [ea'] at this
    ·have := ih u _ hu (by omega) k hs
     rw [eb'] at this
     exact hab.2 this
   rcases key2 with k | k
   ·exact ih _ v (by omega) hv k.symm (by rw [ea']; exact sa)
   ·exact ih _ v (by omega) hv k.symm (by rw [eb']; exact hab.1 sa)
end Go.Proofs.YtmgmpnhlehonmaaGreat
namespace Go.Pv
open Go.RowKit
section
variable {P : Program} {n : NN} {st : Nat -> AV} {nx nid : Nat} {dr : Bool} {ops l : List Oper} {pre : List (List Nat × List Nat)} {Q : (Nat -> AV) -> Nat -> Prop}
def Za (dr : Bool) (P : Program) (n : NN) (ops l : List Oper) (st : Nat -> AV) (nx : Nat) (pre : List (List Nat × List Nat)) (Q : (Nat -> AV) -> Nat -> Prop) : Prop :=
 if dr = true then Yd P n ops l st nx pre Q else Ux P n ops.toArray l st nx Q
theorem Ux.more {ops : Array Oper} (h : Ux P n ops l st (nx + 1) Q) : Ux P n ops l st nx Q :=
 fun f a w Q' hn hr hQ => h f a w Q' hn (hr.weaken fun i hi => by omega) hQ
theorem Za.nilL (h : Q st nx) : Za false P n ops [] st nx pre Q := Ux.nil h
theorem Za.nilD (hp : Zbs ops pre.reverse = true) (h : Q st nx) : Za true P n ops [] st nx pre Q := Yd.nil hp h
theorem Za.cons {d op ty pos aft rd up} (hs : Zg P n ⟨d, op, ty, pos, aft, none⟩ nx st rd up) (h : Za dr P n ops l (Zn st up) (nx + 1) ((rdE rd, fpE (up.map Prod.fst)) :: pre) Q) : Za dr P n ops (⟨d, op, ty, pos, aft, none⟩ :: l) st nx pre Q := by
 cases dr
 ·exact Ux.cons hs h
 ·exact Yd.cons hs h
theorem Za.consW {d op ty pos aft wk rd up} (hs : Zqk P n ⟨d, op, ty, pos, aft, none⟩ nx st wk rd up) (h : Za dr P n ops l (Zn st up) (nx + 1) ((wkE wk ++ rdE rd, fpE (up.map Prod.fst)) :: pre) Q) : Za dr P n ops (⟨d, op, ty, pos, aft, none⟩ :: l) st nx pre Q := by
 cases dr
 ·exact Ux.cons (rd := rd ++ wk) (fun X st' h1 hX => hs X st' (fun s h => h1 s (List.mem_append_left _ h)) (fun s h => by rw [h1 s (List.mem_append_right _ h)]) hX) h
 ·exact Yd.consW hs h
theorem Za.consK {d op ty pos aft rd up0 x v up} (hs : Zg P n ⟨d, op, ty, pos, aft, none⟩ nx st rd up0) (he : up0 = (x, v) :: up) (hx : rd.contains x = true) (hv : hdr v = hdr (st x))
  (h : Za dr P n ops l (Zn st ((x, v) :: up)) (nx + 1) ((rdE rd, (2 * x) :: fpE (up.map Prod.fst)) :: pre) Q) : Za dr P n ops (⟨d, op, ty, pos, aft, none⟩ :: l) st nx pre Q := by
 subst he
 cases dr
 ·exact Ux.cons hs h
 ·exact Yd.consK hs hx hv h
theorem Za.doit {d op ty pos aft j b t rd up} (hd : (ops[j]?).bind (·.dst) = some t) (ht : st t = .c (.lit (.bool b))) (hs : Zg P n ⟨d, op, ty, pos, aft, some (j, b)⟩ nx st rd up)
  (h : Za dr P n ops l (Zn st up) (nx + 1) ((rdE (t :: rd), fpE (up.map Prod.fst)) :: pre) Q) : Za dr P n ops (⟨d, op, ty, pos, aft, some (j, b)⟩ :: l) st nx pre Q := by
 cases dr
 ·exact Ux.doit (by simpa using hd) ht hs h
 ·exact Yd.doit hd ht hs h
theorem Za.pass {d op ty pos aft j b b' t} (hd : (ops[j]?).bind (·.dst) = some t) (ht : st t = .c (.lit (.bool b))) (hb : b = !b') (hdn : n d = true)
  (h : Za dr P n ops l (put st d (.tup [])) (nx + 1) ((rdE [t], fpE [d]) :: pre) Q) : Za dr P n ops (⟨some d, op, ty, pos, aft, some (j, b')⟩ :: l) st nx pre Q := by
 cases dr
 ·exact Ux.pass (by simpa using hd) ht hb hdn (Ux.more h)
 ·exact Yd.pass hd ht hb hdn h
theorem Za.pass_undef {d op ty pos aft j b' t} (hd : (ops[j]?).bind (·.dst) = some t) (ht : st t = .tup []) (hdn : n d = true)
  (h : Za dr P n ops l (put st d (.tup [])) (nx + 1) ((rdE [t], fpE [d]) :: pre) Q) : Za dr P n ops (⟨some d, op, ty, pos, aft, some (j, b')⟩ :: l) st nx pre Q := by
 cases dr
 ·exact Ux.pass_undef (by simpa using hd) ht hdn (Ux.more h)
 ·exact Yd.pass_undef hd ht hdn h
theorem Za.guard {d op ty pos aft j b' t} {b : Bool} (hd : (ops[j]?).bind (·.dst) = some t) (ht : st t = .c (.lit (.bool b)))
  (h1 : b = true -> Za dr P n ops (⟨d, op, ty, pos, aft, some (j, b')⟩ :: l) (put st t (.c (.lit (.bool true)))) nx pre Q)
  (h2 : b = false -> Za dr P n ops (⟨d, op, ty, pos, aft, some (j, b')⟩ :: l) (put st t (.c (.lit (.bool false)))) nx pre Q) : Za dr P n ops (⟨d, op, ty, pos, aft, some (j, b')⟩ :: l) st nx pre Q := by
 have _ := hd
 cases b with
 | true => have := h1 rfl; rwa [Zeg ht] at this
 | false => have := h2 rfl; rwa [Zeg ht] at this
theorem Za.guard_dec {d op ty pos aft j b' t} {c : Prop} {hc : Decidable c} (hd : (ops[j]?).bind (·.dst) = some t) (ht : st t = .c (.lit (.bool (@decide c hc))))
  (h1 : c -> Za dr P n ops (⟨d, op, ty, pos, aft, some (j, b')⟩ :: l) (put st t (.c (.lit (.bool true)))) nx pre Q)
  (h2 : ¬ c -> Za dr P n ops (⟨d, op, ty, pos, aft, some (j, b')⟩ :: l) (put st t (.c (.lit (.bool false)))) nx pre Q) : Za dr P n ops (⟨d, op, ty, pos, aft, some (j, b')⟩ :: l) st nx pre Q :=
 Za.guard hd ht (fun h => h1 (of_decide_eq_true h)) (fun h => h2 (of_decide_eq_false h))
theorem Za.guard_not {d op ty pos aft j b' t} {c : Prop} {hc : Decidable c} (hd : (ops[j]?).bind (·.dst) = some t) (ht : st t = .c (.lit (.bool (!@decide c hc))))
  (h1 : ¬ c -> Za dr P n ops (⟨d, op, ty, pos, aft, some (j, b')⟩ :: l) (put st t (.c (.lit (.bool true)))) nx pre Q)
  (h2 : c -> Za dr P n ops (⟨d, op, ty, pos, aft, some (j, b')⟩ :: l) (put st t (.c (.lit (.bool false)))) nx pre Q) : Za dr P n ops (⟨d, op, ty, pos, aft, some (j, b')⟩ :: l) st nx pre Q :=
 Za.guard hd ht (fun h => h1 (of_decide_eq_false v6)) (fun h => h2 (of_decide_eq_true v6))
theorem WpA.regionU {Q : Exit -> (Nat -> AV) -> Nat -> Prop} {id : Nat} (h : Za false P n l l st nx [] fun s k => Q .normal s k) : WpA P n (.region id l.toArray false) st nx Q := WpA.region h
theorem WpA.drawU [hm : Zt3 P] {Q : Exit -> (Nat -> AV) -> Nat -> Prop} {id : Nat} (h : Za true P n l l st nx [] fun s k => Q .normal s k) : WpA P n (.region id l.toArray true) st nx Q := WpA.draw h
end
end Go.Pv
namespace Go.Pv
open Go.RowKit
section
variable {P : Program} {n : NN} {nid : Nat} {st : Nat -> AV} {f : Fr} {X : Nat -> Prop} {a : Act} {w : World} {ρ : Nat -> Rho} {L : Nat -> List Nat} {M : List Nat}
theorem Zfs : ∀ (path : List Nat) (dd d0 e : D), dd.nav path = some d0 -> (dd.put path e).nav path = some e
 | [], _, _, _, _ => rfl
 | k :: path, dd, d0, e, h => by
  simp only [D.nav] at h
  cases hk : dd.kids with
  | none => simp [hk] at h
  | some cs =>
   simp only [hk] at h
   cases hc : cs[k]? with
   | none => simp [hc] at h
   | some c =>
    simp only [hc] at h
    have hlt : k < cs.length := (List.getElem?_eq_some_iff.1 hc).1
    simp only [D.put, hk, hc, D.nav, Zc8 hk, List.getElem?_set_self hlt]
    exact Zfs path c d0 e h
theorem Zft : ∀ (path : List Nat) (dd d0 e e' : D), dd.nav path = some d0 -> (dd.put path e).put path e' = dd.put path e'
 | [], _, _, _, _, _ => rfl
 | k :: path, dd, d0, e, e', h => by
  simp only [D.nav] at h
  cases hk : dd.kids with
  | none => simp [hk] at h
  | some cs =>
   simp only [hk] at h
   cases hc : cs[k]? with
   | none => simp [hc] at h
   | some c =>
    simp only [hc] at h
    have hlt : k < cs.length := (List.getElem?_eq_some_iff.1 hc).1
    simp only [D.put, hk, hc, Zc8 hk, List.getElem?_set_self hlt, Zjh hk, List.set_set]
    rw [Zft path c d0 e e' h]
theorem WpA.loop_slots2 {c : Code} {nx : Nat} {Q : Exit -> (Nat -> AV) -> Nat -> Prop} (slots : Nat -> Nat -> List (Nat × AV)) (C : Nat -> Prop) (μ : Nat -> Nat) (i0 id0 : Nat) (hC : C i0) (h0 : Has st (slots i0 id0))
  (round : ∀ i id s k, C i -> WpA P n c (Zn s (slots i id)) k (Z8 (fun s' _ => ∃ i', C i' /\ (∃ id', Has s' (slots i' id')) /\ μ i' < μ i) Q)) : WpA P n (.loop c) st nx Q :=
 WpA.loop_slots (ι := Nat × Nat) (fun p => slots p.1 p.2) (fun p => C p.1) (fun p => μ p.1) (i0, id0) hC h0 fun p s k hp =>
  (round p.1 p.2 s k hp).mono fun e s' k' q => by
   cases e with
   | normal => obtain ⟨i', q1, ⟨id', q2⟩, q3⟩ := q; exact ⟨(i', id'), q1, q2, q3⟩
   | _ => exact q
inductive Qi (st : Nat -> AV) : Operand -> Nat -> Nat -> List Nat -> D -> D -> List Nat -> Prop
 | sl {t id sz cs} : st t = .own id (.sl true sz cs) -> Qi st (.tmp t) t id [] (.sl true sz cs) (.sl true sz cs) [t]
 | pt {t id cs} : st t = .own id (.pt true cs) -> Qi st (.tmp t) t id [] (.pt true cs) (.pt true cs) [t]
 | als {t x id path dd sz cs} : st t = .als x id path -> st x = .own id dd -> dd.nav path = some (.sl true sz cs) -> Qi st (.tmp t) x id path dd (.sl true sz cs) [t, x]
 | ptr {t x id cs} : st t = .ptr x id [] 0 -> st x = .own id (.pt true cs) -> Qi st (.tmp t) x id [] (.pt true cs) (.pt true cs) [t, x]
theorem Qi.agree {st' : Nat -> AV} {x : Operand} {xr id : Nat} {path rd : List Nat} {dd d : D} (h : Qi st x xr id path dd d rd) (hs : ∀ s ∈ rd, st' s = st s) : Qi st' x xr id path dd d rd := by
 cases h with
 | sl h => exact .sl ((hs _ (by simp)).trans h)
 | pt h => exact .pt ((hs _ (by simp)).trans h)
 | als h1 h2 h3 => exact .als ((hs _ (by simp)).trans h1) ((hs _ (by simp)).trans h2) h3
 | ptr h1 h2 => exact .ptr ((hs _ (by simp)).trans h1) ((hs _ (by simp)).trans h2)
theorem Qi.own {x : Operand} {xr id : Nat} {path rd : List Nat} {dd d : D} (h : Qi st x xr id path dd d rd) : st xr = .own id dd /\ dd.nav path = some d /\ xr ∈ rd := by
 cases h <;> exact ⟨by assumption, by first | rfl | assumption, by simp⟩
theorem named {F : Nat -> Prop} {w : World} {d : D} {cs : List D} {r : Rho} {v : Value} {L1 : List Nat} (hk : d.kids = some cs) (h : RD F w d r v L1) : v = r [] := by
 cases d with
 | lit v => simp [D.kids] at hk
 | hole => simp [D.kids] at hk
 | fn g cs => simp [D.kids] at hk
 | sl own sz cs' => cases own <;> simp [D.kids] at hk; simp only [RD] at h; exact h.1
 | pt own cs' => cases own <;> simp [D.kids] at hk; simp only [RD] at h; exact h.1
theorem Qi.kids {x : Operand} {xr id : Nat} {path rd : List Nat} {dd d : D} (h : Qi st x xr id path dd d rd) : ∃ cs, d.kids = some cs := by
 cases h <;> exact ⟨_, rfl⟩
theorem Qi.eval (hr : Ve f X st a w ρ L) {x : Operand} {xr id : Nat} {path rd : List Nat} {dd d : D} (h : Qi st x xr id path dd d rd) : a.eval x = ρ id path := by
 cases h with
 | @sl _ _ sz cs h =>
  have := hr.slots xr
  rw [h] at this
  simp only [SR] at this
  exact named (cs := cs) rfl this
 | @pt _ _ cs h =>
  have := hr.slots xr
  rw [h] at this
  simp only [SR] at this
  exact named (cs := cs) rfl this
 | @als t x id path dd sz cs h1 h2 h3 =>
  have := hr.slots t
  rw [h1] at this
  simp only [SR] at this
  exact this.2
 | @ptr t _ _ cs h1 h2 =>
  have ht := hr.slots t
  rw [h1] at ht
  simp only [SR] at ht
  obtain ⟨_, b, hb, e0⟩ := ht
  have hx := hr.slots xr
  rw [h2] at hx
  simp only [SR] at hx
  simp only [RD] at hx
  obtain ⟨e1, g, us, L1, ty, e3, _⟩ := hx
  have e1 : tmp a xr = ρ id [] := e1
  rw [<- e1, e3] at hb ⊢
  simp only [Js, Option.some.injEq] at hb
  show tmp a t = _
  rw [e0, <- hb, Vi]
def Zby : List Value -> AV
 | [] => .dead
 | [v] => .c (.lit v)
 | vs => .tup (vs.map fun v => .c (.lit v))
theorem Zbz {F : Nat -> Prop} {w : World} : ∀ (vs : List Value) (us : List Value) (Lr : List Nat), VRs F w (vs.map fun v => .one (.lit v)) us Lr -> us = vs /\ Lr = [] /\ ∀ v ∈ vs, v.oneCell' = true
 | [], us, Lr, h => by simp only [List.map_nil, VRs] at h; exact ⟨h.1, h.2, by simp⟩
 | v :: vs, us, Lr, h => by
  simp only [List.map_cons, VRs, VR, RD] at h
  obtain ⟨u, us', L1, L2, rfl, rfl, ⟨r, rfl, h1, rfl⟩, h2⟩ := h
  obtain ⟨rfl, rfl, h3⟩ := Zbz vs us' L2 h2
  exact ⟨rfl, rfl, by simpa using ⟨h1, h3⟩⟩
theorem Zo7 {F : Nat -> Prop} {w : World} {ρ : Nat -> Rho} {v : Value} (h : v.oneCell' = true) : SR F w ρ (.c (.lit v)) v [] := by
 simp only [SR, RD]; exact ⟨trivial, fun _ => undef, trivial, h, trivial⟩
theorem Zm3 {F : Nat -> Prop} {w : World} {ρ : Nat -> Rho} : ∀ (vs : List Value), (∀ v ∈ vs, v.oneCell' = true) -> SRs F w ρ (vs.map fun v => .c (.lit v)) vs []
 | [], _ => by simp [SRs]
 | v :: vs, h => by
  simp only [List.map_cons, SRs]
  exact ⟨v, vs, [], [], rfl, rfl, Zo7 (h v (by simp)), Zm3 vs fun u hu => h u (by simp [hu])⟩
theorem Zm4 {F : Nat -> Prop} {w : World} {ρ : Nat -> Rho} (vs : List Value) (h : ∀ v ∈ vs, v.oneCell' = true) : SR F w ρ (Zby vs) (X9 vs) [] := by
 match vs, h with
 | [], _ => simp only [Zby, SR]
 | [v], h => exact Zo7 (h v (by simp))
 | u :: v :: vs, h => simp only [Zby, SR]; exact ⟨_, rfl, Zm3 _ h⟩
theorem Zjn (vs : List Value) : (Zby vs).ids = [] := by
 have : ∀ vs : List Value, AV.idss (vs.map fun v => .c (.lit v)) = [] := by
  intro vs
  induction vs with
  | nil => rfl
  | cons v vs ih => simp [AV.idss, AV.ids, ih]
 match vs with
 | [] => rfl
 | [v] => rfl
 | u :: v :: vs => simp only [Zby, AV.ids]; exact this _
theorem Zo8 {L : List (List Int)} {j : Nat} (h : j < L.length) : (D.sl true 1 (LL L)).nav ([] ++ [j]) = some (.sl true 1 (Ze (L.getD j []))) := by
 simp only [List.nil_append, D.nav, D.kids, LL, Zgt h]
theorem Zxo (k : Nat) : (OfNat.ofNat k : Int) = ((OfNat.ofNat k : Nat) : Int) := rfl
theorem Zm5 : ∀ (path : List Nat) (dd d1 : D) (cs : List D) (c : D) (j : Nat), dd.nav path = some d1 -> d1.kids = some cs -> cs[j]? = some c -> dd.nav (path ++ [j]) = some c
 | [], dd, d1, cs, c, j, h, hk, hc => by
  simp only [D.nav, Option.some.injEq] at h
  subst h
  simp only [List.nil_append, D.nav, hk, hc]
 | k :: path, dd, d1, cs, c, j, h, hk, hc => by
  simp only [D.nav] at h
  cases hk1 : dd.kids with
  | none => simp [hk1] at h
  | some cs1 =>
   simp only [hk1] at h
   cases hc1 : cs1[k]? with
   | none => simp [hc1] at h
   | some c1 =>
    simp only [hc1] at h
    simp only [List.cons_append, D.nav, hk1, hc1]
    exact Zm5 path c1 d1 cs c j h hk hc
theorem Zsa {path : List Nat} {dd : D} {L : List (List Int)} {j : Nat} (h : dd.nav path = some (.sl true 1 (LL L))) (hj : j < L.length) : dd.nav (path ++ [j]) = some (.sl true 1 (Ze (L.getD j []))) :=
 Zm5 path dd _ _ _ j h rfl (by simp only [LL, Zgt hj])
theorem Za6 {id : Nat} {L L' : List (List Int)} {j : Nat} {m : List Int} (h : j < L.length) (e : L.set j m = L') : AV.own id ((D.sl true 1 (LL L)).put ([] ++ [j]) (.sl true 1 (Ze m))) = AV.own id (.sl true 1 (LL L')) := by
 subst e
 simp only [List.nil_append, D.put, D.kids, LL, Zgt h, D.withKids, List.map_set]
theorem iA {x : Operand} {xr id : Nat} {path rd : List Nat} {dd d : D} (h : Qi st x xr id path dd d rd := by first | exact .als rfl rfl rfl | exact .als rfl rfl (Zo8 j2) | exact .sl rfl | exact .pt rfl | exact .ptr rfl rfl) : Qi st x xr id path dd d rd := h
end
end Go.Pv
