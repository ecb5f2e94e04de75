/- Calls that write into their first argument and hand it back; whether a slice is nil. No condition. -/
import Derived.Test.YtmgmpnhlehonmaaGreatOPvR
import Derived.Test.YtmgmpnhlehonmaaGreatOPvO
import Derived.Laws.Cover3
set_option linter.unusedVariables false
set_option linter.unusedSimpArgs false
namespace Go.Proofs.YtmgmpnhlehonmaaGreat
def lexC : List Int → List Int → Int
 | [], [] => 0
 | [], _ :: _ => -1
 | _ :: _, [] => 1
 | x :: a, y :: b => if x < y then -1 else if y < x then 1 else lexC a b
def iota (n : Nat) : List Int := (List.range n).map fun i : Nat => (i : Int)
theorem iota_len (n : Nat) : (iota n).length = n := by simp [iota]
theorem iota_at {n i : Nat} (h : i < n) : (iota n).getD i 0 = i := by simp [iota, List.getD, h]
def ea (E : List (List Int)) (j : Nat) : Int := (E.getD j []).getD 0 0
def eb (E : List (List Int)) (j : Nat) : Int := (E.getD j []).getD 1 0
def mrg (p q : Int) (L : List Int) : List Int := L.map fun x => if x = q then p else x
theorem mrg_len (p q : Int) (L : List Int) : (mrg p q L).length = L.length := by simp [mrg]
theorem mrg_at {p q : Int} {L : List Int} {i : Nat} (h : i < L.length) : (mrg p q L).getD i 0 = if L.getD i 0 = q then p else L.getD i 0 := by
 simp [mrg, List.getD, h]
theorem mrg_same (p : Int) (L : List Int) : mrg p p L = L := by
 unfold mrg
 conv => rhs; rw [← List.map_id L]
 refine List.map_congr_left fun x _ => ?_
 split <;> simp_all
theorem mrg_rel {p q : Int} {L : List Int} {u v : Nat} (hu : u < L.length) (hv : v < L.length) : (mrg p q L).getD u 0 = (mrg p q L).getD v 0 ↔ (L.getD u 0 = L.getD v 0 ∨ ((L.getD u 0 = p ∨ L.getD u 0 = q) ∧ (L.getD v 0 = p ∨ L.getD v 0 = q))) := by
 rw [mrg_at hu, mrg_at hv]
 split <;> split <;> grind
def labS (n : Nat) (E : List (List Int)) : Nat → List Int
 | 0 => iota n
 | j + 1 => mrg ((labS n E j).getD (ea E j).toNat 0) ((labS n E j).getD (eb E j).toNat 0) (labS n E j)
def labI (n : Nat) (E : List (List Int)) : Nat → List Int
 | 0 => iota n
 | j + 1 => mrg (min ((labI n E j).getD (ea E j).toNat 0) ((labI n E j).getD (eb E j).toNat 0)) (max ((labI n E j).getD (ea E j).toNat 0) ((labI n E j).getD (eb E j).toNat 0)) (labI n E j)
theorem labS_len (n : Nat) (E : List (List Int)) : ∀ j, (labS n E j).length = n
 | 0 => iota_len n
 | j + 1 => by rw [labS, mrg_len, labS_len n E j]
theorem labI_len (n : Nat) (E : List (List Int)) : ∀ j, (labI n E j).length = n
 | 0 => iota_len n
 | j + 1 => by rw [labI, mrg_len, labI_len n E j]
def GoodAt (n : Nat) (E : List (List Int)) (j : Nat) : Prop := (E.getD j []).length = 2 ∧ (0 ≤ ea E j ∧ ea E j < eb E j ∧ eb E j < n) ∧ (0 < j → lexC (E.getD (j - 1) []) (E.getD j []) < 0)
instance (n : Nat) (E : List (List Int)) (j : Nat) : Decidable (GoodAt n E j) := by unfold GoodAt; infer_instance
def GoodE (n : Nat) (E : List (List Int)) : Prop := ∀ j, j < E.length → GoodAt n E j
instance (n : Nat) (E : List (List Int)) : Decidable (GoodE n E) := by unfold GoodE; infer_instance
def Joins (n : Nat) (E : List (List Int)) (j : Nat) : Prop := (labI n E j).getD (ea E j).toNat 0 ≠ (labI n E j).getD (eb E j).toNat 0
instance (n : Nat) (E : List (List Int)) (j : Nat) : Decidable (Joins n E j) := by unfold Joins; infer_instance
def Acy (n : Nat) (E : List (List Int)) : Prop := ∀ j, j < E.length → Joins n E j
instance (n : Nat) (E : List (List Int)) : Decidable (Acy n E) := by unfold Acy; infer_instance
theorem lab_rel {n : Nat} {E : List (List Int)} : ∀ j, (∀ i, i < j → GoodAt n E i) → ∀ u v, u < n → v < n → ((labS n E j).getD u 0 = (labS n E j).getD v 0 ↔ (labI n E j).getD u 0 = (labI n E j).getD v 0)
 | 0, _, u, v, _, _ => Iff.rfl
 | j + 1, hg, u, v, hu, hv => by
  have ih := lab_rel j (fun i hi => hg i (by omega))
  have g := (hg j (by omega)).2.1
  have l1 := labS_len n E j
  have l2 := labI_len n E j
  have ha : (ea E j).toNat < n := by omega
  have hb : (eb E j).toNat < n := by omega
  rw [labS, labI, mrg_rel (by omega) (by omega), mrg_rel (by omega) (by omega), ih u v hu hv, ih u _ hu ha, ih u _ hu hb, ih v _ hv ha, ih v _ hv hb]
  generalize (labI n E j).getD (ea E j).toNat 0 = a
  generalize (labI n E j).getD (eb E j).toNat 0 = b
  generalize (labI n E j).getD u 0 = x
  generalize (labI n E j).getD v 0 = y
  have key : ∀ x : Int, (x = min a b ∨ x = max a b) ↔ (x = a ∨ x = b) := fun x => by omega
  rw [key, key]
theorem joins_S {n : Nat} {E : List (List Int)} {j : Nat} (hg : ∀ i, i < j + 1 → GoodAt n E i) : Joins n E j ↔ (labS n E j).getD (ea E j).toNat 0 ≠ (labS n E j).getD (eb E j).toNat 0 := by
 have g := (hg j (by omega)).2.1
 exact not_congr (lab_rel j (fun i hi => hg i (by omega)) _ _ (by omega) (by omega)).symm
def isRoot (L : List Int) (i : Nat) : Bool := L.getD i 0 == (i : Int)
def cnt (f : Nat → Bool) : Nat → Nat
 | 0 => 0
 | n + 1 => cnt f n + if f n then 1 else 0
theorem cnt_drop {f g : Nat → Bool} {q : Nat} (hq : f q = true) (hgq : g q = false) : ∀ n, (∀ i, i < n → i ≠ q → f i = g i) → cnt f n = cnt g n + if q < n then 1 else 0
 | 0, _ => by simp [cnt]
 | n + 1, h => by
  have ih := cnt_drop hq hgq n (fun i hi => h i (by omega))
  rw [cnt, cnt, ih]
  by_cases e : n = q
  ·subst e; simp [hq, hgq]
  ·rw [h n (by omega) e]
   by_cases h1 : q < n
   ·rw [if_pos h1, if_pos (show q < n + 1 by omega)]; omega
   ·rw [if_neg h1, if_neg (show ¬ q < n + 1 by omega)]; omega
theorem cnt_le (f : Nat → Bool) : ∀ n, cnt f n ≤ n
 | 0 => Nat.le_refl _
 | n + 1 => by have := cnt_le f n; rw [cnt]; split <;> omega
theorem cnt_mono (f : Nat → Bool) {a b : Nat} (h : a ≤ b) : cnt f a ≤ cnt f b := by
 induction b with
 | zero => rw [Nat.le_zero.1 h]; exact Nat.le_refl _
 | succ b ih =>
  rcases Nat.lt_or_ge a (b + 1) with h1 | h1
  ·have := ih (by omega)
   rw [cnt]; omega
  ·rw [Nat.le_antisymm h h1]; exact Nat.le_refl _
theorem cnt_lt (f : Nat → Bool) {a b : Nat} (h : a < b) (ha : f a = true) : cnt f a < cnt f b := by
 have := cnt_mono f (a := a + 1) (b := b) (by omega)
 rw [cnt, ha] at this
 simp at this
 omega
theorem cnt_all {f : Nat → Bool} : ∀ n, (∀ i, i < n → f i = true) → cnt f n = n
 | 0, _ => rfl
 | n + 1, h => by rw [cnt, cnt_all n (fun i hi => h i (by omega)), h n (by omega)]; rfl
def Roots (n : Nat) (L : List Int) : Prop := L.length = n ∧ ∀ i, i < n → 0 ≤ L.getD i 0 ∧ L.getD i 0 ≤ i ∧ L.getD (L.getD i 0).toNat 0 = L.getD i 0
theorem roots_mrg {n : Nat} {L : List Int} {a b : Nat} (h : Roots n L) (ha : a < n) (hb : b < n) (hab : L.getD a 0 < L.getD b 0) :
  Roots n (mrg (L.getD a 0) (L.getD b 0) L) ∧ cnt (isRoot L) n = cnt (isRoot (mrg (L.getD a 0) (L.getD b 0) L)) n + 1 := by
 obtain ⟨hl, h⟩ := h
 have h1 := h a ha
 have h2 := h b hb
 generalize hp : L.getD a 0 = p at *
 generalize hq : L.getD b 0 = q at *
 have at' : ∀ i, i < n → (mrg p q L).getD i 0 = if L.getD i 0 = q then p else L.getD i 0 := fun i hi => mrg_at (by omega)
 refine ⟨⟨by rw [mrg_len, hl], fun i hi => ?_⟩, ?_⟩
 ·have h3 := h i hi
  rw [at' i hi]
  by_cases e : L.getD i 0 = q
  ·rw [if_pos e, at' _ (by omega), h1.2.2, if_neg (by omega)]
   omega
  ·rw [if_neg e, at' _ (by omega), h3.2.2, if_neg e]
   omega
 ·have hr := cnt_drop (f := isRoot L) (g := isRoot (mrg p q L)) (q := q.toNat) (by unfold isRoot; rw [beq_iff_eq, h2.2.2]; omega) (by
   have := at' q.toNat (by omega)
   rw [h2.2.2, if_pos rfl] at this
   simp only [isRoot, this, beq_eq_false_iff_ne]
   omega) n (fun i hi hne => by
    have h3 := h i hi
    simp only [isRoot, at' i hi]
    by_cases e : L.getD i 0 = q
    ·rw [if_pos e]
     have : L.getD i 0 ≠ (i : Int) := fun e2 => hne (by omega)
     have h4 : p ≠ (i : Int) := by omega
     rw [beq_eq_false_iff_ne.2 this, beq_eq_false_iff_ne.2 h4]
    ·rw [if_neg e])
  rw [hr, if_pos (by omega)]
theorem roots_iota (n : Nat) : Roots n (iota n) := by
 refine ⟨iota_len n, fun i hi => ?_⟩
 rw [iota_at hi, Int.toNat_natCast, iota_at hi]
 omega
theorem roots_labI {n : Nat} {E : List (List Int)} : ∀ j, (∀ i, i < j → GoodAt n E i) → Roots n (labI n E j) ∧ n ≤ cnt (isRoot (labI n E j)) n + j ∧ (cnt (isRoot (labI n E j)) n + j = n ↔ ∀ i, i < j → Joins n E i)
 | 0, _ => by
  refine ⟨roots_iota n, ?_⟩
  have : cnt (isRoot (labI n E 0)) n = n := cnt_all n fun i hi => by rw [isRoot, labI, iota_at hi]; simp
  rw [this]
  exact ⟨by omega, fun _ i hi => absurd hi (by omega), fun _ => by omega⟩
 | j + 1, hg => by
  obtain ⟨h1, h2, h3⟩ := roots_labI j (fun i hi => hg i (by omega))
  have g := (hg j (by omega)).2.1
  have hall : (∀ i, i < j + 1 → Joins n E i) ↔ (∀ i, i < j → Joins n E i) ∧ Joins n E j :=
   ⟨fun h => ⟨fun i hi => h i (by omega), h j (by omega)⟩, fun h i hi => by
    by_cases e : i = j
    ·subst e; exact h.2
    ·exact h.1 i (by omega)⟩
  rw [hall]
  by_cases hj : Joins n E j
  ·have hj' := hj
   unfold Joins at hj'
   rw [labI]
   rcases Int.lt_or_lt_of_ne hj' with h4 | h4
   ·obtain ⟨t1, t2⟩ := roots_mrg h1 (by omega) (by omega) h4
    rw [Int.min_eq_left (by omega), Int.max_eq_right (by omega)]
    exact ⟨t1, by omega, fun h => ⟨h3.1 (by omega), hj⟩, fun h => by have := h3.2 h.1; omega⟩
   ·obtain ⟨t1, t2⟩ := roots_mrg h1 (by omega) (by omega) h4
    rw [Int.min_eq_right (by omega), Int.max_eq_left (by omega)]
    exact ⟨t1, by omega, fun h => ⟨h3.1 (by omega), hj⟩, fun h => by have := h3.2 h.1; omega⟩
  ·have e : (labI n E j).getD (ea E j).toNat 0 = (labI n E j).getD (eb E j).toNat 0 := Decidable.not_not.1 hj
   rw [labI, e, Int.min_self, Int.max_self, mrg_same]
   exact ⟨h1, by omega, ⟨fun h => by omega, fun h => absurd h.2 hj⟩⟩
theorem acy_def {n : Nat} {E : List (List Int)} : Acy n E ↔ ∀ j, j < E.length → Joins n E j := Iff.rfl
theorem good_def {n : Nat} {E : List (List Int)} : GoodE n E ↔ ∀ j, j < E.length → GoodAt n E j := Iff.rfl
theorem goodAt_def {n : Nat} {E : List (List Int)} {j : Nat} : GoodAt n E j ↔ (E.getD j []).length = 2 ∧ (0 ≤ ea E j ∧ ea E j < eb E j ∧ eb E j < n) ∧ (0 < j → lexC (E.getD (j - 1) []) (E.getD j []) < 0) := Iff.rfl
theorem acy_iff {n : Nat} {E : List (List Int)} (hg : GoodE n E) : cnt (isRoot (labI n E E.length)) n + E.length = n ↔ Acy n E := (roots_labI E.length hg).2.2
theorem GoodAt.edge {n : Nat} {E : List (List Int)} {j : Nat} (h : GoodAt n E j) (hj : j < E.length) : E[j]? = some [ea E j, eb E j] := by
 obtain ⟨h1, _⟩ := h
 rw [List.getElem?_eq_getElem hj, Option.some.injEq]
 have e : E.getD j [] = E[j] := by simp [List.getD, hj]
 rw [e] at h1
 unfold ea eb
 rw [e]
 match hx : E[j], h1 with
 | [x, y], _ => rfl
theorem GoodE.mem {n : Nat} {E : List (List Int)} (h : GoodE n E) {e : List Int} (he : e ∈ E) : ∃ j, j < E.length ∧ e = [ea E j, eb E j] ∧ 0 ≤ ea E j ∧ ea E j < eb E j ∧ eb E j < n := by
 obtain ⟨j, hj, rfl⟩ := List.getElem_of_mem he
 have := (h j hj).edge hj
 rw [List.getElem?_eq_getElem hj, Option.some.injEq] at this
 exact ⟨j, hj, this, (h j hj).2.1⟩
theorem GoodE.adj {n : Nat} {E : List (List Int)} (h : GoodE n E) {x y : Int} (ha : Adj E x y) : (0 ≤ x ∧ x < n) ∧ (0 ≤ y ∧ y < n) ∧ x ≠ y := by
 rcases ha with ha | ha
 ·obtain ⟨j, hj, e, h1⟩ := h.mem ha
  simp only [List.cons.injEq, and_true] at e
  omega
 ·obtain ⟨j, hj, e, h1⟩ := h.mem ha
  simp only [List.cons.injEq, and_true] at e
  omega
theorem take_step {E : List (List Int)} {n j : Nat} (h : GoodAt n E j) (hj : j < E.length) : E.take (j + 1) = E.take j ++ [[ea E j, eb E j]] := by
 rw [List.take_add_one, h.edge hj]; rfl
theorem forest_take {n : Nat} {E : List (List Int)} (hg : GoodE n E) (ha : Acy n E) : ∀ j, j ≤ E.length → Forest (E.take j) ∧ Sep (E.take j) (fun x => (labI n E j).getD x.toNat 0)
 | 0, _ => ⟨by rw [List.take_zero]; exact forest_nil, ⟨fun x y h => by simp [Adj] at h⟩⟩
 | j + 1, hj => by
  obtain ⟨h1, h2⟩ := forest_take hg ha j (by omega)
  have g := hg j (by omega)
  have g1 := g.2.1
  have hl := labI_len n E j
  rw [take_step g (by omega)]
  refine ⟨forest_step h2 h1 (ha j (by omega)), ⟨fun x y hxy => ?_⟩⟩
  have hmem : ∀ e ∈ E.take j ++ [[ea E j, eb E j]], e ∈ E := by
   rw [← take_step g (by omega)]
   exact fun e he => List.mem_of_mem_take he
  have hr := hg.adj (x := x) (y := y) (hxy.imp (hmem _) (hmem _))
  show (labI n E (j + 1)).getD x.toNat 0 = (labI n E (j + 1)).getD y.toNat 0
  rw [labI, mrg_rel (by omega) (by omega)]
  have hold : Adj (E.take j) x y ∨ ((x = ea E j ∧ y = eb E j) ∨ (x = eb E j ∧ y = ea E j)) := by
   rcases hxy with k | k <;> simp only [List.mem_append, List.mem_singleton, List.cons.injEq, and_true] at k <;> rcases k with k | k
   ·exact .inl (.inl k)
   ·exact .inr (.inl k)
   ·exact .inl (.inr k)
   ·exact .inr (.inr ⟨k.2, k.1⟩)
  rcases hold with k | ⟨rfl, rfl⟩ | ⟨rfl, rfl⟩
  ·exact .inl (h2.same x y k)
  ·right; omega
  ·right; omega
def IsGr (w : List Int) (E : List (List Int)) : Prop := (1 ≤ w.length ∧ w.length ≤ 40) ∧ (∀ i, i < w.length → -1000 ≤ w.getD i 0 ∧ w.getD i 0 ≤ 1000) ∧ GoodE w.length E ∧ Acy w.length E
instance decIsGr (w : List Int) (E : List (List Int)) : Decidable (IsGr w E) := by unfold IsGr; infer_instance
theorem isGr_def (w : List Int) (E : List (List Int)) : IsGr w E ↔ (1 ≤ w.length ∧ w.length ≤ 40) ∧ (∀ i, i < w.length → -1000 ≤ w.getD i 0 ∧ w.getD i 0 ≤ 1000) ∧ GoodE w.length E ∧ Acy w.length E := Iff.rfl
theorem IsGr.forest {w : List Int} {E : List (List Int)} (h : IsGr w E) : Forest E := by
 have := (forest_take h.2.2.1 h.2.2.2 E.length (Nat.le_refl _)).1
 rwa [List.take_length] at this
def labOf (w : List Int) (E : List (List Int)) (x : Int) : Int := (labI w.length E E.length).getD x.toNat 0
theorem IsGr.sep {w : List Int} {E : List (List Int)} (h : IsGr w E) : Sep E (labOf w E) := by
 have := (forest_take h.2.2.1 h.2.2.2 E.length (Nat.le_refl _)).2
 rwa [List.take_length] at this
theorem IsGr.roots {w : List Int} {E : List (List Int)} (h : IsGr w E) : Roots w.length (labI w.length E E.length) := (roots_labI E.length h.2.2.1).1
theorem IsGr.count {w : List Int} {E : List (List Int)} (h : IsGr w E) : cnt (isRoot (labI w.length E E.length)) w.length + E.length = w.length := (acy_iff h.2.2.1).2 h.2.2.2
theorem IsGr.few {w : List Int} {E : List (List Int)} (h : IsGr w E) : E.length < w.length := by
 have h1 := h.count
 have h2 := h.roots.2 0 (by have := h.1; omega)
 have h3 := cnt_lt (isRoot (labI w.length E E.length)) (a := 0) (b := w.length) (by have := h.1; omega) (by unfold isRoot; rw [beq_iff_eq]; omega)
 rw [cnt] at h3
 omega
theorem closed_lab {n : Nat} {E : List (List Int)} (hg : GoodE n E) {S : Int → Prop} (hS : ∀ x y, Adj E x y → S x → S y) : ∀ j, j ≤ E.length → ∀ u v : Nat, u < n → v < n → (labI n E j).getD u 0 = (labI n E j).getD v 0 → S u → S v
 | 0, _, u, v, hu, hv, h, hs => by
  rw [labI, iota_at hu, iota_at hv] at h
  rw [← h]; exact hs
 | j + 1, hj, u, v, hu, hv, h, hs => by
  have ih := closed_lab hg hS j (by omega)
  have g := hg j (by omega)
  have g1 := g.2.1
  have hl := labI_len n E j
  rw [labI, mrg_rel (by omega) (by omega)] at h
  have hmem : [ea E j, eb E j] ∈ E := List.mem_of_getElem? (g.edge (by omega))
  have hab : S (ea E j) ↔ S (eb E j) := ⟨hS _ _ (.inl hmem), hS _ _ (.inr hmem)⟩
  have ea' : ((ea E j).toNat : Int) = ea E j := by omega
  have eb' : ((eb E j).toNat : Int) = eb E j := by omega
  rcases h with h | ⟨h1, h2⟩
  ·exact ih u v hu hv h hs
  ·have key1 : (labI n E j).getD u 0 = (labI n E j).getD (ea E j).toNat 0 ∨ (labI n E j).getD u 0 = (labI n E j).getD (eb E j).toNat 0 := by omega
   have key2 : (labI n E j).getD v 0 = (labI n E j).getD (ea E j).toNat 0 ∨ (labI n E j).getD v 0 = (labI n E j).getD (eb E j).toNat 0 := by omega
   have sa : S (ea E j) := by
    rcases key1 with k | k
    ·have := ih u _ hu (by omega) k hs
     rwa [ea'] at this
    ·have := ih u _ hu (by omega) k hs
     rw [eb'] at this
     exact hab.2 this
   rcases key2 with k | k
   ·exact ih _ v (by omega) hv k.symm (by rw [ea']; exact sa)
   ·exact ih _ v (by omega) hv k.symm (by rw [eb']; exact hab.1 sa)
end Go.Proofs.YtmgmpnhlehonmaaGreat
namespace Go.Pv
open Go.RowKit
section
variable {P : Program} {n : NN} {st : Nat → AV} {nx nid : Nat} {dr : Bool} {ops l : List Oper} {pre : List (List Nat × List Nat)} {Q : (Nat → AV) → Nat → Prop}
def RunU (dr : Bool) (P : Program) (n : NN) (ops l : List Oper) (st : Nat → AV) (nx : Nat) (pre : List (List Nat × List Nat)) (Q : (Nat → AV) → Nat → Prop) : Prop :=
 if dr = true then RunD P n ops l st nx pre Q else RunL P n ops.toArray l st nx Q
theorem RunL.more {ops : Array Oper} (h : RunL P n ops l st (nx + 1) Q) : RunL P n ops l st nx Q :=
 fun f a w Q' hn hr hQ => h f a w Q' hn (hr.weaken fun i hi => by omega) hQ
theorem RunU.nilL (h : Q st nx) : RunU false P n ops [] st nx pre Q := RunL.nil h
theorem RunU.nilD (hp : pairsOk ops pre.reverse = true) (h : Q st nx) : RunU true P n ops [] st nx pre Q := RunD.nil hp h
theorem RunU.cons {d op ty pos aft rd up} (hs : Step P n ⟨d, op, ty, pos, aft, none⟩ nx st rd up) (h : RunU dr P n ops l (puts st up) (nx + 1) ((rdE rd, fpE (up.map Prod.fst)) :: pre) Q) : RunU dr P n ops (⟨d, op, ty, pos, aft, none⟩ :: l) st nx pre Q := by
 cases dr
 ·exact RunL.cons hs h
 ·exact RunD.cons hs h
theorem RunU.consW {d op ty pos aft wk rd up} (hs : StepW P n ⟨d, op, ty, pos, aft, none⟩ nx st wk rd up) (h : RunU dr P n ops l (puts st up) (nx + 1) ((wkE wk ++ rdE rd, fpE (up.map Prod.fst)) :: pre) Q) : RunU dr P n ops (⟨d, op, ty, pos, aft, none⟩ :: l) st nx pre Q := by
 cases dr
 ·exact RunL.cons (rd := rd ++ wk) (fun X st' h1 hX => hs X st' (fun s h => h1 s (List.mem_append_left _ h)) (fun s h => by rw [h1 s (List.mem_append_right _ h)]) hX) h
 ·exact RunD.consW hs h
theorem RunU.consK {d op ty pos aft rd up0 x v up} (hs : Step P n ⟨d, op, ty, pos, aft, none⟩ nx st rd up0) (he : up0 = (x, v) :: up) (hx : rd.contains x = true) (hv : hdr v = hdr (st x))
  (h : RunU dr P n ops l (puts st ((x, v) :: up)) (nx + 1) ((rdE rd, (2 * x) :: fpE (up.map Prod.fst)) :: pre) Q) : RunU dr P n ops (⟨d, op, ty, pos, aft, none⟩ :: l) st nx pre Q := by
 subst he
 cases dr
 ·exact RunL.cons hs h
 ·exact RunD.consK hs hx hv h
theorem RunU.doit {d op ty pos aft j b t rd up} (hd : (ops[j]?).bind (·.dst) = some t) (ht : st t = .c (.lit (.bool b))) (hs : Step P n ⟨d, op, ty, pos, aft, some (j, b)⟩ nx st rd up)
  (h : RunU dr P n ops l (puts st up) (nx + 1) ((rdE (t :: rd), fpE (up.map Prod.fst)) :: pre) Q) : RunU dr P n ops (⟨d, op, ty, pos, aft, some (j, b)⟩ :: l) st nx pre Q := by
 cases dr
 ·exact RunL.doit (by simpa using hd) ht hs h
 ·exact RunD.doit hd ht hs h
theorem RunU.pass {d op ty pos aft j b b' t} (hd : (ops[j]?).bind (·.dst) = some t) (ht : st t = .c (.lit (.bool b))) (hb : b = !b') (hdn : n d = true)
  (h : RunU dr P n ops l (put st d (.tup [])) (nx + 1) ((rdE [t], fpE [d]) :: pre) Q) : RunU dr P n ops (⟨some d, op, ty, pos, aft, some (j, b')⟩ :: l) st nx pre Q := by
 cases dr
 ·exact RunL.pass (by simpa using hd) ht hb hdn (RunL.more h)
 ·exact RunD.pass hd ht hb hdn h
theorem RunU.pass_undef {d op ty pos aft j b' t} (hd : (ops[j]?).bind (·.dst) = some t) (ht : st t = .tup []) (hdn : n d = true)
  (h : RunU dr P n ops l (put st d (.tup [])) (nx + 1) ((rdE [t], fpE [d]) :: pre) Q) : RunU dr P n ops (⟨some d, op, ty, pos, aft, some (j, b')⟩ :: l) st nx pre Q := by
 cases dr
 ·exact RunL.pass_undef (by simpa using hd) ht hdn (RunL.more h)
 ·exact RunD.pass_undef hd ht hdn h
theorem RunU.guard {d op ty pos aft j b' t} {b : Bool} (hd : (ops[j]?).bind (·.dst) = some t) (ht : st t = .c (.lit (.bool b)))
  (h1 : b = true → RunU dr P n ops (⟨d, op, ty, pos, aft, some (j, b')⟩ :: l) (put st t (.c (.lit (.bool true)))) nx pre Q)
  (h2 : b = false → RunU dr P n ops (⟨d, op, ty, pos, aft, some (j, b')⟩ :: l) (put st t (.c (.lit (.bool false)))) nx pre Q) : RunU dr P n ops (⟨d, op, ty, pos, aft, some (j, b')⟩ :: l) st nx pre Q := by
 have _ := hd
 cases b with
 | true => have := h1 rfl; rwa [put_eq_self ht] at this
 | false => have := h2 rfl; rwa [put_eq_self ht] at this
theorem RunU.guard_dec {d op ty pos aft j b' t} {c : Prop} {hc : Decidable c} (hd : (ops[j]?).bind (·.dst) = some t) (ht : st t = .c (.lit (.bool (@decide c hc))))
  (h1 : c → RunU dr P n ops (⟨d, op, ty, pos, aft, some (j, b')⟩ :: l) (put st t (.c (.lit (.bool true)))) nx pre Q)
  (h2 : ¬ c → RunU dr P n ops (⟨d, op, ty, pos, aft, some (j, b')⟩ :: l) (put st t (.c (.lit (.bool false)))) nx pre Q) : RunU dr P n ops (⟨d, op, ty, pos, aft, some (j, b')⟩ :: l) st nx pre Q :=
 RunU.guard hd ht (fun h => h1 (of_decide_eq_true h)) (fun h => h2 (of_decide_eq_false h))
theorem RunU.guard_not {d op ty pos aft j b' t} {c : Prop} {hc : Decidable c} (hd : (ops[j]?).bind (·.dst) = some t) (ht : st t = .c (.lit (.bool (!@decide c hc))))
  (h1 : ¬ c → RunU dr P n ops (⟨d, op, ty, pos, aft, some (j, b')⟩ :: l) (put st t (.c (.lit (.bool true)))) nx pre Q)
  (h2 : c → RunU dr P n ops (⟨d, op, ty, pos, aft, some (j, b')⟩ :: l) (put st t (.c (.lit (.bool false)))) nx pre Q) : RunU dr P n ops (⟨d, op, ty, pos, aft, some (j, b')⟩ :: l) st nx pre Q :=
 RunU.guard hd ht (fun h => h1 (of_decide_eq_false (by simpa using h))) (fun h => h2 (of_decide_eq_true (by simpa using h)))
theorem WpA.regionU {Q : Exit → (Nat → AV) → Nat → Prop} {id : Nat} (h : RunU false P n l l st nx [] fun s k => Q .normal s k) : WpA P n (.region id l.toArray false) st nx Q := WpA.region h
theorem WpA.drawU [hm : Mixed P] {Q : Exit → (Nat → AV) → Nat → Prop} {id : Nat} (h : RunU true P n l l st nx [] fun s k => Q .normal s k) : WpA P n (.region id l.toArray true) st nx Q := WpA.draw h
end
end Go.Pv
namespace Go.Pv
open Go.RowKit
section
variable {P : Program} {n : NN} {nid : Nat} {st : Nat → AV} {f : Fr} {X : Nat → Prop} {a : Act} {w : World} {ρ : Nat → Rho} {L : Nat → List Nat} {M : List Nat}
theorem nav_put : ∀ (path : List Nat) (dd d0 e : D), dd.nav path = some d0 → (dd.put path e).nav path = some e
 | [], _, _, _, _ => rfl
 | k :: path, dd, d0, e, h => by
  simp only [D.nav] at h
  cases hk : dd.kids with
  | none => simp [hk] at h
  | some cs =>
   simp only [hk] at h
   cases hc : cs[k]? with
   | none => simp [hc] at h
   | some c =>
    simp only [hc] at h
    have hlt : k < cs.length := (List.getElem?_eq_some_iff.1 hc).1
    simp only [D.put, hk, hc, D.nav, kids_with hk, List.getElem?_set_self hlt]
    exact nav_put path c d0 e h
theorem put_put : ∀ (path : List Nat) (dd d0 e e' : D), dd.nav path = some d0 → (dd.put path e).put path e' = dd.put path e'
 | [], _, _, _, _, _ => rfl
 | k :: path, dd, d0, e, e', h => by
  simp only [D.nav] at h
  cases hk : dd.kids with
  | none => simp [hk] at h
  | some cs =>
   simp only [hk] at h
   cases hc : cs[k]? with
   | none => simp [hc] at h
   | some c =>
    simp only [hc] at h
    have hlt : k < cs.length := (List.getElem?_eq_some_iff.1 hc).1
    simp only [D.put, hk, hc, kids_with hk, List.getElem?_set_self hlt, with_with hk, List.set_set]
    rw [put_put path c d0 e e' h]
theorem WpA.loop_slots2 {c : Code} {nx : Nat} {Q : Exit → (Nat → AV) → Nat → Prop} (slots : Nat → Nat → List (Nat × AV)) (C : Nat → Prop) (μ : Nat → Nat) (i0 id0 : Nat) (hC : C i0) (h0 : Has st (slots i0 id0))
  (round : ∀ i id s k, C i → WpA P n c (puts s (slots i id)) k (Then (fun s' _ => ∃ i', C i' ∧ (∃ id', Has s' (slots i' id')) ∧ μ i' < μ i) Q)) : WpA P n (.loop c) st nx Q :=
 WpA.loop_slots (ι := Nat × Nat) (fun p => slots p.1 p.2) (fun p => C p.1) (fun p => μ p.1) (i0, id0) hC h0 fun p s k hp =>
  (round p.1 p.2 s k hp).mono fun e s' k' q => by
   cases e with
   | normal => obtain ⟨i', q1, ⟨id', q2⟩, q3⟩ := q; exact ⟨(i', id'), q1, q2, q3⟩
   | _ => exact q
inductive IoAt (st : Nat → AV) : Operand → Nat → Nat → List Nat → D → D → List Nat → Prop
 | sl {t id sz cs} : st t = .own id (.sl true sz cs) → IoAt st (.tmp t) t id [] (.sl true sz cs) (.sl true sz cs) [t]
 | pt {t id cs} : st t = .own id (.pt true cs) → IoAt st (.tmp t) t id [] (.pt true cs) (.pt true cs) [t]
 | als {t x id path dd sz cs} : st t = .als x id path → st x = .own id dd → dd.nav path = some (.sl true sz cs) → IoAt st (.tmp t) x id path dd (.sl true sz cs) [t, x]
 | ptr {t x id cs} : st t = .ptr x id [] 0 → st x = .own id (.pt true cs) → IoAt st (.tmp t) x id [] (.pt true cs) (.pt true cs) [t, x]
theorem IoAt.agree {st' : Nat → AV} {x : Operand} {xr id : Nat} {path rd : List Nat} {dd d : D} (h : IoAt st x xr id path dd d rd) (hs : ∀ s ∈ rd, st' s = st s) : IoAt st' x xr id path dd d rd := by
 cases h with
 | sl h => exact .sl ((hs _ (by simp)).trans h)
 | pt h => exact .pt ((hs _ (by simp)).trans h)
 | als h1 h2 h3 => exact .als ((hs _ (by simp)).trans h1) ((hs _ (by simp)).trans h2) h3
 | ptr h1 h2 => exact .ptr ((hs _ (by simp)).trans h1) ((hs _ (by simp)).trans h2)
theorem IoAt.own {x : Operand} {xr id : Nat} {path rd : List Nat} {dd d : D} (h : IoAt st x xr id path dd d rd) : st xr = .own id dd ∧ dd.nav path = some d ∧ xr ∈ rd := by
 cases h <;> exact ⟨by assumption, by first | rfl | assumption, by simp⟩
theorem named {F : Nat → Prop} {w : World} {d : D} {cs : List D} {r : Rho} {v : Value} {L1 : List Nat} (hk : d.kids = some cs) (h : RD F w d r v L1) : v = r [] := by
 cases d with
 | lit v => simp [D.kids] at hk
 | hole => simp [D.kids] at hk
 | fn g cs => simp [D.kids] at hk
 | sl own sz cs' => cases own <;> simp [D.kids] at hk; simp only [RD] at h; exact h.1
 | pt own cs' => cases own <;> simp [D.kids] at hk; simp only [RD] at h; exact h.1
theorem IoAt.kids {x : Operand} {xr id : Nat} {path rd : List Nat} {dd d : D} (h : IoAt st x xr id path dd d rd) : ∃ cs, d.kids = some cs := by
 cases h <;> exact ⟨_, rfl⟩
theorem IoAt.eval (hr : RepO f X st a w ρ L) {x : Operand} {xr id : Nat} {path rd : List Nat} {dd d : D} (h : IoAt st x xr id path dd d rd) : a.eval x = ρ id path := by
 cases h with
 | @sl _ _ sz cs h =>
  have := hr.slots xr
  rw [h] at this
  simp only [SR] at this
  exact named (cs := cs) rfl this
 | @pt _ _ cs h =>
  have := hr.slots xr
  rw [h] at this
  simp only [SR] at this
  exact named (cs := cs) rfl this
 | @als t x id path dd sz cs h1 h2 h3 =>
  have := hr.slots t
  rw [h1] at this
  simp only [SR] at this
  exact this.2
 | @ptr t _ _ cs h1 h2 =>
  have ht := hr.slots t
  rw [h1] at ht
  simp only [SR] at ht
  obtain ⟨_, b, hb, e0⟩ := ht
  have hx := hr.slots xr
  rw [h2] at hx
  simp only [SR] at hx
  simp only [RD] at hx
  obtain ⟨e1, g, us, L1, ty, e3, _⟩ := hx
  have e1 : tmp a xr = ρ id [] := e1
  rw [← e1, e3] at hb ⊢
  simp only [baseOf, Option.some.injEq] at hb
  show tmp a t = _
  rw [e0, ← hb, add_zero']
def litAV : List Value → AV
 | [] => .dead
 | [v] => .c (.lit v)
 | vs => .tup (vs.map fun v => .c (.lit v))
theorem lits_res {F : Nat → Prop} {w : World} : ∀ (vs : List Value) (us : List Value) (Lr : List Nat), VRs F w (vs.map fun v => .one (.lit v)) us Lr → us = vs ∧ Lr = [] ∧ ∀ v ∈ vs, v.oneCell' = true
 | [], us, Lr, h => by simp only [List.map_nil, VRs] at h; exact ⟨h.1, h.2, by simp⟩
 | v :: vs, us, Lr, h => by
  simp only [List.map_cons, VRs, VR, RD] at h
  obtain ⟨u, us', L1, L2, rfl, rfl, ⟨r, rfl, h1, rfl⟩, h2⟩ := h
  obtain ⟨rfl, rfl, h3⟩ := lits_res vs us' L2 h2
  exact ⟨rfl, rfl, by simpa using ⟨h1, h3⟩⟩
theorem SR_lit {F : Nat → Prop} {w : World} {ρ : Nat → Rho} {v : Value} (h : v.oneCell' = true) : SR F w ρ (.c (.lit v)) v [] := by
 simp only [SR, RD]; exact ⟨trivial, fun _ => undef, trivial, h, trivial⟩
theorem SRs_lits {F : Nat → Prop} {w : World} {ρ : Nat → Rho} : ∀ (vs : List Value), (∀ v ∈ vs, v.oneCell' = true) → SRs F w ρ (vs.map fun v => .c (.lit v)) vs []
 | [], _ => by simp [SRs]
 | v :: vs, h => by
  simp only [List.map_cons, SRs]
  exact ⟨v, vs, [], [], rfl, rfl, SR_lit (h v (by simp)), SRs_lits vs fun u hu => h u (by simp [hu])⟩
theorem SR_litAV {F : Nat → Prop} {w : World} {ρ : Nat → Rho} (vs : List Value) (h : ∀ v ∈ vs, v.oneCell' = true) : SR F w ρ (litAV vs) (retVal vs) [] := by
 match vs, h with
 | [], _ => simp only [litAV, SR]
 | [v], h => exact SR_lit (h v (by simp))
 | u :: v :: vs, h => simp only [litAV, SR]; exact ⟨_, rfl, SRs_lits _ h⟩
theorem litAV_ids (vs : List Value) : (litAV vs).ids = [] := by
 have : ∀ vs : List Value, AV.idss (vs.map fun v => .c (.lit v)) = [] := by
  intro vs
  induction vs with
  | nil => rfl
  | cons v vs ih => simp [AV.idss, AV.ids, ih]
 match vs with
 | [] => rfl
 | [v] => rfl
 | u :: v :: vs => simp only [litAV, AV.ids]; exact this _
theorem nav_LL {L : List (List Int)} {j : Nat} (h : j < L.length) : (D.sl true 1 (LL L)).nav ([] ++ [j]) = some (.sl true 1 (ints (L.getD j []))) := by
 simp only [List.nil_append, D.nav, D.kids, LL, LL_get h]
theorem idx_lit (k : Nat) : (OfNat.ofNat k : Int) = ((OfNat.ofNat k : Nat) : Int) := rfl
theorem nav_snoc : ∀ (path : List Nat) (dd d1 : D) (cs : List D) (c : D) (j : Nat), dd.nav path = some d1 → d1.kids = some cs → cs[j]? = some c → dd.nav (path ++ [j]) = some c
 | [], dd, d1, cs, c, j, h, hk, hc => by
  simp only [D.nav, Option.some.injEq] at h
  subst h
  simp only [List.nil_append, D.nav, hk, hc]
 | k :: path, dd, d1, cs, c, j, h, hk, hc => by
  simp only [D.nav] at h
  cases hk1 : dd.kids with
  | none => simp [hk1] at h
  | some cs1 =>
   simp only [hk1] at h
   cases hc1 : cs1[k]? with
   | none => simp [hc1] at h
   | some c1 =>
    simp only [hc1] at h
    simp only [List.cons_append, D.nav, hk1, hc1]
    exact nav_snoc path c1 d1 cs c j h hk hc
theorem nav_LL_at {path : List Nat} {dd : D} {L : List (List Int)} {j : Nat} (h : dd.nav path = some (.sl true 1 (LL L))) (hj : j < L.length) : dd.nav (path ++ [j]) = some (.sl true 1 (ints (L.getD j []))) :=
 nav_snoc path dd _ _ _ j h rfl (by simp only [LL, LL_get hj])
theorem own_put_LL {id : Nat} {L L' : List (List Int)} {j : Nat} {m : List Int} (h : j < L.length) (e : L.set j m = L') : AV.own id ((D.sl true 1 (LL L)).put ([] ++ [j]) (.sl true 1 (ints m))) = AV.own id (.sl true 1 (LL L')) := by
 subst e
 simp only [List.nil_append, D.put, D.kids, LL, LL_get h, D.withKids, List.map_set]
theorem iA {x : Operand} {xr id : Nat} {path rd : List Nat} {dd d : D} (h : IoAt st x xr id path dd d rd := by first | exact .als rfl rfl rfl | exact .als rfl rfl (nav_LL (by omega)) | exact .sl rfl | exact .pt rfl | exact .ptr rfl rfl) : IoAt st x xr id path dd d rd := h
theorem RunL.eql_nil {ops : Array Oper} {Q : (Nat → AV) → Nat → Prop} {d : Nat} {x : Operand} {T T' : TypeId} {ty pos aft} {l : List Oper} {nx : Nat} {rd : List Nat} {sz sz' : Nat} {cs : List D} [hT : SliceTy P T sz'] (hv : View st x rd sz cs) (hd : n d = true)
  (h : ∀ b : Bool, (b = true → cs = []) → RunL P n ops l (puts st [(d, .c (.lit (.bool b)))]) (nx + 1) Q) : RunL P n ops (⟨some d, .binOp .eql T x (.const (.slice none 0 0)) T', ty, pos, aft, none⟩ :: l) st nx Q := by
 refine RunL.of0 ?_
 intro f a w Q' hn hr hQ
 obtain ⟨ρ, L, hr⟩ := hr
 obtain ⟨us, r, ⟨a0, n0, c0, e0, h1, h2, h3, h4⟩, h5⟩ := hv.read hr
 obtain ⟨e, i, z, t1, _⟩ := hT.out
 refine wpList_plain rfl fun K hK => ?_
 have hb : a0.isNone = true → cs = [] := by
  intro hnone
  by_cases hu : us = []
  ·subst hu
   have := h5.length
   rw [D.erases_eq, List.length_map] at this
   exact List.eq_nil_of_length_eq_zero this.symm
  ·obtain ⟨b, rfl, _⟩ := h4 hu
   simp at hnone
 refine wV_ (u := .bool a0.isNone) (w' := w) ?_ (hr.done_lit (nid := nx) (d := d) (K := K) ?_ (by rw [hn]; exact hd) rfl)
 ·simp only [execOp, Sem.run_bind]
  have e1 : a.eval (.const (.slice none 0 0)) = .slice none 0 0 := rfl
  rw [e0, e1]
  have hg : (eqGuard .eql T x (.const (.slice none 0 0)) (.slice a0 n0 c0) (.slice none 0 0)).run P w = .ok () w := by
   unfold eqGuard; simp
  simp only [hg, Result.andThen_ok, binOp, Sem.run_bind]
  rw [run_equal_slice_nil (P := P) w T e a0 n0 c0 t1]
  simp
 ·intro a' w' hr'
  exact hK a' w' (h a0.isNone hb f a' w' Q' hn (.of (hr'.weaken fun i hi => by omega)) hQ)
theorem RunU.eql_nil {ops l : List Oper} {pre} {Q : (Nat → AV) → Nat → Prop} {d : Nat} {x : Operand} {T T' : TypeId} {ty pos aft} {nx : Nat} {rd : List Nat} {sz sz' : Nat} {cs : List D} [hT : SliceTy P T sz'] (hv : View st x rd sz cs) (hd : n d = true)
  (h : ∀ b : Bool, (b = true → cs = []) → RunU false P n ops l (puts st [(d, .c (.lit (.bool b)))]) (nx + 1) ((rd, [d]) :: pre) Q) : RunU false P n ops (⟨some d, .binOp .eql T x (.const (.slice none 0 0)) T', ty, pos, aft, none⟩ :: l) st nx pre Q :=
 RunL.eql_nil hv hd h
end
end Go.Pv
