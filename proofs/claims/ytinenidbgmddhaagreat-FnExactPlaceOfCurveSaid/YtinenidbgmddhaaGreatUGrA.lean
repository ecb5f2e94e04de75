/- What a graph is: the program's test. No condition. -/
import Derived.Test.YtinenidbgmddhaaGreatUPvU
import Derived.Test.YtinenidbgmddhaaGreatUSpA
set_option linter.unusedVariables false
set_option linter.unusedSimpArgs false
namespace Go.Proofs.YtinenidbgmddhaaGreat
def Adj (E : List (List Int)) (x y : Int) : Prop := [x, y] ∈ E ∨ [y, x] ∈ E
theorem Adj.symm {E : List (List Int)} {x y : Int} (h : Adj E x y) : Adj E y x := Or.symm h
def NB (E : List (List Int)) : List Int → Prop
  | x :: y :: z :: l => Adj E x y ∧ x ≠ z ∧ NB E (y :: z :: l)
  | [x, y] => Adj E x y
  | _ => True
theorem NB.tail {E : List (List Int)} : ∀ {x : Int} {l : List Int}, NB E (x :: l) → NB E l
  | _, [], _ => trivial
  | _, [_], _ => trivial
  | _, _ :: _ :: _, h => h.2.2
theorem NB.adj {E : List (List Int)} : ∀ {x y : Int} {l : List Int}, NB E (x :: y :: l) → Adj E x y
  | _, _, [], h => h
  | _, _, _ :: _, h => h.1
theorem NB.cons {E : List (List Int)} {x y : Int} {l : List Int} (h : NB E (y :: l)) (ha : Adj E x y) (hx : ∀ z l', l = z :: l' → x ≠ z) : NB E (x :: y :: l) := by
  cases l with
  | nil => exact ha
  | cons z l => exact ⟨ha, hx z l rfl, h⟩
theorem NB.mono {E E' : List (List Int)} (hE : ∀ e ∈ E, e ∈ E') : ∀ {l : List Int}, NB E l → NB E' l
  | [], _ => trivial
  | [_], _ => trivial
  | [_, _], h => h.imp (hE _) (hE _)
  | _ :: _ :: _ :: _, h => ⟨h.1.imp (hE _) (hE _), h.2.1, NB.mono hE h.2.2⟩
theorem NB.join {E : List (List Int)} : ∀ (p : List Int) {x : Int} {q : List Int}, NB E (p ++ [x]) → NB E (x :: q) → (∀ p' y z q', p = p' ++ [y] → q = z :: q' → y ≠ z) → NB E (p ++ x :: q)
  | [], x, q, _, h2, _ => h2
  | [y], x, q, h1, h2, h3 => NB.cons h2 h1 (fun z l' e => h3 [] y z l' rfl e)
  | y :: y2 :: p, x, q, h1, h2, h3 => by
    have ih := NB.join (y2 :: p) (NB.tail h1) h2 (fun p' a b q' e1 e2 => h3 (y :: p') a b q' (by rw [e1]; rfl) e2)
    refine NB.cons ih (NB.adj h1) fun z l' e => ?_
    cases p with
    | nil =>
      obtain ⟨rfl, rfl⟩ := List.cons.inj e
      exact h1.2.1
    | cons a p =>
      obtain ⟨rfl, rfl⟩ := List.cons.inj e
      exact h1.2.1
theorem NB.snoc {E : List (List Int)} {p : List Int} {x y : Int} (h : NB E (p ++ [x])) (ha : Adj E x y) (hy : ∀ p' z, p = p' ++ [z] → z ≠ y) : NB E (p ++ [x, y]) :=
  NB.join p h (show NB E [x, y] from ha) (fun p' a b q' e1 e2 => by
    obtain ⟨rfl, rfl⟩ := List.cons.inj e2
    exact hy p' a e1)
theorem NB.reverse {E : List (List Int)} : ∀ {l : List Int}, NB E l → NB E l.reverse
  | [], _ => trivial
  | [_], _ => trivial
  | [x, y], h => Or.symm h
  | x :: y :: z :: l, h => by
    have ih := NB.reverse h.2.2
    rw [List.reverse_cons, List.reverse_cons, List.append_assoc]
    rw [List.reverse_cons] at ih
    refine NB.snoc ih h.1.symm fun p' a e => ?_
    rw [List.reverse_cons] at e
    obtain ⟨_, e⟩ := List.append_inj' e rfl
    obtain ⟨rfl⟩ := List.cons.inj e
    exact fun e => h.2.1 e.symm
structure Sep (E : List (List Int)) (lab : Int → Int) : Prop where
  same : ∀ x y, Adj E x y → lab x = lab y
end Go.Proofs.YtinenidbgmddhaaGreat
namespace Go.Proofs.YtinenidbgmddhaaGreat
def lexC : List Int → List Int → Int
  | [], [] => 0
  | [], _ :: _ => -1
  | _ :: _, [] => 1
  | x :: a, y :: b => if x < y then -1 else if y < x then 1 else lexC a b
def iota (n : Nat) : List Int := (List.range n).map fun i : Nat => (i : Int)
theorem iota_len (n : Nat) : (iota n).length = n := by simp [iota]
theorem iota_at {n i : Nat} (h : i < n) : (iota n).getD i 0 = i := by simp [iota, List.getD, h]
def ea (E : List (List Int)) (j : Nat) : Int := (E.getD j []).getD 0 0
def eb (E : List (List Int)) (j : Nat) : Int := (E.getD j []).getD 1 0
def mrg (p q : Int) (L : List Int) : List Int := L.map fun x => if x = q then p else x
theorem mrg_len (p q : Int) (L : List Int) : (mrg p q L).length = L.length := by simp [mrg]
theorem mrg_at {p q : Int} {L : List Int} {i : Nat} (h : i < L.length) : (mrg p q L).getD i 0 = if L.getD i 0 = q then p else L.getD i 0 := by
  simp [mrg, List.getD, h]
theorem mrg_same (p : Int) (L : List Int) : mrg p p L = L := by
  unfold mrg
  conv => rhs; rw [← List.map_id L]
  refine List.map_congr_left fun x _ => ?_
  split <;> simp_all
def labI (n : Nat) (E : List (List Int)) : Nat → List Int
  | 0 => iota n
  | j + 1 => mrg (min ((labI n E j).getD (ea E j).toNat 0) ((labI n E j).getD (eb E j).toNat 0)) (max ((labI n E j).getD (ea E j).toNat 0) ((labI n E j).getD (eb E j).toNat 0)) (labI n E j)
def GoodAt (n : Nat) (E : List (List Int)) (j : Nat) : Prop := (E.getD j []).length = 2 ∧ (0 ≤ ea E j ∧ ea E j < eb E j ∧ eb E j < n) ∧ (0 < j → lexC (E.getD (j - 1) []) (E.getD j []) < 0)
instance (n : Nat) (E : List (List Int)) (j : Nat) : Decidable (GoodAt n E j) := by unfold GoodAt; infer_instance
def GoodE (n : Nat) (E : List (List Int)) : Prop := ∀ j, j < E.length → GoodAt n E j
instance (n : Nat) (E : List (List Int)) : Decidable (GoodE n E) := by unfold GoodE; infer_instance
def Joins (n : Nat) (E : List (List Int)) (j : Nat) : Prop := (labI n E j).getD (ea E j).toNat 0 ≠ (labI n E j).getD (eb E j).toNat 0
instance (n : Nat) (E : List (List Int)) (j : Nat) : Decidable (Joins n E j) := by unfold Joins; infer_instance
def Acy (n : Nat) (E : List (List Int)) : Prop := ∀ j, j < E.length → Joins n E j
instance (n : Nat) (E : List (List Int)) : Decidable (Acy n E) := by unfold Acy; infer_instance
def isRoot (L : List Int) (i : Nat) : Bool := L.getD i 0 == (i : Int)
def cnt (f : Nat → Bool) : Nat → Nat
  | 0 => 0
  | n + 1 => cnt f n + if f n then 1 else 0
theorem cnt_drop {f g : Nat → Bool} {q : Nat} (hq : f q = true) (hgq : g q = false) : ∀ n, (∀ i, i < n → i ≠ q → f i = g i) → cnt f n = cnt g n + if q < n then 1 else 0
  | 0, _ => by simp [cnt]
  | n + 1, h => by
    have ih := cnt_drop hq hgq n (fun i hi => h i (by omega))
    rw [cnt, cnt, ih]
    by_cases e : n = q
    · subst e; simp [hq, hgq]
    · rw [h n (by omega) e]
      by_cases h1 : q < n
      · rw [if_pos h1, if_pos (show q < n + 1 by omega)]; omega
      · rw [if_neg h1, if_neg (show ¬ q < n + 1 by omega)]; omega
theorem cnt_mono (f : Nat → Bool) {a b : Nat} (h : a ≤ b) : cnt f a ≤ cnt f b := by
  induction b with
  | zero => rw [Nat.le_zero.1 h]; exact Nat.le_refl _
  | succ b ih =>
    rcases Nat.lt_or_ge a (b + 1) with h1 | h1
    · have := ih (by omega)
      rw [cnt]; omega
    · rw [Nat.le_antisymm h h1]; exact Nat.le_refl _
theorem cnt_lt (f : Nat → Bool) {a b : Nat} (h : a < b) (ha : f a = true) : cnt f a < cnt f b := by
  have := cnt_mono f (a := a + 1) (b := b) (by omega)
  rw [cnt, ha] at this
  simp at this
  omega
theorem cnt_all {f : Nat → Bool} : ∀ n, (∀ i, i < n → f i = true) → cnt f n = n
  | 0, _ => rfl
  | n + 1, h => by rw [cnt, cnt_all n (fun i hi => h i (by omega)), h n (by omega)]; rfl
def Roots (n : Nat) (L : List Int) : Prop := L.length = n ∧ ∀ i, i < n → 0 ≤ L.getD i 0 ∧ L.getD i 0 ≤ i ∧ L.getD (L.getD i 0).toNat 0 = L.getD i 0
theorem roots_mrg {n : Nat} {L : List Int} {a b : Nat} (h : Roots n L) (ha : a < n) (hb : b < n) (hab : L.getD a 0 < L.getD b 0) :
    Roots n (mrg (L.getD a 0) (L.getD b 0) L) ∧ cnt (isRoot L) n = cnt (isRoot (mrg (L.getD a 0) (L.getD b 0) L)) n + 1 := by
  obtain ⟨hl, h⟩ := h
  have h1 := h a ha
  have h2 := h b hb
  generalize hp : L.getD a 0 = p at *
  generalize hq : L.getD b 0 = q at *
  have at' : ∀ i, i < n → (mrg p q L).getD i 0 = if L.getD i 0 = q then p else L.getD i 0 := fun i hi => mrg_at (by omega)
  refine ⟨⟨by rw [mrg_len, hl], fun i hi => ?_⟩, ?_⟩
  · have h3 := h i hi
    rw [at' i hi]
    by_cases e : L.getD i 0 = q
    · rw [if_pos e, at' _ (by omega), h1.2.2, if_neg (by omega)]
      omega
    · rw [if_neg e, at' _ (by omega), h3.2.2, if_neg e]
      omega
  · have hr := cnt_drop (f := isRoot L) (g := isRoot (mrg p q L)) (q := q.toNat) (by unfold isRoot; rw [beq_iff_eq, h2.2.2]; omega) (by
      have := at' q.toNat (by omega)
      rw [h2.2.2, if_pos rfl] at this
      simp only [isRoot, this, beq_eq_false_iff_ne]
      omega) n (fun i hi hne => by
        have h3 := h i hi
        simp only [isRoot, at' i hi]
        by_cases e : L.getD i 0 = q
        · rw [if_pos e]
          have : L.getD i 0 ≠ (i : Int) := fun e2 => hne (by omega)
          have h4 : p ≠ (i : Int) := by omega
          rw [beq_eq_false_iff_ne.2 this, beq_eq_false_iff_ne.2 h4]
        · rw [if_neg e])
    rw [hr, if_pos (by omega)]
theorem roots_iota (n : Nat) : Roots n (iota n) := by
  refine ⟨iota_len n, fun i hi => ?_⟩
  rw [iota_at hi, Int.toNat_natCast, iota_at hi]
  omega
theorem roots_labI {n : Nat} {E : List (List Int)} : ∀ j, (∀ i, i < j → GoodAt n E i) → Roots n (labI n E j) ∧ n ≤ cnt (isRoot (labI n E j)) n + j ∧ (cnt (isRoot (labI n E j)) n + j = n ↔ ∀ i, i < j → Joins n E i)
  | 0, _ => by
    refine ⟨roots_iota n, ?_⟩
    have : cnt (isRoot (labI n E 0)) n = n := cnt_all n fun i hi => by rw [isRoot, labI, iota_at hi]; simp
    rw [this]
    exact ⟨by omega, fun _ i hi => absurd hi (by omega), fun _ => by omega⟩
  | j + 1, hg => by
    obtain ⟨h1, h2, h3⟩ := roots_labI j (fun i hi => hg i (by omega))
    have g := (hg j (by omega)).2.1
    have hall : (∀ i, i < j + 1 → Joins n E i) ↔ (∀ i, i < j → Joins n E i) ∧ Joins n E j :=
      ⟨fun h => ⟨fun i hi => h i (by omega), h j (by omega)⟩, fun h i hi => by
        by_cases e : i = j
        · subst e; exact h.2
        · exact h.1 i (by omega)⟩
    rw [hall]
    by_cases hj : Joins n E j
    · have hj' := hj
      unfold Joins at hj'
      rw [labI]
      rcases Int.lt_or_lt_of_ne hj' with h4 | h4
      · obtain ⟨t1, t2⟩ := roots_mrg h1 (by omega) (by omega) h4
        rw [Int.min_eq_left (by omega), Int.max_eq_right (by omega)]
        exact ⟨t1, by omega, fun h => ⟨h3.1 (by omega), hj⟩, fun h => by have := h3.2 h.1; omega⟩
      · obtain ⟨t1, t2⟩ := roots_mrg h1 (by omega) (by omega) h4
        rw [Int.min_eq_right (by omega), Int.max_eq_left (by omega)]
        exact ⟨t1, by omega, fun h => ⟨h3.1 (by omega), hj⟩, fun h => by have := h3.2 h.1; omega⟩
    · have e : (labI n E j).getD (ea E j).toNat 0 = (labI n E j).getD (eb E j).toNat 0 := Decidable.not_not.1 hj
      rw [labI, e, Int.min_self, Int.max_self, mrg_same]
      exact ⟨h1, by omega, ⟨fun h => by omega, fun h => absurd h.2 hj⟩⟩
theorem acy_iff {n : Nat} {E : List (List Int)} (hg : GoodE n E) : cnt (isRoot (labI n E E.length)) n + E.length = n ↔ Acy n E := (roots_labI E.length hg).2.2
def IsGr (w : List Int) (E : List (List Int)) : Prop := (1 ≤ w.length ∧ w.length ≤ 40) ∧ (∀ i, i < w.length → -1000 ≤ w.getD i 0 ∧ w.getD i 0 ≤ 1000) ∧ GoodE w.length E ∧ Acy w.length E
instance decIsGr (w : List Int) (E : List (List Int)) : Decidable (IsGr w E) := by unfold IsGr; infer_instance
theorem IsGr.roots {w : List Int} {E : List (List Int)} (h : IsGr w E) : Roots w.length (labI w.length E E.length) := (roots_labI E.length h.2.2.1).1
theorem IsGr.count {w : List Int} {E : List (List Int)} (h : IsGr w E) : cnt (isRoot (labI w.length E E.length)) w.length + E.length = w.length := (acy_iff h.2.2.1).2 h.2.2.2
theorem IsGr.few {w : List Int} {E : List (List Int)} (h : IsGr w E) : E.length < w.length := by
  have h1 := h.count
  have h2 := h.roots.2 0 (by have := h.1; omega)
  have h3 := cnt_lt (isRoot (labI w.length E E.length)) (a := 0) (b := w.length) (by have := h.1; omega) (by unfold isRoot; rw [beq_iff_eq]; omega)
  rw [cnt] at h3
  omega
end Go.Proofs.YtinenidbgmddhaaGreat
namespace Go.Proofs.YtinenidbgmddhaaGreat
set_option maxHeartbeats 20000000
open Go.Pv
open Go.ChangeShapes Go.WideShapes Go.ChangeAt Go.RowKit
attribute [local irreducible] RunU WpA Step CallG CallNG Done DoneN
instance fnOk111 : FnOk Tryz.prog 111 := ⟨_, Tryz.func111, rfl, by decide⟩
instance fnOk68 : FnOk Tryz.prog 68 := ⟨_, Tryz.func68, rfl, by decide⟩
end Go.Proofs.YtinenidbgmddhaaGreat
namespace Go.Proofs.YtinenidbgmddhaaGreat
set_option maxHeartbeats 20000000
open Go.Pv
open Go.ChangeShapes Go.WideShapes Go.ChangeAt Go.RowKit
attribute [local irreducible] RunU WpA Step CallG CallNG Done DoneN
abbrev vGI (x : Int) : AV := .c (.lit (.int .i64 x))
end Go.Proofs.YtinenidbgmddhaaGreat
namespace Go.Proofs.YtinenidbgmddhaaGreat
set_option maxHeartbeats 20000000
open Go.Pv
open Go.ChangeShapes Go.WideShapes Go.ChangeAt Go.RowKit
attribute [local irreducible] RunU WpA Step CallG CallNG Done DoneN
attribute [local irreducible] IsGr decIsGr GoodE GoodAt Acy Joins
end Go.Proofs.YtinenidbgmddhaaGreat
