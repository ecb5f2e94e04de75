/- Curves: the program's look at them. No condition. -/
import Derived.Test.YtakecbnclmjloaaWPvU
import Derived.Test.YtakecbnclmjloaaWAcA
import Derived.Test.YtakecbnclmjloaaWAbA
import Derived.Test.YtakecbnclmjloaaWPwI
namespace Go.Proofs.Ytakecbnclmjloaa
set_option linter.unusedVariables false
set_option linter.unusedSimpArgs false
def Adj (E : List (List Int)) (x y : Int) : Prop := [x, y] ∈ E ∨ [y, x] ∈ E
theorem Adj.symm {E : List (List Int)} {x y : Int} (h : Adj E x y) : Adj E y x := Or.symm h
def NB (E : List (List Int)) : List Int → Prop
  | x :: y :: z :: l => Adj E x y ∧ x ≠ z ∧ NB E (y :: z :: l)
  | [x, y] => Adj E x y
  | _ => True
theorem NB.tail {E : List (List Int)} : ∀ {x : Int} {l : List Int}, NB E (x :: l) → NB E l
  | _, [], _ => trivial
  | _, [_], _ => trivial
  | _, _ :: _ :: _, h => h.2.2
theorem NB.adj {E : List (List Int)} : ∀ {x y : Int} {l : List Int}, NB E (x :: y :: l) → Adj E x y
  | _, _, [], h => h
  | _, _, _ :: _, h => h.1
theorem NB.cons {E : List (List Int)} {x y : Int} {l : List Int} (h : NB E (y :: l)) (ha : Adj E x y) (hx : ∀ z l', l = z :: l' → x ≠ z) : NB E (x :: y :: l) := by
  cases l with
  | nil => exact ha
  | cons z l => exact ⟨ha, hx z l rfl, h⟩
theorem NB.mono {E E' : List (List Int)} (hE : ∀ e ∈ E, e ∈ E') : ∀ {l : List Int}, NB E l → NB E' l
  | [], _ => trivial
  | [_], _ => trivial
  | [_, _], h => h.imp (hE _) (hE _)
  | _ :: _ :: _ :: _, h => ⟨h.1.imp (hE _) (hE _), h.2.1, NB.mono hE h.2.2⟩
theorem NB.join {E : List (List Int)} : ∀ (p : List Int) {x : Int} {q : List Int}, NB E (p ++ [x]) → NB E (x :: q) → (∀ p' y z q', p = p' ++ [y] → q = z :: q' → y ≠ z) → NB E (p ++ x :: q)
  | [], x, q, _, h2, _ => h2
  | [y], x, q, h1, h2, h3 => NB.cons h2 h1 (fun z l' e => h3 [] y z l' rfl e)
  | y :: y2 :: p, x, q, h1, h2, h3 => by
    have ih := NB.join (y2 :: p) (NB.tail h1) h2 (fun p' a b q' e1 e2 => h3 (y :: p') a b q' (by rw [e1]; rfl) e2)
    refine NB.cons ih (NB.adj h1) fun z l' e => ?_
    cases p with
    | nil =>
      obtain ⟨rfl, rfl⟩ := List.cons.inj e
      exact h1.2.1
    | cons a p =>
      obtain ⟨rfl, rfl⟩ := List.cons.inj e
      exact h1.2.1
theorem NB.snoc {E : List (List Int)} {p : List Int} {x y : Int} (h : NB E (p ++ [x])) (ha : Adj E x y) (hy : ∀ p' z, p = p' ++ [z] → z ≠ y) : NB E (p ++ [x, y]) :=
  NB.join p h (show NB E [x, y] from ha) (fun p' a b q' e1 e2 => by
    obtain ⟨rfl, rfl⟩ := List.cons.inj e2
    exact hy p' a e1)
theorem NB.reverse {E : List (List Int)} : ∀ {l : List Int}, NB E l → NB E l.reverse
  | [], _ => trivial
  | [_], _ => trivial
  | [x, y], h => Or.symm h
  | x :: y :: z :: l, h => by
    have ih := NB.reverse h.2.2
    rw [List.reverse_cons, List.reverse_cons, List.append_assoc]
    rw [List.reverse_cons] at ih
    refine NB.snoc ih h.1.symm fun p' a e => ?_
    rw [List.reverse_cons] at e
    obtain ⟨_, e⟩ := List.append_inj' e rfl
    obtain ⟨rfl⟩ := List.cons.inj e
    exact fun e => h.2.1 e.symm
structure Sep (E : List (List Int)) (lab : Int → Int) : Prop where
  same : ∀ x y, Adj E x y → lab x = lab y
end Go.Proofs.Ytakecbnclmjloaa
namespace Go.Proofs.Ytakecbnclmjloaa
set_option linter.unusedVariables false
set_option linter.unusedSimpArgs false
def lexC : List Int → List Int → Int
  | [], [] => 0
  | [], _ :: _ => -1
  | _ :: _, [] => 1
  | x :: a, y :: b => if x < y then -1 else if y < x then 1 else lexC a b
def iota (n : Nat) : List Int := (List.range n).map fun i : Nat => (i : Int)
def ea (E : List (List Int)) (j : Nat) : Int := (E.getD j []).getD 0 0
def eb (E : List (List Int)) (j : Nat) : Int := (E.getD j []).getD 1 0
def mrg (p q : Int) (L : List Int) : List Int := L.map fun x => if x = q then p else x
def labI (n : Nat) (E : List (List Int)) : Nat → List Int
  | 0 => iota n
  | j + 1 => mrg (min ((labI n E j).getD (ea E j).toNat 0) ((labI n E j).getD (eb E j).toNat 0)) (max ((labI n E j).getD (ea E j).toNat 0) ((labI n E j).getD (eb E j).toNat 0)) (labI n E j)
def GoodAt (n : Nat) (E : List (List Int)) (j : Nat) : Prop := (E.getD j []).length = 2 ∧ (0 ≤ ea E j ∧ ea E j < eb E j ∧ eb E j < n) ∧ (0 < j → lexC (E.getD (j - 1) []) (E.getD j []) < 0)
instance (n : Nat) (E : List (List Int)) (j : Nat) : Decidable (GoodAt n E j) := by unfold GoodAt; infer_instance
def GoodE (n : Nat) (E : List (List Int)) : Prop := ∀ j, j < E.length → GoodAt n E j
instance (n : Nat) (E : List (List Int)) : Decidable (GoodE n E) := by unfold GoodE; infer_instance
def Joins (n : Nat) (E : List (List Int)) (j : Nat) : Prop := (labI n E j).getD (ea E j).toNat 0 ≠ (labI n E j).getD (eb E j).toNat 0
instance (n : Nat) (E : List (List Int)) (j : Nat) : Decidable (Joins n E j) := by unfold Joins; infer_instance
def Acy (n : Nat) (E : List (List Int)) : Prop := ∀ j, j < E.length → Joins n E j
instance (n : Nat) (E : List (List Int)) : Decidable (Acy n E) := by unfold Acy; infer_instance
def IsGr (w : List Int) (E : List (List Int)) : Prop := (1 ≤ w.length ∧ w.length ≤ 40) ∧ (∀ i, i < w.length → -1000 ≤ w.getD i 0 ∧ w.getD i 0 ≤ 1000) ∧ GoodE w.length E ∧ Acy w.length E
instance decIsGr (w : List Int) (E : List (List Int)) : Decidable (IsGr w E) := by unfold IsGr; infer_instance
end Go.Proofs.Ytakecbnclmjloaa
namespace Go.Proofs.Ytakecbnclmjloaa
set_option maxHeartbeats 20000000
set_option linter.unusedVariables false
set_option linter.unusedSimpArgs false
open Go.Pv
open Go.ChangeShapes Go.WideShapes Go.ChangeAt Go.RowKit
attribute [local irreducible] RunU WpA Step CallG CallNG Done DoneN
instance fnOk95 : FnOk Try.prog 95 := ⟨_, Try.func95, rfl, by decide⟩
instance fnOk74 : FnOk Try.prog 74 := ⟨_, Try.func74, rfl, by decide⟩
end Go.Proofs.Ytakecbnclmjloaa
namespace Go.Proofs.Ytakecbnclmjloaa
set_option maxHeartbeats 20000000
set_option linter.unusedVariables false
set_option linter.unusedSimpArgs false
open Go.Pv
open Go.ChangeShapes Go.WideShapes Go.ChangeAt Go.RowKit
attribute [local irreducible] RunU WpA Step CallG CallNG Done DoneN
end Go.Proofs.Ytakecbnclmjloaa
namespace Go.Proofs.Ytakecbnclmjloaa
set_option maxHeartbeats 20000000
set_option linter.unusedVariables false
set_option linter.unusedSimpArgs false
open Go.Pv
open Go.ChangeShapes Go.WideShapes Go.ChangeAt Go.RowKit
attribute [local irreducible] RunU WpA Step CallG CallNG Done DoneN
attribute [local irreducible] IsGr decIsGr GoodE GoodAt Acy Joins
end Go.Proofs.Ytakecbnclmjloaa
namespace Go.Proofs.Ytakecbnclmjloaa
set_option maxHeartbeats 20000000
set_option linter.unusedVariables false
set_option linter.unusedSimpArgs false
open Go.Pv
open Go.ChangeShapes Go.WideShapes Go.ChangeAt Go.RowKit
attribute [local irreducible] RunU WpA Step CallG CallNG Done DoneN
instance fnOk88 : FnOk Try.prog 88 := ⟨_, Try.func88, rfl, by decide⟩
instance fnOk82 : FnOk Try.prog 82 := ⟨_, Try.func82, rfl, by decide⟩
instance fnOk87 : FnOk Try.prog 87 := ⟨_, Try.func87, rfl, by decide⟩
instance fnOk86 : FnOk Try.prog 86 := ⟨_, Try.func86, rfl, by decide⟩
instance fnOk56 : FnOk Try.prog 56 := ⟨_, Try.func56, rfl, by decide⟩
instance fnOk57 : FnOk Try.prog 57 := ⟨_, Try.func57, rfl, by decide⟩
instance fnOk58 : FnOk Try.prog 58 := ⟨_, Try.func58, rfl, by decide⟩
attribute [local irreducible] decStrict decFalls decIsBr decWithin Strict Falls IsBr Within
abbrev vQJ (x : Int) : AV := .c (.lit (.int .i64 x))
end Go.Proofs.Ytakecbnclmjloaa
namespace Go.Proofs.Ytakecbnclmjloaa
set_option maxHeartbeats 20000000
set_option linter.unusedVariables false
set_option linter.unusedSimpArgs false
open Go.Pv
open Go.ChangeShapes Go.WideShapes Go.ChangeAt Go.RowKit
attribute [local irreducible] RunU WpA Step CallG CallNG Done DoneN
instance fnOk54 : FnOk Try.prog 54 := ⟨_, Try.func54, rfl, by decide⟩
attribute [local irreducible] decStrict decFalls decIsBr decWithin Strict Falls IsBr Within
end Go.Proofs.Ytakecbnclmjloaa
namespace Go.Proofs.Ytakecbnclmjloaa
set_option maxHeartbeats 20000000
set_option linter.unusedVariables false
set_option linter.unusedSimpArgs false
open Go.Pv
open Go.ChangeShapes Go.WideShapes Go.ChangeAt Go.RowKit
attribute [local irreducible] RunU WpA Step CallG CallNG Done DoneN
attribute [local irreducible] decStrict decFalls decIsBr decWithin Strict Falls IsBr Within divTo divs
instance fnOk55 : FnOk Try.prog 55 := ⟨_, Try.func55, rfl, by decide⟩
end Go.Proofs.Ytakecbnclmjloaa
namespace Go.Proofs.Ytakecbnclmjloaa
set_option maxHeartbeats 20000000
set_option linter.unusedVariables false
set_option linter.unusedSimpArgs false
open Go.Pv
open Go.ChangeShapes Go.WideShapes Go.ChangeAt Go.RowKit
attribute [local irreducible] RunU WpA Step CallG CallNG Done DoneN
instance fnOk24 : FnOk Try.prog 24 := ⟨_, Try.func24, rfl, by decide⟩
attribute [local irreducible] decStrict decFalls decIsBr decWithin Strict Falls IsBr Within
abbrev aCu (B C : List (List Int)) : Arg := .sh (.agg [.sl false 1 (LLs B), .sl false 1 (LLs C)])
abbrev vLL (L : List (List Int)) : AV := .c (.sl false 1 (LLs L))
def CellG (x : Int) (i k : Nat) : Prop := (i = k ∧ x = 0) ∨ (i ≠ k ∧ 1 ≤ x ∧ x ≤ 200)
instance decCellG (x : Int) (i k : Nat) : Decidable (CellG x i k) := by unfold CellG; infer_instance
end Go.Proofs.Ytakecbnclmjloaa
