/- Codes of points: the lists that both sides make (plain). No condition. -/
import Derived.Test.YtneomlnhlpkbjaaGreatMBrA
import Derived.Test.YtneomlnhlpkbjaaGreatMNuA
import Derived.Test.YtneomlnhlpkbjaaGreatMAbB
set_option linter.unusedVariables false
set_option linter.unusedSimpArgs false
namespace Go.Proofs.YtneomlnhlpkbjaaGreat
set_option maxHeartbeats 20000000
open Go.Pv
open Go.ChangeShapes Go.WideShapes Go.ChangeAt Go.RowKit
attribute [local irreducible] RunU WpA Step CallG CallNG Done DoneN
def Strict (l : List Int) : Prop := ∀ i, i < l.length → 0 < i → l.getD (i - 1) 0 < l.getD i 0
instance decStrict (l : List Int) : Decidable (Strict l) := by unfold Strict; infer_instance
def Falls (l : List Int) : Prop := (∀ i, i < l.length → 0 < i → divTo l (i + 1) < divTo l i) ∧ divTo l l.length = 1
instance decFalls (l : List Int) : Decidable (Falls l) := by unfold Falls; infer_instance
def IsBr (l : List Int) : Prop := 0 < l.length ∧ (1 ≤ l.getD 0 0 ∧ l.getD 0 0 ≤ 64) ∧ Strict l ∧ Within l 1 2000 ∧ Falls l
instance decIsBr (l : List Int) : Decidable (IsBr l) := by unfold IsBr; infer_instance
end Go.Proofs.YtneomlnhlpkbjaaGreat
namespace Go.Proofs.YtneomlnhlpkbjaaGreat
set_option maxHeartbeats 20000000
open Go.Pv
open Go.ChangeShapes Go.WideShapes Go.ChangeAt Go.RowKit
attribute [local irreducible] RunU WpA Step CallG CallNG Done DoneN
end Go.Proofs.YtneomlnhlpkbjaaGreat
namespace Go.Proofs.YtneomlnhlpkbjaaGreat
set_option maxHeartbeats 20000000
open Go.Pv
open Go.ChangeShapes Go.WideShapes Go.ChangeAt Go.RowKit
attribute [local irreducible] RunU WpA Step CallG CallNG Done DoneN
theorem UN.at : ∀ {A : List Int} {p : Int} {R : List Int}, UN (A ++ p :: R) → Dn p R ∧ ∀ x, R.head? = some x → x ≤ p
  | [], _, _, h => h.1
  | _ :: A, _, _, h => UN.at (A := A) h.2
def mulK (l : List Int) (k : Nat) : List Int := (seqI l ++ List.replicate k 1).take k
def sumB (m : List Int) (i j : Nat) : Int := sumI ((m.drop (i + 1)).take (j - i))
def prxB (m : List Int) (i j : Nat) : Bool := decide (i < j ∧ sumB m i j ≤ m.getD i 0)
def codT (m : List Int) (j : Nat) : Nat → Int
  | 0 => 0
  | n + 1 => if n + 1 < j ∧ prxB m n j = true then (j : Int) - n else codT m j n
end Go.Proofs.YtneomlnhlpkbjaaGreat
namespace Go.Proofs.YtneomlnhlpkbjaaGreat
set_option maxHeartbeats 20000000
open Go.Pv
open Go.ChangeShapes Go.WideShapes Go.ChangeAt Go.RowKit
attribute [local irreducible] RunU WpA Step CallG CallNG Done DoneN
def cdL (m : List Int) : List Int := (List.range (m.length - 1)).map fun t : Nat => codT m (t + 1) (t + 1)
def codB (l : List Int) : List Int := cdL (mulK l 201)
def Shr (a b : List Int) (c : Int) : Prop := a.take (c.toNat - 1) = b.take (c.toNat - 1) ∧ (a.getD (c.toNat - 1) 0 ≠ b.getD (c.toNat - 1) 0 ∨ a.getD (c.toNat - 1) 0 = 0)
instance decShr (a b : List Int) (c : Int) : Decidable (Shr a b c) := by unfold Shr; infer_instance
def OffT (C : List (List Int)) (n : Nat) : Prop := ∀ i, i < n → ∀ k, k < n → i ≠ k → 1 ≤ (C.getD i []).getD k 0 ∧ (C.getD i []).getD k 0 ≤ 200
instance decOffT (C : List (List Int)) (n : Nat) : Decidable (OffT C n) := by unfold OffT; infer_instance
def SymT (C : List (List Int)) (n : Nat) : Prop := ∀ i, i < n → ∀ k, k < n → (C.getD i []).getD k 0 = (C.getD k []).getD i 0
instance decSymT (C : List (List Int)) (n : Nat) : Decidable (SymT C n) := by unfold SymT; infer_instance
def DiaT (C : List (List Int)) (n : Nat) : Prop := ∀ i, i < n → (C.getD i []).getD i 0 = 0
instance decDiaT (C : List (List Int)) (n : Nat) : Decidable (DiaT C n) := by unfold DiaT; infer_instance
def RowT (C : List (List Int)) (n : Nat) : Prop := ∀ i, i < n → (C.getD i []).length = n
instance decRowT (C : List (List Int)) (n : Nat) : Decidable (RowT C n) := by unfold RowT; infer_instance
def IsTab (C : List (List Int)) (n : Nat) : Prop := C.length = n ∧ RowT C n ∧ DiaT C n ∧ OffT C n ∧ SymT C n
instance decIsTab (C : List (List Int)) (n : Nat) : Decidable (IsTab C n) := by unfold IsTab; infer_instance
def BrsT (B : List (List Int)) : Prop := ∀ i, i < B.length → IsBr (B.getD i [])
instance decBrsT (B : List (List Int)) : Decidable (BrsT B) := by unfold BrsT; infer_instance
def ShrT (B C : List (List Int)) : Prop := ∀ i, i < B.length → ∀ k, k < B.length → i ≠ k → Shr (codB (B.getD i [])) (codB (B.getD k [])) ((C.getD i []).getD k 0)
instance decShrT (B C : List (List Int)) : Decidable (ShrT B C) := by unfold ShrT; infer_instance
def Ult (C : List (List Int)) (i k j : Nat) : Prop := i ≠ k → j ≠ i → j ≠ k → min ((C.getD i []).getD j 0) ((C.getD j []).getD k 0) ≤ (C.getD i []).getD k 0
instance decUlt (C : List (List Int)) (i k j : Nat) : Decidable (Ult C i k j) := by unfold Ult; infer_instance
def UltT (C : List (List Int)) (n : Nat) : Prop := ∀ i, i < n → ∀ k, k < n → ∀ j, j < n → Ult C i k j
instance decUltT (C : List (List Int)) (n : Nat) : Decidable (UltT C n) := by unfold UltT; infer_instance
def IsCu (B C : List (List Int)) : Prop := (1 ≤ B.length ∧ B.length ≤ 6) ∧ IsTab C B.length ∧ BrsT B ∧ ShrT B C ∧ UltT C B.length
instance decIsCu (B C : List (List Int)) : Decidable (IsCu B C) := by unfold IsCu; infer_instance
end Go.Proofs.YtneomlnhlpkbjaaGreat
