/- Codes of points: the lists that both sides make (plain). No condition. -/
import Derived.Test.YtakecbnclmjloaaWBrA
import Derived.Test.YtakecbnclmjloaaWPwF
namespace Go.Proofs.Ytakecbnclmjloaa
set_option maxHeartbeats 20000000
set_option linter.unusedVariables false
set_option linter.unusedSimpArgs false
open Go.Pv
open Go.ChangeShapes Go.WideShapes Go.ChangeAt Go.RowKit
attribute [local irreducible] RunU WpA Step CallG CallNG Done DoneN
instance fnOk108 : FnOk Try.prog 108 := ⟨_, Try.func108, rfl, by decide⟩
instance fnOk104 : FnOk Try.prog 104 := ⟨_, Try.func104, rfl, by decide⟩
instance fnOk103 : FnOk Try.prog 103 := ⟨_, Try.func103, rfl, by decide⟩
instance fnOk98 : FnOk Try.prog 98 := ⟨_, Try.func98, rfl, by decide⟩
abbrev aBr1 (l : List Int) : Arg := .sh (.agg [.sl false 1 (ints l)])
def stp : Nat → Int → Int → List (List Int)
  | 0, _, _ => []
  | f + 1, a, b => if 0 < b then [a / b, b] :: stp f b (a % b) else []
def runL (R : List (List Int)) : List Int := R.flatMap fun s => List.replicate (s.getD 0 0).toNat (s.getD 1 0)
structure Tms (l : List Int) : Prop where
  len : 1 ≤ l.length ∧ l.length ≤ 100
  bnd : ∀ i, 0 ≤ l.getD i 0 ∧ l.getD i 0 ≤ 2000
  asc : ∀ i, i + 1 < l.length → l.getD i 0 ≤ l.getD (i + 1) 0
  pos : 0 < l.getD 0 0
def runK (l : List Int) (j : Nat) : Int := l.getD (j + 1) 0 - (if j = 0 then 0 else l.getD j 0)
def seqL (l : List Int) : Nat → List Int
  | 0 => []
  | j + 1 => seqL l j ++ runL (stp ((divs l l.length).getD j 0).toNat (runK l j) ((divs l l.length).getD j 0))
def seqI (l : List Int) : List Int := if l.length = 1 then [1] else seqL l (l.length - 1)
end Go.Proofs.Ytakecbnclmjloaa
namespace Go.Proofs.Ytakecbnclmjloaa
set_option maxHeartbeats 20000000
set_option linter.unusedVariables false
set_option linter.unusedSimpArgs false
open Go.Pv
open Go.ChangeShapes Go.WideShapes Go.ChangeAt Go.RowKit
attribute [local irreducible] RunU WpA Step CallG CallNG Done DoneN
instance fnOk105 : FnOk Try.prog 105 := ⟨_, Try.func105, rfl, by decide⟩
instance fnOk106 : FnOk Try.prog 106 := ⟨_, Try.func106, rfl, by decide⟩
instance fnOk101 : FnOk Try.prog 101 := ⟨_, Try.func101, rfl, by decide⟩
def hf2 (m : Int) : Int := m * (m - 1) / 2
end Go.Proofs.Ytakecbnclmjloaa
namespace Go.Proofs.Ytakecbnclmjloaa
set_option maxHeartbeats 20000000
set_option linter.unusedVariables false
set_option linter.unusedSimpArgs false
open Go.Pv
open Go.ChangeShapes Go.WideShapes Go.ChangeAt Go.RowKit
attribute [local irreducible] RunU WpA Step CallG CallNG Done DoneN
def sumI : List Int → Int
  | [] => 0
  | x :: l => x + sumI l
def Dn (p : Int) (rest : List Int) : Prop := ∀ X p' c d Y, rest = X ++ p' :: c :: d :: Y → c < p' → p < sumI X + p' + c + d
def UN : List Int → Prop
  | [] => True
  | p :: rest => (Dn p rest ∧ (∀ x, rest.head? = some x → x ≤ p)) ∧ UN rest
end Go.Proofs.Ytakecbnclmjloaa
namespace Go.Proofs.Ytakecbnclmjloaa
set_option maxHeartbeats 20000000
set_option linter.unusedVariables false
set_option linter.unusedSimpArgs false
open Go.Pv
open Go.ChangeShapes Go.WideShapes Go.ChangeAt Go.RowKit
attribute [local irreducible] RunU WpA Step CallG CallNG Done DoneN
end Go.Proofs.Ytakecbnclmjloaa
namespace Go.Proofs.Ytakecbnclmjloaa
set_option maxHeartbeats 20000000
set_option linter.unusedVariables false
set_option linter.unusedSimpArgs false
open Go.Pv
open Go.ChangeShapes Go.WideShapes Go.ChangeAt Go.RowKit
attribute [local irreducible] RunU WpA Step CallG CallNG Done DoneN
instance fnOk85 : FnOk Try.prog 85 := ⟨_, Try.func85, rfl, by decide⟩
instance fnOk84 : FnOk Try.prog 84 := ⟨_, Try.func84, rfl, by decide⟩
def Strict (l : List Int) : Prop := ∀ i, i < l.length → 0 < i → l.getD (i - 1) 0 < l.getD i 0
instance decStrict (l : List Int) : Decidable (Strict l) := by unfold Strict; infer_instance
def Falls (l : List Int) : Prop := (∀ i, i < l.length → 0 < i → divTo l (i + 1) < divTo l i) ∧ divTo l l.length = 1
instance decFalls (l : List Int) : Decidable (Falls l) := by unfold Falls; infer_instance
def IsBr (l : List Int) : Prop := 0 < l.length ∧ (1 ≤ l.getD 0 0 ∧ l.getD 0 0 ≤ 64) ∧ Strict l ∧ Within l 1 2000 ∧ Falls l
instance decIsBr (l : List Int) : Decidable (IsBr l) := by unfold IsBr; infer_instance
end Go.Proofs.Ytakecbnclmjloaa
namespace Go.Proofs.Ytakecbnclmjloaa
set_option maxHeartbeats 20000000
set_option linter.unusedVariables false
set_option linter.unusedSimpArgs false
open Go.Pv
open Go.ChangeShapes Go.WideShapes Go.ChangeAt Go.RowKit
attribute [local irreducible] RunU WpA Step CallG CallNG Done DoneN
end Go.Proofs.Ytakecbnclmjloaa
namespace Go.Proofs.Ytakecbnclmjloaa
set_option maxHeartbeats 20000000
set_option linter.unusedVariables false
set_option linter.unusedSimpArgs false
open Go.Pv
open Go.ChangeShapes Go.WideShapes Go.ChangeAt Go.RowKit
attribute [local irreducible] RunU WpA Step CallG CallNG Done DoneN
theorem UN.at : ∀ {A : List Int} {p : Int} {R : List Int}, UN (A ++ p :: R) → Dn p R ∧ ∀ x, R.head? = some x → x ≤ p
  | [], _, _, h => h.1
  | _ :: A, _, _, h => UN.at (A := A) h.2
def mulK (l : List Int) (k : Nat) : List Int := (seqI l ++ List.replicate k 1).take k
def sumB (m : List Int) (i j : Nat) : Int := sumI ((m.drop (i + 1)).take (j - i))
def prxB (m : List Int) (i j : Nat) : Bool := decide (i < j ∧ sumB m i j ≤ m.getD i 0)
def codT (m : List Int) (j : Nat) : Nat → Int
  | 0 => 0
  | n + 1 => if n + 1 < j ∧ prxB m n j = true then (j : Int) - n else codT m j n
end Go.Proofs.Ytakecbnclmjloaa
namespace Go.Proofs.Ytakecbnclmjloaa
set_option maxHeartbeats 20000000
set_option linter.unusedVariables false
set_option linter.unusedSimpArgs false
open Go.Pv
open Go.ChangeShapes Go.WideShapes Go.ChangeAt Go.RowKit
attribute [local irreducible] RunU WpA Step CallG CallNG Done DoneN
def cdL (m : List Int) : List Int := (List.range (m.length - 1)).map fun t : Nat => codT m (t + 1) (t + 1)
def codB (l : List Int) : List Int := cdL (mulK l 201)
def Shr (a b : List Int) (c : Int) : Prop := a.take (c.toNat - 1) = b.take (c.toNat - 1) ∧ (a.getD (c.toNat - 1) 0 ≠ b.getD (c.toNat - 1) 0 ∨ a.getD (c.toNat - 1) 0 = 0)
instance decShr (a b : List Int) (c : Int) : Decidable (Shr a b c) := by unfold Shr; infer_instance
def OffT (C : List (List Int)) (n : Nat) : Prop := ∀ i, i < n → ∀ k, k < n → i ≠ k → 1 ≤ (C.getD i []).getD k 0 ∧ (C.getD i []).getD k 0 ≤ 200
instance decOffT (C : List (List Int)) (n : Nat) : Decidable (OffT C n) := by unfold OffT; infer_instance
def SymT (C : List (List Int)) (n : Nat) : Prop := ∀ i, i < n → ∀ k, k < n → (C.getD i []).getD k 0 = (C.getD k []).getD i 0
instance decSymT (C : List (List Int)) (n : Nat) : Decidable (SymT C n) := by unfold SymT; infer_instance
def DiaT (C : List (List Int)) (n : Nat) : Prop := ∀ i, i < n → (C.getD i []).getD i 0 = 0
instance decDiaT (C : List (List Int)) (n : Nat) : Decidable (DiaT C n) := by unfold DiaT; infer_instance
def RowT (C : List (List Int)) (n : Nat) : Prop := ∀ i, i < n → (C.getD i []).length = n
instance decRowT (C : List (List Int)) (n : Nat) : Decidable (RowT C n) := by unfold RowT; infer_instance
def IsTab (C : List (List Int)) (n : Nat) : Prop := C.length = n ∧ RowT C n ∧ DiaT C n ∧ OffT C n ∧ SymT C n
instance decIsTab (C : List (List Int)) (n : Nat) : Decidable (IsTab C n) := by unfold IsTab; infer_instance
def BrsT (B : List (List Int)) : Prop := ∀ i, i < B.length → IsBr (B.getD i [])
instance decBrsT (B : List (List Int)) : Decidable (BrsT B) := by unfold BrsT; infer_instance
def ShrT (B C : List (List Int)) : Prop := ∀ i, i < B.length → ∀ k, k < B.length → i ≠ k → Shr (codB (B.getD i [])) (codB (B.getD k [])) ((C.getD i []).getD k 0)
instance decShrT (B C : List (List Int)) : Decidable (ShrT B C) := by unfold ShrT; infer_instance
def Ult (C : List (List Int)) (i k j : Nat) : Prop := i ≠ k → j ≠ i → j ≠ k → min ((C.getD i []).getD j 0) ((C.getD j []).getD k 0) ≤ (C.getD i []).getD k 0
instance decUlt (C : List (List Int)) (i k j : Nat) : Decidable (Ult C i k j) := by unfold Ult; infer_instance
def UltT (C : List (List Int)) (n : Nat) : Prop := ∀ i, i < n → ∀ k, k < n → ∀ j, j < n → Ult C i k j
instance decUltT (C : List (List Int)) (n : Nat) : Decidable (UltT C n) := by unfold UltT; infer_instance
def IsCu (B C : List (List Int)) : Prop := (1 ≤ B.length ∧ B.length ≤ 6) ∧ IsTab C B.length ∧ BrsT B ∧ ShrT B C ∧ UltT C B.length
instance decIsCu (B C : List (List Int)) : Decidable (IsCu B C) := by unfold IsCu; infer_instance
end Go.Proofs.Ytakecbnclmjloaa
