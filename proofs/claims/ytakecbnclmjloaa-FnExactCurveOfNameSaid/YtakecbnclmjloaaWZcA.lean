/- Contracts of the laws' functions on clusters. No condition. -/
import Derived.Test.YtakecbnclmjloaaWSpA
import Derived.Test.YtakecbnclmjloaaWAcA
import Derived.Test.YtakecbnclmjloaaWPwF
import Derived.Test.YtakecbnclmjloaaWPvM
namespace Go.Proofs.Ytakecbnclmjloaa
set_option maxHeartbeats 20000000
set_option linter.unusedVariables false
set_option linter.unusedSimpArgs false
open Go.Pv
open Go.ChangeShapes Go.WideShapes Go.ChangeAt Go.RowKit
attribute [local irreducible] RunU WpA Step CallG CallNG Done DoneN
def PlaceAt (P S : List Int) (i : Nat) : Prop := if i = 0 then P.getD 0 0 = -1 ∧ S.getD 0 0 = -1 else (0 ≤ P.getD i 0 ∧ P.getD i 0 ≤ (i : Int) - 1) ∧ (S.getD i 0 = -1 ∨ 0 ≤ S.getD i 0 ∧ (S.getD i 0 = P.getD (P.getD i 0).toNat 0 ∨ S.getD i 0 = S.getD (P.getD i 0).toNat 0))
instance (P S : List Int) (i : Nat) : Decidable (PlaceAt P S i) := by unfold PlaceAt; infer_instance
def FreshAt (P S : List Int) (i : Nat) : Prop := ∀ j, j < i → ¬ (0 ≤ S.getD i 0 ∧ S.getD i 0 = S.getD j 0 ∧ P.getD i 0 = P.getD j 0)
instance (P S : List Int) (i : Nat) : Decidable (FreshAt P S i) := by unfold FreshAt; infer_instance
def IsCl (P S W : List Int) : Prop := (1 ≤ P.length ∧ P.length ≤ 24) ∧ (S.length = P.length ∧ W.length = P.length) ∧ Within W (-100000) 100000 ∧ ∀ i, i < P.length → PlaceAt P S i ∧ FreshAt P S i
instance decIsCl (P S W : List Int) : Decidable (IsCl P S W) := by unfold IsCl; infer_instance
structure Cl (P S W : List Int) : Prop where
  len : 1 ≤ P.length ∧ P.length ≤ 24
  lS : S.length = P.length
  lW : W.length = P.length
  w : ∀ i, i < P.length → -100000 ≤ W.getD i 0 ∧ W.getD i 0 ≤ 100000
  p0 : P.getD 0 0 = -1 ∧ S.getD 0 0 = -1
  p : ∀ i, 1 ≤ i → i < P.length → 0 ≤ P.getD i 0 ∧ P.getD i 0 ≤ (i : Int) - 1
  s : ∀ i, i < P.length → S.getD i 0 = -1 ∨ 0 ≤ S.getD i 0 ∧ S.getD i 0 ≤ (i : Int) - 2
  sp : ∀ i, 1 ≤ i → i < P.length → S.getD i 0 = -1 ∨ 0 ≤ S.getD i 0 ∧ (S.getD i 0 = P.getD (P.getD i 0).toNat 0 ∨ S.getD i 0 = S.getD (P.getD i 0).toNat 0)
  fresh : ∀ i j, i < P.length → j < i → ¬ (0 ≤ S.getD i 0 ∧ S.getD i 0 = S.getD j 0 ∧ P.getD i 0 = P.getD j 0)
end Go.Proofs.Ytakecbnclmjloaa
namespace Go.Proofs.Ytakecbnclmjloaa
set_option maxHeartbeats 20000000
set_option linter.unusedVariables false
set_option linter.unusedSimpArgs false
open Go.Pv
open Go.ChangeShapes Go.WideShapes Go.ChangeAt Go.RowKit
attribute [local irreducible] RunU WpA Step CallG CallNG Done DoneN
instance fnOk60 : FnOk Try.prog 60 := ⟨_, Try.func60, rfl, by decide⟩
instance fnOk25 : FnOk Try.prog 25 := ⟨_, Try.func25, rfl, by decide⟩
instance fnOk49 : FnOk Try.prog 49 := ⟨_, Try.func49, rfl, by decide⟩
instance fnOk19 : FnOk Try.prog 19 := ⟨_, Try.func19, rfl, by decide⟩
def NearC (P S : List Int) (i : Nat) (j : Int) : Prop := 0 ≤ j ∧ (P.getD i 0 = j ∨ S.getD i 0 = j)
instance (P S : List Int) (i : Nat) (j : Int) : Decidable (NearC P S i j) := by unfold NearC; infer_instance
end Go.Proofs.Ytakecbnclmjloaa
namespace Go.Proofs.Ytakecbnclmjloaa
set_option maxHeartbeats 20000000
set_option linter.unusedVariables false
set_option linter.unusedSimpArgs false
open Go.Pv
open Go.ChangeShapes Go.WideShapes Go.ChangeAt Go.RowKit
attribute [local irreducible] RunU WpA Step CallG CallNG Done DoneN
instance fnOk16 : FnOk Try.prog 16 := ⟨_, Try.func16, rfl, by decide⟩
instance fnOk22 : FnOk Try.prog 22 := ⟨_, Try.func22, rfl, by decide⟩
instance fnOk27 : FnOk Try.prog 27 := ⟨_, Try.func27, rfl, by decide⟩
end Go.Proofs.Ytakecbnclmjloaa
