/- Polynomials: what the program and the reference take for one. No condition. -/
import Derived.Test.YtinenidbgmddhaaGreatVGrA
import Derived.Test.YtinenidbgmddhaaGreatVPwF
import Derived.Test.YtinenidbgmddhaaGreatVBrA
import Derived.Test.YtinenidbgmddhaaGreatVSpA
set_option linter.unusedVariables false
set_option linter.unusedSimpArgs false
namespace Go.Proofs.YtinenidbgmddhaaGreat
set_option maxHeartbeats 20000000
open Go.Pv
open Go.ChangeShapes Go.WideShapes Go.ChangeAt Go.RowKit
attribute [local irreducible] RunU WpA Step CallG CallNG Done DoneN
instance fnOk35 : FnOk Tryz.prog 35 := ⟨_, Tryz.func35, rfl, by decide⟩
instance fnOk42 : FnOk Tryz.prog 42 := ⟨_, Tryz.func42, rfl, by decide⟩
theorem ext_L {A B : List (List Int)} (h : A.length = B.length) (hk : ∀ k, k < A.length → A.getD k [] = B.getD k []) : A = B := by
  refine List.ext_getElem h fun k h1 h2 => ?_
  have := hk k h1
  simpa [List.getD, h1, h2] using this
theorem eqSS2_c (A B : List (List Int)) (hA : A.length ≤ 2147483648) (hB : B.length ≤ 2147483648) (ha : ∀ i, (A.getD i []).length ≤ 2147483648) (hb : ∀ i, (B.getD i []).length ≤ 2147483648) : CallA Tryz.prog 51 [aLL A, aLL B] [rB (decide (A = B))] [] := by
  refine callA_of _ Tryz.func51 rfl Tryz.ntmps51 solid_any ?_
  repeat' (first | refine Two.mk (fun _ => ?_) (fun _ => ?_) | refine goA ?_ | refine nxA ?_ | refine Done.ret (.one res_any .nil) (.sh (.sh .nil)) ?_ rfl)
  case refine_1 h => simp; intro e; subst e; exact h rfl
  case refine_2 h =>
    have hab : A.length = B.length := by omega
    refine WpA.loop_slots (ι := Nat) (fun j => [(0, .c (.sl false 1 (LLs A))), (1, .c (.sl false 1 (LLs B))), (5, .c (.lit (.int .i64 (j : Int))))]) (fun j => j ≤ A.length ∧ ∀ i, i < j → A.getD i [] = B.getD i []) (fun j => A.length - j) 0 (by simp) ⟨rfl, rfl, rfl, trivial⟩ ?_
    intro j s nx hj
    have h1 := ha (j * 1)
    have h2 := hb (j * 1)
    repeat' (first | refine Two.mk (fun _ => ?_) (fun _ => ?_) | (guard_target =~ CallN_; first | refine RunU.cons (step_call (eqInt64S_c (A.getD (j * 1) []) (B.getD (j * 1) []) (by omega) (by omega)) (.sh (.sh .nil)) (.sh shows_any (.sh shows_any .nil)) rfl) ?_) | refine goA ?_ | refine nxA ?_ | refine Done.ret (.one res_any .nil) (.sh (.sh .nil)) ?_ rfl)
    case refine_1.refine_1 h3 h4 =>
      simp
      intro e; subst e; exact h4 rfl
    case refine_1.refine_2 h3 h4 =>
      refine ⟨j + 1, ⟨by omega, fun i hi => ?_⟩, ⟨rfl, rfl, int_eq (by omega), trivial⟩, by omega⟩
      by_cases e : i = j
      · subst e; simpa using h4
      · exact hj.2 i (by omega)
    case refine_2 h3 =>
      have : A = B := ext_L hab fun i hi => hj.2 i (by omega)
      simp [this]
end Go.Proofs.YtinenidbgmddhaaGreat
namespace Go.Proofs.YtinenidbgmddhaaGreat
set_option maxHeartbeats 20000000
open Go.Pv
open Go.ChangeShapes Go.WideShapes Go.ChangeAt Go.RowKit
attribute [local irreducible] RunU WpA Step CallG CallNG Done DoneN
def BefT (a b : List Int) : Prop := a.getD 0 0 + a.getD 1 0 < b.getD 0 0 + b.getD 1 0 ∨ (a.getD 0 0 + a.getD 1 0 = b.getD 0 0 + b.getD 1 0 ∧ a.getD 0 0 < b.getD 0 0)
instance decBefT (a b : List Int) : Decidable (BefT a b) := by unfold BefT; infer_instance
def TermT (t : List Int) : Prop := t.length = 3 ∧ (0 ≤ t.getD 0 0 ∧ t.getD 0 0 ≤ 60) ∧ (0 ≤ t.getD 1 0 ∧ t.getD 1 0 ≤ 60) ∧ (1 ≤ t.getD 2 0 ∧ t.getD 2 0 ≤ 55440)
instance decTermT (t : List Int) : Decidable (TermT t) := by unfold TermT; infer_instance
def PoTo (L : List (List Int)) (j : Nat) : Prop := ∀ k, k < j → TermT (L.getD k []) ∧ (0 < k → BefT (L.getD (k - 1) []) (L.getD k []))
instance decPoTo (L : List (List Int)) (j : Nat) : Decidable (PoTo L j) := by unfold PoTo; infer_instance
def IsPol (L : List (List Int)) : Prop := L.length ≤ 200 ∧ PoTo L L.length
instance decIsPol (L : List (List Int)) : Decidable (IsPol L) := by unfold IsPol; infer_instance
end Go.Proofs.YtinenidbgmddhaaGreat
namespace Go.Proofs.YtinenidbgmddhaaGreat
set_option maxHeartbeats 20000000
open Go.Pv
open Go.ChangeShapes Go.WideShapes Go.ChangeAt Go.RowKit
attribute [local irreducible] RunU WpA Step CallG CallNG Done DoneN
attribute [local irreducible] decWithin Within
end Go.Proofs.YtinenidbgmddhaaGreat
