/- Contracts of the functions on lists of numbers and on spectra, of the program, of its reference and of the laws. No condition. -/
import Derived.Test.YtneomlnhlpkbjaaGreatMTy
set_option linter.unusedVariables false
set_option linter.unusedSimpArgs false
namespace Go.Proofs.YtneomlnhlpkbjaaGreat
set_option maxHeartbeats 20000000
open Go.Pv
open Go.ChangeShapes Go.WideShapes Go.ChangeAt Go.RowKit
attribute [local irreducible] RunU WpA Step CallG CallNG Done DoneN
instance fnOk148 : FnOk Tryz.prog 148 := ⟨_, Tryz.func148, rfl, by decide⟩
instance fnOk119 : FnOk Tryz.prog 119 := ⟨_, Tryz.func119, rfl, by decide⟩
instance fnOk81 : FnOk Tryz.prog 81 := ⟨_, Tryz.func81, rfl, by decide⟩
instance fnOk191 : FnOk Tryz.prog 191 := ⟨_, Tryz.func191, rfl, by decide⟩
instance fnOk224 : FnOk Tryz.prog 224 := ⟨_, Tryz.func224, rfl, by decide⟩
abbrev aI (x : Int) : Arg := .sh (.one (.lit (.int .i64 x)))
abbrev rI (x : Int) : V := .one (.lit (.int .i64 x))
abbrev rB (x : Bool) : V := .one (.lit (.bool x))
abbrev aL (l : List Int) : Arg := .sh (.one (.sl false 1 (ints l)))
abbrev rL (l : List Int) : V := .one (.sl true 1 (ints l))
theorem inRange_c (x lo hi : Int) : CallA Tryz.prog 148 [aI x, aI lo, aI hi] [rB (decide (lo ≤ x ∧ x ≤ hi))] [] := by
  refine callA_of _ Tryz.func148 rfl Tryz.ntmps148 solid_any ?_
  repeat' (first | refine Two.mk (fun _ => ?_) (fun _ => ?_) | refine goA ?_ | (guard_target =~ IsG; first | refine psA ?_ | refine gdA ?_) | refine nxA ?_ | refine Done.ret (.one res_any .nil) (.sh (.sh (.sh .nil))) ?_ rfl)
  all_goals simp [*]
theorem l01In_c (x lo hi : Int) : CallA Tryz.prog 119 [aI x, aI lo, aI hi] [rB (decide (lo ≤ x ∧ x ≤ hi))] [] := by
  refine callA_of _ Tryz.func119 rfl Tryz.ntmps119 solid_any ?_
  repeat' (first | refine Two.mk (fun _ => ?_) (fun _ => ?_) | refine goA ?_ | (guard_target =~ IsG; first | refine psA ?_ | refine gdA ?_) | refine nxA ?_ | refine Done.ret (.one res_any .nil) (.sh (.sh (.sh .nil))) ?_ rfl)
  all_goals simp [*]
theorem isNaN_c (x : Int) : CallA Tryz.prog 191 [aI x] [rB false] [] := by
  refine callA_of _ Tryz.func191 rfl Tryz.ntmps191 solid_any ?_
  repeat' (first | refine Two.mk (fun _ => ?_) (fun _ => ?_) | refine goA ?_ | refine nxA ?_ | refine Done.ret (.one res_any .nil) (.sh .nil) ?_ rfl)
  simp
def Asc (l : List Int) : Prop := ∀ i, i < l.length → 0 < i → l.getD (i - 1) 0 ≤ l.getD i 0
instance (l : List Int) : Decidable (Asc l) := by unfold Asc; infer_instance
def Within (l : List Int) (lo hi : Int) : Prop := ∀ i, i < l.length → lo ≤ l.getD i 0 ∧ l.getD i 0 ≤ hi
instance decWithin (l : List Int) (lo hi : Int) : Decidable (Within l lo hi) := by unfold Within; infer_instance
theorem within_c (l : List Int) (lo hi : Int) (hl : l.length ≤ 9223372036854775807) : CallA Tryz.prog 81 [aL l, aI lo, aI hi] [rB (decide (Within l lo hi))] [] := by
  refine callA_of _ Tryz.func81 rfl Tryz.ntmps81 solid_any ?_
  repeat' (first | refine Two.mk (fun _ => ?_) (fun _ => ?_) | refine goA ?_ | refine nxA ?_ | refine Done.ret (.one res_any .nil) (.sh (.sh (.sh .nil))) ?_ rfl)
  refine WpA.loop_slots (ι := Nat) (fun j => [(9, .c (.sl false 1 (ints l))), (10, .c (.lit (.int .i64 l.length))), (1, .c (.lit (.int .i64 lo))), (2, .c (.lit (.int .i64 hi))), (11, .c (.lit (.int .i64 (j : Int))))]) (fun j => j ≤ l.length ∧ ∀ i, i < j → lo ≤ l.getD i 0 ∧ l.getD i 0 ≤ hi) (fun j => l.length - j) 0 (by simp) ⟨(by first | exact rfl | exact int_eq (by first | omega | assumption) | exact bool_eq (by simp [*]) | exact own_ints (by first | assumption | (simp [*]; done)) | exact own_LL (by first | assumption | (simp [*]; done)) | exact c_ints (by simp [*])), (by first | exact rfl | exact int_eq (by first | omega | assumption) | exact bool_eq (by simp [*]) | exact own_ints (by first | assumption | (simp [*]; done)) | exact own_LL (by first | assumption | (simp [*]; done)) | exact c_ints (by simp [*])), (by first | exact rfl | exact int_eq (by first | omega | assumption) | exact bool_eq (by simp [*]) | exact own_ints (by first | assumption | (simp [*]; done)) | exact own_LL (by first | assumption | (simp [*]; done)) | exact c_ints (by simp [*])), (by first | exact rfl | exact int_eq (by first | omega | assumption) | exact bool_eq (by simp [*]) | exact own_ints (by first | assumption | (simp [*]; done)) | exact own_LL (by first | assumption | (simp [*]; done)) | exact c_ints (by simp [*])), (by first | exact rfl | exact int_eq (by first | omega | assumption) | exact bool_eq (by simp [*]) | exact own_ints (by first | assumption | (simp [*]; done)) | exact own_LL (by first | assumption | (simp [*]; done)) | exact c_ints (by simp [*])), trivial⟩ ?_
  intro j s nx hj
  repeat' (first | refine Two.mk (fun _ => ?_) (fun _ => ?_) | (guard_target =~ CallN_; first | refine RunU.cons (step_call (inRange_c _ _ _) (.sh (.sh (.sh .nil))) (.sh shows_any (.sh shows_any (.sh shows_any .nil))) rfl) ?_) | refine goA ?_ | refine nxA ?_ | refine Done.ret (.one res_any .nil) (.sh (.sh (.sh .nil))) ?_ rfl)
  case refine_1.refine_1 h3 h4 =>
    have : ¬ Within l lo hi := fun hw => h4 (by simpa using hw j (by omega))
    simp [this]
  case refine_1.refine_2 h3 h4 =>
    refine ⟨j + 1, ⟨by omega, fun i hi => ?_⟩, ⟨rfl, rfl, rfl, rfl, int_eq (by omega), trivial⟩, by omega⟩
    by_cases e : i = j
    · subst e; simpa using h4
    · exact hj.2 i (by omega)
  case refine_2 h3 =>
    have : Within l lo hi := fun i hi => hj.2 i (by omega)
    simp [this]
def IsSp (b : Int) (l : List Int) : Prop := (1 ≤ b ∧ b ≤ 1000000) ∧ l.length ≤ 400 ∧ Within l 1 (2 * b - 1) ∧ Asc l
instance (b : Int) (l : List Int) : Decidable (IsSp b l) := by unfold IsSp; infer_instance
end Go.Proofs.YtneomlnhlpkbjaaGreat
