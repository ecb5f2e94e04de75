/- Contracts of the functions on lists of lists of numbers: copying, comparing, marking, and the lists of codes. No condition. -/
import Derived.Test.YtmgmpnhlehonmaaGreatOTy
set_option linter.unusedVariables false
set_option linter.unusedSimpArgs false
namespace Go.Proofs.YtmgmpnhlehonmaaGreat
set_option maxHeartbeats 20000000
open Go.Pv
open Go.ChangeShapes Go.WideShapes Go.ChangeAt Go.RowKit
attribute [local irreducible] RunU WpA Step CallG CallNG Done DoneN
instance fnOk136 : FnOk Tryz.prog 136 := ⟨_, Tryz.func136, rfl, by decide⟩
instance fnOk80 : FnOk Tryz.prog 80 := ⟨_, Tryz.func80, rfl, by decide⟩
instance fnOk137 : FnOk Tryz.prog 137 := ⟨_, Tryz.func137, rfl, by decide⟩
instance fnOk187 : FnOk Tryz.prog 187 := ⟨_, Tryz.func187, rfl, by decide⟩
abbrev aI (x : Int) : Arg := .sh (.one (.lit (.int .i64 x)))
abbrev rI (x : Int) : V := .one (.lit (.int .i64 x))
abbrev rB (x : Bool) : V := .one (.lit (.bool x))
abbrev aL (l : List Int) : Arg := .sh (.one (.sl false 1 (ints l)))
abbrev rL (l : List Int) : V := .one (.sl true 1 (ints l))
theorem inRange_c (x lo hi : Int) : CallA Tryz.prog 136 [aI x, aI lo, aI hi] [rB (decide (lo ≤ x ∧ x ≤ hi))] [] := by
 refine cA_ _ Tryz.func136 rfl Tryz.ntmps136 sO_ ?_
 repeat' (first | (refine Two.mk ?_ ?_ <;> intro _) | refine goA ?_ | (guard_target =~ IsG; first | refine psA ?_ | refine gdA ?_) | refine nxA ?_ | refine Done.ret (.one rA_ .nil) (.sh (.sh (.sh .nil))) ?_ rfl)
 all_goals simp [*]
theorem l01In_c (x lo hi : Int) : CallA Tryz.prog 80 [aI x, aI lo, aI hi] [rB (decide (lo ≤ x ∧ x ≤ hi))] [] := by
 refine cA_ _ Tryz.func80 rfl Tryz.ntmps80 sO_ ?_
 repeat' (first | (refine Two.mk ?_ ?_ <;> intro _) | refine goA ?_ | (guard_target =~ IsG; first | refine psA ?_ | refine gdA ?_) | refine nxA ?_ | refine Done.ret (.one rA_ .nil) (.sh (.sh (.sh .nil))) ?_ rfl)
 all_goals simp [*]
theorem isNaN_c (x : Int) : CallA Tryz.prog 187 [aI x] [rB false] [] := by
 refine cA_ _ Tryz.func187 rfl Tryz.ntmps187 sO_ ?_
 repeat' (first | (refine Two.mk ?_ ?_ <;> intro _) | refine goA ?_ | refine nxA ?_ | refine Done.ret (.one rA_ .nil) (.sh .nil) ?_ rfl)
 simp
def Within (l : List Int) (lo hi : Int) : Prop := ∀ i, i < l.length → lo ≤ l.getD i 0 ∧ l.getD i 0 ≤ hi
instance decWithin (l : List Int) (lo hi : Int) : Decidable (Within l lo hi) := by unfold Within; infer_instance
theorem within_c (l : List Int) (lo hi : Int) (hl : l.length ≤ 9223372036854775807) : CallA Tryz.prog 137 [aL l, aI lo, aI hi] [rB (decide (Within l lo hi))] [] := by
 refine cA_ _ Tryz.func137 rfl Tryz.ntmps137 sO_ ?_
 repeat' (first | (refine Two.mk ?_ ?_ <;> intro _) | refine goA ?_ | refine nxA ?_ | refine Done.ret (.one rA_ .nil) (.sh (.sh (.sh .nil))) ?_ rfl)
 refine WpA.loop_slots (ι := Nat) (fun j => [(9, .c (.sl false 1 (ints l))), (10, .c (.lit (.int .i64 l.length))), (1, .c (.lit (.int .i64 lo))), (2, .c (.lit (.int .i64 hi))), (11, .c (.lit (.int .i64 (j : Int))))]) (fun j => j ≤ l.length ∧ ∀ i, i < j → lo ≤ l.getD i 0 ∧ l.getD i 0 ≤ hi) (fun j => l.length - j) 0 (by simp) ⟨(by first | exact rfl | exact int_eq (by first | omega | assumption) | exact bool_eq (by simp [*]) | exact own_ints (by first | assumption | (simp [*]; done)) | exact own_LL (by first | assumption | (simp [*]; done)) | exact c_ints (by simp [*])), (by first | exact rfl | exact int_eq (by first | omega | assumption) | exact bool_eq (by simp [*]) | exact own_ints (by first | assumption | (simp [*]; done)) | exact own_LL (by first | assumption | (simp [*]; done)) | exact c_ints (by simp [*])), (by first | exact rfl | exact int_eq (by first | omega | assumption) | exact bool_eq (by simp [*]) | exact own_ints (by first | assumption | (simp [*]; done)) | exact own_LL (by first | assumption | (simp [*]; done)) | exact c_ints (by simp [*])), (by first | exact rfl | exact int_eq (by first | omega | assumption) | exact bool_eq (by simp [*]) | exact own_ints (by first | assumption | (simp [*]; done)) | exact own_LL (by first | assumption | (simp [*]; done)) | exact c_ints (by simp [*])), (by first | exact rfl | exact int_eq (by first | omega | assumption) | exact bool_eq (by simp [*]) | exact own_ints (by first | assumption | (simp [*]; done)) | exact own_LL (by first | assumption | (simp [*]; done)) | exact c_ints (by simp [*])), trivial⟩ ?_
 intro j s nx hj
 repeat' (first | (refine Two.mk ?_ ?_ <;> intro _) | (guard_target =~ CallN_; first | refine RunU.cons (sC_ (inRange_c _ _ _) (.sh (.sh (.sh .nil))) (.sh wS_ (.sh wS_ (.sh wS_ .nil))) rfl) ?_) | refine goA ?_ | refine nxA ?_ | refine Done.ret (.one rA_ .nil) (.sh (.sh (.sh .nil))) ?_ rfl)
 case refine_1.refine_1 h3 h4 =>
  have : ¬ Within l lo hi := fun hw => h4 (by simpa using hw j (by omega))
  simp [this]
 case refine_1.refine_2 h3 h4 =>
  refine ⟨j + 1, ⟨by omega, fun i hi => ?_⟩, ⟨rfl, rfl, rfl, rfl, int_eq (by omega), trivial⟩, by omega⟩
  by_cases e : i = j
  ·subst e; simpa using h4
  ·exact hj.2 i (by omega)
 case refine_2 h3 =>
  have : Within l lo hi := fun i hi => hj.2 i (by omega)
  simp [this]
instance fnOk163 : FnOk Tryz.prog 163 := ⟨_, Tryz.func163, rfl, by decide⟩
abbrev aLL (L : List (List Int)) : Arg := .sh (.one (.sl false 1 (LLs L)))
abbrev rLL (L : List (List Int)) : V := .one (.sl true 1 (LL L))
theorem clone_c (l : List Int) (h : l.length ≤ 1099511627000) : CallA Tryz.prog 163 [aL l] [rL l] [] := by
 refine cA_ _ Tryz.func163 rfl Tryz.ntmps163 sO_ ?_
 repeat' (first | (refine Two.mk ?_ ?_ <;> intro _) | refine goA ?_ | refine nxA ?_ | refine Done.ret (.one rA_ .nil) (.sh .nil) ?_ rfl)
 refine RunU.eql_nil (by exact .sh rfl) rfl fun b hb => ?_
 repeat' (first | (refine Two.mk ?_ ?_ <;> intro _) | refine goA ?_ | refine nxA ?_ | refine Done.ret (.one rA_ .nil) (.sh .nil) ?_ rfl)
 all_goals first | simp; done | simp_all
theorem listL_ext : ∀ {a b : List (List Int)}, a.length = b.length → (∀ i, i < a.length → a.getD i [] = b.getD i []) → a = b
 | [], [], _, _ => rfl
 | [], _ :: _, h, _ => by simp at h
 | _ :: _, [], h, _ => by simp at h
 | x :: a, y :: b, h, e => by
  have h0 : x = y := by simpa using e 0 (by simp)
  rw [h0, listL_ext (a := a) (b := b) (by simpa using h) fun i hi => by simpa using e (i + 1) (by simpa using hi)]
end Go.Proofs.YtmgmpnhlehonmaaGreat
