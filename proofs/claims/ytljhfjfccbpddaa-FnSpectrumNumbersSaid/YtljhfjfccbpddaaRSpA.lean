/- Contracts of the functions on lists of numbers and on spectra, of the program, of its reference and of the laws. No condition. -/
import Derived.Test.YtljhfjfccbpddaaRTy
namespace Go.Proofs.Ytljhfjfccbpddaa
set_option maxHeartbeats 20000000
set_option linter.unusedVariables false
set_option linter.unusedSimpArgs false
open Go.Pv
open Go.ChangeShapes Go.WideShapes Go.ChangeAt Go.RowKit
attribute [local irreducible] RunU WpA Step CallG CallNG Done DoneN
instance fnOk32 : FnOk Try.prog 32 := ⟨_, Try.func32, rfl, by decide⟩
instance fnOk35 : FnOk Try.prog 35 := ⟨_, Try.func35, rfl, by decide⟩
instance fnOk38 : FnOk Try.prog 38 := ⟨_, Try.func38, rfl, by decide⟩
instance fnOk5 : FnOk Try.prog 5 := ⟨_, Try.func5, rfl, by decide⟩
instance fnOk7 : FnOk Try.prog 7 := ⟨_, Try.func7, rfl, by decide⟩
instance fnOk10 : FnOk Try.prog 10 := ⟨_, Try.func10, rfl, by decide⟩
instance fnOk45 : FnOk Try.prog 45 := ⟨_, Try.func45, rfl, by decide⟩
instance fnOk57 : FnOk Try.prog 57 := ⟨_, Try.func57, rfl, by decide⟩
instance fnOk46 : FnOk Try.prog 46 := ⟨_, Try.func46, rfl, by decide⟩
instance fnOk70 : FnOk Try.prog 70 := ⟨_, Try.func70, rfl, by decide⟩
instance fnOk64 : FnOk Try.prog 64 := ⟨_, Try.func64, rfl, by decide⟩
instance fnOk47 : FnOk Try.prog 47 := ⟨_, Try.func47, rfl, by decide⟩
instance fnOk33 : FnOk Try.prog 33 := ⟨_, Try.func33, rfl, by decide⟩
instance fnOk20 : FnOk Try.prog 20 := ⟨_, Try.func20, rfl, by decide⟩
instance fnOk19 : FnOk Try.prog 19 := ⟨_, Try.func19, rfl, by decide⟩
abbrev aI (x : Int) : Arg := .sh (.one (.lit (.int .i64 x)))
abbrev rI (x : Int) : V := .one (.lit (.int .i64 x))
abbrev rB (x : Bool) : V := .one (.lit (.bool x))
abbrev aL (l : List Int) : Arg := .sh (.one (.sl false 1 (ints l)))
abbrev rL (l : List Int) : V := .one (.sl true 1 (ints l))
abbrev aSp (b : Int) (l : List Int) : Arg := .sh (.agg [.lit (.int .i64 b), .sl false 1 (ints l)])
abbrev rSp (b : Int) (l : List Int) : V := .agg [.lit (.int .i64 b), .sl true 1 (ints l)]
theorem inRange_c (x lo hi : Int) : CallA Try.prog 45 [aI x, aI lo, aI hi] [rB (decide (lo ≤ x ∧ x ≤ hi))] [] := by
  refine callA_of _ Try.func45 rfl Try.ntmps45 (by first | exact ⟨rfl, rfl⟩ | (simp only [List.all_cons, List.all_nil, V.solid, D.solid, D.solids, solids_ints, solids_bools, solids_LL, Bool.and_self, Bool.and_true, and_self]; done) | simp [V.solid, D.solid, D.solids, solids_lits, solids_ints, solids_bools, solids_LL]) ?_
  repeat' (first | (guard_target =~ WpA _ _ _ _ _ _; first | refine WpA.seq ?_ | refine WpA.drawU ?_ | refine WpA.regionU ?_ | refine WpA.block ?_ | refine WpA.ret ?_ | refine WpA.skip ?_ | refine WpA.exit ?_ | refine WpA.cond_true rfl ?_ | refine WpA.cond_false rfl ?_ | refine WpA.cond_ntrue rfl ?_ | refine WpA.cond_dec rfl (fun _ => ?_) (fun _ => ?_) | refine WpA.cond_not rfl (fun _ => ?_) (fun _ => ?_) | refine WpA.cond rfl (fun _ => ?_) (fun _ => ?_)) | (guard_target =~ RunU _ _ _ _ [] _ _ _ _; first | refine RunU.nilL ?_ | refine RunU.nilD (by kernel_rfl) ?_) | (guard_target =~ RunU _ _ _ _ (Oper.mk _ _ _ _ _ none :: _) _ _ _ _; refine RunU.cons step_any ?_) | (guard_target =~ RunU _ _ _ _ (Oper.mk _ _ _ _ _ (some _) :: _) _ _ _ _; first | refine RunU.pass rfl rfl rfl rfl ?_ | refine RunU.pass_undef rfl rfl rfl ?_ | refine RunU.doit rfl rfl step_any ?_ | ((fail_if_success (refine RunU.doit (rd := []) (up := []) rfl rfl ?_ ?_)); first | refine RunU.guard_dec rfl rfl (fun _ => ?_) (fun _ => ?_) | refine RunU.guard_not rfl rfl (fun _ => ?_) (fun _ => ?_) | refine RunU.guard rfl rfl (fun _ => ?_) (fun _ => ?_))) | refine Then.next ?_ | refine InBlock.next ?_ | refine Done.ret (.one (by first | exact .c rfl | exact .own rfl | exact .als rfl rfl | exact .ptr rfl rfl | exact .part rfl rfl rfl) .nil) (.sh (.sh (.sh .nil))) ?_ rfl)
  all_goals simp [*]
theorem l01In_c (x lo hi : Int) : CallA Try.prog 57 [aI x, aI lo, aI hi] [rB (decide (lo ≤ x ∧ x ≤ hi))] [] := by
  refine callA_of _ Try.func57 rfl Try.ntmps57 (by first | exact ⟨rfl, rfl⟩ | (simp only [List.all_cons, List.all_nil, V.solid, D.solid, D.solids, solids_ints, solids_bools, solids_LL, Bool.and_self, Bool.and_true, and_self]; done) | simp [V.solid, D.solid, D.solids, solids_lits, solids_ints, solids_bools, solids_LL]) ?_
  repeat' (first | (guard_target =~ WpA _ _ _ _ _ _; first | refine WpA.seq ?_ | refine WpA.drawU ?_ | refine WpA.regionU ?_ | refine WpA.block ?_ | refine WpA.ret ?_ | refine WpA.skip ?_ | refine WpA.exit ?_ | refine WpA.cond_true rfl ?_ | refine WpA.cond_false rfl ?_ | refine WpA.cond_ntrue rfl ?_ | refine WpA.cond_dec rfl (fun _ => ?_) (fun _ => ?_) | refine WpA.cond_not rfl (fun _ => ?_) (fun _ => ?_) | refine WpA.cond rfl (fun _ => ?_) (fun _ => ?_)) | (guard_target =~ RunU _ _ _ _ [] _ _ _ _; first | refine RunU.nilL ?_ | refine RunU.nilD (by kernel_rfl) ?_) | (guard_target =~ RunU _ _ _ _ (Oper.mk _ _ _ _ _ none :: _) _ _ _ _; refine RunU.cons step_any ?_) | (guard_target =~ RunU _ _ _ _ (Oper.mk _ _ _ _ _ (some _) :: _) _ _ _ _; first | refine RunU.pass rfl rfl rfl rfl ?_ | refine RunU.pass_undef rfl rfl rfl ?_ | refine RunU.doit rfl rfl step_any ?_ | ((fail_if_success (refine RunU.doit (rd := []) (up := []) rfl rfl ?_ ?_)); first | refine RunU.guard_dec rfl rfl (fun _ => ?_) (fun _ => ?_) | refine RunU.guard_not rfl rfl (fun _ => ?_) (fun _ => ?_) | refine RunU.guard rfl rfl (fun _ => ?_) (fun _ => ?_))) | refine Then.next ?_ | refine InBlock.next ?_ | refine Done.ret (.one (by first | exact .c rfl | exact .own rfl | exact .als rfl rfl | exact .ptr rfl rfl | exact .part rfl rfl rfl) .nil) (.sh (.sh (.sh .nil))) ?_ rfl)
  all_goals simp [*]
theorem isNaN_c (x : Int) : CallA Try.prog 70 [aI x] [rB false] [] := by
  refine callA_of _ Try.func70 rfl Try.ntmps70 (by first | exact ⟨rfl, rfl⟩ | (simp only [List.all_cons, List.all_nil, V.solid, D.solid, D.solids, solids_ints, solids_bools, solids_LL, Bool.and_self, Bool.and_true, and_self]; done) | simp [V.solid, D.solid, D.solids, solids_lits, solids_ints, solids_bools, solids_LL]) ?_
  repeat' (first | (guard_target =~ WpA _ _ _ _ _ _; first | refine WpA.seq ?_ | refine WpA.drawU ?_ | refine WpA.regionU ?_ | refine WpA.block ?_ | refine WpA.ret ?_ | refine WpA.skip ?_ | refine WpA.exit ?_ | refine WpA.cond_true rfl ?_ | refine WpA.cond_false rfl ?_ | refine WpA.cond_ntrue rfl ?_ | refine WpA.cond_dec rfl (fun _ => ?_) (fun _ => ?_) | refine WpA.cond_not rfl (fun _ => ?_) (fun _ => ?_) | refine WpA.cond rfl (fun _ => ?_) (fun _ => ?_)) | (guard_target =~ RunU _ _ _ _ [] _ _ _ _; first | refine RunU.nilL ?_ | refine RunU.nilD (by kernel_rfl) ?_) | (guard_target =~ RunU _ _ _ _ (Oper.mk _ _ _ _ _ none :: _) _ _ _ _; refine RunU.cons step_any ?_) | refine Then.next ?_ | refine InBlock.next ?_ | refine Done.ret (.one (by first | exact .c rfl | exact .own rfl | exact .als rfl rfl | exact .ptr rfl rfl | exact .part rfl rfl rfl) .nil) (.sh .nil) ?_ rfl)
  simp
theorem less_c (x y : Int) : CallA Try.prog 64 [aI x, aI y] [rB (decide (x < y))] [] := by
  refine callA_of _ Try.func64 rfl Try.ntmps64 (by first | exact ⟨rfl, rfl⟩ | (simp only [List.all_cons, List.all_nil, V.solid, D.solid, D.solids, solids_ints, solids_bools, solids_LL, Bool.and_self, Bool.and_true, and_self]; done) | simp [V.solid, D.solid, D.solids, solids_lits, solids_ints, solids_bools, solids_LL]) ?_
  repeat' (first | (guard_target =~ WpA _ _ _ _ _ _; first | refine WpA.seq ?_ | refine WpA.drawU ?_ | refine WpA.regionU ?_ | refine WpA.block ?_ | refine WpA.ret ?_ | refine WpA.skip ?_ | refine WpA.exit ?_ | refine WpA.cond_true rfl ?_ | refine WpA.cond_false rfl ?_ | refine WpA.cond_ntrue rfl ?_ | refine WpA.cond_dec rfl (fun _ => ?_) (fun _ => ?_) | refine WpA.cond_not rfl (fun _ => ?_) (fun _ => ?_) | refine WpA.cond rfl (fun _ => ?_) (fun _ => ?_)) | (guard_target =~ RunU _ _ _ _ [] _ _ _ _; first | refine RunU.nilL ?_ | refine RunU.nilD (by kernel_rfl) ?_) | (guard_target =~ RunU _ _ _ _ (Oper.mk _ (Op.call ⟨Callee.value _, _, _⟩) _ _ _ none :: _) _ _ _ _; first | refine RunU.cons (step_call (isNaN_c _) (.sh .nil) (.sh shows_any .nil) rfl) ?_) | (guard_target =~ RunU _ _ _ _ (Oper.mk _ _ _ _ _ none :: _) _ _ _ _; refine RunU.cons step_any ?_) | (guard_target =~ RunU _ _ _ _ (Oper.mk _ _ _ _ _ (some _) :: _) _ _ _ _; first | refine RunU.pass rfl rfl rfl rfl ?_ | refine RunU.pass_undef rfl rfl rfl ?_ | (guard_target =~ RunU _ _ _ _ (Oper.mk _ (Op.call ⟨Callee.value _, _, _⟩) _ _ _ _ :: _) _ _ _ _; first | refine RunU.doit rfl rfl (step_call (isNaN_c _) (.sh .nil) (.sh shows_any .nil) rfl) ?_) | refine RunU.doit rfl rfl step_any ?_ | ((fail_if_success (refine RunU.doit (rd := []) (up := []) rfl rfl ?_ ?_)); first | refine RunU.guard_dec rfl rfl (fun _ => ?_) (fun _ => ?_) | refine RunU.guard_not rfl rfl (fun _ => ?_) (fun _ => ?_) | refine RunU.guard rfl rfl (fun _ => ?_) (fun _ => ?_))) | refine Then.next ?_ | refine InBlock.next ?_ | refine Done.ret (.one (by first | exact .c rfl | exact .own rfl | exact .als rfl rfl | exact .ptr rfl rfl | exact .part rfl rfl rfl) .nil) (.sh (.sh .nil)) ?_ rfl)
  all_goals simp_all
def Asc (l : List Int) : Prop := ∀ i, i < l.length → 0 < i → l.getD (i - 1) 0 ≤ l.getD i 0
instance (l : List Int) : Decidable (Asc l) := by unfold Asc; infer_instance
def Within (l : List Int) (lo hi : Int) : Prop := ∀ i, i < l.length → lo ≤ l.getD i 0 ∧ l.getD i 0 ≤ hi
instance decWithin (l : List Int) (lo hi : Int) : Decidable (Within l lo hi) := by unfold Within; infer_instance
theorem within_c (l : List Int) (lo hi : Int) (hl : l.length ≤ 9223372036854775807) : CallA Try.prog 46 [aL l, aI lo, aI hi] [rB (decide (Within l lo hi))] [] := by
  refine callA_of _ Try.func46 rfl Try.ntmps46 (by first | exact ⟨rfl, rfl⟩ | (simp only [List.all_cons, List.all_nil, V.solid, D.solid, D.solids, solids_ints, solids_bools, solids_LL, Bool.and_self, Bool.and_true, and_self]; done) | simp [V.solid, D.solid, D.solids, solids_lits, solids_ints, solids_bools, solids_LL]) ?_
  repeat' (first | (guard_target =~ WpA _ _ _ _ _ _; first | refine WpA.seq ?_ | refine WpA.drawU ?_ | refine WpA.regionU ?_ | refine WpA.block ?_ | refine WpA.ret ?_ | refine WpA.skip ?_ | refine WpA.exit ?_ | refine WpA.cond_true rfl ?_ | refine WpA.cond_false rfl ?_ | refine WpA.cond_ntrue rfl ?_ | refine WpA.cond_dec rfl (fun _ => ?_) (fun _ => ?_) | refine WpA.cond_not rfl (fun _ => ?_) (fun _ => ?_) | refine WpA.cond rfl (fun _ => ?_) (fun _ => ?_)) | (guard_target =~ RunU _ _ _ _ [] _ _ _ _; first | refine RunU.nilL ?_ | refine RunU.nilD (by kernel_rfl) ?_) | (guard_target =~ RunU _ _ _ _ (Oper.mk _ _ _ _ _ none :: _) _ _ _ _; refine RunU.cons step_any ?_) | refine Then.next ?_ | refine InBlock.next ?_ | refine Done.ret (.one (by first | exact .c rfl | exact .own rfl | exact .als rfl rfl | exact .ptr rfl rfl | exact .part rfl rfl rfl) .nil) (.sh (.sh (.sh .nil))) ?_ rfl)
  refine WpA.loop_slots (ι := Nat) (fun j => [(9, .c (.sl false 1 (ints l))), (10, .c (.lit (.int .i64 l.length))), (1, .c (.lit (.int .i64 lo))), (2, .c (.lit (.int .i64 hi))), (11, .c (.lit (.int .i64 (j : Int))))]) (fun j => j ≤ l.length ∧ ∀ i, i < j → lo ≤ l.getD i 0 ∧ l.getD i 0 ≤ hi) (fun j => l.length - j) 0 (by simp) ⟨(by first | exact rfl | exact int_eq (by first | omega | assumption) | exact bool_eq (by simp [*]) | exact own_ints (by first | assumption | (simp [*]; done)) | exact own_LL (by first | assumption | (simp [*]; done)) | exact c_ints (by simp [*])), (by first | exact rfl | exact int_eq (by first | omega | assumption) | exact bool_eq (by simp [*]) | exact own_ints (by first | assumption | (simp [*]; done)) | exact own_LL (by first | assumption | (simp [*]; done)) | exact c_ints (by simp [*])), (by first | exact rfl | exact int_eq (by first | omega | assumption) | exact bool_eq (by simp [*]) | exact own_ints (by first | assumption | (simp [*]; done)) | exact own_LL (by first | assumption | (simp [*]; done)) | exact c_ints (by simp [*])), (by first | exact rfl | exact int_eq (by first | omega | assumption) | exact bool_eq (by simp [*]) | exact own_ints (by first | assumption | (simp [*]; done)) | exact own_LL (by first | assumption | (simp [*]; done)) | exact c_ints (by simp [*])), (by first | exact rfl | exact int_eq (by first | omega | assumption) | exact bool_eq (by simp [*]) | exact own_ints (by first | assumption | (simp [*]; done)) | exact own_LL (by first | assumption | (simp [*]; done)) | exact c_ints (by simp [*])), trivial⟩ ?_
  intro j s nx hj
  repeat' (first | (guard_target =~ WpA _ _ _ _ _ _; first | refine WpA.seq ?_ | refine WpA.drawU ?_ | refine WpA.regionU ?_ | refine WpA.block ?_ | refine WpA.ret ?_ | refine WpA.skip ?_ | refine WpA.exit ?_ | refine WpA.cond_true rfl ?_ | refine WpA.cond_false rfl ?_ | refine WpA.cond_ntrue rfl ?_ | refine WpA.cond_dec rfl (fun _ => ?_) (fun _ => ?_) | refine WpA.cond_not rfl (fun _ => ?_) (fun _ => ?_) | refine WpA.cond rfl (fun _ => ?_) (fun _ => ?_)) | (guard_target =~ RunU _ _ _ _ [] _ _ _ _; first | refine RunU.nilL ?_ | refine RunU.nilD (by kernel_rfl) ?_) | (guard_target =~ RunU _ _ _ _ (Oper.mk _ (Op.call ⟨Callee.value _, _, _⟩) _ _ _ none :: _) _ _ _ _; first | refine RunU.cons (step_call (inRange_c _ _ _) (.sh (.sh (.sh .nil))) (.sh shows_any (.sh shows_any (.sh shows_any .nil))) rfl) ?_) | (guard_target =~ RunU _ _ _ _ (Oper.mk _ _ _ _ _ none :: _) _ _ _ _; refine RunU.cons step_any ?_) | refine Then.next ?_ | refine InBlock.next ?_ | refine Done.ret (.one (by first | exact .c rfl | exact .own rfl | exact .als rfl rfl | exact .ptr rfl rfl | exact .part rfl rfl rfl) .nil) (.sh (.sh (.sh .nil))) ?_ rfl)
  case refine_1.refine_1 h3 h4 =>
    have : ¬ Within l lo hi := fun hw => h4 (by simpa using hw j (by omega))
    simp [this]
  case refine_1.refine_2 h3 h4 =>
    refine ⟨j + 1, ⟨by omega, fun i hi => ?_⟩, ⟨rfl, rfl, rfl, rfl, int_eq (by omega), trivial⟩, by omega⟩
    by_cases e : i = j
    · subst e; simpa using h4
    · exact hj.2 i (by omega)
  case refine_2 h3 =>
    have : Within l lo hi := fun i hi => hj.2 i (by omega)
    simp [this]
theorem isSorted_c (l : List Int) (hl : l.length ≤ 9223372036854775807) : CallA Try.prog 47 [aL l] [rB (decide (Asc l))] [] := by
  refine callA_of _ Try.func47 rfl Try.ntmps47 (by first | exact ⟨rfl, rfl⟩ | (simp only [List.all_cons, List.all_nil, V.solid, D.solid, D.solids, solids_ints, solids_bools, solids_LL, Bool.and_self, Bool.and_true, and_self]; done) | simp [V.solid, D.solid, D.solids, solids_lits, solids_ints, solids_bools, solids_LL]) ?_
  repeat' (first | (guard_target =~ WpA _ _ _ _ _ _; first | refine WpA.seq ?_ | refine WpA.drawU ?_ | refine WpA.regionU ?_ | refine WpA.block ?_ | refine WpA.ret ?_ | refine WpA.skip ?_ | refine WpA.exit ?_ | refine WpA.cond_true rfl ?_ | refine WpA.cond_false rfl ?_ | refine WpA.cond_ntrue rfl ?_ | refine WpA.cond_dec rfl (fun _ => ?_) (fun _ => ?_) | refine WpA.cond_not rfl (fun _ => ?_) (fun _ => ?_) | refine WpA.cond rfl (fun _ => ?_) (fun _ => ?_)) | (guard_target =~ RunU _ _ _ _ [] _ _ _ _; first | refine RunU.nilL ?_ | refine RunU.nilD (by kernel_rfl) ?_) | (guard_target =~ RunU _ _ _ _ (Oper.mk _ _ _ _ _ none :: _) _ _ _ _; refine RunU.cons step_any ?_) | refine Then.next ?_ | refine InBlock.next ?_ | refine Done.ret (.one (by first | exact .c rfl | exact .own rfl | exact .als rfl rfl | exact .ptr rfl rfl | exact .part rfl rfl rfl) .nil) (.sh .nil) ?_ rfl)
  refine WpA.loop_slots (ι := Int) (fun j => [(0, .c (.sl false 1 (ints l))), (3, .c (.lit (.int .i64 j)))]) (fun j => -1 ≤ j ∧ j < l.length ∧ ∀ i, i < l.length → j < i → 0 < i → l.getD (i - 1) 0 ≤ l.getD i 0) (fun j => (j + 1).toNat) (l.length - 1) ⟨by omega, by omega, fun i h1 h2 => by omega⟩ ⟨rfl, rfl, trivial⟩ ?_
  intro j s nx hj
  repeat' (first | (guard_target =~ WpA _ _ _ _ _ _; first | refine WpA.seq ?_ | refine WpA.drawU ?_ | refine WpA.regionU ?_ | refine WpA.block ?_ | refine WpA.ret ?_ | refine WpA.skip ?_ | refine WpA.exit ?_ | refine WpA.cond_true rfl ?_ | refine WpA.cond_false rfl ?_ | refine WpA.cond_ntrue rfl ?_ | refine WpA.cond_dec rfl (fun _ => ?_) (fun _ => ?_) | refine WpA.cond_not rfl (fun _ => ?_) (fun _ => ?_) | refine WpA.cond rfl (fun _ => ?_) (fun _ => ?_)) | (guard_target =~ RunU _ _ _ _ [] _ _ _ _; first | refine RunU.nilL ?_ | refine RunU.nilD (by kernel_rfl) ?_) | (guard_target =~ RunU _ _ _ _ (Oper.mk _ (Op.call ⟨Callee.value _, _, _⟩) _ _ _ none :: _) _ _ _ _; first | refine RunU.cons (step_call (less_c _ _) (.sh (.sh .nil)) (.sh shows_any (.sh shows_any .nil)) rfl) ?_) | (guard_target =~ RunU _ _ _ _ (Oper.mk _ _ _ _ _ none :: _) _ _ _ _; refine RunU.cons step_any ?_) | refine Then.next ?_ | refine InBlock.next ?_ | refine Done.ret (.one (by first | exact .c rfl | exact .own rfl | exact .als rfl rfl | exact .ptr rfl rfl | exact .part rfl rfl rfl) .nil) (.sh .nil) ?_ rfl)
  case refine_1.refine_1 h3 h4 =>
    have : ¬ Asc l := fun hw => by
      have := hw j.toNat (by omega) (by omega)
      rw [show (j - 1).toNat = j.toNat - 1 by omega] at h4
      simp at h4 this
      omega
    simp [this]
  case refine_1.refine_2 h3 h4 =>
    refine ⟨j - 1, ⟨by omega, by omega, fun i h5 h6 h7 => ?_⟩, ⟨rfl, rfl, trivial⟩, by omega⟩
    by_cases e : (i : Int) = j
    · rw [show (j - 1).toNat = j.toNat - 1 by omega, show j.toNat = i by omega] at h4
      simpa using h4
    · exact hj.2.2 i h5 (by omega) h7
  case refine_2 h3 =>
    have : Asc l := fun i h1 h2 => hj.2.2 i h1 (by omega) h2
    simp [this]
def IsSp (b : Int) (l : List Int) : Prop := (1 ≤ b ∧ b ≤ 1000000) ∧ l.length ≤ 400 ∧ Within l 1 (2 * b - 1) ∧ Asc l
instance (b : Int) (l : List Int) : Decidable (IsSp b l) := by unfold IsSp; infer_instance
theorem implIsSp_c (b : Int) (l : List Int) (hl : l.length ≤ 9223372036854775807) : CallA Try.prog 19 [aSp b l] [rB (decide (IsSp b l))] [] := by
  refine callA_of _ Try.func19 rfl Try.ntmps19 (by first | exact ⟨rfl, rfl⟩ | (simp only [List.all_cons, List.all_nil, V.solid, D.solid, D.solids, solids_ints, solids_bools, solids_LL, Bool.and_self, Bool.and_true, and_self]; done) | simp [V.solid, D.solid, D.solids, solids_lits, solids_ints, solids_bools, solids_LL]) ?_
  repeat' (first | (guard_target =~ WpA _ _ _ _ _ _; first | refine WpA.seq ?_ | refine WpA.drawU ?_ | refine WpA.regionU ?_ | refine WpA.block ?_ | refine WpA.ret ?_ | refine WpA.skip ?_ | refine WpA.exit ?_ | refine WpA.cond_true rfl ?_ | refine WpA.cond_false rfl ?_ | refine WpA.cond_ntrue rfl ?_ | refine WpA.cond_dec rfl (fun _ => ?_) (fun _ => ?_) | refine WpA.cond_not rfl (fun _ => ?_) (fun _ => ?_) | refine WpA.cond rfl (fun _ => ?_) (fun _ => ?_)) | (guard_target =~ RunU _ _ _ _ [] _ _ _ _; first | refine RunU.nilL ?_ | refine RunU.nilD (by kernel_rfl) ?_) | (guard_target =~ RunU _ _ _ _ (Oper.mk _ (Op.call ⟨Callee.value _, _, _⟩) _ _ _ none :: _) _ _ _ _; first | refine RunU.cons (step_call (inRange_c _ _ _) (.sh (.sh (.sh .nil))) (.sh shows_any (.sh shows_any (.sh shows_any .nil))) rfl) ?_ | refine RunU.cons (step_call (within_c _ _ _ (by omega)) (.sh (.sh (.sh .nil))) (.sh shows_any (.sh shows_any (.sh shows_any .nil))) rfl) ?_ | refine RunU.cons (step_call (isSorted_c _ (by omega)) (.sh .nil) (.sh shows_any .nil) rfl) ?_) | (guard_target =~ RunU _ _ _ _ (Oper.mk _ _ _ _ _ none :: _) _ _ _ _; refine RunU.cons step_any ?_) | (guard_target =~ RunU _ _ _ _ (Oper.mk _ _ _ _ _ (some _) :: _) _ _ _ _; first | refine RunU.pass rfl rfl rfl rfl ?_ | refine RunU.pass_undef rfl rfl rfl ?_ | (guard_target =~ RunU _ _ _ _ (Oper.mk _ (Op.call ⟨Callee.value _, _, _⟩) _ _ _ _ :: _) _ _ _ _; first | refine RunU.doit rfl rfl (step_call (inRange_c _ _ _) (.sh (.sh (.sh .nil))) (.sh shows_any (.sh shows_any (.sh shows_any .nil))) rfl) ?_ | refine RunU.doit rfl rfl (step_call (within_c _ _ _ (by omega)) (.sh (.sh (.sh .nil))) (.sh shows_any (.sh shows_any (.sh shows_any .nil))) rfl) ?_ | refine RunU.doit rfl rfl (step_call (isSorted_c _ (by omega)) (.sh .nil) (.sh shows_any .nil) rfl) ?_) | refine RunU.doit rfl rfl step_any ?_ | ((fail_if_success (refine RunU.doit (rd := []) (up := []) rfl rfl ?_ ?_)); first | refine RunU.guard_dec rfl rfl (fun _ => ?_) (fun _ => ?_) | refine RunU.guard_not rfl rfl (fun _ => ?_) (fun _ => ?_) | refine RunU.guard rfl rfl (fun _ => ?_) (fun _ => ?_))) | refine Then.next ?_ | refine InBlock.next ?_ | refine Done.ret (.one (by first | exact .c rfl | exact .own rfl | exact .als rfl rfl | exact .ptr rfl rfl | exact .part rfl rfl rfl) .nil) (.sh .nil) ?_ rfl)
  case refine_1.refine_1.refine_1 h1 h2 h3 =>
    have : l.length ≤ 400 := by omega
    simp [IsSp, *]
  case refine_1.refine_1.refine_2 h1 h2 h3 => simp [IsSp, h3]
  case refine_1.refine_2 h1 h2 =>
    have : ¬ l.length ≤ 400 := by omega
    simp [IsSp, this]
  case refine_2 h1 => simp [IsSp, h1]
theorem specIs_c (b : Int) (l : List Int) (hl : l.length ≤ 9223372036854775807) : CallA Try.prog 33 [aSp b l] [rB (decide (IsSp b l))] [] := by
  refine callA_of _ Try.func33 rfl Try.ntmps33 (by first | exact ⟨rfl, rfl⟩ | (simp only [List.all_cons, List.all_nil, V.solid, D.solid, D.solids, solids_ints, solids_bools, solids_LL, Bool.and_self, Bool.and_true, and_self]; done) | simp [V.solid, D.solid, D.solids, solids_lits, solids_ints, solids_bools, solids_LL]) ?_
  repeat' (first | (guard_target =~ WpA _ _ _ _ _ _; first | refine WpA.seq ?_ | refine WpA.drawU ?_ | refine WpA.regionU ?_ | refine WpA.block ?_ | refine WpA.ret ?_ | refine WpA.skip ?_ | refine WpA.exit ?_ | refine WpA.cond_true rfl ?_ | refine WpA.cond_false rfl ?_ | refine WpA.cond_ntrue rfl ?_ | refine WpA.cond_dec rfl (fun _ => ?_) (fun _ => ?_) | refine WpA.cond_not rfl (fun _ => ?_) (fun _ => ?_) | refine WpA.cond rfl (fun _ => ?_) (fun _ => ?_)) | (guard_target =~ RunU _ _ _ _ [] _ _ _ _; first | refine RunU.nilL ?_ | refine RunU.nilD (by kernel_rfl) ?_) | (guard_target =~ RunU _ _ _ _ (Oper.mk _ (Op.call ⟨Callee.value _, _, _⟩) _ _ _ none :: _) _ _ _ _; first | refine RunU.cons (step_call (l01In_c _ _ _) (.sh (.sh (.sh .nil))) (.sh shows_any (.sh shows_any (.sh shows_any .nil))) rfl) ?_) | (guard_target =~ RunU _ _ _ _ (Oper.mk _ _ _ _ _ none :: _) _ _ _ _; refine RunU.cons step_any ?_) | (guard_target =~ RunU _ _ _ _ (Oper.mk _ _ _ _ _ (some _) :: _) _ _ _ _; first | refine RunU.pass rfl rfl rfl rfl ?_ | refine RunU.pass_undef rfl rfl rfl ?_ | (guard_target =~ RunU _ _ _ _ (Oper.mk _ (Op.call ⟨Callee.value _, _, _⟩) _ _ _ _ :: _) _ _ _ _; first | refine RunU.doit rfl rfl (step_call (l01In_c _ _ _) (.sh (.sh (.sh .nil))) (.sh shows_any (.sh shows_any (.sh shows_any .nil))) rfl) ?_) | refine RunU.doit rfl rfl step_any ?_ | ((fail_if_success (refine RunU.doit (rd := []) (up := []) rfl rfl ?_ ?_)); first | refine RunU.guard_dec rfl rfl (fun _ => ?_) (fun _ => ?_) | refine RunU.guard_not rfl rfl (fun _ => ?_) (fun _ => ?_) | refine RunU.guard rfl rfl (fun _ => ?_) (fun _ => ?_))) | refine Then.next ?_ | refine InBlock.next ?_ | refine Done.ret (.one (by first | exact .c rfl | exact .own rfl | exact .als rfl rfl | exact .ptr rfl rfl | exact .part rfl rfl rfl) .nil) (.sh .nil) ?_ rfl)
  case refine_1 h1 => simp [IsSp, h1]
  case refine_2.refine_1 h1 h2 =>
    have : ¬ l.length ≤ 400 := by omega
    simp [IsSp, this]
  case refine_2.refine_2 h1 h2 =>
    have h2' : l.length ≤ 400 := by omega
    refine WpA.loop_slots (ι := Nat) (fun j => [(1, .own 1 (.pt true [.lit (.int .i64 b), .sl false 1 (ints l)])), (3, .c (.lit (.int .i64 (j : Int))))]) (fun j => j ≤ l.length ∧ ∀ i, i < j → (1 ≤ l.getD i 0 ∧ l.getD i 0 ≤ 2 * b - 1) ∧ (0 < i → l.getD (i - 1) 0 ≤ l.getD i 0)) (fun j => l.length - j) 0 (by simp) ⟨(by first | exact rfl | exact int_eq (by first | omega | assumption) | exact bool_eq (by simp [*]) | exact own_ints (by first | assumption | (simp [*]; done)) | exact own_LL (by first | assumption | (simp [*]; done)) | exact c_ints (by simp [*])), (by first | exact rfl | exact int_eq (by first | omega | assumption) | exact bool_eq (by simp [*]) | exact own_ints (by first | assumption | (simp [*]; done)) | exact own_LL (by first | assumption | (simp [*]; done)) | exact c_ints (by simp [*])), trivial⟩ ?_
    intro j s nx hj
    repeat' (first | (guard_target =~ WpA _ _ _ _ _ _; first | refine WpA.seq ?_ | refine WpA.drawU ?_ | refine WpA.regionU ?_ | refine WpA.block ?_ | refine WpA.ret ?_ | refine WpA.skip ?_ | refine WpA.exit ?_ | refine WpA.cond_true rfl ?_ | refine WpA.cond_false rfl ?_ | refine WpA.cond_ntrue rfl ?_ | refine WpA.cond_dec rfl (fun _ => ?_) (fun _ => ?_) | refine WpA.cond_not rfl (fun _ => ?_) (fun _ => ?_) | refine WpA.cond rfl (fun _ => ?_) (fun _ => ?_)) | (guard_target =~ RunU _ _ _ _ [] _ _ _ _; first | refine RunU.nilL ?_ | refine RunU.nilD (by kernel_rfl) ?_) | (guard_target =~ RunU _ _ _ _ (Oper.mk _ (Op.call ⟨Callee.value _, _, _⟩) _ _ _ none :: _) _ _ _ _; first | refine RunU.cons (step_call (l01In_c _ _ _) (.sh (.sh (.sh .nil))) (.sh shows_any (.sh shows_any (.sh shows_any .nil))) rfl) ?_) | (guard_target =~ RunU _ _ _ _ (Oper.mk _ _ _ _ _ none :: _) _ _ _ _; refine RunU.cons step_any ?_) | (guard_target =~ RunU _ _ _ _ (Oper.mk _ _ _ _ _ (some _) :: _) _ _ _ _; first | refine RunU.pass rfl rfl rfl rfl ?_ | refine RunU.pass_undef rfl rfl rfl ?_ | (guard_target =~ RunU _ _ _ _ (Oper.mk _ (Op.call ⟨Callee.value _, _, _⟩) _ _ _ _ :: _) _ _ _ _; first | refine RunU.doit rfl rfl (step_call (l01In_c _ _ _) (.sh (.sh (.sh .nil))) (.sh shows_any (.sh shows_any (.sh shows_any .nil))) rfl) ?_) | refine RunU.doit rfl rfl step_any ?_ | ((fail_if_success (refine RunU.doit (rd := []) (up := []) rfl rfl ?_ ?_)); first | refine RunU.guard_dec rfl rfl (fun _ => ?_) (fun _ => ?_) | refine RunU.guard_not rfl rfl (fun _ => ?_) (fun _ => ?_) | refine RunU.guard rfl rfl (fun _ => ?_) (fun _ => ?_))) | refine Then.next ?_ | refine InBlock.next ?_ | refine Done.ret (.one (by first | exact .c rfl | exact .own rfl | exact .als rfl rfl | exact .ptr rfl rfl | exact .part rfl rfl rfl) .nil) (.sh .nil) ?_ rfl)
    case refine_1.refine_1 h3 h4 =>
      have : ¬ Within l 1 (2 * b - 1) := fun hw => h4 (by simpa using hw j (by omega))
      simp [IsSp, this]
    case refine_1.refine_2.refine_1.refine_1 h3 h4 h5 h6 =>
      have : ¬ Asc l := fun hw => by
        have := hw j (by omega) (by omega)
        rw [show ((j : Int) - 1).toNat = j - 1 by omega] at h6
        simp at h6 this
        omega
      simp [IsSp, this]
    case refine_1.refine_2.refine_1.refine_2 h3 h4 h5 h6 =>
      refine ⟨j + 1, ⟨by omega, fun i hi => ?_⟩, ⟨rfl, int_eq (by omega), trivial⟩, by omega⟩
      by_cases e : i = j
      · subst e
        rw [show ((i : Int) - 1).toNat = i - 1 by omega] at h6
        simp only [Nat.mul_one] at h4 h6
        exact ⟨h4, fun _ => by omega⟩
      · exact hj.2 i (by omega)
    case refine_1.refine_2.refine_2 h3 h4 h5 =>
      refine ⟨j + 1, ⟨by omega, fun i hi => ?_⟩, ⟨rfl, int_eq (by omega), trivial⟩, by omega⟩
      by_cases e : i = j
      · subst e
        simp only [Nat.mul_one] at h4
        exact ⟨h4, fun _ => by omega⟩
      · exact hj.2 i (by omega)
    case refine_2 h3 =>
      have h4 : Within l 1 (2 * b - 1) := fun i hi => (hj.2 i (by omega)).1
      have h5 : Asc l := fun i hi h0 => (hj.2 i (by omega)).2 h0
      simp [IsSp, h1, h2', h4, h5]
theorem specIsSp_c (b : Int) (l : List Int) (hl : l.length ≤ 9223372036854775807) : CallA Try.prog 20 [aSp b l] [rB (decide (IsSp b l))] [] := by
  refine callA_of _ Try.func20 rfl Try.ntmps20 (by first | exact ⟨rfl, rfl⟩ | (simp only [List.all_cons, List.all_nil, V.solid, D.solid, D.solids, solids_ints, solids_bools, solids_LL, Bool.and_self, Bool.and_true, and_self]; done) | simp [V.solid, D.solid, D.solids, solids_lits, solids_ints, solids_bools, solids_LL]) ?_
  repeat' (first | (guard_target =~ WpA _ _ _ _ _ _; first | refine WpA.seq ?_ | refine WpA.drawU ?_ | refine WpA.regionU ?_ | refine WpA.block ?_ | refine WpA.ret ?_ | refine WpA.skip ?_ | refine WpA.exit ?_ | refine WpA.cond_true rfl ?_ | refine WpA.cond_false rfl ?_ | refine WpA.cond_ntrue rfl ?_ | refine WpA.cond_dec rfl (fun _ => ?_) (fun _ => ?_) | refine WpA.cond_not rfl (fun _ => ?_) (fun _ => ?_) | refine WpA.cond rfl (fun _ => ?_) (fun _ => ?_)) | (guard_target =~ RunU _ _ _ _ [] _ _ _ _; first | refine RunU.nilL ?_ | refine RunU.nilD (by kernel_rfl) ?_) | (guard_target =~ RunU _ _ _ _ (Oper.mk _ (Op.call ⟨Callee.value _, _, _⟩) _ _ _ none :: _) _ _ _ _; first | refine RunU.cons (step_call (specIs_c b l hl) (.sh .nil) (.shAgg rfl aggs_any .nil) rfl) ?_) | (guard_target =~ RunU _ _ _ _ (Oper.mk _ _ _ _ _ none :: _) _ _ _ _; refine RunU.cons step_any ?_) | refine Then.next ?_ | refine InBlock.next ?_ | refine Done.ret (.one (by first | exact .c rfl | exact .own rfl | exact .als rfl rfl | exact .ptr rfl rfl | exact .part rfl rfl rfl) .nil) (.sh .nil) ?_ rfl)
  rfl
end Go.Proofs.Ytljhfjfccbpddaa
