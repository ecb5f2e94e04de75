/- Contracts of the functions that count the fractions of a spectrum. No condition. -/
import Derived.Test.YtljhfjfccbpddaaRSpA
namespace Go.Proofs.Ytljhfjfccbpddaa
set_option maxHeartbeats 20000000
set_option linter.unusedVariables false
set_option linter.unusedSimpArgs false
open Go.Pv
open Go.ChangeShapes Go.WideShapes Go.ChangeAt Go.RowKit
attribute [local irreducible] RunU WpA Step CallG CallNG Done DoneN
instance fnOk53 : FnOk Try.prog 53 := ⟨_, Try.func53, rfl, by decide⟩
instance fnOk52 : FnOk Try.prog 52 := ⟨_, Try.func52, rfl, by decide⟩
instance fnOk60 : FnOk Try.prog 60 := ⟨_, Try.func60, rfl, by decide⟩
instance fnOk24 : FnOk Try.prog 24 := ⟨_, Try.func24, rfl, by decide⟩
instance fnOk22 : FnOk Try.prog 22 := ⟨_, Try.func22, rfl, by decide⟩
instance fnOk25 : FnOk Try.prog 25 := ⟨_, Try.func25, rfl, by decide⟩
instance fnOk23 : FnOk Try.prog 23 := ⟨_, Try.func23, rfl, by decide⟩
def cntTo (p : Int → Prop) [DecidablePred p] (l : List Int) : Nat → Int
  | 0 => 0
  | j + 1 => cntTo p l j + if p (l.getD j 0) then 1 else 0
theorem cntTo_le (p : Int → Prop) [DecidablePred p] (l : List Int) : ∀ j, 0 ≤ cntTo p l j ∧ cntTo p l j ≤ j
  | 0 => by simp [cntTo]
  | j + 1 => by
    have := cntTo_le p l j
    simp only [cntTo]
    split <;> omega
theorem cntTo_yes {p : Int → Prop} [DecidablePred p] {l : List Int} {j : Nat} (h : p (l.getD j 0)) : cntTo p l j + 1 = cntTo p l (j + 1) := by simp only [cntTo, if_pos h]
theorem cntTo_no {p : Int → Prop} [DecidablePred p] {l : List Int} {j : Nat} (h : ¬ p (l.getD j 0)) : cntTo p l j = cntTo p l (j + 1) := by simp only [cntTo, if_neg h]; omega
theorem IsSp.at {b : Int} {l : List Int} (h : IsSp b l) {i : Nat} (hi : i < l.length) : 1 ≤ l.getD i 0 ∧ l.getD i 0 ≤ 1999999 := by
  have h1 := h.1.2
  have := h.2.2.1 i hi
  omega
theorem mul_bound {x y : Int} (hx : 0 ≤ x) (hx' : x ≤ 2000000) (hy : 0 ≤ y) (hy' : y ≤ 1000000) : 0 ≤ x * y ∧ x * y ≤ 2000000000000 := by
  refine ⟨Int.mul_nonneg hx hy, ?_⟩
  have := Int.mul_le_mul hx' hy' hy (by omega)
  omega
def InR (top bot : Int) : Prop := (0 ≤ top ∧ top ≤ 1000000) ∧ 1 ≤ bot ∧ bot ≤ 1000000
instance (top bot : Int) : Decidable (InR top bot) := by unfold InR; infer_instance
def spCode (b : Int) (l : List Int) (top bot : Int) : Int := if IsSp b l then if InR top bot then 0 else 2 else 1
def spCount (p : Int → Prop) [DecidablePred p] (b : Int) (l : List Int) (top bot : Int) : Int := if IsSp b l ∧ InR top bot then cntTo p l l.length else 0
theorem specCode_c (b : Int) (l : List Int) (top bot : Int) (hl : l.length ≤ 9223372036854775807) : CallA Try.prog 53 [aSp b l, aI top, aI bot] [rI (spCode b l top bot)] [] := by
  refine callA_of _ Try.func53 rfl Try.ntmps53 (by first | exact ⟨rfl, rfl⟩ | (simp only [List.all_cons, List.all_nil, V.solid, D.solid, D.solids, solids_ints, solids_bools, solids_LL, Bool.and_self, Bool.and_true, and_self]; done) | simp [V.solid, D.solid, D.solids, solids_lits, solids_ints, solids_bools, solids_LL]) ?_
  repeat' (first | (guard_target =~ WpA _ _ _ _ _ _; first | refine WpA.seq ?_ | refine WpA.drawU ?_ | refine WpA.regionU ?_ | refine WpA.block ?_ | refine WpA.ret ?_ | refine WpA.skip ?_ | refine WpA.exit ?_ | refine WpA.cond_true rfl ?_ | refine WpA.cond_false rfl ?_ | refine WpA.cond_ntrue rfl ?_ | refine WpA.cond_dec rfl (fun _ => ?_) (fun _ => ?_) | refine WpA.cond_not rfl (fun _ => ?_) (fun _ => ?_) | refine WpA.cond rfl (fun _ => ?_) (fun _ => ?_)) | (guard_target =~ RunU _ _ _ _ [] _ _ _ _; first | refine RunU.nilL ?_ | refine RunU.nilD (by kernel_rfl) ?_) | (guard_target =~ RunU _ _ _ _ (Oper.mk _ (Op.call ⟨Callee.value _, _, _⟩) _ _ _ none :: _) _ _ _ _; first | refine RunU.cons (step_call (specIs_c b l hl) (.sh .nil) (.shAgg rfl aggs_any .nil) rfl) ?_ | refine RunU.cons (step_call (l01In_c _ _ _) (.sh (.sh (.sh .nil))) (.sh shows_any (.sh shows_any (.sh shows_any .nil))) rfl) ?_) | (guard_target =~ RunU _ _ _ _ (Oper.mk _ _ _ _ _ none :: _) _ _ _ _; refine RunU.cons step_any ?_) | (guard_target =~ RunU _ _ _ _ (Oper.mk _ _ _ _ _ (some _) :: _) _ _ _ _; first | refine RunU.pass rfl rfl rfl rfl ?_ | refine RunU.pass_undef rfl rfl rfl ?_ | (guard_target =~ RunU _ _ _ _ (Oper.mk _ (Op.call ⟨Callee.value _, _, _⟩) _ _ _ _ :: _) _ _ _ _; first | refine RunU.doit rfl rfl (step_call (specIs_c b l hl) (.sh .nil) (.shAgg rfl aggs_any .nil) rfl) ?_ | refine RunU.doit rfl rfl (step_call (l01In_c _ _ _) (.sh (.sh (.sh .nil))) (.sh shows_any (.sh shows_any (.sh shows_any .nil))) rfl) ?_) | refine RunU.doit rfl rfl step_any ?_ | ((fail_if_success (refine RunU.doit (rd := []) (up := []) rfl rfl ?_ ?_)); first | refine RunU.guard_dec rfl rfl (fun _ => ?_) (fun _ => ?_) | refine RunU.guard_not rfl rfl (fun _ => ?_) (fun _ => ?_) | refine RunU.guard rfl rfl (fun _ => ?_) (fun _ => ?_))) | refine Then.next ?_ | refine InBlock.next ?_ | refine Done.ret (.one (by first | exact .c rfl | exact .own rfl | exact .als rfl rfl | exact .ptr rfl rfl | exact .part rfl rfl rfl) .nil) (.sh (.sh (.sh .nil))) ?_ rfl)
  all_goals simp [spCode, InR, *]
theorem compared_c (x y : Int) : CallA Try.prog 60 [aI x, aI y] [rI (if x < y then -1 else if y < x then 1 else 0)] [] := by
  refine callA_of _ Try.func60 rfl Try.ntmps60 (by first | exact ⟨rfl, rfl⟩ | (simp only [List.all_cons, List.all_nil, V.solid, D.solid, D.solids, solids_ints, solids_bools, solids_LL, Bool.and_self, Bool.and_true, and_self]; done) | simp [V.solid, D.solid, D.solids, solids_lits, solids_ints, solids_bools, solids_LL]) ?_
  repeat' (first | (guard_target =~ WpA _ _ _ _ _ _; first | refine WpA.seq ?_ | refine WpA.drawU ?_ | refine WpA.regionU ?_ | refine WpA.block ?_ | refine WpA.ret ?_ | refine WpA.skip ?_ | refine WpA.exit ?_ | refine WpA.cond_true rfl ?_ | refine WpA.cond_false rfl ?_ | refine WpA.cond_ntrue rfl ?_ | refine WpA.cond_dec rfl (fun _ => ?_) (fun _ => ?_) | refine WpA.cond_not rfl (fun _ => ?_) (fun _ => ?_) | refine WpA.cond rfl (fun _ => ?_) (fun _ => ?_)) | (guard_target =~ RunU _ _ _ _ [] _ _ _ _; first | refine RunU.nilL ?_ | refine RunU.nilD (by kernel_rfl) ?_) | (guard_target =~ RunU _ _ _ _ (Oper.mk _ _ _ _ _ none :: _) _ _ _ _; refine RunU.cons step_any ?_) | refine Then.next ?_ | refine InBlock.next ?_ | refine Done.ret (.one (by first | exact .c rfl | exact .own rfl | exact .als rfl rfl | exact .ptr rfl rfl | exact .part rfl rfl rfl) .nil) (.sh (.sh .nil)) ?_ rfl)
  all_goals simp [*]
theorem specBelow_c (b : Int) (l : List Int) (top bot : Int) (hl : l.length ≤ 9223372036854775807) : CallA Try.prog 24 [aSp b l, aI top, aI bot] [rI (spCount (fun x => x * bot < top * b) b l top bot), rI (spCode b l top bot)] [] := by
  refine callA_of _ Try.func24 rfl Try.ntmps24 (by first | exact ⟨rfl, rfl⟩ | (simp only [List.all_cons, List.all_nil, V.solid, D.solid, D.solids, solids_ints, solids_bools, solids_LL, Bool.and_self, Bool.and_true, and_self]; done) | simp [V.solid, D.solid, D.solids, solids_lits, solids_ints, solids_bools, solids_LL]) ?_
  repeat' (first | (guard_target =~ WpA _ _ _ _ _ _; first | refine WpA.seq ?_ | refine WpA.drawU ?_ | refine WpA.regionU ?_ | refine WpA.block ?_ | refine WpA.ret ?_ | refine WpA.skip ?_ | refine WpA.exit ?_ | refine WpA.cond_true rfl ?_ | refine WpA.cond_false rfl ?_ | refine WpA.cond_ntrue rfl ?_ | refine WpA.cond_dec rfl (fun _ => ?_) (fun _ => ?_) | refine WpA.cond_not rfl (fun _ => ?_) (fun _ => ?_) | refine WpA.cond rfl (fun _ => ?_) (fun _ => ?_)) | (guard_target =~ RunU _ _ _ _ [] _ _ _ _; first | refine RunU.nilL ?_ | refine RunU.nilD (by kernel_rfl) ?_) | (guard_target =~ RunU _ _ _ _ (Oper.mk _ (Op.call ⟨Callee.value _, _, _⟩) _ _ _ none :: _) _ _ _ _; first | refine RunU.cons (step_call (specCode_c b l top bot hl) (.sh (.sh (.sh .nil))) (.shAgg rfl aggs_any (.sh shows_any (.sh shows_any .nil))) rfl) ?_) | (guard_target =~ RunU _ _ _ _ (Oper.mk _ _ _ _ _ none :: _) _ _ _ _; refine RunU.cons step_any ?_) | refine Then.next ?_ | refine InBlock.next ?_ | refine Done.ret (.one (by first | exact .c rfl | exact .own rfl | exact .als rfl rfl | exact .ptr rfl rfl | exact .part rfl rfl rfl) (.one (by first | exact .c rfl | exact .own rfl | exact .als rfl rfl | exact .ptr rfl rfl | exact .part rfl rfl rfl) .nil)) (.sh (.sh (.sh .nil))) ?_ rfl)
  case refine_1 h =>
    have : ¬ (IsSp b l ∧ InR top bot) := fun h1 => by simp [spCode, h1] at h
    simp [spCount, this]
  case refine_2 h =>
    have h1 : IsSp b l ∧ InR top bot := by
      unfold spCode at h
      split at h
      · split at h
        · exact ⟨‹_›, ‹_›⟩
        · simp at h
      · simp at h
    refine WpA.loop_slots (ι := Nat) (fun j => [(3, .own 3 (.pt true [.lit (.int .i64 b), .sl false 1 (ints l)])), (1, .c (.lit (.int .i64 top))), (2, .c (.lit (.int .i64 bot))), (9, .c (.lit (.int .i64 (cntTo (fun x => x * bot < top * b) l j)))), (10, .c (.lit (.int .i64 (j : Int))))]) (fun j => j ≤ l.length) (fun j => l.length - j) 0 (by simp) ⟨(by first | exact rfl | exact int_eq (by first | omega | assumption) | exact bool_eq (by simp [*]) | exact own_ints (by first | assumption | (simp [*]; done)) | exact own_LL (by first | assumption | (simp [*]; done)) | exact c_ints (by simp [*])), (by first | exact rfl | exact int_eq (by first | omega | assumption) | exact bool_eq (by simp [*]) | exact own_ints (by first | assumption | (simp [*]; done)) | exact own_LL (by first | assumption | (simp [*]; done)) | exact c_ints (by simp [*])), (by first | exact rfl | exact int_eq (by first | omega | assumption) | exact bool_eq (by simp [*]) | exact own_ints (by first | assumption | (simp [*]; done)) | exact own_LL (by first | assumption | (simp [*]; done)) | exact c_ints (by simp [*])), (by first | exact rfl | exact int_eq (by first | omega | assumption) | exact bool_eq (by simp [*]) | exact own_ints (by first | assumption | (simp [*]; done)) | exact own_LL (by first | assumption | (simp [*]; done)) | exact c_ints (by simp [*])), (by first | exact rfl | exact int_eq (by first | omega | assumption) | exact bool_eq (by simp [*]) | exact own_ints (by first | assumption | (simp [*]; done)) | exact own_LL (by first | assumption | (simp [*]; done)) | exact c_ints (by simp [*])), trivial⟩ ?_
    intro j s nx hj
    have hc := cntTo_le (fun x => x * bot < top * b) l j
    have hb := h1.1.1
    have hr := h1.2
    unfold InR at hr
    have hp : (j : Int) < l.length → 0 ≤ l.getD (j * 1) 0 * bot ∧ l.getD (j * 1) 0 * bot ≤ 2000000000000 := fun hlt => by
      have := h1.1.at (i := j * 1) (by omega)
      exact mul_bound (by omega) (by omega) (by omega) (by omega)
    have hq : 0 ≤ top * b ∧ top * b ≤ 2000000000000 := mul_bound (by omega) (by omega) (by omega) (by omega)
    repeat' (first | (guard_target =~ WpA _ _ _ _ _ _; first | refine WpA.seq ?_ | refine WpA.drawU ?_ | refine WpA.regionU ?_ | refine WpA.block ?_ | refine WpA.ret ?_ | refine WpA.skip ?_ | refine WpA.exit ?_ | refine WpA.cond_true rfl ?_ | refine WpA.cond_false rfl ?_ | refine WpA.cond_ntrue rfl ?_ | refine WpA.cond_dec rfl (fun _ => ?_) (fun _ => ?_) | refine WpA.cond_not rfl (fun _ => ?_) (fun _ => ?_) | refine WpA.cond rfl (fun _ => ?_) (fun _ => ?_)) | (guard_target =~ RunU _ _ _ _ [] _ _ _ _; first | refine RunU.nilL ?_ | refine RunU.nilD (by kernel_rfl) ?_) | (guard_target =~ RunU _ _ _ _ (Oper.mk _ _ _ _ _ none :: _) _ _ _ _; refine RunU.cons step_any ?_) | refine Then.next ?_ | refine InBlock.next ?_ | refine Done.ret (.one (by first | exact .c rfl | exact .own rfl | exact .als rfl rfl | exact .ptr rfl rfl | exact .part rfl rfl rfl) (.one (by first | exact .c rfl | exact .own rfl | exact .als rfl rfl | exact .ptr rfl rfl | exact .part rfl rfl rfl) .nil)) (.sh (.sh (.sh .nil))) ?_ rfl)
    case refine_1.refine_1 h3 h4 => exact ⟨j + 1, by omega, ⟨rfl, rfl, rfl, int_eq (cntTo_yes (by simpa using h4)), int_eq (by omega), trivial⟩, by omega⟩
    case refine_1.refine_2 h3 h4 => exact ⟨j + 1, by omega, ⟨rfl, rfl, rfl, int_eq (cntTo_no (by simpa using h4)), int_eq (by omega), trivial⟩, by omega⟩
    case refine_2 h3 =>
      have e : j = l.length := by omega
      subst e
      simp [spCount, spCode, h1]
theorem specMult_c (b : Int) (l : List Int) (top bot : Int) (hl : l.length ≤ 9223372036854775807) : CallA Try.prog 25 [aSp b l, aI top, aI bot] [rI (spCount (fun x => x * bot = top * b) b l top bot), rI (spCode b l top bot)] [] := by
  refine callA_of _ Try.func25 rfl Try.ntmps25 (by first | exact ⟨rfl, rfl⟩ | (simp only [List.all_cons, List.all_nil, V.solid, D.solid, D.solids, solids_ints, solids_bools, solids_LL, Bool.and_self, Bool.and_true, and_self]; done) | simp [V.solid, D.solid, D.solids, solids_lits, solids_ints, solids_bools, solids_LL]) ?_
  repeat' (first | (guard_target =~ WpA _ _ _ _ _ _; first | refine WpA.seq ?_ | refine WpA.drawU ?_ | refine WpA.regionU ?_ | refine WpA.block ?_ | refine WpA.ret ?_ | refine WpA.skip ?_ | refine WpA.exit ?_ | refine WpA.cond_true rfl ?_ | refine WpA.cond_false rfl ?_ | refine WpA.cond_ntrue rfl ?_ | refine WpA.cond_dec rfl (fun _ => ?_) (fun _ => ?_) | refine WpA.cond_not rfl (fun _ => ?_) (fun _ => ?_) | refine WpA.cond rfl (fun _ => ?_) (fun _ => ?_)) | (guard_target =~ RunU _ _ _ _ [] _ _ _ _; first | refine RunU.nilL ?_ | refine RunU.nilD (by kernel_rfl) ?_) | (guard_target =~ RunU _ _ _ _ (Oper.mk _ (Op.call ⟨Callee.value _, _, _⟩) _ _ _ none :: _) _ _ _ _; first | refine RunU.cons (step_call (specCode_c b l top bot hl) (.sh (.sh (.sh .nil))) (.shAgg rfl aggs_any (.sh shows_any (.sh shows_any .nil))) rfl) ?_) | (guard_target =~ RunU _ _ _ _ (Oper.mk _ _ _ _ _ none :: _) _ _ _ _; refine RunU.cons step_any ?_) | refine Then.next ?_ | refine InBlock.next ?_ | refine Done.ret (.one (by first | exact .c rfl | exact .own rfl | exact .als rfl rfl | exact .ptr rfl rfl | exact .part rfl rfl rfl) (.one (by first | exact .c rfl | exact .own rfl | exact .als rfl rfl | exact .ptr rfl rfl | exact .part rfl rfl rfl) .nil)) (.sh (.sh (.sh .nil))) ?_ rfl)
  case refine_1 h =>
    have : ¬ (IsSp b l ∧ InR top bot) := fun h1 => by simp [spCode, h1] at h
    simp [spCount, this]
  case refine_2 h =>
    have h1 : IsSp b l ∧ InR top bot := by
      unfold spCode at h
      split at h
      · split at h
        · exact ⟨‹_›, ‹_›⟩
        · simp at h
      · simp at h
    refine WpA.loop_slots (ι := Nat) (fun j => [(3, .own 3 (.pt true [.lit (.int .i64 b), .sl false 1 (ints l)])), (1, .c (.lit (.int .i64 top))), (2, .c (.lit (.int .i64 bot))), (9, .c (.lit (.int .i64 (cntTo (fun x => x * bot = top * b) l j)))), (10, .c (.lit (.int .i64 (j : Int))))]) (fun j => j ≤ l.length) (fun j => l.length - j) 0 (by simp) ⟨(by first | exact rfl | exact int_eq (by first | omega | assumption) | exact bool_eq (by simp [*]) | exact own_ints (by first | assumption | (simp [*]; done)) | exact own_LL (by first | assumption | (simp [*]; done)) | exact c_ints (by simp [*])), (by first | exact rfl | exact int_eq (by first | omega | assumption) | exact bool_eq (by simp [*]) | exact own_ints (by first | assumption | (simp [*]; done)) | exact own_LL (by first | assumption | (simp [*]; done)) | exact c_ints (by simp [*])), (by first | exact rfl | exact int_eq (by first | omega | assumption) | exact bool_eq (by simp [*]) | exact own_ints (by first | assumption | (simp [*]; done)) | exact own_LL (by first | assumption | (simp [*]; done)) | exact c_ints (by simp [*])), (by first | exact rfl | exact int_eq (by first | omega | assumption) | exact bool_eq (by simp [*]) | exact own_ints (by first | assumption | (simp [*]; done)) | exact own_LL (by first | assumption | (simp [*]; done)) | exact c_ints (by simp [*])), (by first | exact rfl | exact int_eq (by first | omega | assumption) | exact bool_eq (by simp [*]) | exact own_ints (by first | assumption | (simp [*]; done)) | exact own_LL (by first | assumption | (simp [*]; done)) | exact c_ints (by simp [*])), trivial⟩ ?_
    intro j s nx hj
    have hc := cntTo_le (fun x => x * bot = top * b) l j
    have hb := h1.1.1
    have hr := h1.2
    unfold InR at hr
    have hp : (j : Int) < l.length → 0 ≤ l.getD (j * 1) 0 * bot ∧ l.getD (j * 1) 0 * bot ≤ 2000000000000 := fun hlt => by
      have := h1.1.at (i := j * 1) (by omega)
      exact mul_bound (by omega) (by omega) (by omega) (by omega)
    have hq : 0 ≤ top * b ∧ top * b ≤ 2000000000000 := mul_bound (by omega) (by omega) (by omega) (by omega)
    repeat' (first | (guard_target =~ WpA _ _ _ _ _ _; first | refine WpA.seq ?_ | refine WpA.drawU ?_ | refine WpA.regionU ?_ | refine WpA.block ?_ | refine WpA.ret ?_ | refine WpA.skip ?_ | refine WpA.exit ?_ | refine WpA.cond_true rfl ?_ | refine WpA.cond_false rfl ?_ | refine WpA.cond_ntrue rfl ?_ | refine WpA.cond_dec rfl (fun _ => ?_) (fun _ => ?_) | refine WpA.cond_not rfl (fun _ => ?_) (fun _ => ?_) | refine WpA.cond rfl (fun _ => ?_) (fun _ => ?_)) | (guard_target =~ RunU _ _ _ _ [] _ _ _ _; first | refine RunU.nilL ?_ | refine RunU.nilD (by kernel_rfl) ?_) | (guard_target =~ RunU _ _ _ _ (Oper.mk _ _ _ _ _ none :: _) _ _ _ _; refine RunU.cons step_any ?_) | refine Then.next ?_ | refine InBlock.next ?_ | refine Done.ret (.one (by first | exact .c rfl | exact .own rfl | exact .als rfl rfl | exact .ptr rfl rfl | exact .part rfl rfl rfl) (.one (by first | exact .c rfl | exact .own rfl | exact .als rfl rfl | exact .ptr rfl rfl | exact .part rfl rfl rfl) .nil)) (.sh (.sh (.sh .nil))) ?_ rfl)
    case refine_1.refine_1 h3 h4 => exact ⟨j + 1, by omega, ⟨rfl, rfl, rfl, int_eq (cntTo_yes (by simpa using h4)), int_eq (by omega), trivial⟩, by omega⟩
    case refine_1.refine_2 h3 h4 => exact ⟨j + 1, by omega, ⟨rfl, rfl, rfl, int_eq (cntTo_no (by simpa using h4)), int_eq (by omega), trivial⟩, by omega⟩
    case refine_2 h3 =>
      have e : j = l.length := by omega
      subst e
      simp [spCount, spCode, h1]
theorem countWhere_c (b : Int) (l : List Int) (top bot want : Int) (hl : l.length ≤ 9223372036854775807) : CallA Try.prog 52 [aSp b l, aI top, aI bot, aI want] [rI (spCount (fun x => (if x * bot < top * b then -1 else if top * b < x * bot then 1 else 0) = want) b l top bot), rI (spCode b l top bot)] [] := by
  refine callA_of _ Try.func52 rfl Try.ntmps52 (by first | exact ⟨rfl, rfl⟩ | (simp only [List.all_cons, List.all_nil, V.solid, D.solid, D.solids, solids_ints, solids_bools, solids_LL, Bool.and_self, Bool.and_true, and_self]; done) | simp [V.solid, D.solid, D.solids, solids_lits, solids_ints, solids_bools, solids_LL]) ?_
  repeat' (first | (guard_target =~ WpA _ _ _ _ _ _; first | refine WpA.seq ?_ | refine WpA.drawU ?_ | refine WpA.regionU ?_ | refine WpA.block ?_ | refine WpA.ret ?_ | refine WpA.skip ?_ | refine WpA.exit ?_ | refine WpA.cond_true rfl ?_ | refine WpA.cond_false rfl ?_ | refine WpA.cond_ntrue rfl ?_ | refine WpA.cond_dec rfl (fun _ => ?_) (fun _ => ?_) | refine WpA.cond_not rfl (fun _ => ?_) (fun _ => ?_) | refine WpA.cond rfl (fun _ => ?_) (fun _ => ?_)) | (guard_target =~ RunU _ _ _ _ [] _ _ _ _; first | refine RunU.nilL ?_ | refine RunU.nilD (by kernel_rfl) ?_) | (guard_target =~ RunU _ _ _ _ (Oper.mk _ (Op.call ⟨Callee.value _, _, _⟩) _ _ _ none :: _) _ _ _ _; first | refine RunU.cons (step_call (implIsSp_c b l hl) (.sh .nil) (.shAgg rfl aggs_any .nil) rfl) ?_ | refine RunU.cons (step_call (inRange_c _ _ _) (.sh (.sh (.sh .nil))) (.sh shows_any (.sh shows_any (.sh shows_any .nil))) rfl) ?_) | (guard_target =~ RunU _ _ _ _ (Oper.mk _ _ _ _ _ none :: _) _ _ _ _; refine RunU.cons step_any ?_) | (guard_target =~ RunU _ _ _ _ (Oper.mk _ _ _ _ _ (some _) :: _) _ _ _ _; first | refine RunU.pass rfl rfl rfl rfl ?_ | refine RunU.pass_undef rfl rfl rfl ?_ | (guard_target =~ RunU _ _ _ _ (Oper.mk _ (Op.call ⟨Callee.value _, _, _⟩) _ _ _ _ :: _) _ _ _ _; first | refine RunU.doit rfl rfl (step_call (implIsSp_c b l hl) (.sh .nil) (.shAgg rfl aggs_any .nil) rfl) ?_ | refine RunU.doit rfl rfl (step_call (inRange_c _ _ _) (.sh (.sh (.sh .nil))) (.sh shows_any (.sh shows_any (.sh shows_any .nil))) rfl) ?_) | refine RunU.doit rfl rfl step_any ?_ | ((fail_if_success (refine RunU.doit (rd := []) (up := []) rfl rfl ?_ ?_)); first | refine RunU.guard_dec rfl rfl (fun _ => ?_) (fun _ => ?_) | refine RunU.guard_not rfl rfl (fun _ => ?_) (fun _ => ?_) | refine RunU.guard rfl rfl (fun _ => ?_) (fun _ => ?_))) | refine Then.next ?_ | refine InBlock.next ?_ | refine Done.ret (.one (by first | exact .c rfl | exact .own rfl | exact .als rfl rfl | exact .ptr rfl rfl | exact .part rfl rfl rfl) (.one (by first | exact .c rfl | exact .own rfl | exact .als rfl rfl | exact .ptr rfl rfl | exact .part rfl rfl rfl) .nil)) (.sh (.sh (.sh (.sh .nil)))) ?_ rfl)
  case refine_1 h => simp [spCount, spCode, h]
  case refine_2.refine_1 h1 h2 => simp [spCount, spCode, InR, h1, h2]
  case refine_2.refine_2.refine_1 h1 h2 h3 => simp [spCount, spCode, InR, h1, h3]
  case refine_2.refine_2.refine_2 h0 h2 h3 =>
    have h1 : IsSp b l ∧ InR top bot := ⟨h0, h2, h3⟩
    refine WpA.loop_slots (ι := Nat) (fun j => [(4, .own 4 (.pt true [.lit (.int .i64 b), .sl false 1 (ints l)])), (1, .c (.lit (.int .i64 top))), (2, .c (.lit (.int .i64 bot))), (3, .c (.lit (.int .i64 want))), (25, .c (.sl false 1 (ints l))), (26, .c (.lit (.int .i64 l.length))), (10, .c (.lit (.int .i64 (cntTo (fun x => (if x * bot < top * b then -1 else if top * b < x * bot then 1 else 0) = want) l j)))), (27, .c (.lit (.int .i64 (j : Int))))]) (fun j => j ≤ l.length) (fun j => l.length - j) 0 (by simp) ⟨(by first | exact rfl | exact int_eq (by first | omega | assumption) | exact bool_eq (by simp [*]) | exact own_ints (by first | assumption | (simp [*]; done)) | exact own_LL (by first | assumption | (simp [*]; done)) | exact c_ints (by simp [*])), (by first | exact rfl | exact int_eq (by first | omega | assumption) | exact bool_eq (by simp [*]) | exact own_ints (by first | assumption | (simp [*]; done)) | exact own_LL (by first | assumption | (simp [*]; done)) | exact c_ints (by simp [*])), (by first | exact rfl | exact int_eq (by first | omega | assumption) | exact bool_eq (by simp [*]) | exact own_ints (by first | assumption | (simp [*]; done)) | exact own_LL (by first | assumption | (simp [*]; done)) | exact c_ints (by simp [*])), (by first | exact rfl | exact int_eq (by first | omega | assumption) | exact bool_eq (by simp [*]) | exact own_ints (by first | assumption | (simp [*]; done)) | exact own_LL (by first | assumption | (simp [*]; done)) | exact c_ints (by simp [*])), (by first | exact rfl | exact int_eq (by first | omega | assumption) | exact bool_eq (by simp [*]) | exact own_ints (by first | assumption | (simp [*]; done)) | exact own_LL (by first | assumption | (simp [*]; done)) | exact c_ints (by simp [*])), (by first | exact rfl | exact int_eq (by first | omega | assumption) | exact bool_eq (by simp [*]) | exact own_ints (by first | assumption | (simp [*]; done)) | exact own_LL (by first | assumption | (simp [*]; done)) | exact c_ints (by simp [*])), (by first | exact rfl | exact int_eq (by first | omega | assumption) | exact bool_eq (by simp [*]) | exact own_ints (by first | assumption | (simp [*]; done)) | exact own_LL (by first | assumption | (simp [*]; done)) | exact c_ints (by simp [*])), (by first | exact rfl | exact int_eq (by first | omega | assumption) | exact bool_eq (by simp [*]) | exact own_ints (by first | assumption | (simp [*]; done)) | exact own_LL (by first | assumption | (simp [*]; done)) | exact c_ints (by simp [*])), trivial⟩ ?_
    intro j s nx hj
    have hc := cntTo_le (fun x => (if x * bot < top * b then -1 else if top * b < x * bot then 1 else 0) = want) l j
    have hb := h1.1.1
    have hp : (j : Int) < l.length → 0 ≤ l.getD (j * 1) 0 * bot ∧ l.getD (j * 1) 0 * bot ≤ 2000000000000 := fun hlt => by
      have := h1.1.at (i := j * 1) (by omega)
      exact mul_bound (by omega) (by omega) (by omega) (by omega)
    have hq : 0 ≤ top * b ∧ top * b ≤ 2000000000000 := mul_bound (by omega) (by omega) (by omega) (by omega)
    repeat' (first | (guard_target =~ WpA _ _ _ _ _ _; first | refine WpA.seq ?_ | refine WpA.drawU ?_ | refine WpA.regionU ?_ | refine WpA.block ?_ | refine WpA.ret ?_ | refine WpA.skip ?_ | refine WpA.exit ?_ | refine WpA.cond_true rfl ?_ | refine WpA.cond_false rfl ?_ | refine WpA.cond_ntrue rfl ?_ | refine WpA.cond_dec rfl (fun _ => ?_) (fun _ => ?_) | refine WpA.cond_not rfl (fun _ => ?_) (fun _ => ?_) | refine WpA.cond rfl (fun _ => ?_) (fun _ => ?_)) | (guard_target =~ RunU _ _ _ _ [] _ _ _ _; first | refine RunU.nilL ?_ | refine RunU.nilD (by kernel_rfl) ?_) | (guard_target =~ RunU _ _ _ _ (Oper.mk _ (Op.call ⟨Callee.value _, _, _⟩) _ _ _ none :: _) _ _ _ _; first | refine RunU.cons (step_call (compared_c _ _) (.sh (.sh .nil)) (.sh shows_any (.sh shows_any .nil)) rfl) ?_) | (guard_target =~ RunU _ _ _ _ (Oper.mk _ _ _ _ _ none :: _) _ _ _ _; refine RunU.cons step_any ?_) | (guard_target =~ RunU _ _ _ _ (Oper.mk _ _ _ _ _ (some _) :: _) _ _ _ _; first | refine RunU.pass rfl rfl rfl rfl ?_ | refine RunU.pass_undef rfl rfl rfl ?_ | (guard_target =~ RunU _ _ _ _ (Oper.mk _ (Op.call ⟨Callee.value _, _, _⟩) _ _ _ _ :: _) _ _ _ _; first | refine RunU.doit rfl rfl (step_call (compared_c _ _) (.sh (.sh .nil)) (.sh shows_any (.sh shows_any .nil)) rfl) ?_) | refine RunU.doit rfl rfl step_any ?_ | ((fail_if_success (refine RunU.doit (rd := []) (up := []) rfl rfl ?_ ?_)); first | refine RunU.guard_dec rfl rfl (fun _ => ?_) (fun _ => ?_) | refine RunU.guard_not rfl rfl (fun _ => ?_) (fun _ => ?_) | refine RunU.guard rfl rfl (fun _ => ?_) (fun _ => ?_))) | refine Then.next ?_ | refine InBlock.next ?_ | refine Done.ret (.one (by first | exact .c rfl | exact .own rfl | exact .als rfl rfl | exact .ptr rfl rfl | exact .part rfl rfl rfl) (.one (by first | exact .c rfl | exact .own rfl | exact .als rfl rfl | exact .ptr rfl rfl | exact .part rfl rfl rfl) .nil)) (.sh (.sh (.sh (.sh .nil)))) ?_ rfl)
    case refine_1.refine_1 h3 h4 => exact ⟨j + 1, by omega, ⟨rfl, rfl, rfl, rfl, rfl, rfl, int_eq (cntTo_yes (by simpa using h4)), int_eq (by omega), trivial⟩, by omega⟩
    case refine_1.refine_2 h3 h4 => exact ⟨j + 1, by omega, ⟨rfl, rfl, rfl, rfl, rfl, rfl, int_eq (cntTo_no (by simpa using h4)), int_eq (by omega), trivial⟩, by omega⟩
    case refine_2 h3 =>
      have e : j = l.length := by omega
      subst e
      simp [spCount, spCode, h1]
theorem cntTo_congr {p q : Int → Prop} [DecidablePred p] [DecidablePred q] (h : ∀ x, p x ↔ q x) (l : List Int) : ∀ j, cntTo p l j = cntTo q l j
  | 0 => rfl
  | j + 1 => by simp only [cntTo, cntTo_congr h l j, h]
theorem implBelow_c (b : Int) (l : List Int) (top bot : Int) (hl : l.length ≤ 9223372036854775807) : CallA Try.prog 22 [aSp b l, aI top, aI bot] [rI (spCount (fun x => x * bot < top * b) b l top bot), rI (spCode b l top bot)] [] := by
  refine callA_of _ Try.func22 rfl Try.ntmps22 (by first | exact ⟨rfl, rfl⟩ | (simp only [List.all_cons, List.all_nil, V.solid, D.solid, D.solids, solids_ints, solids_bools, solids_LL, Bool.and_self, Bool.and_true, and_self]; done) | simp [V.solid, D.solid, D.solids, solids_lits, solids_ints, solids_bools, solids_LL]) ?_
  repeat' (first | (guard_target =~ WpA _ _ _ _ _ _; first | refine WpA.seq ?_ | refine WpA.drawU ?_ | refine WpA.regionU ?_ | refine WpA.block ?_ | refine WpA.ret ?_ | refine WpA.skip ?_ | refine WpA.exit ?_ | refine WpA.cond_true rfl ?_ | refine WpA.cond_false rfl ?_ | refine WpA.cond_ntrue rfl ?_ | refine WpA.cond_dec rfl (fun _ => ?_) (fun _ => ?_) | refine WpA.cond_not rfl (fun _ => ?_) (fun _ => ?_) | refine WpA.cond rfl (fun _ => ?_) (fun _ => ?_)) | (guard_target =~ RunU _ _ _ _ [] _ _ _ _; first | refine RunU.nilL ?_ | refine RunU.nilD (by kernel_rfl) ?_) | (guard_target =~ RunU _ _ _ _ (Oper.mk _ (Op.call ⟨Callee.value _, _, _⟩) _ _ _ none :: _) _ _ _ _; first | refine RunU.cons (step_call (countWhere_c b l top bot (-1) hl) (.sh (.sh (.sh (.sh .nil)))) (.shAgg rfl aggs_any (.sh shows_any (.sh shows_any (.sh shows_any .nil)))) rfl) ?_) | (guard_target =~ RunU _ _ _ _ (Oper.mk _ _ _ _ _ none :: _) _ _ _ _; refine RunU.cons step_any ?_) | refine Then.next ?_ | refine InBlock.next ?_ | refine Done.ret (.one (by first | exact .c rfl | exact .own rfl | exact .als rfl rfl | exact .ptr rfl rfl | exact .part rfl rfl rfl) (.one (by first | exact .c rfl | exact .own rfl | exact .als rfl rfl | exact .ptr rfl rfl | exact .part rfl rfl rfl) .nil)) (.sh (.sh (.sh .nil))) ?_ rfl)
  simp only [spCount]
  rw [cntTo_congr (q := fun x => x * bot < top * b) (fun x => by
    constructor
    · intro h
      split at h
      · assumption
      · split at h <;> simp at h
    · intro h; simp [h])]
theorem implMult_c (b : Int) (l : List Int) (top bot : Int) (hl : l.length ≤ 9223372036854775807) : CallA Try.prog 23 [aSp b l, aI top, aI bot] [rI (spCount (fun x => x * bot = top * b) b l top bot), rI (spCode b l top bot)] [] := by
  refine callA_of _ Try.func23 rfl Try.ntmps23 (by first | exact ⟨rfl, rfl⟩ | (simp only [List.all_cons, List.all_nil, V.solid, D.solid, D.solids, solids_ints, solids_bools, solids_LL, Bool.and_self, Bool.and_true, and_self]; done) | simp [V.solid, D.solid, D.solids, solids_lits, solids_ints, solids_bools, solids_LL]) ?_
  repeat' (first | (guard_target =~ WpA _ _ _ _ _ _; first | refine WpA.seq ?_ | refine WpA.drawU ?_ | refine WpA.regionU ?_ | refine WpA.block ?_ | refine WpA.ret ?_ | refine WpA.skip ?_ | refine WpA.exit ?_ | refine WpA.cond_true rfl ?_ | refine WpA.cond_false rfl ?_ | refine WpA.cond_ntrue rfl ?_ | refine WpA.cond_dec rfl (fun _ => ?_) (fun _ => ?_) | refine WpA.cond_not rfl (fun _ => ?_) (fun _ => ?_) | refine WpA.cond rfl (fun _ => ?_) (fun _ => ?_)) | (guard_target =~ RunU _ _ _ _ [] _ _ _ _; first | refine RunU.nilL ?_ | refine RunU.nilD (by kernel_rfl) ?_) | (guard_target =~ RunU _ _ _ _ (Oper.mk _ (Op.call ⟨Callee.value _, _, _⟩) _ _ _ none :: _) _ _ _ _; first | refine RunU.cons (step_call (countWhere_c b l top bot 0 hl) (.sh (.sh (.sh (.sh .nil)))) (.shAgg rfl aggs_any (.sh shows_any (.sh shows_any (.sh shows_any .nil)))) rfl) ?_) | (guard_target =~ RunU _ _ _ _ (Oper.mk _ _ _ _ _ none :: _) _ _ _ _; refine RunU.cons step_any ?_) | refine Then.next ?_ | refine InBlock.next ?_ | refine Done.ret (.one (by first | exact .c rfl | exact .own rfl | exact .als rfl rfl | exact .ptr rfl rfl | exact .part rfl rfl rfl) (.one (by first | exact .c rfl | exact .own rfl | exact .als rfl rfl | exact .ptr rfl rfl | exact .part rfl rfl rfl) .nil)) (.sh (.sh (.sh .nil))) ?_ rfl)
  simp only [spCount]
  rw [cntTo_congr (q := fun x => x * bot = top * b) (fun x => by
    constructor
    · intro h
      split at h
      · simp at h
      · split at h
        · simp at h
        · omega
    · intro h; simp [h])]
end Go.Proofs.Ytljhfjfccbpddaa
