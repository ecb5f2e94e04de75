/- Lists of branches within bounds: the program and its reference make the same list. No condition. -/
import Derived.Test.YtlfffahomddigaaZBrA
import Derived.Test.YtlfffahomddigaaZNuA
namespace Go.Proofs.Ytlfffahomddigaa
set_option maxHeartbeats 20000000
set_option linter.unusedVariables false
set_option linter.unusedSimpArgs false
open Go.Pv
open Go.ChangeShapes Go.WideShapes Go.ChangeAt Go.RowKit
attribute [local irreducible] RunU WpA Step CallG CallNG Done DoneN
instance fnOk71 : FnOk Try.prog 71 := ⟨_, Try.func71, rfl, by decide⟩
def divTo (l : List Int) : Nat → Int
  | 0 => 0
  | j + 1 => (Int.gcd (divTo l j) (l.getD j 0) : Int)
def divs (l : List Int) : Nat → List Int
  | 0 => []
  | j + 1 => divs l j ++ [divTo l (j + 1)]
theorem divs_len (l : List Int) : ∀ j, (divs l j).length = j
  | 0 => rfl
  | j + 1 => by simp [divs, divs_len l j]
theorem divTo_bound {l : List Int} (h : ∀ i, 0 ≤ l.getD i 0 ∧ l.getD i 0 ≤ 1000000000) : ∀ j, 0 ≤ divTo l j ∧ divTo l j ≤ 1000000000
  | 0 => by simp [divTo]
  | j + 1 => by
    have h1 := divTo_bound h j
    have h2 := h j
    simp only [divTo]
    refine ⟨by omega, ?_⟩
    by_cases h0 : l.getD j 0 = 0
    · rw [h0, Int.gcd_zero_right]; omega
    · have := Int.gcd_le_right (a := divTo l j) (show 0 < l.getD j 0 by omega)
      omega
theorem divisors_c (l : List Int) (hl : l.length ≤ 1000000000) (hb : ∀ i, 0 ≤ l.getD i 0 ∧ l.getD i 0 ≤ 1000000000) : CallA Try.prog 71 [aL l] [rL (divs l l.length)] [] := by
  refine callA_of _ Try.func71 rfl Try.ntmps71 (by first | exact ⟨rfl, rfl⟩ | (simp only [List.all_cons, List.all_nil, V.solid, D.solid, D.solids, solids_ints, solids_bools, solids_LL, Bool.and_self, Bool.and_true, and_self]; done) | simp [V.solid, D.solid, D.solids, solids_lits, solids_ints, solids_bools, solids_LL]) ?_
  repeat' (first | (guard_target =~ WpA _ _ _ _ _ _; first | refine WpA.seq ?_ | refine WpA.drawU ?_ | refine WpA.regionU ?_ | refine WpA.block ?_ | refine WpA.ret ?_ | refine WpA.skip ?_ | refine WpA.exit ?_ | refine WpA.cond_true rfl ?_ | refine WpA.cond_false rfl ?_ | refine WpA.cond_ntrue rfl ?_ | refine WpA.cond_dec rfl (fun _ => ?_) (fun _ => ?_) | refine WpA.cond_not rfl (fun _ => ?_) (fun _ => ?_) | refine WpA.cond rfl (fun _ => ?_) (fun _ => ?_)) | (guard_target =~ RunU _ _ _ _ [] _ _ _ _; first | refine RunU.nilL ?_ | refine RunU.nilD (by kernel_rfl) ?_) | (guard_target =~ RunU _ _ _ _ (Oper.mk _ _ _ _ _ none :: _) _ _ _ _; refine RunU.cons step_any ?_) | refine Then.next ?_ | refine InBlock.next ?_ | refine Done.ret (.one (by first | exact .c rfl | exact .own rfl | exact .als rfl rfl | exact .ptr rfl rfl | exact .part rfl rfl rfl) .nil) (.sh .nil) ?_ rfl)
  refine WpA.loop_slots2 (fun j id => [(8, .c (.sl false 1 (ints l))), (9, .c (.lit (.int .i64 l.length))), (3, .own id (.sl true 1 (ints (divs l j)))), (4, .c (.lit (.int .i64 (divTo l j)))), (10, .c (.lit (.int .i64 (j : Int))))]) (fun j => j ≤ l.length) (fun j => l.length - j) 0 3 (by simp) ⟨rfl, rfl, rfl, rfl, rfl, trivial⟩ ?_
  intro j id s nx hj
  have h1 := divTo_bound hb j
  have h2 := hb (j * 1)
  have h3 := divs_len l j
  repeat' (first | (guard_target =~ WpA _ _ _ _ _ _; first | refine WpA.seq ?_ | refine WpA.drawU ?_ | refine WpA.regionU ?_ | refine WpA.block ?_ | refine WpA.ret ?_ | refine WpA.skip ?_ | refine WpA.exit ?_ | refine WpA.cond_true rfl ?_ | refine WpA.cond_false rfl ?_ | refine WpA.cond_ntrue rfl ?_ | refine WpA.cond_dec rfl (fun _ => ?_) (fun _ => ?_) | refine WpA.cond_not rfl (fun _ => ?_) (fun _ => ?_) | refine WpA.cond rfl (fun _ => ?_) (fun _ => ?_)) | (guard_target =~ RunU _ _ _ _ [] _ _ _ _; first | refine RunU.nilL ?_ | refine RunU.nilD (by kernel_rfl) ?_) | (guard_target =~ RunU _ _ _ _ (Oper.mk _ (Op.call ⟨Callee.value _, _, _⟩) _ _ _ none :: _) _ _ _ _; first | refine RunU.cons (step_call (divisor_c (divTo l j) (l.getD (j * 1) 0) (by omega) (by omega)) (.sh (.sh .nil)) (.sh shows_any (.sh shows_any .nil)) rfl) ?_) | (guard_target =~ RunU _ _ _ _ (Oper.mk _ _ _ _ _ none :: _) _ _ _ _; refine RunU.cons step_any ?_) | refine Then.next ?_ | refine InBlock.next ?_ | refine Done.ret (.one (by first | exact .c rfl | exact .own rfl | exact .als rfl rfl | exact .ptr rfl rfl | exact .part rfl rfl rfl) .nil) (.sh .nil) ?_ rfl)
  case refine_1 h4 =>
    have e : (((divTo l j).gcd (l.getD (j * 1) 0) : Nat) : Int) = divTo l (j + 1) := by rw [Nat.mul_one]; rfl
    have e2 : divs l j ++ [(((divTo l j).gcd (l.getD (j * 1) 0) : Nat) : Int)] = divs l (j + 1) := by rw [e]; rfl
    exact ⟨j + 1, by omega, ⟨_, rfl, rfl, by exact own_ints e2, int_eq e, int_eq (by omega), trivial⟩, by omega⟩
  case refine_2 h4 =>
    have e : j = l.length := by omega
    subst e
    rfl
end Go.Proofs.Ytlfffahomddigaa
