/- Lists of branches within bounds: the program and its reference make the same list. No condition. -/
import Derived.Test.YtakecbnclmjloaaWAcA
namespace Go.Proofs.Ytakecbnclmjloaa
set_option maxHeartbeats 20000000
set_option linter.unusedVariables false
set_option linter.unusedSimpArgs false
open Go.Pv
open Go.ChangeShapes Go.WideShapes Go.ChangeAt Go.RowKit
attribute [local irreducible] RunU WpA Step CallG CallNG Done DoneN
instance fnOk76 : FnOk Try.prog 76 := ⟨_, Try.func76, rfl, by decide⟩
instance fnOk38 : FnOk Try.prog 38 := ⟨_, Try.func38, rfl, by decide⟩
instance fnOk40 : FnOk Try.prog 40 := ⟨_, Try.func40, rfl, by decide⟩
instance fnOk42 : FnOk Try.prog 42 := ⟨_, Try.func42, rfl, by decide⟩
abbrev aBr (l : List Int) : Arg := .sh (.agg [.sl false 1 (ints l)])
theorem eqBranch_c (a b : List Int) (ha : a.length ≤ 9223372036854775807) (hb : b.length ≤ 9223372036854775807) : CallA Try.prog 76 [aBr a, aBr b] [rB (decide (a = b))] [] := by
  refine callA_of _ Try.func76 rfl Try.ntmps76 (by first | exact ⟨rfl, rfl⟩ | (simp only [List.all_cons, List.all_nil, V.solid, D.solid, D.solids, solids_ints, solids_bools, solids_LL, Bool.and_self, Bool.and_true, and_self]; done) | simp [V.solid, D.solid, D.solids, solids_lits, solids_ints, solids_bools, solids_LL]) ?_
  repeat' (first | (guard_target =~ WpA _ _ _ _ _ _; first | refine WpA.seq ?_ | refine WpA.drawU ?_ | refine WpA.regionU ?_ | refine WpA.block ?_ | refine WpA.ret ?_ | refine WpA.skip ?_ | refine WpA.exit ?_ | refine WpA.cond_true rfl ?_ | refine WpA.cond_false rfl ?_ | refine WpA.cond_ntrue rfl ?_ | refine WpA.cond_dec rfl (fun _ => ?_) (fun _ => ?_) | refine WpA.cond_not rfl (fun _ => ?_) (fun _ => ?_) | refine WpA.cond rfl (fun _ => ?_) (fun _ => ?_)) | (guard_target =~ RunU _ _ _ _ [] _ _ _ _; first | refine RunU.nilL ?_ | refine RunU.nilD (by kernel_rfl) ?_) | (guard_target =~ RunU _ _ _ _ (Oper.mk _ (Op.call ⟨Callee.value _, _, _⟩) _ _ _ none :: _) _ _ _ _; first | refine RunU.cons (step_call (eqInt64S_c a b ha hb) (.sh (.sh .nil)) (.sh shows_any (.sh shows_any .nil)) rfl) ?_) | (guard_target =~ RunU _ _ _ _ (Oper.mk _ _ _ _ _ none :: _) _ _ _ _; refine RunU.cons step_any ?_) | refine Then.next ?_ | refine InBlock.next ?_ | refine Done.ret (.one (by first | exact .c rfl | exact .own rfl | exact .als rfl rfl | exact .ptr rfl rfl | exact .part rfl rfl rfl) .nil) (.sh (.sh .nil)) ?_ rfl)
  all_goals simp_all
theorem markBranchS_c (L : List (List Int)) (k : Int) (hL : L.length ≤ 100000) (hl : ∀ i, (L.getD i []).length ≤ 1000) (hk : 0 ≤ k ∧ k ≤ 1000000) : CallA Try.prog 40 [.io (.sl true 1 (LL L)), aI k] [rI (k + tot L L.length)] [.sl true 1 (LL (marksTo k L L.length))] := by
  refine callA_of _ Try.func40 rfl Try.ntmps40 (by first | exact ⟨rfl, rfl⟩ | (simp only [List.all_cons, List.all_nil, V.solid, D.solid, D.solids, solids_ints, solids_bools, solids_LL, Bool.and_self, Bool.and_true, and_self]; done) | simp [V.solid, D.solid, D.solids, solids_lits, solids_ints, solids_bools, solids_LL]) ?_
  repeat' (first | (guard_target =~ WpA _ _ _ _ _ _; first | refine WpA.seq ?_ | refine WpA.drawU ?_ | refine WpA.regionU ?_ | refine WpA.block ?_ | refine WpA.ret ?_ | refine WpA.skip ?_ | refine WpA.exit ?_ | refine WpA.cond_true rfl ?_ | refine WpA.cond_false rfl ?_ | refine WpA.cond_ntrue rfl ?_ | refine WpA.cond_dec rfl (fun _ => ?_) (fun _ => ?_) | refine WpA.cond_not rfl (fun _ => ?_) (fun _ => ?_) | refine WpA.cond rfl (fun _ => ?_) (fun _ => ?_)) | (guard_target =~ RunU _ _ _ _ [] _ _ _ _; first | refine RunU.nilL ?_ | refine RunU.nilD (by kernel_rfl) ?_) | (guard_target =~ RunU _ _ _ _ (Oper.mk _ _ _ _ _ none :: _) _ _ _ _; refine RunU.cons step_any ?_) | refine Then.next ?_ | refine InBlock.next ?_ | refine Done.ret (.one (by first | exact .c rfl | exact .own rfl | exact .als rfl rfl | exact .ptr rfl rfl | exact .part rfl rfl rfl) .nil) (.io rfl (.sh .nil)) ?_ rfl | refine Done.ret (.one (by first | exact .c rfl | exact .own rfl | exact .als rfl rfl | exact .ptr rfl rfl | exact .part rfl rfl rfl) .nil) (.io rfl (.sh .nil)) ?_ ?_)
  refine WpA.loop_slots2 (fun j id => [(0, .own id (.sl true 1 (LL (markedL k L j)))), (1, .c (.lit (.int .i64 (k + tot L j)))), (5, .c (.lit (.int .i64 (j : Int))))]) (fun j => j ≤ L.length) (fun j => L.length - j) 0 0 (by simp) ⟨by exact own_LL (by simp [markedL, marksTo]), int_eq (by simp [tot]), rfl, trivial⟩ ?_
  intro j id s nx hj
  have hml := markedL_len k L j hj
  have hmj := markedL_at k L j
  have ht := tot_le hl j
  have hlj := hl j
  repeat' (first | (guard_target =~ WpA _ _ _ _ _ _; first | refine WpA.seq ?_ | refine WpA.drawU ?_ | refine WpA.regionU ?_ | refine WpA.block ?_ | refine WpA.ret ?_ | refine WpA.skip ?_ | refine WpA.exit ?_ | refine WpA.cond_true rfl ?_ | refine WpA.cond_false rfl ?_ | refine WpA.cond_ntrue rfl ?_ | refine WpA.cond_dec rfl (fun _ => ?_) (fun _ => ?_) | refine WpA.cond_not rfl (fun _ => ?_) (fun _ => ?_) | refine WpA.cond rfl (fun _ => ?_) (fun _ => ?_)) | (guard_target =~ RunU _ _ _ _ [] _ _ _ _; first | refine RunU.nilL ?_ | refine RunU.nilD (by kernel_rfl) ?_) | (guard_target =~ RunU _ _ _ _ (Oper.mk _ (Op.call ⟨Callee.value _, _, _⟩) _ _ _ none :: _) _ _ _ _; first | refine RunU.cons (step_call_io1 (mark_c ((markedL k L j).getD (j * 1) []) (k + tot L j) (by rw [Nat.mul_one, hmj]; omega) (by omega)) io_any (.sh .nil) (.sh shows_any .nil) (by exact rfl) (by exact rfl) rfl) ?_) | (guard_target =~ RunU _ _ _ _ (Oper.mk _ _ _ _ _ none :: _) _ _ _ _; refine RunU.cons step_any ?_) | refine Then.next ?_ | refine InBlock.next ?_ | refine Done.ret (.one (by first | exact .c rfl | exact .own rfl | exact .als rfl rfl | exact .ptr rfl rfl | exact .part rfl rfl rfl) .nil) (.io rfl (.sh .nil)) ?_ rfl | refine Done.ret (.one (by first | exact .c rfl | exact .own rfl | exact .als rfl rfl | exact .ptr rfl rfl | exact .part rfl rfl rfl) .nil) (.io rfl (.sh .nil)) ?_ ?_)
  case refine_1 h3 =>
    have hlt : j < L.length := by omega
    have e1 : (markedL k L j).set (j * 1) (marks (k + tot L j) ((markedL k L j).getD (j * 1) []).length) = markedL k L (j + 1) := by
      rw [Nat.mul_one, hmj]; exact markedL_step k L j hlt
    have e2 : k + tot L j + ((markedL k L j).getD (j * 1) []).length = k + (tot L (j + 1) : Nat) := by
      rw [Nat.mul_one, hmj, tot]; omega
    exact ⟨j + 1, by omega, ⟨_, by exact own_put_LL (by omega) e1, int_eq e2, int_eq (by omega), trivial⟩, by omega⟩
  case refine_2.refine_1 h3 =>
    have e : j = L.length := by omega
    subst e
    rfl
  case refine_2.refine_2 h3 =>
    have e : j = L.length := by omega
    subst e
    simp [markedL]
theorem heldBranchS_c (M : List (List Int)) (k : Int) (hm : Held k M) (hL : M.length ≤ 100000) (hl : ∀ i, (M.getD i []).length ≤ 1000) (hk : 0 ≤ k ∧ k ≤ 1000000) : CallA Try.prog 42 [aLL M, aI k] [rI (k + tot M M.length)] [] := by
  refine callA_of _ Try.func42 rfl Try.ntmps42 (by first | exact ⟨rfl, rfl⟩ | (simp only [List.all_cons, List.all_nil, V.solid, D.solid, D.solids, solids_ints, solids_bools, solids_LL, Bool.and_self, Bool.and_true, and_self]; done) | simp [V.solid, D.solid, D.solids, solids_lits, solids_ints, solids_bools, solids_LL]) ?_
  repeat' (first | (guard_target =~ WpA _ _ _ _ _ _; first | refine WpA.seq ?_ | refine WpA.drawU ?_ | refine WpA.regionU ?_ | refine WpA.block ?_ | refine WpA.ret ?_ | refine WpA.skip ?_ | refine WpA.exit ?_ | refine WpA.cond_true rfl ?_ | refine WpA.cond_false rfl ?_ | refine WpA.cond_ntrue rfl ?_ | refine WpA.cond_dec rfl (fun _ => ?_) (fun _ => ?_) | refine WpA.cond_not rfl (fun _ => ?_) (fun _ => ?_) | refine WpA.cond rfl (fun _ => ?_) (fun _ => ?_)) | (guard_target =~ RunU _ _ _ _ [] _ _ _ _; first | refine RunU.nilL ?_ | refine RunU.nilD (by kernel_rfl) ?_) | (guard_target =~ RunU _ _ _ _ (Oper.mk _ _ _ _ _ none :: _) _ _ _ _; refine RunU.cons step_any ?_) | refine Then.next ?_ | refine InBlock.next ?_ | refine Done.ret (.one (by first | exact .c rfl | exact .own rfl | exact .als rfl rfl | exact .ptr rfl rfl | exact .part rfl rfl rfl) .nil) (.sh (.sh .nil)) ?_ rfl)
  refine WpA.loop_slots (ι := Nat) (fun j => [(0, .c (.sl false 1 (LLs M))), (1, .c (.lit (.int .i64 (k + tot M j)))), (5, .c (.lit (.int .i64 (j : Int))))]) (fun j => j ≤ M.length) (fun j => M.length - j) 0 (by simp) ⟨rfl, int_eq (by simp [tot]), rfl, trivial⟩ ?_
  intro j s nx hj
  have ht := tot_le hl j
  have hlj := hl j
  by_cases hlt : j < M.length
  · have hmj := hm j hlt
    repeat' (first | (guard_target =~ WpA _ _ _ _ _ _; first | refine WpA.seq ?_ | refine WpA.drawU ?_ | refine WpA.regionU ?_ | refine WpA.block ?_ | refine WpA.ret ?_ | refine WpA.skip ?_ | refine WpA.exit ?_ | refine WpA.cond_true rfl ?_ | refine WpA.cond_false rfl ?_ | refine WpA.cond_ntrue rfl ?_ | refine WpA.cond_dec rfl (fun _ => ?_) (fun _ => ?_) | refine WpA.cond_not rfl (fun _ => ?_) (fun _ => ?_) | refine WpA.cond rfl (fun _ => ?_) (fun _ => ?_)) | (guard_target =~ RunU _ _ _ _ [] _ _ _ _; first | refine RunU.nilL ?_ | refine RunU.nilD (by kernel_rfl) ?_) | (guard_target =~ RunU _ _ _ _ (Oper.mk _ (Op.call ⟨Callee.value _, _, _⟩) _ _ _ none :: _) _ _ _ _; first | refine RunU.cons (step_call (held_c (M.getD (j * 1) []) (k + tot M j) (by rw [Nat.mul_one]; exact hmj) (by rw [Nat.mul_one]; omega) (by omega)) (.sh (.sh .nil)) (.sh shows_any (.sh shows_any .nil)) rfl) ?_) | (guard_target =~ RunU _ _ _ _ (Oper.mk _ _ _ _ _ none :: _) _ _ _ _; refine RunU.cons step_any ?_) | refine Then.next ?_ | refine InBlock.next ?_ | refine Done.ret (.one (by first | exact .c rfl | exact .own rfl | exact .als rfl rfl | exact .ptr rfl rfl | exact .part rfl rfl rfl) .nil) (.sh (.sh .nil)) ?_ rfl)
    case refine_1.refine_1 h3 h4 => exact absurd h4 (by omega)
    case refine_1.refine_2 h3 h4 => exact ⟨j + 1, by omega, ⟨rfl, int_eq (by rw [Nat.mul_one, tot]; omega), int_eq (by omega), trivial⟩, by omega⟩
    case refine_2 h3 => exact absurd hlt (by omega)
  · have e : j = M.length := by omega
    subst e
    repeat' (first | (guard_target =~ WpA _ _ _ _ _ _; first | refine WpA.seq ?_ | refine WpA.drawU ?_ | refine WpA.regionU ?_ | refine WpA.block ?_ | refine WpA.ret ?_ | refine WpA.skip ?_ | refine WpA.exit ?_ | refine WpA.cond_true rfl ?_ | refine WpA.cond_false rfl ?_ | refine WpA.cond_ntrue rfl ?_ | refine WpA.cond_dec rfl (fun _ => ?_) (fun _ => ?_) | refine WpA.cond_not rfl (fun _ => ?_) (fun _ => ?_) | refine WpA.cond rfl (fun _ => ?_) (fun _ => ?_)) | (guard_target =~ RunU _ _ _ _ [] _ _ _ _; first | refine RunU.nilL ?_ | refine RunU.nilD (by kernel_rfl) ?_) | (guard_target =~ RunU _ _ _ _ (Oper.mk _ _ _ _ _ none :: _) _ _ _ _; refine RunU.cons step_any ?_) | refine Then.next ?_ | refine InBlock.next ?_ | refine Done.ret (.one (by first | exact .c rfl | exact .own rfl | exact .als rfl rfl | exact .ptr rfl rfl | exact .part rfl rfl rfl) .nil) (.sh (.sh .nil)) ?_ rfl)
    case refine_1 h3 => exact absurd h3 (by omega)
    case refine_2 h3 => rfl
end Go.Proofs.Ytakecbnclmjloaa
namespace Go.Proofs.Ytakecbnclmjloaa
set_option maxHeartbeats 20000000
set_option linter.unusedVariables false
set_option linter.unusedSimpArgs false
open Go.Pv
open Go.ChangeShapes Go.WideShapes Go.ChangeAt Go.RowKit
attribute [local irreducible] RunU WpA Step CallG CallNG Done DoneN
instance fnOk80 : FnOk Try.prog 80 := ⟨_, Try.func80, rfl, by decide⟩
instance fnOk102 : FnOk Try.prog 102 := ⟨_, Try.func102, rfl, by decide⟩
instance fnOk107 : FnOk Try.prog 107 := ⟨_, Try.func107, rfl, by decide⟩
end Go.Proofs.Ytakecbnclmjloaa
namespace Go.Proofs.Ytakecbnclmjloaa
set_option maxHeartbeats 20000000
set_option linter.unusedVariables false
set_option linter.unusedSimpArgs false
open Go.Pv
open Go.ChangeShapes Go.WideShapes Go.ChangeAt Go.RowKit
attribute [local irreducible] RunU WpA Step CallG CallNG Done DoneN
instance fnOk97 : FnOk Try.prog 97 := ⟨_, Try.func97, rfl, by decide⟩
def divTo (l : List Int) : Nat → Int
  | 0 => 0
  | j + 1 => (Int.gcd (divTo l j) (l.getD j 0) : Int)
def divs (l : List Int) : Nat → List Int
  | 0 => []
  | j + 1 => divs l j ++ [divTo l (j + 1)]
end Go.Proofs.Ytakecbnclmjloaa
