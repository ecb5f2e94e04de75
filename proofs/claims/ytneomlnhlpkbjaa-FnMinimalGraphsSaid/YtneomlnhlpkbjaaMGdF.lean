/- FnFundamentalCycles: the fundamental cycle has positive numbers, no product of the matrix and it is positive, and a graph is rational exactly if its sum is -2, for every code of draws. No condition. -/
import Derived.Test.YtneomlnhlpkbjaaMGdC
import Derived.Test.YtneomlnhlpkbjaaMHcA
import Derived.Test.YtneomlnhlpkbjaaRows
set_option linter.unusedVariables false
set_option linter.unusedSimpArgs false
namespace Go.Proofs.Ytneomlnhlpkbjaa
set_option maxHeartbeats 20000000
open Go.Pv
open Go.ChangeShapes Go.WideShapes Go.ChangeAt Go.RowKit
attribute [local irreducible] RunU WpA Step CallG CallNG Done DoneN
theorem own : ownKnob Try.prog.godebug = none := by kernel_rfl
theorem laidOut : laidOutB Try.prog = true := by kernel_rfl
instance fnOk22 : FnOk Try.prog 22 := ⟨_, Try.func22, rfl, by decide⟩
instance fnOk4 : FnOk Try.prog 4 := ⟨_, Try.func4, rfl, by decide⟩
theorem likeI_c (l : List Int) (hl : l.length ≤ 1000000) : CallA Try.prog 22 [aL l, aL l] [rB true] [] := by
  refine callA_of _ Try.func22 rfl Try.ntmps22 solid_any ?_
  repeat' (first | refine Two.mk (fun _ => ?_) (fun _ => ?_) | refine goA ?_ | (refine neA ?_; first | refine nxA ?_ | refine Done.ret (.one res_any .nil) (.sh (.sh .nil)) ?_ rfl) | fail)
  all_goals try (exfalso; simp_all; done)
  refine WpA.loop_slots (ι := Nat) (fun j => [(0, .c (.sl false 1 (ints l))), (1, .c (.sl false 1 (ints l))), (5, .c (.lit (.int .i64 j)))]) (fun j => j ≤ l.length) (fun j => l.length - j) 0 (by omega) ⟨rfl, rfl, rfl, trivial⟩ ?_
  intro j s nx hj
  by_cases hlt : j < l.length
  · repeat' (first | refine Two.mk (fun _ => ?_) (fun _ => ?_) | refine goA ?_ | (refine neA ?_; first | refine nxA ?_ | refine Done.ret (.one res_any .nil) (.sh (.sh .nil)) ?_ rfl) | fail)
    all_goals try (exfalso; simp_all; done)
    all_goals try (exfalso; omega)
    all_goals exact ⟨j + 1, by omega, ⟨rfl, rfl, int_eq (by omega), trivial⟩, by omega⟩
  · repeat' (first | refine Two.mk (fun _ => ?_) (fun _ => ?_) | refine goA ?_ | (refine neA ?_; first | refine nxA ?_ | refine Done.ret (.one res_any .nil) (.sh (.sh .nil)) ?_ rfl) | fail)
    all_goals first | rfl | (exfalso; omega)
theorem bigG_c (l : List Int) (hl : l.length ≤ 9223372036854775807) : CallA Try.prog 4 [aBy l] [rB (decide (4096 < l.length))] [] := by
  have e : decide (4096 < l.length) = decide ((l.length : Int) > 4096) := decide_eq_decide.2 (by omega)
  rw [e]
  refine callA_of _ Try.func4 rfl Try.ntmps4 solid_any ?_
  repeat' (first | refine Two.mk (fun _ => ?_) (fun _ => ?_) | refine goA ?_ | (refine neA ?_; first | refine nxA ?_ | refine Done.ret (.one res_any .nil) (.sh .nil) ?_ rfl) | fail)
  all_goals rfl
end Go.Proofs.Ytneomlnhlpkbjaa
