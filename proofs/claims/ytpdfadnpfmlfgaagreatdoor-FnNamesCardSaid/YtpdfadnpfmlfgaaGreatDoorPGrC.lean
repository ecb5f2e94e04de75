/- What a graph is: the program's test. No condition. -/
import Derived.Test.YtpdfadnpfmlfgaaGreatDoorPTy
set_option linter.unusedVariables false
set_option linter.unusedSimpArgs false
namespace Go.Proofs.YtpdfadnpfmlfgaaGreatDoor
set_option maxHeartbeats 20000000
open Go.Pv
open Go.ChangeShapes Go.WideShapes Go.ChangeAt Go.RowKit
attribute [local irreducible] RunU WpA Step CallG CallNG Done DoneN
instance fnOk100 : FnOk Tryz.prog 100 := ⟨_, Tryz.func100, rfl, by decide⟩
instance fnOk64 : FnOk Tryz.prog 64 := ⟨_, Tryz.func64, rfl, by decide⟩
instance fnOk24 : FnOk Tryz.prog 24 := ⟨_, Tryz.func24, rfl, by decide⟩
def maxTo (l : List Int) : Nat → Int
 | 0 => l.getD 0 0
 | j + 1 => max (maxTo l j) (l.getD (j + 1) 0)
theorem max_c (l : List Int) (hl : l.length ≤ 1000000000) (h0 : 0 < l.length) : CallA Tryz.prog 24 [aL l] [rI (maxTo l (l.length - 1))] [] := by
 refine cA_ _ Tryz.func24 rfl Tryz.ntmps24 sO_ ?_
 repeat' (first | (refine w2_ ?_ ?_ <;> intro _) | refine goA ?_ | refine nxA ?_ | refine Done.ret (.one rA_ .nil) (.sh .nil) ?_ rfl)
 all_goals try (exfalso; omega)
 refine WpA.loop_slots (ι := Nat) (fun j => [(0, .c (.sl false 1 (ints l))), (3, .c (.lit (.int .i64 (maxTo l j)))), (4, .c (.lit (.int .i64 ((j : Int) + 1))))]) (fun j => j + 1 ≤ l.length) (fun j => l.length - j) 0 (by omega) ⟨rfl, rfl, rfl, trivial⟩ ?_
 intro j s nx hj
 by_cases h1 : j + 1 < l.length
 ·repeat' (first | (refine w2_ ?_ ?_ <;> intro _) | refine goA ?_ | refine nxA ?_ | refine Done.ret (.one rA_ .nil) (.sh .nil) ?_ rfl)
  all_goals try (exfalso; omega)
  exact ⟨j + 1, by omega, ⟨rfl, int_eq (by rw [Nat.mul_one]; rfl), int_eq (by omega), trivial⟩, by omega⟩
 ·have e : l.length - 1 = j := by omega
  repeat' (first | (refine w2_ ?_ ?_ <;> intro _) | refine goA ?_ | refine nxA ?_ | refine Done.ret (.one rA_ .nil) (.sh .nil) ?_ rfl)
  all_goals try (exfalso; omega)
  rw [e]
end Go.Proofs.YtpdfadnpfmlfgaaGreatDoor
