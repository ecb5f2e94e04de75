/- Contracts of the functions on lists of lists of numbers: copying, comparing, marking, and the lists of codes. No condition. -/
import Derived.Test.YtneomlnhlpkbjaaGreatMSpA
set_option linter.unusedVariables false
set_option linter.unusedSimpArgs false
namespace Go.Proofs.YtneomlnhlpkbjaaGreat
set_option maxHeartbeats 20000000
open Go.Pv
open Go.ChangeShapes Go.WideShapes Go.ChangeAt Go.RowKit
attribute [local irreducible] RunU WpA Step CallG CallNG Done DoneN
instance fnOk165 : FnOk Tryz.prog 165 := ⟨_, Tryz.func165, rfl, by decide⟩
instance fnOk155 : FnOk Tryz.prog 155 := ⟨_, Tryz.func155, rfl, by decide⟩
abbrev aLL (L : List (List Int)) : Arg := .sh (.one (.sl false 1 (LLs L)))
abbrev rLL (L : List (List Int)) : V := .one (.sl true 1 (LL L))
abbrev mLL (L : List (List Int)) : Arg := .mv (.one (.sl true 1 (LL L)))
theorem l01Own_c (l : List Int) (h : l.length ≤ 1099511627000) : CallA Tryz.prog 165 [aL l] [rL l] [] := by
  refine callA_of _ Tryz.func165 rfl Tryz.ntmps165 solid_any ?_
  repeat' (first | refine Two.mk (fun _ => ?_) (fun _ => ?_) | refine goA ?_ | refine nxA ?_ | refine Done.ret (.one res_any .nil) (.sh .nil) ?_ rfl)
  simp
theorem clone_c (l : List Int) (h : l.length ≤ 1099511627000) : CallA Tryz.prog 155 [aL l] [rL l] [] := by
  refine callA_of _ Tryz.func155 rfl Tryz.ntmps155 solid_any ?_
  repeat' (first | refine Two.mk (fun _ => ?_) (fun _ => ?_) | refine goA ?_ | refine nxA ?_ | refine Done.ret (.one res_any .nil) (.sh .nil) ?_ rfl)
  refine RunU.eql_nil (by exact .sh rfl) rfl fun b hb => ?_
  repeat' (first | refine Two.mk (fun _ => ?_) (fun _ => ?_) | refine goA ?_ | refine nxA ?_ | refine Done.ret (.one res_any .nil) (.sh .nil) ?_ rfl)
  all_goals first | simp; done | simp_all
end Go.Proofs.YtneomlnhlpkbjaaGreat
