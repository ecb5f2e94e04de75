/- FnSpectra: spectra of powers have (a - 1) (b - 1) fractions, those of branches as many as the Milnor number, and both are symmetric; the orders of eigenvalues of a branch are those of its zeta list; for every code of draws. No condition. -/
import Derived.Test.YtohhkbbjdjibgaaFCtP
import Derived.Test.YtohhkbbjdjibgaaFByA
import Derived.Test.YtohhkbbjdjibgaaRows
set_option linter.unusedVariables false
set_option linter.unusedSimpArgs false
namespace Go.Proofs.Ytohhkbbjdjibgaa
set_option maxRecDepth 100000
set_option maxHeartbeats 20000000
open Go.Pv
open Go.ChangeShapes Go.WideShapes Go.ChangeAt Go.RowKit
attribute [local irreducible] RunU WpA Step CallG CallNG Done DoneN
theorem sees_FnSpectra (xs : List Arg) (has : Sees Try.prog Try.f3.params.toList xs) : CallA Try.prog 3 xs [.one (.lit (.bool true))] [] := by
 rw [Try.params3] at has
 obtain ⟨l, xs, rfl, hb, h⟩ := sees_by Try.underlying22 Try.underlying5 (by kernel_rfl) has
 obtain rfl := sees_nil h
 exact lawFS_c hb
theorem lifted_FnSpectra (os : Os) (started : os.Started) (H : Type) (enc : TypeId × Value → H) :
  ReturnsInHanded {} Try.checked os 3 .any (Rows.fnSpectraSpec.pre6 enc Try.prog Try.f3 Rows.fnSpectraRow.domain false) (Rows.fnSpectraSpec.post enc Try.prog Try.f3 false true false false) := by
 refine returnsInHanded_of_change (C := Try.checked) own started (by kernel_rfl) Try.func3
  (ChangeSpec.witness6 (enc := enc) (C := Try.checked) false ⟨#[], #[.slice none 0 0], []⟩ 8 (by kernel_rfl) (by kernel_rfl) (by kernel_rfl) (by kernel_rfl)) ?_
 intro W base args ds gs before hval hW _ _
 refine law_contract (P := Try.prog) laidOut (by kernel_rfl) rfl (by kernel_rfl) Try.underlying4 (fun ds h => ?_) sees_FnSpectra W base args ds gs before hval hW
 rw [Try.params3] at h
 match ds, h with
 | [_], _ => exact ⟨rfl, rfl, rfl⟩
theorem said_FnSpectra : Rows.FnSpectraSaid :=
 OpenClaim.holds_of_wide 3 Try.f3 rfl rfl rfl rfl rfl rfl rfl ⟨rfl, rfl, rfl, rfl, rfl⟩ rfl rfl rfl rfl rfl (by kernel_rfl) Try.func3 (by kernel_rfl)
  (of_decide_eq_true (by kernel_rfl)) (by unfold Func.isWrapper; first | (rw [if_pos (by decide +kernel)]; kernel_rfl) | (rw [if_neg (by decide +kernel)]; exact ⟨rfl, rfl⟩))
  (fun os started H enc _ => lifted_FnSpectra os started H enc)
end Go.Proofs.Ytohhkbbjdjibgaa
