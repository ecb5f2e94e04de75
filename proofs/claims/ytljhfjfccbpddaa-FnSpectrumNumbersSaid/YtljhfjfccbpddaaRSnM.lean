/- FnSpectrumNumbers: the statement. No condition. -/
import Derived.Test.YtljhfjfccbpddaaRSnL
import Derived.Test.YtljhfjfccbpddaaRByA
import Derived.Test.YtljhfjfccbpddaaRows
namespace Go.Proofs.Ytljhfjfccbpddaa
set_option maxHeartbeats 20000000
set_option linter.unusedVariables false
set_option linter.unusedSimpArgs false
open Go.Pv
open Go.ChangeShapes Go.WideShapes Go.ChangeAt Go.RowKit
attribute [local irreducible] RunU WpA Step CallG CallNG Done DoneN
theorem sees_FnSpectrumNumbers (xs : List Arg) (has : Sees Try.prog Try.f4.params.toList xs) : CallA Try.prog 4 xs [.one (.lit (.bool true))] [] := by
  rw [Try.params4] at has
  obtain ⟨l, xs, rfl, hb, h⟩ := sees_by Try.underlying36 Try.underlying5 (by kernel_rfl) has
  obtain rfl := sees_nil h
  exact lawSn_c hb
set_option maxRecDepth 100000 in
theorem lifted_FnSpectrumNumbers (os : Os) (started : os.Started) (H : Type) (enc : TypeId × Value → H) :
    ReturnsInHanded {} Try.checked os 4 .any (Rows.fnSpectrumNumbersSpec.pre6 enc Try.prog Try.f4 Rows.fnSpectrumNumbersRow.domain false) (Rows.fnSpectrumNumbersSpec.post enc Try.prog Try.f4 false true false false) := by
  refine returnsInHanded_of_change (C := Try.checked) own started (by kernel_rfl) Try.func4
    (ChangeSpec.witness6 (enc := enc) (C := Try.checked) false ⟨#[], #[.slice none 0 0], []⟩ 8 (by kernel_rfl) (by kernel_rfl) (by kernel_rfl) (by kernel_rfl)) ?_
  intro W base args ds gs before hval hW _ _
  refine law_contract (P := Try.prog) laidOut (by kernel_rfl) rfl (by kernel_rfl) Try.underlying4 (fun ds h => ?_) sees_FnSpectrumNumbers W base args ds gs before hval hW
  rw [Try.params4] at h
  match ds, h with
  | [_], _ => exact ⟨rfl, rfl, rfl⟩
theorem said_FnSpectrumNumbers : Rows.FnSpectrumNumbersSaid :=
  OpenClaim.holds_of_wide 4 Try.f4 rfl rfl rfl rfl rfl rfl rfl ⟨rfl, rfl, rfl, rfl, rfl⟩ rfl rfl rfl rfl rfl (by kernel_rfl) Try.func4 (by kernel_rfl)
    (of_decide_eq_true (by kernel_rfl)) (by unfold Func.isWrapper; first | (rw [if_pos (by decide +kernel)]; kernel_rfl) | (rw [if_neg (by decide +kernel)]; exact ⟨rfl, rfl⟩))
    (fun os started H enc _ => lifted_FnSpectrumNumbers os started H enc)
end Go.Proofs.Ytljhfjfccbpddaa
