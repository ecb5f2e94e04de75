/- The law on the lists of codes: the program answers as its reference does, for every input. No condition. -/
import Derived.Test.YtnkdoilpofboeaaAcB
import Derived.Test.YtnkdoilpofboeaaRows
namespace Go.Proofs.Ytnkdoilpofboeaa
open Go.Pv
open Go.ChangeShapes Go.WideShapes Go.ChangeAt Go.RowKit
attribute [local irreducible] RunU WpA Step CallG Done
instance : Mixed Try.prog := ⟨by kernel_rfl⟩
theorem own : ownKnob Try.prog.godebug = none := by kernel_rfl
theorem laidOut : laidOutB Try.prog = true := by kernel_rfl
theorem sees_FnExactAllCodes (xs : List Arg) (has : Sees Try.prog Try.f6.params.toList xs) : CallA Try.prog 6 xs [.one (.lit (.bool true))] [] := by
  rw [Try.params6] at has
  obtain ⟨k, xs, rfl, _, h⟩ := sees_int Try.underlying2 has
  obtain rfl := sees_nil h
  exact lawAll_c k
set_option maxRecDepth 100000 in
theorem lifted_FnExactAllCodes (os : Os) (started : os.Started) (H : Type) (enc : TypeId × Value → H) :
    ReturnsInHanded {} Try.checked os 6 .any (Rows.fnExactAllCodesSpec.pre6 enc Try.prog Try.f6 Rows.fnExactAllCodesRow.domain false) (Rows.fnExactAllCodesSpec.post enc Try.prog Try.f6 false true false false) := by
  refine returnsInHanded_of_change (C := Try.checked) own started (by kernel_rfl) Try.func6
    (ChangeSpec.witness6 (enc := enc) (C := Try.checked) false ⟨#[], #[.int .i64 0], []⟩ 8 (by kernel_rfl) (by kernel_rfl) (by kernel_rfl) (by kernel_rfl)) ?_
  intro W base args ds gs before hval hW _ _
  refine law_contract (P := Try.prog) laidOut (by kernel_rfl) rfl (by kernel_rfl) Try.underlying4 (fun ds h => ?_) sees_FnExactAllCodes W base args ds gs before hval hW
  rw [Try.params6] at h
  match ds, h with
  | [_], _ => exact ⟨rfl, rfl, rfl⟩
/-- The law holds for every input. -/
theorem said_FnExactAllCodes : Rows.FnExactAllCodesSaid :=
  OpenClaim.holds_of_wide 6 Try.f6 rfl rfl rfl rfl rfl rfl rfl ⟨rfl, rfl, rfl, rfl, rfl⟩ rfl rfl rfl rfl rfl (by kernel_rfl) Try.func6 (by kernel_rfl)
    (of_decide_eq_true (by kernel_rfl)) (by unfold Func.isWrapper; first | (rw [if_pos (by decide +kernel)]; kernel_rfl) | (rw [if_neg (by decide +kernel)]; exact ⟨rfl, rfl⟩))
    (fun os started H enc _ => lifted_FnExactAllCodes os started H enc)
end Go.Proofs.Ytnkdoilpofboeaa
