/- FnLinkings: the statement. No condition. -/
import Derived.Test.YtmgmpnhlehonmaaGreatWGxG
import Derived.Test.YtmgmpnhlehonmaaGreatWGzQ
import Derived.Test.YtmgmpnhlehonmaaGreatWGzR
import Derived.Test.YtmgmpnhlehonmaaGreatRows
set_option linter.unusedVariables false
set_option linter.unusedSimpArgs false
namespace Go.Proofs.YtmgmpnhlehonmaaGreat
set_option maxRecDepth 100000
set_option maxHeartbeats 20000000
open Go.Pv
open Go.ChangeShapes Go.WideShapes Go.ChangeAt Go.RowKit
attribute [local irreducible] Za WpA Zg Xf Zz Z6 Zd
theorem own : ownKnob Tryz.prog.godebug = none := by kernel_rfl
theorem laidOut : laidOutB Tryz.prog = true := by kernel_rfl
theorem Zfn (xs : List Arg) (has : Zbu Tryz.prog Tryz.f3.params.toList xs) : Zj Tryz.prog 3 xs [.one (.lit (.bool true))] [] := by
 rw [Tryz.params3] at has
 obtain ⟨l, xs, rfl, hb, h⟩ := Zzd Tryz.underlying22 Tryz.underlying5 (by kernel_rfl) has
 obtain rfl := Zt5 h
 exact Zec l hb
theorem Zcy (os : Os) (started : os.Started) (H : Type) (enc : TypeId × Value -> H) :
  ReturnsInHanded {} Tryz.checked os 3 .any (Rows.fnLinkingsSpec.pre6 enc Tryz.prog Tryz.f3 Rows.fnLinkingsRow.domain false) (Rows.fnLinkingsSpec.post enc Tryz.prog Tryz.f3 false true false false) := by
 refine returnsInHanded_of_change (C := Tryz.checked) own started (by kernel_rfl) Tryz.func3
  (ChangeSpec.witness6 (enc := enc) (C := Tryz.checked) false ⟨#[], #[.slice none 0 0], []⟩ 8 (by kernel_rfl) (by kernel_rfl) (by kernel_rfl) (by kernel_rfl)) ?_
 intro W base args ds gs before hval hW _ _
 refine Zkz (P := Tryz.prog) laidOut (by kernel_rfl) rfl (by kernel_rfl) Tryz.underlying4 (fun ds h => ?_) Zfn W base args ds gs before hval hW
 rw [Tryz.params3] at h
 match ds, h with
 | [_], _ => exact ⟨rfl, rfl, rfl⟩
theorem said_FnLinkings : Rows.FnLinkingsSaid :=
 OpenClaim.holds_of_wide 3 Tryz.f3 rfl rfl rfl rfl rfl rfl rfl ⟨rfl, rfl, rfl, rfl, rfl⟩ rfl rfl rfl rfl rfl (by kernel_rfl) Tryz.func3 Zcx
  (of_decide_eq_true (by kernel_rfl)) (by unfold Func.isWrapper; first | (rw [if_pos (by decide +kernel)]; kernel_rfl) | (rw [if_neg (by decide +kernel)]; exact ⟨rfl, rfl⟩))
  (fun os started H enc _ => Zcy os started H enc)
end Go.Proofs.YtmgmpnhlehonmaaGreat
