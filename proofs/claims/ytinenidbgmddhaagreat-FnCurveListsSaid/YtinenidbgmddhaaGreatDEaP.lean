/- FnCurveLists: the statement. No condition. -/
import Derived.Test.YtinenidbgmddhaaGreatDCxB
import Derived.Test.YtinenidbgmddhaaGreatDEaN
import Derived.Test.YtinenidbgmddhaaGreatDEaO
import Derived.Test.YtinenidbgmddhaaGreatRows
set_option linter.unusedVariables false
set_option linter.unusedSimpArgs false
namespace Go.Proofs.YtinenidbgmddhaaGreat
set_option maxRecDepth 100000
set_option maxHeartbeats 20000000
open Go.Pv
open Go.ChangeShapes Go.WideShapes Go.ChangeAt Go.RowKit
attribute [local irreducible] Za WpA Zk Z3 Zv Zb Zh
theorem own:ownKnob Tryz.prog.godebug=none:=by kernel_rfl
theorem laidOut:laidOutB Tryz.prog=true:=by kernel_rfl
theorem Zch (xs:List Arg) (has:Zbh Tryz.prog Tryz.f6.params.toList xs):Zg Tryz.prog 6 xs [.one (.lit (.bool true))] []:=by
 rw [Tryz.params6] at has
 obtain ⟨l,xs,rfl,hb,h⟩:=Zys Tryz.underlying42 Tryz.underlying5 (by kernel_rfl) has
 obtain rfl:=Zs5 h
 exact Zyt hb
theorem Zac (os:Os) (started:os.Started) (H:Type) (enc:TypeId × Value->H) :
  ReturnsInHanded {} Tryz.checked os 6 .any (Rows.fnCurveListsSpec.pre6 enc Tryz.prog Tryz.f6 Rows.fnCurveListsRow.domain false) (Rows.fnCurveListsSpec.post enc Tryz.prog Tryz.f6 false true false false):=by
 refine returnsInHanded_of_change (C:=Tryz.checked) own started (by kernel_rfl) Tryz.func6
  (ChangeSpec.witness6 (enc:=enc) (C:=Tryz.checked) false ⟨#[],#[.slice none 0 0],[]⟩ 8 (by kernel_rfl) (by kernel_rfl) (by kernel_rfl) (by kernel_rfl)) ?_
 intro W base args ds gs before hval hW _ _
 refine Zju (P:=Tryz.prog) laidOut (by kernel_rfl) rfl (by kernel_rfl) Tryz.underlying4 (λds h=>?_) Zch W base args ds gs before hval hW
 rw [Tryz.params6] at h
 match ds,h with
 | [_],_=>exact ⟨rfl,rfl,rfl⟩
theorem said_FnCurveLists:Rows.FnCurveListsSaid :=
 OpenClaim.holds_of_wide 6 Tryz.f6 rfl rfl rfl rfl rfl rfl rfl ⟨rfl,rfl,rfl,rfl,rfl⟩ rfl rfl rfl rfl rfl (by kernel_rfl) Tryz.func6 Zab
  (of_decide_eq_true (by kernel_rfl)) (by unfold Func.isWrapper; first|(rw [if_pos (by decide +kernel)]; kernel_rfl)|(rw [if_neg (by decide +kernel)]; exact ⟨rfl,rfl⟩))
  (λos started H enc _=>Zac os started H enc)
end Go.Proofs.YtinenidbgmddhaaGreat
