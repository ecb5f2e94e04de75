/- FnExactNewDesk: the program's new desk is the reference's, in memory of its own; the library's table of powers of ten stands in memory as the program's text lays it (the card). No further condition. -/
import Derived.Test.YtpeioofkihpldaaDoorNPnG
import Derived.Test.YtpeioofkihpldaaDoorRows
import Derived.Test.YtpeioofkihpldaaDoorCards
import Derived.Test.YtpeioofkihpldaaDoorTie
import Derived.LaidMore
import Derived.Stop.LaidErr
import Derived.OpenShut
import Derived.Stop.Joined
import Derived.SevenTiedAt
set_option linter.unusedVariables false
set_option linter.unusedSimpArgs false
namespace Go.Proofs.YtpeioofkihpldaaDoor
set_option maxRecDepth 100000
set_option maxHeartbeats 20000000
open Go.Pv
open Go.ChangeShapes Go.WideShapes Go.ChangeAt Go.RowKit
attribute [local irreducible] RunU WpA Step CallG CallNG Done DoneN
theorem sees_FnExactNewDesk (xs : List Arg) (has : Sees Tryd.prog Tryd.f3.params.toList xs) : CallZ Z10 true Tryd.prog 3 xs [.one (.lit (.bool true))] [] := by
 rw [Tryd.params3] at has
 obtain rfl := sees_nil has
 exact lawND_z
theorem own : ownKnob Tryd.prog.godebug = none := by kernel_rfl
theorem laidOut : laidOutB Tryd.prog = true := by kernel_rfl
theorem pow_row : Rows.laid_internal_strconv_uint64pow10 (H := Unit) = Lib.tabData .u64 Lib.pow10Tab := by kernel_rfl
theorem z10_laid {W : World} (h : laidMetH Tryd.prog Rows.fnExactNewDeskRow.laid W) : Z10 (fun g => g < W.heap.size) W := by
 rw [MakeChecks.laidMetH_plain _ _ _ (by kernel_rfl)] at h
 have h2 : laidMet Tryd.prog [("internal/strconv.uint64pow10", Rows.laid_internal_strconv_uint64pow10 (H := Unit))] W := laidMet.tail (laidMet.tail h)
 rw [pow_row] at h2
 exact tabZ_of p10_at (Lib.tabIs_of_head p10_at (by kernel_rfl) Tryd.underlying128 Tryd.underlying117 (by kernel_rfl) (by kernel_rfl) h2)
theorem door_met (os : Os) (args : Array Value) : laidMetH Tryd.prog Rows.fnExactNewDeskRow.laid ((World.doorLaid Tryd.prog 400 os).forCall (fun _ _ => 0) ⟨#[], args, []⟩).memory :=
 laidMetH_of_parts3 (fuel := 8) (laidMet_of_run' 8 (by kernel_rfl) (by kernel_rfl)) (by kernel_rfl) (by kernel_rfl)
theorem lifted_FnExactNewDesk (os : Os) (started : os.Started) (H : Type) (enc : TypeId × Value → H) :
  ReturnsInHanded {} Tryd.checked os 3 .any (fun w args => (Rows.fnExactNewDeskSpec.pre enc Tryd.prog Tryd.f3 Rows.fnExactNewDeskRow.domain false w args ∧ laidMetH Tryd.prog Rows.fnExactNewDeskRow.laid w) ∧ sizedMet enc Tryd.prog Tryd.f3 (OpenSpec.ofChange Rows.fnExactNewDeskSpec) false w args)
   (Rows.fnExactNewDeskSpec.post enc Tryd.prog Tryd.f3 false true false false) := by
 refine returnsInHanded_of_change_and (C := Tryd.checked) (X := fun w _ => laidMetH Tryd.prog Rows.fnExactNewDeskRow.laid w) (fun _ _ _ hh h => h.of_heap hh) own started (by kernel_rfl) Tryd.func3
  (ChangeSpec.witness_shaped (enc := enc) (C := Tryd.checked) (os := os) (X := fun w _ => laidMetH Tryd.prog Rows.fnExactNewDeskRow.laid w) false (World.doorLaid Tryd.prog 400 os) #[] 8 rfl (World.shaped_of_RefB (by kernel_rfl) (by kernel_rfl)) (by kernel_rfl) (by kernel_rfl) (by kernel_rfl) (door_met os _)) ?_
 intro W base args ds gs before hval hW _ _ hL _
 refine law_contractZ (P := Tryd.prog) laidOut (by kernel_rfl) rfl (by kernel_rfl) Tryd.underlying4 (fun ds h => ?_) sees_FnExactNewDesk W base args ds gs before hval (z10_laid hL) hW
 rw [Tryd.params3] at h
 match ds, h with
 | [], _ => exact ⟨rfl, rfl, rfl⟩
theorem row_FnExactNewDesk : Rows.FnExactNewDeskSaid :=
 OpenClaim.holds_of_wide 3 Tryd.f3 rfl rfl rfl rfl rfl rfl rfl ⟨rfl, rfl, rfl, rfl, rfl⟩ rfl rfl rfl rfl rfl (by kernel_rfl) Tryd.func3 (by kernel_rfl)
  (of_decide_eq_true (by kernel_rfl)) (by unfold Func.isWrapper; first | (rw [if_pos (by decide +kernel)]; kernel_rfl) | (rw [if_neg (by decide +kernel)]; exact ⟨rfl, rfl⟩))
  (fun os started H enc _ => lifted_FnExactNewDesk os started H enc)
theorem said_FnExactNewDesk : Rows.FnExactNewDeskCardSaid :=
 Claim7.holds_tied_plain_at .later [] [.data, .data, .data] true Rows.fnExactNewDeskCard.stood.harness false
  row_FnExactNewDesk (fun _ h => by cases h) (by kernel_rfl) (fun _ h => by cases h) fnExactNewDesk_row_tie rfl ⟨rfl, rfl⟩ (by kernel_rfl) rfl
  (fun f fn hf hfn => by
   obtain rfl : f = 3 := Option.some.inj ((show Tryd.prog.funcNamed "loop.example/g01140/laws.FnExactNewDesk" = some 3 by kernel_rfl).symm.trans hf) |>.symm
   obtain rfl : fn = Tryd.f3 := (Option.some.inj (Tryd.func3.symm.trans hfn)).symm
   exact ⟨by kernel_rfl, fun j t ht => by
    rw [Tryd.params3] at ht
    simp at ht⟩)
  (by kernel_rfl)
end Go.Proofs.YtpeioofkihpldaaDoor
