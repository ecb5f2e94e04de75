/- FnNames: a simple curve has the name of the least curve with its name, and names are read back; the library's table of powers of ten stands in memory as the program's text lays it (the card). No further condition. -/
import Derived.Test.YtpdfadnpfmlfgaaGreatDoorPNnL
import Derived.Test.YtpdfadnpfmlfgaaGreatDoorPPyC
import Derived.Test.YtpdfadnpfmlfgaaGreatDoorRows
import Derived.Test.YtpdfadnpfmlfgaaGreatDoorCards
import Derived.Test.YtpdfadnpfmlfgaaGreatDoorTie
import Derived.LaidMore
import Derived.Stop.LaidErr
import Derived.OpenShut
import Derived.Stop.Joined
import Derived.SevenTiedAt
set_option linter.unusedVariables false
set_option linter.unusedSimpArgs false
namespace Go.Proofs.YtpdfadnpfmlfgaaGreatDoor
set_option maxRecDepth 100000
set_option maxHeartbeats 20000000
open Go.Pv
open Go.ChangeShapes Go.WideShapes Go.ChangeAt Go.RowKit
attribute [local irreducible] RunU WpA Step CallG CallNG Done DoneN
theorem own : ownKnob Tryz.prog.godebug = none := by kernel_rfl
theorem laidOut : laidOutB Tryz.prog = true := by kernel_rfl
theorem sees_FnNames (xs : List Arg) (has : Sees Tryz.prog Tryz.f3.params.toList xs) : CallZ Z10 true Tryz.prog 3 xs [.one (.lit (.bool true))] [] := by
 rw [Tryz.params3] at has
 obtain ⟨l, xs, rfl, hb, h⟩ := sees_by Tryz.underlying22 Tryz.underlying5 (by kernel_rfl) has
 obtain rfl := sees_nil h
 exact lawFN_z hb
theorem pow_row : Rows.laid_internal_strconv_uint64pow10 (H := Unit) = Lib.tabData .u64 Lib.pow10Tab := by kernel_rfl
theorem z10_laid {W : World} (h : laidMetH Tryz.prog Rows.fnNamesRow.laid W) : Z10 (fun g => g < W.heap.size) W := by
 rw [MakeChecks.laidMetH_plain _ _ _ (by kernel_rfl)] at h
 have h2 : laidMet Tryz.prog [("internal/strconv.uint64pow10", Rows.laid_internal_strconv_uint64pow10 (H := Unit))] W := laidMet.tail (laidMet.tail h)
 rw [pow_row] at h2
 exact tabZ_of p10_at (Lib.tabIs_of_head p10_at (by kernel_rfl) Tryz.underlying138 Tryz.underlying65 (by kernel_rfl) (by kernel_rfl) h2)
theorem door_met (os : Os) (args : Array Value) : laidMetH Tryz.prog Rows.fnNamesRow.laid ((World.doorLaid Tryz.prog 400 os).forCall (fun _ _ => 0) ⟨#[], args, []⟩).memory :=
 laidMetH_of_parts3 (fuel := 8) (laidMet_of_run' 8 (by kernel_rfl) (by kernel_rfl)) (by kernel_rfl) (by kernel_rfl)
theorem lifted_FnNames (os : Os) (started : os.Started) (H : Type) (enc : TypeId × Value → H) :
  ReturnsInHanded {} Tryz.checked os 3 .any (fun w args => (Rows.fnNamesSpec.pre enc Tryz.prog Tryz.f3 Rows.fnNamesRow.domain false w args ∧ laidMetH Tryz.prog Rows.fnNamesRow.laid w) ∧ sizedMet enc Tryz.prog Tryz.f3 (OpenSpec.ofChange Rows.fnNamesSpec) false w args)
   (Rows.fnNamesSpec.post enc Tryz.prog Tryz.f3 false true false false) := by
 refine returnsInHanded_of_change_and (C := Tryz.checked) (X := fun w _ => laidMetH Tryz.prog Rows.fnNamesRow.laid w) (fun _ _ _ hh h => h.of_heap hh) own started (by kernel_rfl) Tryz.func3
  (ChangeSpec.witness_shaped (enc := enc) (C := Tryz.checked) (os := os) (X := fun w _ => laidMetH Tryz.prog Rows.fnNamesRow.laid w) false (World.doorLaid Tryz.prog 400 os) #[.slice none 0 0] 8 rfl (World.shaped_of_RefB (by kernel_rfl) (by kernel_rfl)) (by kernel_rfl) (by kernel_rfl) (by kernel_rfl) (door_met os _)) ?_
 intro W base args ds gs before hval hW _ _ hL _
 refine law_contractZ (P := Tryz.prog) laidOut (by kernel_rfl) rfl (by kernel_rfl) Tryz.underlying4 (fun ds h => ?_) sees_FnNames W base args ds gs before hval (z10_laid hL) hW
 rw [Tryz.params3] at h
 match ds, h with
 | [_], _ => exact ⟨rfl, rfl, rfl⟩
theorem row_FnNames : Rows.FnNamesSaid :=
 OpenClaim.holds_of_wide 3 Tryz.f3 rfl rfl rfl rfl rfl rfl rfl ⟨rfl, rfl, rfl, rfl, rfl⟩ rfl rfl rfl rfl rfl (by kernel_rfl) Tryz.func3 (by kernel_rfl)
  (of_decide_eq_true (by kernel_rfl)) (by unfold Func.isWrapper; first | (rw [if_pos (by decide +kernel)]; kernel_rfl) | (rw [if_neg (by decide +kernel)]; exact ⟨rfl, rfl⟩))
  (fun os started H enc _ => lifted_FnNames os started H enc)
theorem said_FnNames : Rows.FnNamesCardSaid :=
 Claim7.holds_tied_plain_at .later [] [.data, .data, .data] true Rows.fnNamesCard.stood.harness false
  row_FnNames (fun _ h => by cases h) (by kernel_rfl) (fun _ h => by cases h) fnNames_row_tie rfl ⟨rfl, rfl⟩ (by kernel_rfl) rfl
  (fun f fn hf hfn => by
   obtain rfl : f = 3 := Option.some.inj ((show Tryz.prog.funcNamed "loop.example/g01140/laws.FnNames" = some 3 by kernel_rfl).symm.trans hf) |>.symm
   obtain rfl : fn = Tryz.f3 := (Option.some.inj (Tryz.func3.symm.trans hfn)).symm
   exact ⟨by kernel_rfl, fun j t ht => by
    rw [Tryz.params3] at ht
    have hm : t ∈ [22] := by simpa using Array.mem_of_getElem? ht
    have hall : ([22].all fun u => !Tryz.prog.wantsStandIn u) = true := by kernel_rfl
    exact (show Tryz.prog.wantsStandIn t = false by simpa using List.all_eq_true.1 hall t hm)⟩)
  (by kernel_rfl)
end Go.Proofs.YtpdfadnpfmlfgaaGreatDoor
