/-
  DERIVED. GIVEN WITH THE SEED: THE CARDS: each row of YtpdfadnpfmlfgaaDoorRows.lean that lists a variable, with what it lists TIED to the program's text (the seventh form; the later family's looks); each row that meets fmt, with fmt's text TOLD by the authors' own Lean function (tested against real Go, not proved from fmt's source: count such statements apart). THE CARD IS WHAT COUNTS. Prove the row's statement (the work); the ties are given (YtpdfadnpfmlfgaaDoorTie.lean); close each card by the builder's one call (the guide's Derived/Test/ToyasCard.lean, 'card_holds'). Laid BY PROGRAM, IN A SANDBOX (cutbox-door.mjs). By AI agents, Wed Nov 11 2026. No macro, syntax, notation, axiom, sorry.
-/
import Derived.Test.YtpdfadnpfmlfgaaDoorRows
import GoSem.ClaimSeven
namespace Go.Proofs.YtpdfadnpfmlfgaaDoor
namespace Rows

/-- THE TIED CARD OF 'laws.FnExactNameOfCurve'. -/
def fnExactNameOfCurveCard : Claim7 := { stood := { row := fnExactNameOfCurveRow, standIns := [], harness := (true, "8b03505b54262688deeaf69ba64d2b2a92ad4af2a3e9f453df225be1f5a4bad2"), looks := false }, kinds := [], alts := [], laidByText := true, laidKinds := [.data, .data, .data], laidTests := true, laidLooks := .later }
def FnExactNameOfCurveCardSaid : Prop := Claim7.holds Tryd.pinned (.plain (OpenSpec.ofChange fnExactNameOfCurveSpec)) fnExactNameOfCurveCard

/-- THE SECOND FORM's CARD OF 'laws.FnExactNameOfCurve'. -/
def fnExactNameOfCurveUptoCard : Claim7 := { stood := { row := fnExactNameOfCurveUptoRow, standIns := [], harness := (true, "8b03505b54262688deeaf69ba64d2b2a92ad4af2a3e9f453df225be1f5a4bad2"), looks := false }, kinds := [], alts := [], laidByText := true, laidKinds := [.data, .data, .data], laidTests := true, laidLooks := .later }
def FnExactNameOfCurveUptoCardSaid : Prop := Claim7.holds Tryd.pinned (.plain (OpenSpec.upto fnExactNameOfCurveSpec)) fnExactNameOfCurveUptoCard
end Rows
end Go.Proofs.YtpdfadnpfmlfgaaDoor
