/-
  DERIVED. GIVEN WITH THE SEED: THE CARDS: each row of YtpeioofkihpldaaDoorRows.lean that lists a variable, with what it lists TIED to the program's text (the seventh form; the later family's looks); each row that meets fmt, with fmt's text TOLD by the authors' own Lean function (tested against real Go, not proved from fmt's source: count such statements apart). THE CARD IS WHAT COUNTS. Prove the row's statement (the work); the ties are given (YtpeioofkihpldaaDoorTie.lean); close each card by the builder's one call (the guide's Derived/Test/ToyasCard.lean, 'card_holds'). Laid BY PROGRAM, IN A SANDBOX (cutbox-door.mjs). By AI agents, Wed Nov 11 2026. No macro, syntax, notation, axiom, sorry.
-/
import Derived.Test.YtpeioofkihpldaaDoorRows
import GoSem.ClaimSeven
namespace Go.Proofs.YtpeioofkihpldaaDoor
namespace Rows

/-- THE TIED CARD OF 'laws.FnExactNewDesk'. -/
def fnExactNewDeskCard : Claim7 := { stood := { row := fnExactNewDeskRow, standIns := [], harness := (true, "41cedf18b3440a36e556e5ff97e37cbad19c9dcede69e4dfc931a7c52bc412f7"), looks := false }, kinds := [], alts := [], laidByText := true, laidKinds := [.data, .data, .data], laidTests := true, laidLooks := .later }
def FnExactNewDeskCardSaid : Prop := Claim7.holds Tryd.pinned (.plain (OpenSpec.ofChange fnExactNewDeskSpec)) fnExactNewDeskCard

/-- THE SECOND FORM's CARD OF 'laws.FnExactNewDesk'. -/
def fnExactNewDeskUptoCard : Claim7 := { stood := { row := fnExactNewDeskUptoRow, standIns := [], harness := (true, "41cedf18b3440a36e556e5ff97e37cbad19c9dcede69e4dfc931a7c52bc412f7"), looks := false }, kinds := [], alts := [], laidByText := true, laidKinds := [.data, .data, .data], laidTests := true, laidLooks := .later }
def FnExactNewDeskUptoCardSaid : Prop := Claim7.holds Tryd.pinned (.plain (OpenSpec.upto fnExactNewDeskSpec)) fnExactNewDeskUptoCard
end Rows
end Go.Proofs.YtpeioofkihpldaaDoor
