/-
  DERIVED. GIVEN WITH THE SEED: THE CARDS: each row of YtemakfepcogeiaaDoorRows.lean that lists a variable, with what it lists TIED to the program's text (the seventh form; the later family's looks); each row that meets fmt, with fmt's text TOLD by the authors' own Lean function (tested against real Go, not proved from fmt's source: count such statements apart). THE CARD IS WHAT COUNTS. Prove the row's statement (the work); the ties are given (YtemakfepcogeiaaDoorTie.lean); close each card by the builder's one call (the guide's Derived/Test/ToyasCard.lean, 'card_holds'). Laid BY PROGRAM, IN A SANDBOX (cutbox-door.mjs). By AI agents, Wed Nov 11 2026. No macro, syntax, notation, axiom, sorry.
-/
import Derived.Test.YtemakfepcogeiaaDoorRows
import GoSem.ClaimSeven
namespace Go.Proofs.YtemakfepcogeiaaDoor
namespace Rows

/-- THE TIED CARD OF 'escritoirelaw15.WalSplits'. -/
def walSplitsCard : Claim7 := { stood := { row := walSplitsRow, standIns := [], harness := (true, "4bb4c42f363d3f4b3ebd5b4669c8dcacf3b01be08616053c28f7ae0059d07a5a"), looks := false }, kinds := [], alts := [], laidByText := true, laidKinds := [.data, .data, .data], laidTests := true, laidLooks := .later }
def WalSplitsCardSaid : Prop := Claim7.holds Tryd.pinned (.plain (OpenSpec.ofChange walSplitsSpec)) walSplitsCard

/-- THE SECOND FORM's CARD OF 'escritoirelaw15.WalSplits'. -/
def walSplitsUptoCard : Claim7 := { stood := { row := walSplitsUptoRow, standIns := [], harness := (true, "4bb4c42f363d3f4b3ebd5b4669c8dcacf3b01be08616053c28f7ae0059d07a5a"), looks := false }, kinds := [], alts := [], laidByText := true, laidKinds := [.data, .data, .data], laidTests := true, laidLooks := .later }
def WalSplitsUptoCardSaid : Prop := Claim7.holds Tryd.pinned (.plain (OpenSpec.upto walSplitsSpec)) walSplitsUptoCard
end Rows
end Go.Proofs.YtemakfepcogeiaaDoor
