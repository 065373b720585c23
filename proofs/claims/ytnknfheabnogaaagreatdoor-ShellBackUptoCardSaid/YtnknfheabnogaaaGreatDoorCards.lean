/-
  DERIVED. GIVEN WITH THE SEED: THE CARDS: each row of YtnknfheabnogaaaGreatDoorRows.lean that lists a variable, with what it lists TIED to the program's text (the seventh form; the later family's looks); each row that meets fmt, with fmt's text TOLD by the authors' own Lean function (tested against real Go, not proved from fmt's source: count such statements apart). THE CARD IS WHAT COUNTS. Prove the row's statement (the work); the ties are given (YtnknfheabnogaaaGreatDoorTie.lean); close each card by the builder's one call (the guide's Derived/Test/ToyasCard.lean, 'card_holds'). Laid BY PROGRAM, IN A SANDBOX (cutbox-door.mjs). By AI agents, Wed Nov 11 2026. No macro, syntax, notation, axiom, sorry.
-/
import Derived.Test.YtnknfheabnogaaaGreatDoorRows
import GoSem.ClaimSeven
namespace Go.Proofs.YtnknfheabnogaaaGreatDoor
namespace Rows

/-- THE TIED CARD OF 'escritoirelaw31.ShellEvents'. -/
def shellEventsCard : Claim7 := { stood := { row := shellEventsRow, standIns := [], harness := (true, "e92a4f3318be8a02fe2d7495a898aed5707609e44dc99ec29a5b324ccb9c5513"), looks := true }, kinds := [], alts := [], laidByText := true, laidKinds := [.data, .data, .data, .data, .sentinel, .sentinel, .pinned], laidTests := true, laidLooks := .later }
def ShellEventsCardSaid : Prop := Claim7.holds Tryz.pinned (.plain (OpenSpec.ofChange shellEventsSpec)) shellEventsCard

/-- THE TIED CARD OF 'escritoirelaw31.ShellRows'. -/
def shellRowsCard : Claim7 := { stood := { row := shellRowsRow, standIns := [], harness := (true, "e92a4f3318be8a02fe2d7495a898aed5707609e44dc99ec29a5b324ccb9c5513"), looks := true }, kinds := [], alts := [], laidByText := true, laidKinds := [.data, .data, .data, .data, .sentinel, .sentinel, .pinned], laidTests := true, laidLooks := .later }
def ShellRowsCardSaid : Prop := Claim7.holds Tryz.pinned (.plain (OpenSpec.ofChange shellRowsSpec)) shellRowsCard

/-- THE TIED CARD OF 'escritoirelaw31.ShellBack'. -/
def shellBackCard : Claim7 := { stood := { row := shellBackRow, standIns := [], harness := (true, "e92a4f3318be8a02fe2d7495a898aed5707609e44dc99ec29a5b324ccb9c5513"), looks := true }, kinds := [], alts := [], laidByText := true, laidKinds := [.data, .data, .data, .data, .sentinel, .sentinel, .pinned], laidTests := true, laidLooks := .later }
def ShellBackCardSaid : Prop := Claim7.holds Tryz.pinned (.plain (OpenSpec.ofChange shellBackSpec)) shellBackCard

/-- THE TIED CARD OF 'escritoirelaw31.ShellJoins'. -/
def shellJoinsCard : Claim7 := { stood := { row := shellJoinsRow, standIns := [], harness := (true, "e92a4f3318be8a02fe2d7495a898aed5707609e44dc99ec29a5b324ccb9c5513"), looks := true }, kinds := [], alts := [], laidByText := true, laidKinds := [.data, .data, .data, .data, .sentinel, .sentinel, .pinned], laidTests := true, laidLooks := .later }
def ShellJoinsCardSaid : Prop := Claim7.holds Tryz.pinned (.plain (OpenSpec.ofChange shellJoinsSpec)) shellJoinsCard

/-- THE SECOND FORM's CARD OF 'escritoirelaw31.ShellEvents'. -/
def shellEventsUptoCard : Claim7 := { stood := { row := shellEventsUptoRow, standIns := [], harness := (true, "e92a4f3318be8a02fe2d7495a898aed5707609e44dc99ec29a5b324ccb9c5513"), looks := true }, kinds := [], alts := [], laidByText := true, laidKinds := [.data, .data, .data, .data, .sentinel, .sentinel, .pinned], laidTests := true, laidLooks := .later }
def ShellEventsUptoCardSaid : Prop := Claim7.holds Tryz.pinned (.plain (OpenSpec.upto shellEventsSpec)) shellEventsUptoCard

/-- THE SECOND FORM's CARD OF 'escritoirelaw31.ShellRows'. -/
def shellRowsUptoCard : Claim7 := { stood := { row := shellRowsUptoRow, standIns := [], harness := (true, "e92a4f3318be8a02fe2d7495a898aed5707609e44dc99ec29a5b324ccb9c5513"), looks := true }, kinds := [], alts := [], laidByText := true, laidKinds := [.data, .data, .data, .data, .sentinel, .sentinel, .pinned], laidTests := true, laidLooks := .later }
def ShellRowsUptoCardSaid : Prop := Claim7.holds Tryz.pinned (.plain (OpenSpec.upto shellRowsSpec)) shellRowsUptoCard

/-- THE SECOND FORM's CARD OF 'escritoirelaw31.ShellBack'. -/
def shellBackUptoCard : Claim7 := { stood := { row := shellBackUptoRow, standIns := [], harness := (true, "e92a4f3318be8a02fe2d7495a898aed5707609e44dc99ec29a5b324ccb9c5513"), looks := true }, kinds := [], alts := [], laidByText := true, laidKinds := [.data, .data, .data, .data, .sentinel, .sentinel, .pinned], laidTests := true, laidLooks := .later }
def ShellBackUptoCardSaid : Prop := Claim7.holds Tryz.pinned (.plain (OpenSpec.upto shellBackSpec)) shellBackUptoCard

/-- THE SECOND FORM's CARD OF 'escritoirelaw31.ShellJoins'. -/
def shellJoinsUptoCard : Claim7 := { stood := { row := shellJoinsUptoRow, standIns := [], harness := (true, "e92a4f3318be8a02fe2d7495a898aed5707609e44dc99ec29a5b324ccb9c5513"), looks := true }, kinds := [], alts := [], laidByText := true, laidKinds := [.data, .data, .data, .data, .sentinel, .sentinel, .pinned], laidTests := true, laidLooks := .later }
def ShellJoinsUptoCardSaid : Prop := Claim7.holds Tryz.pinned (.plain (OpenSpec.upto shellJoinsSpec)) shellJoinsUptoCard
end Rows
end Go.Proofs.YtnknfheabnogaaaGreatDoor
