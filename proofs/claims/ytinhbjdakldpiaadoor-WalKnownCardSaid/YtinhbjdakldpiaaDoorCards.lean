/-
  DERIVED. GIVEN WITH THE SEED: THE CARDS: each row of YtinhbjdakldpiaaDoorRows.lean that lists a variable, with what it lists TIED to the program's text (the seventh form; the later family's looks); each row that meets fmt, with fmt's text TOLD by the authors' own Lean function (tested against real Go, not proved from fmt's source: count such statements apart). THE CARD IS WHAT COUNTS. Prove the row's statement (the work); the ties are given (YtinhbjdakldpiaaDoorTie.lean); close each card by the builder's one call (the guide's Derived/Test/ToyasCard.lean, 'card_holds'). Laid BY PROGRAM, IN A SANDBOX (cutbox-door.mjs). By AI agents, Wed Nov 11 2026. No macro, syntax, notation, axiom, sorry.
-/
import Derived.Test.YtinhbjdakldpiaaDoorRows
import GoSem.ClaimSeven
namespace Go.Proofs.YtinhbjdakldpiaaDoor
namespace Rows

/-- THE TIED CARD OF 'escritoirelaw31.ShellWords'. -/
def shellWordsCard : Claim7 := { stood := { row := shellWordsRow, standIns := [], harness := (true, "9e67a12be9f042eadda9862811b8cf721f2c2cb218625ddf5ed4025b30884d02"), looks := true }, kinds := [], alts := [], laidByText := true, laidKinds := [.data, .data, .data, .data, .sentinel, .sentinel, .pinned], laidTests := true, laidLooks := .later }
def ShellWordsCardSaid : Prop := Claim7.holds Tryd.pinned (.plain (OpenSpec.ofChange shellWordsSpec)) shellWordsCard

/-- THE TIED CARD OF 'escritoirelaw31.ShellParts'. -/
def shellPartsCard : Claim7 := { stood := { row := shellPartsRow, standIns := [], harness := (true, "9e67a12be9f042eadda9862811b8cf721f2c2cb218625ddf5ed4025b30884d02"), looks := true }, kinds := [], alts := [], laidByText := true, laidKinds := [.data, .data, .data, .data, .sentinel, .sentinel, .pinned], laidTests := true, laidLooks := .later }
def ShellPartsCardSaid : Prop := Claim7.holds Tryd.pinned (.plain (OpenSpec.ofChange shellPartsSpec)) shellPartsCard

/-- THE TIED CARD OF 'escritoirelaw15.WalSplits'. -/
def walSplitsCard : Claim7 := { stood := { row := walSplitsRow, standIns := [], harness := (true, "9e67a12be9f042eadda9862811b8cf721f2c2cb218625ddf5ed4025b30884d02"), looks := true }, kinds := [], alts := [], laidByText := true, laidKinds := [.data, .data, .data], laidTests := true, laidLooks := .later }
def WalSplitsCardSaid : Prop := Claim7.holds Tryd.pinned (.plain (OpenSpec.ofChange walSplitsSpec)) walSplitsCard

/-- THE TIED CARD OF 'escritoirelaw15.WalRetires'. -/
def walRetiresCard : Claim7 := { stood := { row := walRetiresRow, standIns := [], harness := (true, "9e67a12be9f042eadda9862811b8cf721f2c2cb218625ddf5ed4025b30884d02"), looks := true }, kinds := [], alts := [], laidByText := true, laidKinds := [.data, .data, .data], laidTests := true, laidLooks := .later }
def WalRetiresCardSaid : Prop := Claim7.holds Tryd.pinned (.plain (OpenSpec.ofChange walRetiresSpec)) walRetiresCard

/-- THE TIED CARD OF 'escritoirelaw15.WalKeeps'. -/
def walKeepsCard : Claim7 := { stood := { row := walKeepsRow, standIns := [], harness := (true, "9e67a12be9f042eadda9862811b8cf721f2c2cb218625ddf5ed4025b30884d02"), looks := true }, kinds := [], alts := [], laidByText := true, laidKinds := [.data, .data, .data], laidTests := true, laidLooks := .later }
def WalKeepsCardSaid : Prop := Claim7.holds Tryd.pinned (.plain (OpenSpec.ofChange walKeepsSpec)) walKeepsCard

/-- THE TIED CARD OF 'escritoirelaw15.WalKnown'. -/
def walKnownCard : Claim7 := { stood := { row := walKnownRow, standIns := [], harness := (true, "9e67a12be9f042eadda9862811b8cf721f2c2cb218625ddf5ed4025b30884d02"), looks := true }, kinds := [], alts := [], laidByText := true, laidKinds := [.data, .data, .data], laidTests := true, laidLooks := .later }
def WalKnownCardSaid : Prop := Claim7.holds Tryd.pinned (.plain (OpenSpec.ofChange walKnownSpec)) walKnownCard

/-- THE SECOND FORM's CARD OF 'escritoirelaw31.ShellWords'. -/
def shellWordsUptoCard : Claim7 := { stood := { row := shellWordsUptoRow, standIns := [], harness := (true, "9e67a12be9f042eadda9862811b8cf721f2c2cb218625ddf5ed4025b30884d02"), looks := true }, kinds := [], alts := [], laidByText := true, laidKinds := [.data, .data, .data, .data, .sentinel, .sentinel, .pinned], laidTests := true, laidLooks := .later }
def ShellWordsUptoCardSaid : Prop := Claim7.holds Tryd.pinned (.plain (OpenSpec.upto shellWordsSpec)) shellWordsUptoCard

/-- THE SECOND FORM's CARD OF 'escritoirelaw31.ShellParts'. -/
def shellPartsUptoCard : Claim7 := { stood := { row := shellPartsUptoRow, standIns := [], harness := (true, "9e67a12be9f042eadda9862811b8cf721f2c2cb218625ddf5ed4025b30884d02"), looks := true }, kinds := [], alts := [], laidByText := true, laidKinds := [.data, .data, .data, .data, .sentinel, .sentinel, .pinned], laidTests := true, laidLooks := .later }
def ShellPartsUptoCardSaid : Prop := Claim7.holds Tryd.pinned (.plain (OpenSpec.upto shellPartsSpec)) shellPartsUptoCard

/-- THE SECOND FORM's CARD OF 'escritoirelaw15.WalSplits'. -/
def walSplitsUptoCard : Claim7 := { stood := { row := walSplitsUptoRow, standIns := [], harness := (true, "9e67a12be9f042eadda9862811b8cf721f2c2cb218625ddf5ed4025b30884d02"), looks := true }, kinds := [], alts := [], laidByText := true, laidKinds := [.data, .data, .data], laidTests := true, laidLooks := .later }
def WalSplitsUptoCardSaid : Prop := Claim7.holds Tryd.pinned (.plain (OpenSpec.upto walSplitsSpec)) walSplitsUptoCard

/-- THE SECOND FORM's CARD OF 'escritoirelaw15.WalRetires'. -/
def walRetiresUptoCard : Claim7 := { stood := { row := walRetiresUptoRow, standIns := [], harness := (true, "9e67a12be9f042eadda9862811b8cf721f2c2cb218625ddf5ed4025b30884d02"), looks := true }, kinds := [], alts := [], laidByText := true, laidKinds := [.data, .data, .data], laidTests := true, laidLooks := .later }
def WalRetiresUptoCardSaid : Prop := Claim7.holds Tryd.pinned (.plain (OpenSpec.upto walRetiresSpec)) walRetiresUptoCard

/-- THE SECOND FORM's CARD OF 'escritoirelaw15.WalKeeps'. -/
def walKeepsUptoCard : Claim7 := { stood := { row := walKeepsUptoRow, standIns := [], harness := (true, "9e67a12be9f042eadda9862811b8cf721f2c2cb218625ddf5ed4025b30884d02"), looks := true }, kinds := [], alts := [], laidByText := true, laidKinds := [.data, .data, .data], laidTests := true, laidLooks := .later }
def WalKeepsUptoCardSaid : Prop := Claim7.holds Tryd.pinned (.plain (OpenSpec.upto walKeepsSpec)) walKeepsUptoCard

/-- THE SECOND FORM's CARD OF 'escritoirelaw15.WalKnown'. -/
def walKnownUptoCard : Claim7 := { stood := { row := walKnownUptoRow, standIns := [], harness := (true, "9e67a12be9f042eadda9862811b8cf721f2c2cb218625ddf5ed4025b30884d02"), looks := true }, kinds := [], alts := [], laidByText := true, laidKinds := [.data, .data, .data], laidTests := true, laidLooks := .later }
def WalKnownUptoCardSaid : Prop := Claim7.holds Tryd.pinned (.plain (OpenSpec.upto walKnownSpec)) walKnownUptoCard
end Rows
end Go.Proofs.YtinhbjdakldpiaaDoor
