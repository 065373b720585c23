/-
  DERIVED. GIVEN WITH THE SEED: THE CARDS: each row of YtalchcdenhfmiaaGreatDoorRows.lean that lists a variable, with what it lists TIED to the program's text (the seventh form; the later family's looks); each row that meets fmt, with fmt's text TOLD by the authors' own Lean function (tested against real Go, not proved from fmt's source: count such statements apart). THE CARD IS WHAT COUNTS. Prove the row's statement (the work); the ties are given (YtalchcdenhfmiaaGreatDoorTie.lean); close each card by the builder's one call (the guide's Derived/Test/ToyasCard.lean, 'card_holds'). Laid BY PROGRAM, IN A SANDBOX (cutbox-door.mjs). By AI agents, Wed Nov 11 2026. No macro, syntax, notation, axiom, sorry.
-/
import Derived.Test.YtalchcdenhfmiaaGreatDoorRows
import GoSem.ClaimSeven
namespace Go.Proofs.YtalchcdenhfmiaaGreatDoor
namespace Rows

/-- THE TIED CARD OF 'escritoirelaw15.WalForms'. -/
def walFormsCard : Claim7 := { stood := { row := walFormsRow, standIns := [], harness := (true, "fbaf5684329c871927ba41579973f90b4c775e84709bf95f219183ee764e47fa"), looks := true }, kinds := [], alts := [], laidByText := true, laidKinds := [.data, .data, .data], laidTests := true, laidLooks := .later }
def WalFormsCardSaid : Prop := Claim7.holds Tryz.pinned (.plain (OpenSpec.ofChange walFormsSpec)) walFormsCard

/-- THE TIED CARD OF 'escritoirelaw15.WalPlays'. -/
def walPlaysCard : Claim7 := { stood := { row := walPlaysRow, standIns := [], harness := (true, "fbaf5684329c871927ba41579973f90b4c775e84709bf95f219183ee764e47fa"), looks := true }, kinds := [], alts := [], laidByText := true, laidKinds := [.data, .data, .data], laidTests := true, laidLooks := .later }
def WalPlaysCardSaid : Prop := Claim7.holds Tryz.pinned (.plain (OpenSpec.ofChange walPlaysSpec)) walPlaysCard

/-- THE SECOND FORM's CARD OF 'escritoirelaw15.WalForms'. -/
def walFormsUptoCard : Claim7 := { stood := { row := walFormsUptoRow, standIns := [], harness := (true, "fbaf5684329c871927ba41579973f90b4c775e84709bf95f219183ee764e47fa"), looks := true }, kinds := [], alts := [], laidByText := true, laidKinds := [.data, .data, .data], laidTests := true, laidLooks := .later }
def WalFormsUptoCardSaid : Prop := Claim7.holds Tryz.pinned (.plain (OpenSpec.upto walFormsSpec)) walFormsUptoCard

/-- THE SECOND FORM's CARD OF 'escritoirelaw15.WalPlays'. -/
def walPlaysUptoCard : Claim7 := { stood := { row := walPlaysUptoRow, standIns := [], harness := (true, "fbaf5684329c871927ba41579973f90b4c775e84709bf95f219183ee764e47fa"), looks := true }, kinds := [], alts := [], laidByText := true, laidKinds := [.data, .data, .data], laidTests := true, laidLooks := .later }
def WalPlaysUptoCardSaid : Prop := Claim7.holds Tryz.pinned (.plain (OpenSpec.upto walPlaysSpec)) walPlaysUptoCard
end Rows
end Go.Proofs.YtalchcdenhfmiaaGreatDoor
