/-
  DERIVED. GIVEN WITH THE SEED: THE CARDS: each row of YtalchcdenhfmiaaDoorRows.lean that lists a variable, with what it lists TIED to the program's text (the seventh form; the later family's looks); each row that meets fmt, with fmt's text TOLD by the authors' own Lean function (tested against real Go, not proved from fmt's source: count such statements apart). THE CARD IS WHAT COUNTS. Prove the row's statement (the work); the ties are given (YtalchcdenhfmiaaDoorTie.lean); close each card by the builder's one call (the guide's Derived/Test/ToyasCard.lean, 'card_holds'). Laid BY PROGRAM, IN A SANDBOX (cutbox-door.mjs). By AI agents, Wed Nov 11 2026. No macro, syntax, notation, axiom, sorry.
-/
import Derived.Test.YtalchcdenhfmiaaDoorRows
import GoSem.ClaimSeven
namespace Go.Proofs.YtalchcdenhfmiaaDoor
namespace Rows

/-- THE TIED CARD OF 'escritoirelaw15.WalRetires'. -/
def walRetiresCard : Claim7 := { stood := { row := walRetiresRow, standIns := [], harness := (true, "33b5e0d33a99e8426b624b8288a068b63b5c24a6530c02a5ea89a159f980f0e3"), looks := false }, kinds := [], alts := [], laidByText := true, laidKinds := [.data, .data, .data], laidTests := true, laidLooks := .later }
def WalRetiresCardSaid : Prop := Claim7.holds Tryd.pinned (.plain (OpenSpec.ofChange walRetiresSpec)) walRetiresCard

/-- THE TIED CARD OF 'escritoirelaw15.WalKeeps'. -/
def walKeepsCard : Claim7 := { stood := { row := walKeepsRow, standIns := [], harness := (true, "33b5e0d33a99e8426b624b8288a068b63b5c24a6530c02a5ea89a159f980f0e3"), looks := false }, kinds := [], alts := [], laidByText := true, laidKinds := [.data, .data, .data], laidTests := true, laidLooks := .later }
def WalKeepsCardSaid : Prop := Claim7.holds Tryd.pinned (.plain (OpenSpec.ofChange walKeepsSpec)) walKeepsCard

/-- THE SECOND FORM's CARD OF 'escritoirelaw15.WalRetires'. -/
def walRetiresUptoCard : Claim7 := { stood := { row := walRetiresUptoRow, standIns := [], harness := (true, "33b5e0d33a99e8426b624b8288a068b63b5c24a6530c02a5ea89a159f980f0e3"), looks := false }, kinds := [], alts := [], laidByText := true, laidKinds := [.data, .data, .data], laidTests := true, laidLooks := .later }
def WalRetiresUptoCardSaid : Prop := Claim7.holds Tryd.pinned (.plain (OpenSpec.upto walRetiresSpec)) walRetiresUptoCard

/-- THE SECOND FORM's CARD OF 'escritoirelaw15.WalKeeps'. -/
def walKeepsUptoCard : Claim7 := { stood := { row := walKeepsUptoRow, standIns := [], harness := (true, "33b5e0d33a99e8426b624b8288a068b63b5c24a6530c02a5ea89a159f980f0e3"), looks := false }, kinds := [], alts := [], laidByText := true, laidKinds := [.data, .data, .data], laidTests := true, laidLooks := .later }
def WalKeepsUptoCardSaid : Prop := Claim7.holds Tryd.pinned (.plain (OpenSpec.upto walKeepsSpec)) walKeepsUptoCard
end Rows
end Go.Proofs.YtalchcdenhfmiaaDoor
