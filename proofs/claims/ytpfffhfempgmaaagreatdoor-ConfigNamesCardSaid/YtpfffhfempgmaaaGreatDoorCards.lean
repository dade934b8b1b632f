/-
  DERIVED. GIVEN WITH THE SEED: THE CARDS: each row of YtpfffhfempgmaaaGreatDoorRows.lean that lists a variable, with what it lists TIED to the program's text (the seventh form; the later family's looks); each row that meets fmt, with fmt's text TOLD by the authors' own Lean function (tested against real Go, not proved from fmt's source: count such statements apart). THE CARD IS WHAT COUNTS. Prove the row's statement (the work); the ties are given (YtpfffhfempgmaaaGreatDoorTie.lean); close each card by the builder's one call (the guide's Derived/Test/ToyasCard.lean, 'card_holds'). Laid BY PROGRAM, IN A SANDBOX (cutbox-door.mjs). By AI agents, Wed Nov 11 2026. No macro, syntax, notation, axiom, sorry.
-/
import Derived.Test.YtpfffhfempgmaaaGreatDoorRows
import GoSem.ClaimSeven
namespace Go.Proofs.YtpfffhfempgmaaaGreatDoor
namespace Rows

/-- THE TIED CARD OF 'spigotlaw43.ConfigNames'. -/
def configNamesCard : Claim7 := { stood := { row := configNamesRow, standIns := [], harness := (true, "c7c80af4d29a583d45bd50f375dbe318f4451834df2c53b373aa80a7875edea6"), looks := true }, kinds := [], alts := [], laidByText := true, laidKinds := [.data, .data, .data, .data, .sentinel, .sentinel, .pinned], laidTests := true, laidLooks := .later }
def ConfigNamesCardSaid : Prop := Claim7.holds Tryz.pinned (.plain (OpenSpec.ofChange configNamesSpec)) configNamesCard

/-- THE SECOND FORM's CARD OF 'spigotlaw43.ConfigNames'. -/
def configNamesUptoCard : Claim7 := { stood := { row := configNamesUptoRow, standIns := [], harness := (true, "c7c80af4d29a583d45bd50f375dbe318f4451834df2c53b373aa80a7875edea6"), looks := true }, kinds := [], alts := [], laidByText := true, laidKinds := [.data, .data, .data, .data, .sentinel, .sentinel, .pinned], laidTests := true, laidLooks := .later }
def ConfigNamesUptoCardSaid : Prop := Claim7.holds Tryz.pinned (.plain (OpenSpec.upto configNamesSpec)) configNamesUptoCard
end Rows
end Go.Proofs.YtpfffhfempgmaaaGreatDoor
