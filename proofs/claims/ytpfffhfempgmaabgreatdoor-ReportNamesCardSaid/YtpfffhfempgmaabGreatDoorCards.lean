/-
  DERIVED. GIVEN WITH THE SEED: THE CARDS: each row of YtpfffhfempgmaabGreatDoorRows.lean that lists a variable, with what it lists TIED to the program's text (the seventh form; the later family's looks); each row that meets fmt, with fmt's text TOLD by the authors' own Lean function (tested against real Go, not proved from fmt's source: count such statements apart). THE CARD IS WHAT COUNTS. Prove the row's statement (the work); the ties are given (YtpfffhfempgmaabGreatDoorTie.lean); close each card by the builder's one call (the guide's Derived/Test/ToyasCard.lean, 'card_holds'). Laid BY PROGRAM, IN A SANDBOX (cutbox-door.mjs). By AI agents, Wed Nov 11 2026. No macro, syntax, notation, axiom, sorry.
-/
import Derived.Test.YtpfffhfempgmaabGreatDoorRows
import GoSem.ClaimSeven
namespace Go.Proofs.YtpfffhfempgmaabGreatDoor
namespace Rows

/-- THE TIED CARD OF 'spigotlaw44.ReportNames'. -/
def reportNamesCard : Claim7 := { stood := { row := reportNamesRow, standIns := [], harness := (true, "af366ec8a463738e1c4566733daf54abf1e7101624b0164e6d0f32a983298d03"), looks := true }, kinds := [], alts := [], laidByText := true, laidKinds := [.data, .data, .data, .data, .sentinel, .sentinel, .pinned], laidTests := true, laidLooks := .later }
def ReportNamesCardSaid : Prop := Claim7.holds Tryz.pinned (.plain (OpenSpec.ofChange reportNamesSpec)) reportNamesCard

/-- THE SECOND FORM's CARD OF 'spigotlaw44.ReportNames'. -/
def reportNamesUptoCard : Claim7 := { stood := { row := reportNamesUptoRow, standIns := [], harness := (true, "af366ec8a463738e1c4566733daf54abf1e7101624b0164e6d0f32a983298d03"), looks := true }, kinds := [], alts := [], laidByText := true, laidKinds := [.data, .data, .data, .data, .sentinel, .sentinel, .pinned], laidTests := true, laidLooks := .later }
def ReportNamesUptoCardSaid : Prop := Claim7.holds Tryz.pinned (.plain (OpenSpec.upto reportNamesSpec)) reportNamesUptoCard
end Rows
end Go.Proofs.YtpfffhfempgmaabGreatDoor
