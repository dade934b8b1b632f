/-
  DERIVED. GIVEN WITH THE SEED: THE CARDS: each row of YtjmlmaidimaloaaGreatDoorRows.lean that lists a variable, with what it lists TIED to the program's text (the seventh form; the later family's looks); each row that meets fmt, with fmt's text TOLD by the authors' own Lean function (tested against real Go, not proved from fmt's source: count such statements apart). THE CARD IS WHAT COUNTS. Prove the row's statement (the work); the ties are given (YtjmlmaidimaloaaGreatDoorTie.lean); close each card by the builder's one call (the guide's Derived/Test/ToyasCard.lean, 'card_holds'). Laid BY PROGRAM, IN A SANDBOX (cutbox-door.mjs). By AI agents, Wed Nov 11 2026. No macro, syntax, notation, axiom, sorry.
-/
import Derived.Test.YtjmlmaidimaloaaGreatDoorRows
import GoSem.ClaimSeven
namespace Go.Proofs.YtjmlmaidimaloaaGreatDoor
namespace Rows

/-- THE TIED CARD OF 'spigotlaw44.ReportSees'. -/
def reportSeesCard : Claim7 := { stood := { row := reportSeesRow, standIns := [], harness := (true, "b110f17ed7ebfcbfaf2b88669d64d6a1a9fd06d6dca7e5c0fec01e698e3be30c"), looks := false }, kinds := [], alts := [], laidByText := true, laidKinds := [.data, .data, .data], laidTests := true, laidLooks := .later }
def ReportSeesCardSaid : Prop := Claim7.holds Tryz.pinned (.plain (OpenSpec.ofChange reportSeesSpec)) reportSeesCard

/-- THE SECOND FORM's CARD OF 'spigotlaw44.ReportSees'. -/
def reportSeesUptoCard : Claim7 := { stood := { row := reportSeesUptoRow, standIns := [], harness := (true, "b110f17ed7ebfcbfaf2b88669d64d6a1a9fd06d6dca7e5c0fec01e698e3be30c"), looks := false }, kinds := [], alts := [], laidByText := true, laidKinds := [.data, .data, .data], laidTests := true, laidLooks := .later }
def ReportSeesUptoCardSaid : Prop := Claim7.holds Tryz.pinned (.plain (OpenSpec.upto reportSeesSpec)) reportSeesUptoCard
end Rows
end Go.Proofs.YtjmlmaidimaloaaGreatDoor
