/-
  DERIVED. GIVEN WITH THE SEED: THE CARDS: each row of YtkgpkkdcadkpmaaGreatDoorRows.lean that lists a variable, with what it lists TIED to the program's text (the seventh form; the later family's looks); each row that meets fmt, with fmt's text TOLD by the authors' own Lean function (tested against real Go, not proved from fmt's source: count such statements apart). THE CARD IS WHAT COUNTS. Prove the row's statement (the work); the ties are given (YtkgpkkdcadkpmaaGreatDoorTie.lean); close each card by the builder's one call (the guide's Derived/Test/ToyasCard.lean, 'card_holds'). Laid BY PROGRAM, IN A SANDBOX (cutbox-door.mjs). By AI agents, Wed Nov 11 2026. No macro, syntax, notation, axiom, sorry.
-/
import Derived.Test.YtkgpkkdcadkpmaaGreatDoorRows
import GoSem.ClaimSeven
namespace Go.Proofs.YtkgpkkdcadkpmaaGreatDoor
namespace Rows

/-- THE TIED CARD OF 'bedrocklaw5.IkeyTells'. -/
def ikeyTellsCard : Claim7 := { stood := { row := ikeyTellsRow, standIns := [], harness := (true, "8dac242d1e064e8b9f3b84c99ba7da591df7432c23190061bd2990706040eaff"), looks := true }, kinds := [], alts := [], laidByText := true, laidKinds := [.data, .pinned], laidTests := true, laidLooks := .later }
def IkeyTellsCardSaid : Prop := Claim7.holds Tryz.pinned (.plain (OpenSpec.ofChange ikeyTellsSpec)) ikeyTellsCard

/-- THE SECOND FORM's CARD OF 'bedrocklaw5.IkeyTells'. -/
def ikeyTellsUptoCard : Claim7 := { stood := { row := ikeyTellsUptoRow, standIns := [], harness := (true, "8dac242d1e064e8b9f3b84c99ba7da591df7432c23190061bd2990706040eaff"), looks := true }, kinds := [], alts := [], laidByText := true, laidKinds := [.data, .pinned], laidTests := true, laidLooks := .later }
def IkeyTellsUptoCardSaid : Prop := Claim7.holds Tryz.pinned (.plain (OpenSpec.upto ikeyTellsSpec)) ikeyTellsUptoCard
end Rows
end Go.Proofs.YtkgpkkdcadkpmaaGreatDoor
