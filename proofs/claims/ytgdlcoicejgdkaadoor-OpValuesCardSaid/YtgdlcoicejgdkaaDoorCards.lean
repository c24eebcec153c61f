/-
  DERIVED. GIVEN WITH THE SEED: THE CARDS: each row of YtgdlcoicejgdkaaDoorRows.lean that lists a variable, with what it lists TIED to the program's text (the seventh form; the later family's looks); each row that meets fmt, with fmt's text TOLD by the authors' own Lean function (tested against real Go, not proved from fmt's source: count such statements apart). THE CARD IS WHAT COUNTS. Prove the row's statement (the work); the ties are given (YtgdlcoicejgdkaaDoorTie.lean); close each card by the builder's one call (the guide's Derived/Test/ToyasCard.lean, 'card_holds'). Laid BY PROGRAM, IN A SANDBOX (cutbox-door.mjs). By AI agents, Wed Nov 11 2026. No macro, syntax, notation, axiom, sorry.
-/
import Derived.Test.YtgdlcoicejgdkaaDoorRows
import GoSem.ClaimSeven
namespace Go.Proofs.YtgdlcoicejgdkaaDoor
namespace Rows

/-- THE TIED CARD OF 'bedrocklaw6.OpValues'. -/
def opValuesCard : Claim7 := { stood := { row := opValuesRow, standIns := [], harness := (true, "2481a6bceaeba6498dc9dd078bd79f65d6d5f60002e47bd3196670b9002976f8"), looks := true }, kinds := [], alts := [], laidByText := true, laidKinds := [.data], laidTests := true, laidLooks := .later }
def OpValuesCardSaid : Prop := Claim7.holds Tryd.pinned (.plain (OpenSpec.ofChange opValuesSpec)) opValuesCard

/-- THE TIED CARD OF 'bedrocklaw6.OpShuffled'. -/
def opShuffledCard : Claim7 := { stood := { row := opShuffledRow, standIns := [], harness := (true, "2481a6bceaeba6498dc9dd078bd79f65d6d5f60002e47bd3196670b9002976f8"), looks := true }, kinds := [], alts := [], laidByText := true, laidKinds := [.data], laidTests := true, laidLooks := .later }
def OpShuffledCardSaid : Prop := Claim7.holds Tryd.pinned (.plain (OpenSpec.ofChange opShuffledSpec)) opShuffledCard

/-- THE TIED CARD OF 'bedrocklaw5.IkeyOrder'. -/
def ikeyOrderCard : Claim7 := { stood := { row := ikeyOrderRow, standIns := [], harness := (true, "2481a6bceaeba6498dc9dd078bd79f65d6d5f60002e47bd3196670b9002976f8"), looks := true }, kinds := [], alts := [], laidByText := true, laidKinds := [.data, .pinned], laidTests := true, laidLooks := .later }
def IkeyOrderCardSaid : Prop := Claim7.holds Tryd.pinned (.plain (OpenSpec.ofChange ikeyOrderSpec)) ikeyOrderCard

/-- THE TIED CARD OF 'bedrocklaw5.IkeyHeads'. -/
def ikeyHeadsCard : Claim7 := { stood := { row := ikeyHeadsRow, standIns := [], harness := (true, "2481a6bceaeba6498dc9dd078bd79f65d6d5f60002e47bd3196670b9002976f8"), looks := true }, kinds := [], alts := [], laidByText := true, laidKinds := [.data, .pinned], laidTests := true, laidLooks := .later }
def IkeyHeadsCardSaid : Prop := Claim7.holds Tryd.pinned (.plain (OpenSpec.ofChange ikeyHeadsSpec)) ikeyHeadsCard

/-- THE TIED CARD OF 'bedrocklaw5.IkeyFolded'. -/
def ikeyFoldedCard : Claim7 := { stood := { row := ikeyFoldedRow, standIns := [], harness := (true, "2481a6bceaeba6498dc9dd078bd79f65d6d5f60002e47bd3196670b9002976f8"), looks := true }, kinds := [], alts := [], laidByText := true, laidKinds := [.data, .pinned], laidTests := true, laidLooks := .later }
def IkeyFoldedCardSaid : Prop := Claim7.holds Tryd.pinned (.plain (OpenSpec.ofChange ikeyFoldedSpec)) ikeyFoldedCard

/-- THE TIED CARD OF 'bedrocklaw5.IkeyBack'. -/
def ikeyBackCard : Claim7 := { stood := { row := ikeyBackRow, standIns := [], harness := (true, "2481a6bceaeba6498dc9dd078bd79f65d6d5f60002e47bd3196670b9002976f8"), looks := true }, kinds := [], alts := [], laidByText := true, laidKinds := [.data, .pinned], laidTests := true, laidLooks := .later }
def IkeyBackCardSaid : Prop := Claim7.holds Tryd.pinned (.plain (OpenSpec.ofChange ikeyBackSpec)) ikeyBackCard

/-- THE TIED CARD OF 'bedrocklaw2.RealTexts'. -/
def realTextsCard : Claim7 := { stood := { row := realTextsRow, standIns := [], harness := (true, "2481a6bceaeba6498dc9dd078bd79f65d6d5f60002e47bd3196670b9002976f8"), looks := true }, kinds := [], alts := [], laidByText := true, laidKinds := [.data], laidTests := true, laidLooks := .later }
def RealTextsCardSaid : Prop := Claim7.holds Tryd.pinned (.plain (OpenSpec.ofChange realTextsSpec)) realTextsCard

/-- THE TIED CARD OF 'bedrocklaw6.OpActs'. -/
def opActsCard : Claim7 := { stood := { row := opActsRow, standIns := [], harness := (true, "2481a6bceaeba6498dc9dd078bd79f65d6d5f60002e47bd3196670b9002976f8"), looks := true }, kinds := [], alts := [], laidByText := true, laidKinds := [.data], laidTests := true, laidLooks := .later }
def OpActsCardSaid : Prop := Claim7.holds Tryd.pinned (.plain (OpenSpec.ofChange opActsSpec)) opActsCard

/-- THE TIED CARD OF 'bedrocklaw2.RealNumbers'. -/
def realNumbersCard : Claim7 := { stood := { row := realNumbersRow, standIns := [], harness := (true, "2481a6bceaeba6498dc9dd078bd79f65d6d5f60002e47bd3196670b9002976f8"), looks := true }, kinds := [], alts := [], laidByText := true, laidKinds := [.data], laidTests := true, laidLooks := .later }
def RealNumbersCardSaid : Prop := Claim7.holds Tryd.pinned (.plain (OpenSpec.ofChange realNumbersSpec)) realNumbersCard

/-- THE SECOND FORM's CARD OF 'bedrocklaw6.OpValues'. -/
def opValuesUptoCard : Claim7 := { stood := { row := opValuesUptoRow, standIns := [], harness := (true, "2481a6bceaeba6498dc9dd078bd79f65d6d5f60002e47bd3196670b9002976f8"), looks := true }, kinds := [], alts := [], laidByText := true, laidKinds := [.data], laidTests := true, laidLooks := .later }
def OpValuesUptoCardSaid : Prop := Claim7.holds Tryd.pinned (.plain (OpenSpec.upto opValuesSpec)) opValuesUptoCard

/-- THE SECOND FORM's CARD OF 'bedrocklaw6.OpShuffled'. -/
def opShuffledUptoCard : Claim7 := { stood := { row := opShuffledUptoRow, standIns := [], harness := (true, "2481a6bceaeba6498dc9dd078bd79f65d6d5f60002e47bd3196670b9002976f8"), looks := true }, kinds := [], alts := [], laidByText := true, laidKinds := [.data], laidTests := true, laidLooks := .later }
def OpShuffledUptoCardSaid : Prop := Claim7.holds Tryd.pinned (.plain (OpenSpec.upto opShuffledSpec)) opShuffledUptoCard

/-- THE SECOND FORM's CARD OF 'bedrocklaw5.IkeyOrder'. -/
def ikeyOrderUptoCard : Claim7 := { stood := { row := ikeyOrderUptoRow, standIns := [], harness := (true, "2481a6bceaeba6498dc9dd078bd79f65d6d5f60002e47bd3196670b9002976f8"), looks := true }, kinds := [], alts := [], laidByText := true, laidKinds := [.data, .pinned], laidTests := true, laidLooks := .later }
def IkeyOrderUptoCardSaid : Prop := Claim7.holds Tryd.pinned (.plain (OpenSpec.upto ikeyOrderSpec)) ikeyOrderUptoCard

/-- THE SECOND FORM's CARD OF 'bedrocklaw5.IkeyHeads'. -/
def ikeyHeadsUptoCard : Claim7 := { stood := { row := ikeyHeadsUptoRow, standIns := [], harness := (true, "2481a6bceaeba6498dc9dd078bd79f65d6d5f60002e47bd3196670b9002976f8"), looks := true }, kinds := [], alts := [], laidByText := true, laidKinds := [.data, .pinned], laidTests := true, laidLooks := .later }
def IkeyHeadsUptoCardSaid : Prop := Claim7.holds Tryd.pinned (.plain (OpenSpec.upto ikeyHeadsSpec)) ikeyHeadsUptoCard

/-- THE SECOND FORM's CARD OF 'bedrocklaw5.IkeyFolded'. -/
def ikeyFoldedUptoCard : Claim7 := { stood := { row := ikeyFoldedUptoRow, standIns := [], harness := (true, "2481a6bceaeba6498dc9dd078bd79f65d6d5f60002e47bd3196670b9002976f8"), looks := true }, kinds := [], alts := [], laidByText := true, laidKinds := [.data, .pinned], laidTests := true, laidLooks := .later }
def IkeyFoldedUptoCardSaid : Prop := Claim7.holds Tryd.pinned (.plain (OpenSpec.upto ikeyFoldedSpec)) ikeyFoldedUptoCard

/-- THE SECOND FORM's CARD OF 'bedrocklaw5.IkeyBack'. -/
def ikeyBackUptoCard : Claim7 := { stood := { row := ikeyBackUptoRow, standIns := [], harness := (true, "2481a6bceaeba6498dc9dd078bd79f65d6d5f60002e47bd3196670b9002976f8"), looks := true }, kinds := [], alts := [], laidByText := true, laidKinds := [.data, .pinned], laidTests := true, laidLooks := .later }
def IkeyBackUptoCardSaid : Prop := Claim7.holds Tryd.pinned (.plain (OpenSpec.upto ikeyBackSpec)) ikeyBackUptoCard

/-- THE SECOND FORM's CARD OF 'bedrocklaw2.RealTexts'. -/
def realTextsUptoCard : Claim7 := { stood := { row := realTextsUptoRow, standIns := [], harness := (true, "2481a6bceaeba6498dc9dd078bd79f65d6d5f60002e47bd3196670b9002976f8"), looks := true }, kinds := [], alts := [], laidByText := true, laidKinds := [.data], laidTests := true, laidLooks := .later }
def RealTextsUptoCardSaid : Prop := Claim7.holds Tryd.pinned (.plain (OpenSpec.upto realTextsSpec)) realTextsUptoCard

/-- THE SECOND FORM's CARD OF 'bedrocklaw6.OpActs'. -/
def opActsUptoCard : Claim7 := { stood := { row := opActsUptoRow, standIns := [], harness := (true, "2481a6bceaeba6498dc9dd078bd79f65d6d5f60002e47bd3196670b9002976f8"), looks := true }, kinds := [], alts := [], laidByText := true, laidKinds := [.data], laidTests := true, laidLooks := .later }
def OpActsUptoCardSaid : Prop := Claim7.holds Tryd.pinned (.plain (OpenSpec.upto opActsSpec)) opActsUptoCard

/-- THE SECOND FORM's CARD OF 'bedrocklaw2.RealNumbers'. -/
def realNumbersUptoCard : Claim7 := { stood := { row := realNumbersUptoRow, standIns := [], harness := (true, "2481a6bceaeba6498dc9dd078bd79f65d6d5f60002e47bd3196670b9002976f8"), looks := true }, kinds := [], alts := [], laidByText := true, laidKinds := [.data], laidTests := true, laidLooks := .later }
def RealNumbersUptoCardSaid : Prop := Claim7.holds Tryd.pinned (.plain (OpenSpec.upto realNumbersSpec)) realNumbersUptoCard
end Rows
end Go.Proofs.YtgdlcoicejgdkaaDoor
