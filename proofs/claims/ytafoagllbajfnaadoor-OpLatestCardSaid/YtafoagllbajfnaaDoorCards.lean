/-
  DERIVED. GIVEN WITH THE SEED: THE CARDS: each row of YtafoagllbajfnaaDoorRows.lean that lists a variable, with what it lists TIED to the program's text (the seventh form; the later family's looks); each row that meets fmt, with fmt's text TOLD by the authors' own Lean function (tested against real Go, not proved from fmt's source: count such statements apart). THE CARD IS WHAT COUNTS. Prove the row's statement (the work); the ties are given (YtafoagllbajfnaaDoorTie.lean); close each card by the builder's one call (the guide's Derived/Test/ToyasCard.lean, 'card_holds'). Laid BY PROGRAM, IN A SANDBOX (cutbox-door.mjs). By AI agents, Wed Nov 11 2026. No macro, syntax, notation, axiom, sorry.
-/
import Derived.Test.YtafoagllbajfnaaDoorRows
import GoSem.ClaimSeven
namespace Go.Proofs.YtafoagllbajfnaaDoor
namespace Rows

/-- THE TIED CARD OF 'bedrocklaw6.OpTexts'. -/
def opTextsCard : Claim7 := { stood := { row := opTextsRow, standIns := [], harness := (true, "a08bff7a59a0bec72a19e7b649851c0f6dd404f3195b5ffdbb5e77d0bcc77406"), looks := true }, kinds := [], alts := [], laidByText := true, laidKinds := [.data], laidTests := true, laidLooks := .later }
def OpTextsCardSaid : Prop := Claim7.holds Tryd.pinned (.plain (OpenSpec.ofChange opTextsSpec)) opTextsCard

/-- THE TIED CARD OF 'bedrocklaw6.OpTogether'. -/
def opTogetherCard : Claim7 := { stood := { row := opTogetherRow, standIns := [], harness := (true, "a08bff7a59a0bec72a19e7b649851c0f6dd404f3195b5ffdbb5e77d0bcc77406"), looks := true }, kinds := [], alts := [], laidByText := true, laidKinds := [.data], laidTests := true, laidLooks := .later }
def OpTogetherCardSaid : Prop := Claim7.holds Tryd.pinned (.plain (OpenSpec.ofChange opTogetherSpec)) opTogetherCard

/-- THE TIED CARD OF 'bedrocklaw6.OpValues'. -/
def opValuesCard : Claim7 := { stood := { row := opValuesRow, standIns := [], harness := (true, "a08bff7a59a0bec72a19e7b649851c0f6dd404f3195b5ffdbb5e77d0bcc77406"), looks := true }, kinds := [], alts := [], laidByText := true, laidKinds := [.data], laidTests := true, laidLooks := .later }
def OpValuesCardSaid : Prop := Claim7.holds Tryd.pinned (.plain (OpenSpec.ofChange opValuesSpec)) opValuesCard

/-- THE TIED CARD OF 'bedrocklaw2.RealScales'. -/
def realScalesCard : Claim7 := { stood := { row := realScalesRow, standIns := [], harness := (true, "a08bff7a59a0bec72a19e7b649851c0f6dd404f3195b5ffdbb5e77d0bcc77406"), looks := true }, kinds := [], alts := [], laidByText := true, laidKinds := [.data], laidTests := true, laidLooks := .later }
def RealScalesCardSaid : Prop := Claim7.holds Tryd.pinned (.plain (OpenSpec.ofChange realScalesSpec)) realScalesCard

/-- THE TIED CARD OF 'bedrocklaw6.OpLatest'. -/
def opLatestCard : Claim7 := { stood := { row := opLatestRow, standIns := [], harness := (true, "a08bff7a59a0bec72a19e7b649851c0f6dd404f3195b5ffdbb5e77d0bcc77406"), looks := true }, kinds := [], alts := [], laidByText := true, laidKinds := [.data], laidTests := true, laidLooks := .later }
def OpLatestCardSaid : Prop := Claim7.holds Tryd.pinned (.plain (OpenSpec.ofChange opLatestSpec)) opLatestCard

/-- THE TIED CARD OF 'bedrocklaw6.OpShuffled'. -/
def opShuffledCard : Claim7 := { stood := { row := opShuffledRow, standIns := [], harness := (true, "a08bff7a59a0bec72a19e7b649851c0f6dd404f3195b5ffdbb5e77d0bcc77406"), looks := true }, kinds := [], alts := [], laidByText := true, laidKinds := [.data], laidTests := true, laidLooks := .later }
def OpShuffledCardSaid : Prop := Claim7.holds Tryd.pinned (.plain (OpenSpec.ofChange opShuffledSpec)) opShuffledCard

/-- THE TIED CARD OF 'bedrocklaw6.OpGrows'. -/
def opGrowsCard : Claim7 := { stood := { row := opGrowsRow, standIns := [], harness := (true, "a08bff7a59a0bec72a19e7b649851c0f6dd404f3195b5ffdbb5e77d0bcc77406"), looks := true }, kinds := [], alts := [], laidByText := true, laidKinds := [.data], laidTests := true, laidLooks := .later }
def OpGrowsCardSaid : Prop := Claim7.holds Tryd.pinned (.plain (OpenSpec.ofChange opGrowsSpec)) opGrowsCard

/-- THE TIED CARD OF 'bedrocklaw2.RealRatios'. -/
def realRatiosCard : Claim7 := { stood := { row := realRatiosRow, standIns := [], harness := (true, "a08bff7a59a0bec72a19e7b649851c0f6dd404f3195b5ffdbb5e77d0bcc77406"), looks := true }, kinds := [], alts := [], laidByText := true, laidKinds := [.data], laidTests := true, laidLooks := .later }
def RealRatiosCardSaid : Prop := Claim7.holds Tryd.pinned (.plain (OpenSpec.ofChange realRatiosSpec)) realRatiosCard

/-- THE TIED CARD OF 'bedrocklaw2.RealBytes'. -/
def realBytesCard : Claim7 := { stood := { row := realBytesRow, standIns := [], harness := (true, "a08bff7a59a0bec72a19e7b649851c0f6dd404f3195b5ffdbb5e77d0bcc77406"), looks := true }, kinds := [], alts := [], laidByText := true, laidKinds := [.data], laidTests := true, laidLooks := .later }
def RealBytesCardSaid : Prop := Claim7.holds Tryd.pinned (.plain (OpenSpec.ofChange realBytesSpec)) realBytesCard

/-- THE TIED CARD OF 'bedrocklaw2.RealOrder'. -/
def realOrderCard : Claim7 := { stood := { row := realOrderRow, standIns := [], harness := (true, "a08bff7a59a0bec72a19e7b649851c0f6dd404f3195b5ffdbb5e77d0bcc77406"), looks := true }, kinds := [], alts := [], laidByText := true, laidKinds := [.data], laidTests := true, laidLooks := .later }
def RealOrderCardSaid : Prop := Claim7.holds Tryd.pinned (.plain (OpenSpec.ofChange realOrderSpec)) realOrderCard

/-- THE TIED CARD OF 'bedrocklaw2.RealTwo'. -/
def realTwoCard : Claim7 := { stood := { row := realTwoRow, standIns := [], harness := (true, "a08bff7a59a0bec72a19e7b649851c0f6dd404f3195b5ffdbb5e77d0bcc77406"), looks := true }, kinds := [], alts := [], laidByText := true, laidKinds := [.data], laidTests := true, laidLooks := .later }
def RealTwoCardSaid : Prop := Claim7.holds Tryd.pinned (.plain (OpenSpec.ofChange realTwoSpec)) realTwoCard

/-- THE TIED CARD OF 'bedrocklaw2.RealTurned'. -/
def realTurnedCard : Claim7 := { stood := { row := realTurnedRow, standIns := [], harness := (true, "a08bff7a59a0bec72a19e7b649851c0f6dd404f3195b5ffdbb5e77d0bcc77406"), looks := true }, kinds := [], alts := [], laidByText := true, laidKinds := [.data], laidTests := true, laidLooks := .later }
def RealTurnedCardSaid : Prop := Claim7.holds Tryd.pinned (.plain (OpenSpec.ofChange realTurnedSpec)) realTurnedCard

/-- THE TIED CARD OF 'bedrocklaw2.RealMeets'. -/
def realMeetsCard : Claim7 := { stood := { row := realMeetsRow, standIns := [], harness := (true, "a08bff7a59a0bec72a19e7b649851c0f6dd404f3195b5ffdbb5e77d0bcc77406"), looks := true }, kinds := [], alts := [], laidByText := true, laidKinds := [.data], laidTests := true, laidLooks := .later }
def RealMeetsCardSaid : Prop := Claim7.holds Tryd.pinned (.plain (OpenSpec.ofChange realMeetsSpec)) realMeetsCard

/-- THE TIED CARD OF 'bedrocklaw6.OpBack'. -/
def opBackCard : Claim7 := { stood := { row := opBackRow, standIns := [], harness := (true, "a08bff7a59a0bec72a19e7b649851c0f6dd404f3195b5ffdbb5e77d0bcc77406"), looks := true }, kinds := [], alts := [], laidByText := true, laidKinds := [.data], laidTests := true, laidLooks := .later }
def OpBackCardSaid : Prop := Claim7.holds Tryd.pinned (.plain (OpenSpec.ofChange opBackSpec)) opBackCard

/-- THE TIED CARD OF 'bedrocklaw2.RealTexts'. -/
def realTextsCard : Claim7 := { stood := { row := realTextsRow, standIns := [], harness := (true, "a08bff7a59a0bec72a19e7b649851c0f6dd404f3195b5ffdbb5e77d0bcc77406"), looks := true }, kinds := [], alts := [], laidByText := true, laidKinds := [.data], laidTests := true, laidLooks := .later }
def RealTextsCardSaid : Prop := Claim7.holds Tryd.pinned (.plain (OpenSpec.ofChange realTextsSpec)) realTextsCard

/-- THE TIED CARD OF 'bedrocklaw2.RealBack'. -/
def realBackCard : Claim7 := { stood := { row := realBackRow, standIns := [], harness := (true, "a08bff7a59a0bec72a19e7b649851c0f6dd404f3195b5ffdbb5e77d0bcc77406"), looks := true }, kinds := [], alts := [], laidByText := true, laidKinds := [.data], laidTests := true, laidLooks := .later }
def RealBackCardSaid : Prop := Claim7.holds Tryd.pinned (.plain (OpenSpec.ofChange realBackSpec)) realBackCard

/-- THE TIED CARD OF 'bedrocklaw6.OpActs'. -/
def opActsCard : Claim7 := { stood := { row := opActsRow, standIns := [], harness := (true, "a08bff7a59a0bec72a19e7b649851c0f6dd404f3195b5ffdbb5e77d0bcc77406"), looks := true }, kinds := [], alts := [], laidByText := true, laidKinds := [.data], laidTests := true, laidLooks := .later }
def OpActsCardSaid : Prop := Claim7.holds Tryd.pinned (.plain (OpenSpec.ofChange opActsSpec)) opActsCard

/-- THE TIED CARD OF 'bedrocklaw2.RealNumbers'. -/
def realNumbersCard : Claim7 := { stood := { row := realNumbersRow, standIns := [], harness := (true, "a08bff7a59a0bec72a19e7b649851c0f6dd404f3195b5ffdbb5e77d0bcc77406"), looks := true }, kinds := [], alts := [], laidByText := true, laidKinds := [.data], laidTests := true, laidLooks := .later }
def RealNumbersCardSaid : Prop := Claim7.holds Tryd.pinned (.plain (OpenSpec.ofChange realNumbersSpec)) realNumbersCard

/-- THE SECOND FORM's CARD OF 'bedrocklaw6.OpTexts'. -/
def opTextsUptoCard : Claim7 := { stood := { row := opTextsUptoRow, standIns := [], harness := (true, "a08bff7a59a0bec72a19e7b649851c0f6dd404f3195b5ffdbb5e77d0bcc77406"), looks := true }, kinds := [], alts := [], laidByText := true, laidKinds := [.data], laidTests := true, laidLooks := .later }
def OpTextsUptoCardSaid : Prop := Claim7.holds Tryd.pinned (.plain (OpenSpec.upto opTextsSpec)) opTextsUptoCard

/-- THE SECOND FORM's CARD OF 'bedrocklaw6.OpTogether'. -/
def opTogetherUptoCard : Claim7 := { stood := { row := opTogetherUptoRow, standIns := [], harness := (true, "a08bff7a59a0bec72a19e7b649851c0f6dd404f3195b5ffdbb5e77d0bcc77406"), looks := true }, kinds := [], alts := [], laidByText := true, laidKinds := [.data], laidTests := true, laidLooks := .later }
def OpTogetherUptoCardSaid : Prop := Claim7.holds Tryd.pinned (.plain (OpenSpec.upto opTogetherSpec)) opTogetherUptoCard

/-- THE SECOND FORM's CARD OF 'bedrocklaw6.OpValues'. -/
def opValuesUptoCard : Claim7 := { stood := { row := opValuesUptoRow, standIns := [], harness := (true, "a08bff7a59a0bec72a19e7b649851c0f6dd404f3195b5ffdbb5e77d0bcc77406"), looks := true }, kinds := [], alts := [], laidByText := true, laidKinds := [.data], laidTests := true, laidLooks := .later }
def OpValuesUptoCardSaid : Prop := Claim7.holds Tryd.pinned (.plain (OpenSpec.upto opValuesSpec)) opValuesUptoCard

/-- THE SECOND FORM's CARD OF 'bedrocklaw2.RealScales'. -/
def realScalesUptoCard : Claim7 := { stood := { row := realScalesUptoRow, standIns := [], harness := (true, "a08bff7a59a0bec72a19e7b649851c0f6dd404f3195b5ffdbb5e77d0bcc77406"), looks := true }, kinds := [], alts := [], laidByText := true, laidKinds := [.data], laidTests := true, laidLooks := .later }
def RealScalesUptoCardSaid : Prop := Claim7.holds Tryd.pinned (.plain (OpenSpec.upto realScalesSpec)) realScalesUptoCard

/-- THE SECOND FORM's CARD OF 'bedrocklaw6.OpLatest'. -/
def opLatestUptoCard : Claim7 := { stood := { row := opLatestUptoRow, standIns := [], harness := (true, "a08bff7a59a0bec72a19e7b649851c0f6dd404f3195b5ffdbb5e77d0bcc77406"), looks := true }, kinds := [], alts := [], laidByText := true, laidKinds := [.data], laidTests := true, laidLooks := .later }
def OpLatestUptoCardSaid : Prop := Claim7.holds Tryd.pinned (.plain (OpenSpec.upto opLatestSpec)) opLatestUptoCard

/-- THE SECOND FORM's CARD OF 'bedrocklaw6.OpShuffled'. -/
def opShuffledUptoCard : Claim7 := { stood := { row := opShuffledUptoRow, standIns := [], harness := (true, "a08bff7a59a0bec72a19e7b649851c0f6dd404f3195b5ffdbb5e77d0bcc77406"), looks := true }, kinds := [], alts := [], laidByText := true, laidKinds := [.data], laidTests := true, laidLooks := .later }
def OpShuffledUptoCardSaid : Prop := Claim7.holds Tryd.pinned (.plain (OpenSpec.upto opShuffledSpec)) opShuffledUptoCard

/-- THE SECOND FORM's CARD OF 'bedrocklaw6.OpGrows'. -/
def opGrowsUptoCard : Claim7 := { stood := { row := opGrowsUptoRow, standIns := [], harness := (true, "a08bff7a59a0bec72a19e7b649851c0f6dd404f3195b5ffdbb5e77d0bcc77406"), looks := true }, kinds := [], alts := [], laidByText := true, laidKinds := [.data], laidTests := true, laidLooks := .later }
def OpGrowsUptoCardSaid : Prop := Claim7.holds Tryd.pinned (.plain (OpenSpec.upto opGrowsSpec)) opGrowsUptoCard

/-- THE SECOND FORM's CARD OF 'bedrocklaw2.RealRatios'. -/
def realRatiosUptoCard : Claim7 := { stood := { row := realRatiosUptoRow, standIns := [], harness := (true, "a08bff7a59a0bec72a19e7b649851c0f6dd404f3195b5ffdbb5e77d0bcc77406"), looks := true }, kinds := [], alts := [], laidByText := true, laidKinds := [.data], laidTests := true, laidLooks := .later }
def RealRatiosUptoCardSaid : Prop := Claim7.holds Tryd.pinned (.plain (OpenSpec.upto realRatiosSpec)) realRatiosUptoCard

/-- THE SECOND FORM's CARD OF 'bedrocklaw2.RealBytes'. -/
def realBytesUptoCard : Claim7 := { stood := { row := realBytesUptoRow, standIns := [], harness := (true, "a08bff7a59a0bec72a19e7b649851c0f6dd404f3195b5ffdbb5e77d0bcc77406"), looks := true }, kinds := [], alts := [], laidByText := true, laidKinds := [.data], laidTests := true, laidLooks := .later }
def RealBytesUptoCardSaid : Prop := Claim7.holds Tryd.pinned (.plain (OpenSpec.upto realBytesSpec)) realBytesUptoCard

/-- THE SECOND FORM's CARD OF 'bedrocklaw2.RealOrder'. -/
def realOrderUptoCard : Claim7 := { stood := { row := realOrderUptoRow, standIns := [], harness := (true, "a08bff7a59a0bec72a19e7b649851c0f6dd404f3195b5ffdbb5e77d0bcc77406"), looks := true }, kinds := [], alts := [], laidByText := true, laidKinds := [.data], laidTests := true, laidLooks := .later }
def RealOrderUptoCardSaid : Prop := Claim7.holds Tryd.pinned (.plain (OpenSpec.upto realOrderSpec)) realOrderUptoCard

/-- THE SECOND FORM's CARD OF 'bedrocklaw2.RealTwo'. -/
def realTwoUptoCard : Claim7 := { stood := { row := realTwoUptoRow, standIns := [], harness := (true, "a08bff7a59a0bec72a19e7b649851c0f6dd404f3195b5ffdbb5e77d0bcc77406"), looks := true }, kinds := [], alts := [], laidByText := true, laidKinds := [.data], laidTests := true, laidLooks := .later }
def RealTwoUptoCardSaid : Prop := Claim7.holds Tryd.pinned (.plain (OpenSpec.upto realTwoSpec)) realTwoUptoCard

/-- THE SECOND FORM's CARD OF 'bedrocklaw2.RealTurned'. -/
def realTurnedUptoCard : Claim7 := { stood := { row := realTurnedUptoRow, standIns := [], harness := (true, "a08bff7a59a0bec72a19e7b649851c0f6dd404f3195b5ffdbb5e77d0bcc77406"), looks := true }, kinds := [], alts := [], laidByText := true, laidKinds := [.data], laidTests := true, laidLooks := .later }
def RealTurnedUptoCardSaid : Prop := Claim7.holds Tryd.pinned (.plain (OpenSpec.upto realTurnedSpec)) realTurnedUptoCard

/-- THE SECOND FORM's CARD OF 'bedrocklaw2.RealMeets'. -/
def realMeetsUptoCard : Claim7 := { stood := { row := realMeetsUptoRow, standIns := [], harness := (true, "a08bff7a59a0bec72a19e7b649851c0f6dd404f3195b5ffdbb5e77d0bcc77406"), looks := true }, kinds := [], alts := [], laidByText := true, laidKinds := [.data], laidTests := true, laidLooks := .later }
def RealMeetsUptoCardSaid : Prop := Claim7.holds Tryd.pinned (.plain (OpenSpec.upto realMeetsSpec)) realMeetsUptoCard

/-- THE SECOND FORM's CARD OF 'bedrocklaw6.OpBack'. -/
def opBackUptoCard : Claim7 := { stood := { row := opBackUptoRow, standIns := [], harness := (true, "a08bff7a59a0bec72a19e7b649851c0f6dd404f3195b5ffdbb5e77d0bcc77406"), looks := true }, kinds := [], alts := [], laidByText := true, laidKinds := [.data], laidTests := true, laidLooks := .later }
def OpBackUptoCardSaid : Prop := Claim7.holds Tryd.pinned (.plain (OpenSpec.upto opBackSpec)) opBackUptoCard

/-- THE SECOND FORM's CARD OF 'bedrocklaw2.RealTexts'. -/
def realTextsUptoCard : Claim7 := { stood := { row := realTextsUptoRow, standIns := [], harness := (true, "a08bff7a59a0bec72a19e7b649851c0f6dd404f3195b5ffdbb5e77d0bcc77406"), looks := true }, kinds := [], alts := [], laidByText := true, laidKinds := [.data], laidTests := true, laidLooks := .later }
def RealTextsUptoCardSaid : Prop := Claim7.holds Tryd.pinned (.plain (OpenSpec.upto realTextsSpec)) realTextsUptoCard

/-- THE SECOND FORM's CARD OF 'bedrocklaw2.RealBack'. -/
def realBackUptoCard : Claim7 := { stood := { row := realBackUptoRow, standIns := [], harness := (true, "a08bff7a59a0bec72a19e7b649851c0f6dd404f3195b5ffdbb5e77d0bcc77406"), looks := true }, kinds := [], alts := [], laidByText := true, laidKinds := [.data], laidTests := true, laidLooks := .later }
def RealBackUptoCardSaid : Prop := Claim7.holds Tryd.pinned (.plain (OpenSpec.upto realBackSpec)) realBackUptoCard

/-- THE SECOND FORM's CARD OF 'bedrocklaw6.OpActs'. -/
def opActsUptoCard : Claim7 := { stood := { row := opActsUptoRow, standIns := [], harness := (true, "a08bff7a59a0bec72a19e7b649851c0f6dd404f3195b5ffdbb5e77d0bcc77406"), looks := true }, kinds := [], alts := [], laidByText := true, laidKinds := [.data], laidTests := true, laidLooks := .later }
def OpActsUptoCardSaid : Prop := Claim7.holds Tryd.pinned (.plain (OpenSpec.upto opActsSpec)) opActsUptoCard

/-- THE SECOND FORM's CARD OF 'bedrocklaw2.RealNumbers'. -/
def realNumbersUptoCard : Claim7 := { stood := { row := realNumbersUptoRow, standIns := [], harness := (true, "a08bff7a59a0bec72a19e7b649851c0f6dd404f3195b5ffdbb5e77d0bcc77406"), looks := true }, kinds := [], alts := [], laidByText := true, laidKinds := [.data], laidTests := true, laidLooks := .later }
def RealNumbersUptoCardSaid : Prop := Claim7.holds Tryd.pinned (.plain (OpenSpec.upto realNumbersSpec)) realNumbersUptoCard
end Rows
end Go.Proofs.YtafoagllbajfnaaDoor
