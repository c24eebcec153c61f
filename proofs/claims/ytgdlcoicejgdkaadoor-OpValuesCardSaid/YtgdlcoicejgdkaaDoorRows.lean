/-
  NARROWER THAN 'FOR EVERY INPUT', by the rows' own cells (each row's printed sentence says how): OpValues: laid · OpShuffled: laid · IkeyOrder: laid · IkeyHeads: laid · IkeyFolded: laid · IkeyBack: laid · RealTexts: laid · OpActs: laid · RealNumbers: laid.
  DERIVED. THE GIVEN ROWS OF THIS SEAT. 9 by the template 'for every input the law returns true; each argument reads behind the call as it read before'; 0 by the template 'total and deterministic' (their statements: YtgdlcoicejgdkaaDoorTotals.lean).
  GIVEN WITH THE SEED: the statements are not yours to turn. If you find one false, say at which input.
  Laid BY PROGRAM, IN A SANDBOX (cutbox-rows.mjs): the forced cells as the released guide's own fill.sh prints them over the translation 93c34b03da8c6021… (all of the seat's roots in one cut). By AI agents, Wed Nov 11 2026. No macro, syntax, notation, axiom, sorry.
-/
import Derived.Test.YtgdlcoicejgdkaaDoorChecked
import GoSem.PinnedTables
import GoSem.Claim
import GoSem.ClaimJoined
import GoSem.ClaimMapViews
import Derived.JoinedTies
import Derived.KernelRfl
namespace Go.Proofs.YtgdlcoicejgdkaaDoor
/- THE CELL 'sum', in the pinned program and in every row, IS THE sha256 OF THE DUMP (.gsa) THAT YtgdlcoicejgdkaaDoorProg.lean LOADS. Nothing in Lean hashes anything: it is a label: what it is worth is what the hold of that sum in a sandbox is worth. -/
noncomputable def Tryd.pinned : Pinned := { name := "ytgdlcoicejgdkaadoor", sum := "93c34b03da8c60216436260a352f3936b18aa1646d1e4442340730fb45cef7a8", checked := Tryd.checked }
namespace Rows
def none {H : Type} : Left H := { results := [], args := [] }

/- WHAT THE LISTED PACKAGE-LEVEL VARIABLES READ AS WHEN THE CALL BEGINS. Each datum BY PROGRAM (the guide's laid-datum.mjs) off the statement by which the dump's own 'gosem.cut.vars' lays the variable. In a bare row this is a premise. The card (YtgdlcoicejgdkaaDoorCards.lean) ties it to the program's text. -/
def laid_math_bits_deBruijn64tab {H : Type} : DataW H := .agg [.lit (.int .u8 0), .lit (.int .u8 1), .lit (.int .u8 56), .lit (.int .u8 2), .lit (.int .u8 57), .lit (.int .u8 49), .lit (.int .u8 28), .lit (.int .u8 3), .lit (.int .u8 61), .lit (.int .u8 58), .lit (.int .u8 42), .lit (.int .u8 50), .lit (.int .u8 38), .lit (.int .u8 29), .lit (.int .u8 17), .lit (.int .u8 4), .lit (.int .u8 62), .lit (.int .u8 47), .lit (.int .u8 59), .lit (.int .u8 36), .lit (.int .u8 45), .lit (.int .u8 43), .lit (.int .u8 51), .lit (.int .u8 22), .lit (.int .u8 53), .lit (.int .u8 39), .lit (.int .u8 33), .lit (.int .u8 30), .lit (.int .u8 24), .lit (.int .u8 18), .lit (.int .u8 12), .lit (.int .u8 5), .lit (.int .u8 63), .lit (.int .u8 55), .lit (.int .u8 48), .lit (.int .u8 27), .lit (.int .u8 60), .lit (.int .u8 41), .lit (.int .u8 37), .lit (.int .u8 16), .lit (.int .u8 46), .lit (.int .u8 35), .lit (.int .u8 44), .lit (.int .u8 21), .lit (.int .u8 52), .lit (.int .u8 32), .lit (.int .u8 23), .lit (.int .u8 11), .lit (.int .u8 54), .lit (.int .u8 26), .lit (.int .u8 40), .lit (.int .u8 15), .lit (.int .u8 34), .lit (.int .u8 20), .lit (.int .u8 31), .lit (.int .u8 10), .lit (.int .u8 25), .lit (.int .u8 14), .lit (.int .u8 19), .lit (.int .u8 9), .lit (.int .u8 13), .lit (.int .u8 8), .lit (.int .u8 7), .lit (.int .u8 6)]
def laid_unicode_utf8_acceptRanges {H : Type} : DataW H := .agg [.agg [.lit (.int .u8 128), .lit (.int .u8 191)], .agg [.lit (.int .u8 160), .lit (.int .u8 191)], .agg [.lit (.int .u8 128), .lit (.int .u8 159)], .agg [.lit (.int .u8 144), .lit (.int .u8 191)], .agg [.lit (.int .u8 128), .lit (.int .u8 143)], .agg [.lit (.int .u8 0), .lit (.int .u8 0)], .agg [.lit (.int .u8 0), .lit (.int .u8 0)], .agg [.lit (.int .u8 0), .lit (.int .u8 0)], .agg [.lit (.int .u8 0), .lit (.int .u8 0)], .agg [.lit (.int .u8 0), .lit (.int .u8 0)], .agg [.lit (.int .u8 0), .lit (.int .u8 0)], .agg [.lit (.int .u8 0), .lit (.int .u8 0)], .agg [.lit (.int .u8 0), .lit (.int .u8 0)], .agg [.lit (.int .u8 0), .lit (.int .u8 0)], .agg [.lit (.int .u8 0), .lit (.int .u8 0)], .agg [.lit (.int .u8 0), .lit (.int .u8 0)]]
/-- One of Go's own tables, pinned by name: the form's constant. -/
def laid_unicode_utf8_first : DataW Unit := Go.Pinned.utf8First

/-- 'bedrocklaw6.OpValues': WHATEVER THE INPUT: true; the input reads as it did. -/
def opValuesSpec : ChangeSpec := { name := "opValues", fn := fun _ => fun
  | [d1, d2] => { results := [.lit (.bool true)], args := [d1, d2] }
  | _ => none }
def opValuesRow : OpenClaim := { program := "ytgdlcoicejgdkaadoor", sum := "93c34b03da8c60216436260a352f3936b18aa1646d1e4442340730fb45cef7a8", func := "bedrock/bedrocklaw6.OpValues", spec := "opValues", inPlace := ["internal/bytealg.IndexByteString", "math.Float64bits", "internal/bytealg.abigen_runtime_cmpstring", "math.Float64frombits"], named := ["math/bits.deBruijn64tab"], apart := false, laid := [("math/bits.deBruijn64tab", laid_math_bits_deBruijn64tab)] }
def OpValuesSaid : Prop := opValuesRow.holds Tryd.pinned (OpenSpec.ofChange opValuesSpec)

/-- ITS FALSE NEIGHBOUR: 'it returns false'. Refute it at one input. -/
def opValuesWrong : ChangeSpec := { name := "opValues", fn := fun _ => fun
  | [d1, d2] => { results := [.lit (.bool false)], args := [d1, d2] }
  | _ => none }
def OpValuesWrongFalsely : Prop := opValuesRow.holds Tryd.pinned (OpenSpec.ofChange opValuesWrong)

/-- 'bedrocklaw6.OpShuffled': WHATEVER THE INPUT: true; the input reads as it did. -/
def opShuffledSpec : ChangeSpec := { name := "opShuffled", fn := fun _ => fun
  | [d1, d2, d3] => { results := [.lit (.bool true)], args := [d1, d2, d3] }
  | _ => none }
def opShuffledRow : OpenClaim := { program := "ytgdlcoicejgdkaadoor", sum := "93c34b03da8c60216436260a352f3936b18aa1646d1e4442340730fb45cef7a8", func := "bedrock/bedrocklaw6.OpShuffled", spec := "opShuffled", inPlace := ["internal/bytealg.IndexByteString", "math.Float64bits", "internal/bytealg.abigen_runtime_cmpstring", "math.Float64frombits"], named := ["math/bits.deBruijn64tab"], apart := false, laid := [("math/bits.deBruijn64tab", laid_math_bits_deBruijn64tab)] }
def OpShuffledSaid : Prop := opShuffledRow.holds Tryd.pinned (OpenSpec.ofChange opShuffledSpec)

/-- ITS FALSE NEIGHBOUR: 'it returns false'. Refute it at one input. -/
def opShuffledWrong : ChangeSpec := { name := "opShuffled", fn := fun _ => fun
  | [d1, d2, d3] => { results := [.lit (.bool false)], args := [d1, d2, d3] }
  | _ => none }
def OpShuffledWrongFalsely : Prop := opShuffledRow.holds Tryd.pinned (OpenSpec.ofChange opShuffledWrong)

/-- 'bedrocklaw5.IkeyOrder': WHATEVER THE INPUT: true; the input reads as it did. -/
def ikeyOrderSpec : ChangeSpec := { name := "ikeyOrder", fn := fun _ => fun
  | [d1, d2] => { results := [.lit (.bool true)], args := [d1, d2] }
  | _ => none }
def ikeyOrderRow : OpenClaim := { program := "ytgdlcoicejgdkaadoor", sum := "93c34b03da8c60216436260a352f3936b18aa1646d1e4442340730fb45cef7a8", func := "bedrock/bedrocklaw5.IkeyOrder", spec := "ikeyOrder", inPlace := ["internal/bytealg.IndexByteString", "internal/abi.NoEscape", "internal/bytealg.CountString", "internal/bytealg.IndexString", "internal/bytealg.MakeNoZero"], unfollowed := true, recurses := true, named := ["internal/bytealg.MaxLen", "unicode/utf8.first", "unicode/utf8.acceptRanges"], apart := false, laid := [("unicode/utf8.acceptRanges", laid_unicode_utf8_acceptRanges), ("unicode/utf8.first", laid_unicode_utf8_first)] }
def IkeyOrderSaid : Prop := ikeyOrderRow.holds Tryd.pinned (OpenSpec.ofChange ikeyOrderSpec)

/-- ITS FALSE NEIGHBOUR: 'it returns false'. Refute it at one input. -/
def ikeyOrderWrong : ChangeSpec := { name := "ikeyOrder", fn := fun _ => fun
  | [d1, d2] => { results := [.lit (.bool false)], args := [d1, d2] }
  | _ => none }
def IkeyOrderWrongFalsely : Prop := ikeyOrderRow.holds Tryd.pinned (OpenSpec.ofChange ikeyOrderWrong)

/-- 'bedrocklaw5.IkeyHeads': WHATEVER THE INPUT: true; the input reads as it did. -/
def ikeyHeadsSpec : ChangeSpec := { name := "ikeyHeads", fn := fun _ => fun
  | [d1, d2, d3] => { results := [.lit (.bool true)], args := [d1, d2, d3] }
  | _ => none }
def ikeyHeadsRow : OpenClaim := { program := "ytgdlcoicejgdkaadoor", sum := "93c34b03da8c60216436260a352f3936b18aa1646d1e4442340730fb45cef7a8", func := "bedrock/bedrocklaw5.IkeyHeads", spec := "ikeyHeads", inPlace := ["internal/bytealg.IndexByteString", "internal/abi.NoEscape", "internal/bytealg.CountString", "internal/bytealg.IndexString", "internal/bytealg.MakeNoZero"], unfollowed := true, recurses := true, named := ["internal/bytealg.MaxLen", "unicode/utf8.first", "unicode/utf8.acceptRanges"], apart := false, laid := [("unicode/utf8.acceptRanges", laid_unicode_utf8_acceptRanges), ("unicode/utf8.first", laid_unicode_utf8_first)] }
def IkeyHeadsSaid : Prop := ikeyHeadsRow.holds Tryd.pinned (OpenSpec.ofChange ikeyHeadsSpec)

/-- ITS FALSE NEIGHBOUR: 'it returns false'. Refute it at one input. -/
def ikeyHeadsWrong : ChangeSpec := { name := "ikeyHeads", fn := fun _ => fun
  | [d1, d2, d3] => { results := [.lit (.bool false)], args := [d1, d2, d3] }
  | _ => none }
def IkeyHeadsWrongFalsely : Prop := ikeyHeadsRow.holds Tryd.pinned (OpenSpec.ofChange ikeyHeadsWrong)

/-- 'bedrocklaw5.IkeyFolded': WHATEVER THE INPUT: true; the input reads as it did. -/
def ikeyFoldedSpec : ChangeSpec := { name := "ikeyFolded", fn := fun _ => fun
  | [d1, d2] => { results := [.lit (.bool true)], args := [d1, d2] }
  | _ => none }
def ikeyFoldedRow : OpenClaim := { program := "ytgdlcoicejgdkaadoor", sum := "93c34b03da8c60216436260a352f3936b18aa1646d1e4442340730fb45cef7a8", func := "bedrock/bedrocklaw5.IkeyFolded", spec := "ikeyFolded", inPlace := ["internal/bytealg.IndexByteString", "internal/abi.NoEscape", "internal/bytealg.CountString", "internal/bytealg.IndexString", "internal/bytealg.MakeNoZero"], unfollowed := true, recurses := true, named := ["internal/bytealg.MaxLen", "unicode/utf8.first", "unicode/utf8.acceptRanges"], apart := false, laid := [("unicode/utf8.acceptRanges", laid_unicode_utf8_acceptRanges), ("unicode/utf8.first", laid_unicode_utf8_first)] }
def IkeyFoldedSaid : Prop := ikeyFoldedRow.holds Tryd.pinned (OpenSpec.ofChange ikeyFoldedSpec)

/-- ITS FALSE NEIGHBOUR: 'it returns false'. Refute it at one input. -/
def ikeyFoldedWrong : ChangeSpec := { name := "ikeyFolded", fn := fun _ => fun
  | [d1, d2] => { results := [.lit (.bool false)], args := [d1, d2] }
  | _ => none }
def IkeyFoldedWrongFalsely : Prop := ikeyFoldedRow.holds Tryd.pinned (OpenSpec.ofChange ikeyFoldedWrong)

/-- 'bedrocklaw5.IkeyBack': WHATEVER THE INPUT: true; the input reads as it did. -/
def ikeyBackSpec : ChangeSpec := { name := "ikeyBack", fn := fun _ => fun
  | [d1, d2, d3] => { results := [.lit (.bool true)], args := [d1, d2, d3] }
  | _ => none }
def ikeyBackRow : OpenClaim := { program := "ytgdlcoicejgdkaadoor", sum := "93c34b03da8c60216436260a352f3936b18aa1646d1e4442340730fb45cef7a8", func := "bedrock/bedrocklaw5.IkeyBack", spec := "ikeyBack", inPlace := ["internal/bytealg.IndexByteString", "internal/abi.NoEscape", "internal/bytealg.CountString", "internal/bytealg.IndexString", "internal/bytealg.MakeNoZero", "math.Float64bits"], unfollowed := true, recurses := true, named := ["internal/bytealg.MaxLen", "unicode/utf8.first", "unicode/utf8.acceptRanges"], apart := false, laid := [("unicode/utf8.acceptRanges", laid_unicode_utf8_acceptRanges), ("unicode/utf8.first", laid_unicode_utf8_first)] }
def IkeyBackSaid : Prop := ikeyBackRow.holds Tryd.pinned (OpenSpec.ofChange ikeyBackSpec)

/-- ITS FALSE NEIGHBOUR: 'it returns false'. Refute it at one input. -/
def ikeyBackWrong : ChangeSpec := { name := "ikeyBack", fn := fun _ => fun
  | [d1, d2, d3] => { results := [.lit (.bool false)], args := [d1, d2, d3] }
  | _ => none }
def IkeyBackWrongFalsely : Prop := ikeyBackRow.holds Tryd.pinned (OpenSpec.ofChange ikeyBackWrong)

/-- 'bedrocklaw2.RealTexts': WHATEVER THE INPUT: true; the input reads as it did. -/
def realTextsSpec : ChangeSpec := { name := "realTexts", fn := fun _ => fun
  | [d1, d2] => { results := [.lit (.bool true)], args := [d1, d2] }
  | _ => none }
def realTextsRow : OpenClaim := { program := "ytgdlcoicejgdkaadoor", sum := "93c34b03da8c60216436260a352f3936b18aa1646d1e4442340730fb45cef7a8", func := "bedrock/bedrocklaw2.RealTexts", spec := "realTexts", inPlace := ["math.Float64frombits", "internal/bytealg.IndexByteString", "internal/bytealg.IndexString", "math.Float64bits", "internal/bytealg.abigen_runtime_cmpstring"], unfollowed := true, recurses := true, named := ["internal/bytealg.MaxLen", "math/bits.deBruijn64tab"], apart := false, laid := [("math/bits.deBruijn64tab", laid_math_bits_deBruijn64tab)] }
def RealTextsSaid : Prop := realTextsRow.holds Tryd.pinned (OpenSpec.ofChange realTextsSpec)

/-- ITS FALSE NEIGHBOUR: 'it returns false'. Refute it at one input. -/
def realTextsWrong : ChangeSpec := { name := "realTexts", fn := fun _ => fun
  | [d1, d2] => { results := [.lit (.bool false)], args := [d1, d2] }
  | _ => none }
def RealTextsWrongFalsely : Prop := realTextsRow.holds Tryd.pinned (OpenSpec.ofChange realTextsWrong)

/-- 'bedrocklaw6.OpActs': WHATEVER THE INPUT: true; the input reads as it did. -/
def opActsSpec : ChangeSpec := { name := "opActs", fn := fun _ => fun
  | [d1, d2, d3, d4, d5, d6] => { results := [.lit (.bool true)], args := [d1, d2, d3, d4, d5, d6] }
  | _ => none }
def opActsRow : OpenClaim := { program := "ytgdlcoicejgdkaadoor", sum := "93c34b03da8c60216436260a352f3936b18aa1646d1e4442340730fb45cef7a8", func := "bedrock/bedrocklaw6.OpActs", spec := "opActs", inPlace := ["internal/bytealg.IndexByteString", "math.Float64bits", "internal/bytealg.abigen_runtime_cmpstring", "math.Float64frombits"], unfollowed := true, recurses := true, named := ["math/bits.deBruijn64tab"], apart := false, laid := [("math/bits.deBruijn64tab", laid_math_bits_deBruijn64tab)] }
def OpActsSaid : Prop := opActsRow.holds Tryd.pinned (OpenSpec.ofChange opActsSpec)

/-- ITS FALSE NEIGHBOUR: 'it returns false'. Refute it at one input. -/
def opActsWrong : ChangeSpec := { name := "opActs", fn := fun _ => fun
  | [d1, d2, d3, d4, d5, d6] => { results := [.lit (.bool false)], args := [d1, d2, d3, d4, d5, d6] }
  | _ => none }
def OpActsWrongFalsely : Prop := opActsRow.holds Tryd.pinned (OpenSpec.ofChange opActsWrong)

/-- 'bedrocklaw2.RealNumbers': WHATEVER THE INPUT: true; the input reads as it did. -/
def realNumbersSpec : ChangeSpec := { name := "realNumbers", fn := fun _ => fun
  | [d1, d2, d3, d4] => { results := [.lit (.bool true)], args := [d1, d2, d3, d4] }
  | _ => none }
def realNumbersRow : OpenClaim := { program := "ytgdlcoicejgdkaadoor", sum := "93c34b03da8c60216436260a352f3936b18aa1646d1e4442340730fb45cef7a8", func := "bedrock/bedrocklaw2.RealNumbers", spec := "realNumbers", inPlace := ["math.Float64bits", "internal/bytealg.abigen_runtime_cmpstring", "math.Float64frombits", "internal/bytealg.IndexByteString", "internal/bytealg.IndexString", "math.archFloor", "math.archTrunc"], unfollowed := true, recurses := true, named := ["math/bits.deBruijn64tab", "internal/bytealg.MaxLen"], apart := false, laid := [("math/bits.deBruijn64tab", laid_math_bits_deBruijn64tab)] }
def RealNumbersSaid : Prop := realNumbersRow.holds Tryd.pinned (OpenSpec.ofChange realNumbersSpec)

/-- ITS FALSE NEIGHBOUR: 'it returns false'. Refute it at one input. -/
def realNumbersWrong : ChangeSpec := { name := "realNumbers", fn := fun _ => fun
  | [d1, d2, d3, d4] => { results := [.lit (.bool false)], args := [d1, d2, d3, d4] }
  | _ => none }
def RealNumbersWrongFalsely : Prop := realNumbersRow.holds Tryd.pinned (OpenSpec.ofChange realNumbersWrong)

/- THE SECOND FORM. 'bulk': how many values and letters a reading holds, each counted each time it is reached (what is shared counts as often as it is met; a slice's spare places count too). A statement '..UptoSaid' is the law's where the arguments, and the package variables that the reading takes, are together of bulk at most 1048576: NARROWER than '..Said'. Prove '..Said' where nothing that the law and all that it calls make is longer than what came in: it says more and counts as full. Else prove '..UptoSaid'. A law counts once. -/
mutual
def uptoBulk {H : Type} : DataW H → Nat
  | .lit (.string bytes) => bytes.length + 1
  | .lit _ => 1
  | .nil => 1
  | .ptr d => uptoBulk d + 1
  | .slice elems spare => uptoBulkAll elems + uptoBulkAll spare + 1
  | .agg parts => uptoBulkAll parts + 1
  | .iface _ d => uptoBulk d + 1
  | .map entries => uptoBulkEntries entries + 1
  | .held _ => 1
def uptoBulkAll {H : Type} : List (DataW H) → Nat
  | [] => 0
  | d :: r => uptoBulk d + uptoBulkAll r
def uptoBulkEntries {H : Type} : List (Lit × DataW H) → Nat
  | [] => 0
  | x :: r => uptoBulkEntry x + uptoBulkEntries r
def uptoBulkEntry {H : Type} : Lit × DataW H → Nat
  | (.string bytes, d) => bytes.length + uptoBulk d + 1
  | (_, d) => uptoBulk d + 1
 end
def uptoSmall : (H : Type) → List (DataW H) → Bool := fun _ ds => decide (uptoBulkAll ds ≤ 1048576)
def OpenSpec.upto (s : _root_.Go.ChangeSpec) : _root_.Go.OpenSpec := { _root_.Go.OpenSpec.ofChange s with cond := some uptoSmall }

/-- 'bedrocklaw6.OpValues', WHERE WHAT IT READS IS OF BULK AT MOST 1048576: true; the input reads as it did. -/
def opValuesUptoRow : OpenClaim := { program := "ytgdlcoicejgdkaadoor", sum := "93c34b03da8c60216436260a352f3936b18aa1646d1e4442340730fb45cef7a8", func := "bedrock/bedrocklaw6.OpValues", spec := "opValues", inPlace := ["internal/bytealg.IndexByteString", "math.Float64bits", "internal/bytealg.abigen_runtime_cmpstring", "math.Float64frombits"], named := ["math/bits.deBruijn64tab"], apart := false, laid := [("math/bits.deBruijn64tab", laid_math_bits_deBruijn64tab)], narrowed := true }
def OpValuesUptoSaid : Prop := opValuesUptoRow.holds Tryd.pinned (OpenSpec.upto opValuesSpec)

/-- 'bedrocklaw6.OpShuffled', WHERE WHAT IT READS IS OF BULK AT MOST 1048576: true; the input reads as it did. -/
def opShuffledUptoRow : OpenClaim := { program := "ytgdlcoicejgdkaadoor", sum := "93c34b03da8c60216436260a352f3936b18aa1646d1e4442340730fb45cef7a8", func := "bedrock/bedrocklaw6.OpShuffled", spec := "opShuffled", inPlace := ["internal/bytealg.IndexByteString", "math.Float64bits", "internal/bytealg.abigen_runtime_cmpstring", "math.Float64frombits"], named := ["math/bits.deBruijn64tab"], apart := false, laid := [("math/bits.deBruijn64tab", laid_math_bits_deBruijn64tab)], narrowed := true }
def OpShuffledUptoSaid : Prop := opShuffledUptoRow.holds Tryd.pinned (OpenSpec.upto opShuffledSpec)

/-- 'bedrocklaw5.IkeyOrder', WHERE WHAT IT READS IS OF BULK AT MOST 1048576: true; the input reads as it did. -/
def ikeyOrderUptoRow : OpenClaim := { program := "ytgdlcoicejgdkaadoor", sum := "93c34b03da8c60216436260a352f3936b18aa1646d1e4442340730fb45cef7a8", func := "bedrock/bedrocklaw5.IkeyOrder", spec := "ikeyOrder", inPlace := ["internal/bytealg.IndexByteString", "internal/abi.NoEscape", "internal/bytealg.CountString", "internal/bytealg.IndexString", "internal/bytealg.MakeNoZero"], unfollowed := true, recurses := true, named := ["internal/bytealg.MaxLen", "unicode/utf8.first", "unicode/utf8.acceptRanges"], apart := false, laid := [("unicode/utf8.acceptRanges", laid_unicode_utf8_acceptRanges), ("unicode/utf8.first", laid_unicode_utf8_first)], narrowed := true }
def IkeyOrderUptoSaid : Prop := ikeyOrderUptoRow.holds Tryd.pinned (OpenSpec.upto ikeyOrderSpec)

/-- 'bedrocklaw5.IkeyHeads', WHERE WHAT IT READS IS OF BULK AT MOST 1048576: true; the input reads as it did. -/
def ikeyHeadsUptoRow : OpenClaim := { program := "ytgdlcoicejgdkaadoor", sum := "93c34b03da8c60216436260a352f3936b18aa1646d1e4442340730fb45cef7a8", func := "bedrock/bedrocklaw5.IkeyHeads", spec := "ikeyHeads", inPlace := ["internal/bytealg.IndexByteString", "internal/abi.NoEscape", "internal/bytealg.CountString", "internal/bytealg.IndexString", "internal/bytealg.MakeNoZero"], unfollowed := true, recurses := true, named := ["internal/bytealg.MaxLen", "unicode/utf8.first", "unicode/utf8.acceptRanges"], apart := false, laid := [("unicode/utf8.acceptRanges", laid_unicode_utf8_acceptRanges), ("unicode/utf8.first", laid_unicode_utf8_first)], narrowed := true }
def IkeyHeadsUptoSaid : Prop := ikeyHeadsUptoRow.holds Tryd.pinned (OpenSpec.upto ikeyHeadsSpec)

/-- 'bedrocklaw5.IkeyFolded', WHERE WHAT IT READS IS OF BULK AT MOST 1048576: true; the input reads as it did. -/
def ikeyFoldedUptoRow : OpenClaim := { program := "ytgdlcoicejgdkaadoor", sum := "93c34b03da8c60216436260a352f3936b18aa1646d1e4442340730fb45cef7a8", func := "bedrock/bedrocklaw5.IkeyFolded", spec := "ikeyFolded", inPlace := ["internal/bytealg.IndexByteString", "internal/abi.NoEscape", "internal/bytealg.CountString", "internal/bytealg.IndexString", "internal/bytealg.MakeNoZero"], unfollowed := true, recurses := true, named := ["internal/bytealg.MaxLen", "unicode/utf8.first", "unicode/utf8.acceptRanges"], apart := false, laid := [("unicode/utf8.acceptRanges", laid_unicode_utf8_acceptRanges), ("unicode/utf8.first", laid_unicode_utf8_first)], narrowed := true }
def IkeyFoldedUptoSaid : Prop := ikeyFoldedUptoRow.holds Tryd.pinned (OpenSpec.upto ikeyFoldedSpec)

/-- 'bedrocklaw5.IkeyBack', WHERE WHAT IT READS IS OF BULK AT MOST 1048576: true; the input reads as it did. -/
def ikeyBackUptoRow : OpenClaim := { program := "ytgdlcoicejgdkaadoor", sum := "93c34b03da8c60216436260a352f3936b18aa1646d1e4442340730fb45cef7a8", func := "bedrock/bedrocklaw5.IkeyBack", spec := "ikeyBack", inPlace := ["internal/bytealg.IndexByteString", "internal/abi.NoEscape", "internal/bytealg.CountString", "internal/bytealg.IndexString", "internal/bytealg.MakeNoZero", "math.Float64bits"], unfollowed := true, recurses := true, named := ["internal/bytealg.MaxLen", "unicode/utf8.first", "unicode/utf8.acceptRanges"], apart := false, laid := [("unicode/utf8.acceptRanges", laid_unicode_utf8_acceptRanges), ("unicode/utf8.first", laid_unicode_utf8_first)], narrowed := true }
def IkeyBackUptoSaid : Prop := ikeyBackUptoRow.holds Tryd.pinned (OpenSpec.upto ikeyBackSpec)

/-- 'bedrocklaw2.RealTexts', WHERE WHAT IT READS IS OF BULK AT MOST 1048576: true; the input reads as it did. -/
def realTextsUptoRow : OpenClaim := { program := "ytgdlcoicejgdkaadoor", sum := "93c34b03da8c60216436260a352f3936b18aa1646d1e4442340730fb45cef7a8", func := "bedrock/bedrocklaw2.RealTexts", spec := "realTexts", inPlace := ["math.Float64frombits", "internal/bytealg.IndexByteString", "internal/bytealg.IndexString", "math.Float64bits", "internal/bytealg.abigen_runtime_cmpstring"], unfollowed := true, recurses := true, named := ["internal/bytealg.MaxLen", "math/bits.deBruijn64tab"], apart := false, laid := [("math/bits.deBruijn64tab", laid_math_bits_deBruijn64tab)], narrowed := true }
def RealTextsUptoSaid : Prop := realTextsUptoRow.holds Tryd.pinned (OpenSpec.upto realTextsSpec)

/-- 'bedrocklaw6.OpActs', WHERE WHAT IT READS IS OF BULK AT MOST 1048576: true; the input reads as it did. -/
def opActsUptoRow : OpenClaim := { program := "ytgdlcoicejgdkaadoor", sum := "93c34b03da8c60216436260a352f3936b18aa1646d1e4442340730fb45cef7a8", func := "bedrock/bedrocklaw6.OpActs", spec := "opActs", inPlace := ["internal/bytealg.IndexByteString", "math.Float64bits", "internal/bytealg.abigen_runtime_cmpstring", "math.Float64frombits"], unfollowed := true, recurses := true, named := ["math/bits.deBruijn64tab"], apart := false, laid := [("math/bits.deBruijn64tab", laid_math_bits_deBruijn64tab)], narrowed := true }
def OpActsUptoSaid : Prop := opActsUptoRow.holds Tryd.pinned (OpenSpec.upto opActsSpec)

/-- 'bedrocklaw2.RealNumbers', WHERE WHAT IT READS IS OF BULK AT MOST 1048576: true; the input reads as it did. -/
def realNumbersUptoRow : OpenClaim := { program := "ytgdlcoicejgdkaadoor", sum := "93c34b03da8c60216436260a352f3936b18aa1646d1e4442340730fb45cef7a8", func := "bedrock/bedrocklaw2.RealNumbers", spec := "realNumbers", inPlace := ["math.Float64bits", "internal/bytealg.abigen_runtime_cmpstring", "math.Float64frombits", "internal/bytealg.IndexByteString", "internal/bytealg.IndexString", "math.archFloor", "math.archTrunc"], unfollowed := true, recurses := true, named := ["math/bits.deBruijn64tab", "internal/bytealg.MaxLen"], apart := false, laid := [("math/bits.deBruijn64tab", laid_math_bits_deBruijn64tab)], narrowed := true }
def RealNumbersUptoSaid : Prop := realNumbersUptoRow.holds Tryd.pinned (OpenSpec.upto realNumbersSpec)

end Rows
end Go.Proofs.YtgdlcoicejgdkaaDoor
