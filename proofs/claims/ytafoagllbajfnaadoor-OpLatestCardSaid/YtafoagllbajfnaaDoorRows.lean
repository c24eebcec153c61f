/-
  NARROWER THAN 'FOR EVERY INPUT', by the rows' own cells (each row's printed sentence says how): OpTexts: laid · OpTogether: laid · OpValues: laid · RealScales: laid · OpLatest: laid · OpShuffled: laid · OpGrows: laid · RealRatios: laid · RealBytes: laid · RealOrder: laid · RealTwo: laid · RealTurned: laid · RealMeets: laid · OpBack: laid · RealTexts: laid · RealBack: laid · OpActs: laid · RealNumbers: laid.
  DERIVED. THE GIVEN ROWS OF THIS SEAT. 18 by the template 'for every input the law returns true; each argument reads behind the call as it read before'; 0 by the template 'total and deterministic' (their statements: YtafoagllbajfnaaDoorTotals.lean).
  GIVEN WITH THE SEED: the statements are not yours to turn. If you find one false, say at which input.
  Laid BY PROGRAM, IN A SANDBOX (cutbox-rows.mjs): the forced cells as the released guide's own fill.sh prints them over the translation 423768285622a165… (all of the seat's roots in one cut). By AI agents, Wed Nov 11 2026. No macro, syntax, notation, axiom, sorry.
-/
import Derived.Test.YtafoagllbajfnaaDoorChecked
import GoSem.Claim
import GoSem.ClaimJoined
import GoSem.ClaimMapViews
import Derived.JoinedTies
import Derived.KernelRfl
namespace Go.Proofs.YtafoagllbajfnaaDoor
/- THE CELL 'sum', in the pinned program and in every row, IS THE sha256 OF THE DUMP (.gsa) THAT YtafoagllbajfnaaDoorProg.lean LOADS. Nothing in Lean hashes anything: it is a label: what it is worth is what the hold of that sum in a sandbox is worth. -/
noncomputable def Tryd.pinned : Pinned := { name := "ytafoagllbajfnaadoor", sum := "423768285622a165d53bd8dd960d1134bf37e79d2b99ecfe4dd2a0a375e0ae99", checked := Tryd.checked }
namespace Rows
def none {H : Type} : Left H := { results := [], args := [] }

/- WHAT THE LISTED PACKAGE-LEVEL VARIABLES READ AS WHEN THE CALL BEGINS. Each datum BY PROGRAM (the guide's laid-datum.mjs) off the statement by which the dump's own 'gosem.cut.vars' lays the variable. In a bare row this is a premise. The card (YtafoagllbajfnaaDoorCards.lean) ties it to the program's text. -/
def laid_math_bits_deBruijn64tab {H : Type} : DataW H := .agg [.lit (.int .u8 0), .lit (.int .u8 1), .lit (.int .u8 56), .lit (.int .u8 2), .lit (.int .u8 57), .lit (.int .u8 49), .lit (.int .u8 28), .lit (.int .u8 3), .lit (.int .u8 61), .lit (.int .u8 58), .lit (.int .u8 42), .lit (.int .u8 50), .lit (.int .u8 38), .lit (.int .u8 29), .lit (.int .u8 17), .lit (.int .u8 4), .lit (.int .u8 62), .lit (.int .u8 47), .lit (.int .u8 59), .lit (.int .u8 36), .lit (.int .u8 45), .lit (.int .u8 43), .lit (.int .u8 51), .lit (.int .u8 22), .lit (.int .u8 53), .lit (.int .u8 39), .lit (.int .u8 33), .lit (.int .u8 30), .lit (.int .u8 24), .lit (.int .u8 18), .lit (.int .u8 12), .lit (.int .u8 5), .lit (.int .u8 63), .lit (.int .u8 55), .lit (.int .u8 48), .lit (.int .u8 27), .lit (.int .u8 60), .lit (.int .u8 41), .lit (.int .u8 37), .lit (.int .u8 16), .lit (.int .u8 46), .lit (.int .u8 35), .lit (.int .u8 44), .lit (.int .u8 21), .lit (.int .u8 52), .lit (.int .u8 32), .lit (.int .u8 23), .lit (.int .u8 11), .lit (.int .u8 54), .lit (.int .u8 26), .lit (.int .u8 40), .lit (.int .u8 15), .lit (.int .u8 34), .lit (.int .u8 20), .lit (.int .u8 31), .lit (.int .u8 10), .lit (.int .u8 25), .lit (.int .u8 14), .lit (.int .u8 19), .lit (.int .u8 9), .lit (.int .u8 13), .lit (.int .u8 8), .lit (.int .u8 7), .lit (.int .u8 6)]

/-- 'bedrocklaw6.OpTexts': WHATEVER THE INPUT: true; the input reads as it did. -/
def opTextsSpec : ChangeSpec := { name := "opTexts", fn := fun _ => fun
  | [d1, d2, d3] => { results := [.lit (.bool true)], args := [d1, d2, d3] }
  | _ => none }
def opTextsRow : OpenClaim := { program := "ytafoagllbajfnaadoor", sum := "423768285622a165d53bd8dd960d1134bf37e79d2b99ecfe4dd2a0a375e0ae99", func := "bedrock/bedrocklaw6.OpTexts", spec := "opTexts", inPlace := ["internal/bytealg.IndexByteString", "math.Float64bits", "internal/bytealg.abigen_runtime_cmpstring", "math.Float64frombits"], named := ["math/bits.deBruijn64tab"], apart := false, laid := [("math/bits.deBruijn64tab", laid_math_bits_deBruijn64tab)] }
def OpTextsSaid : Prop := opTextsRow.holds Tryd.pinned (OpenSpec.ofChange opTextsSpec)

/-- ITS FALSE NEIGHBOUR: 'it returns false'. Refute it at one input. -/
def opTextsWrong : ChangeSpec := { name := "opTexts", fn := fun _ => fun
  | [d1, d2, d3] => { results := [.lit (.bool false)], args := [d1, d2, d3] }
  | _ => none }
def OpTextsWrongFalsely : Prop := opTextsRow.holds Tryd.pinned (OpenSpec.ofChange opTextsWrong)

/-- 'bedrocklaw6.OpTogether': WHATEVER THE INPUT: true; the input reads as it did. -/
def opTogetherSpec : ChangeSpec := { name := "opTogether", fn := fun _ => fun
  | [d1, d2, d3, d4, d5] => { results := [.lit (.bool true)], args := [d1, d2, d3, d4, d5] }
  | _ => none }
def opTogetherRow : OpenClaim := { program := "ytafoagllbajfnaadoor", sum := "423768285622a165d53bd8dd960d1134bf37e79d2b99ecfe4dd2a0a375e0ae99", func := "bedrock/bedrocklaw6.OpTogether", spec := "opTogether", inPlace := ["internal/bytealg.IndexByteString", "math.Float64bits", "internal/bytealg.abigen_runtime_cmpstring", "math.Float64frombits"], named := ["math/bits.deBruijn64tab"], apart := false, laid := [("math/bits.deBruijn64tab", laid_math_bits_deBruijn64tab)] }
def OpTogetherSaid : Prop := opTogetherRow.holds Tryd.pinned (OpenSpec.ofChange opTogetherSpec)

/-- ITS FALSE NEIGHBOUR: 'it returns false'. Refute it at one input. -/
def opTogetherWrong : ChangeSpec := { name := "opTogether", fn := fun _ => fun
  | [d1, d2, d3, d4, d5] => { results := [.lit (.bool false)], args := [d1, d2, d3, d4, d5] }
  | _ => none }
def OpTogetherWrongFalsely : Prop := opTogetherRow.holds Tryd.pinned (OpenSpec.ofChange opTogetherWrong)

/-- 'bedrocklaw6.OpValues': WHATEVER THE INPUT: true; the input reads as it did. -/
def opValuesSpec : ChangeSpec := { name := "opValues", fn := fun _ => fun
  | [d1, d2] => { results := [.lit (.bool true)], args := [d1, d2] }
  | _ => none }
def opValuesRow : OpenClaim := { program := "ytafoagllbajfnaadoor", sum := "423768285622a165d53bd8dd960d1134bf37e79d2b99ecfe4dd2a0a375e0ae99", func := "bedrock/bedrocklaw6.OpValues", spec := "opValues", inPlace := ["internal/bytealg.IndexByteString", "math.Float64bits", "internal/bytealg.abigen_runtime_cmpstring", "math.Float64frombits"], named := ["math/bits.deBruijn64tab"], apart := false, laid := [("math/bits.deBruijn64tab", laid_math_bits_deBruijn64tab)] }
def OpValuesSaid : Prop := opValuesRow.holds Tryd.pinned (OpenSpec.ofChange opValuesSpec)

/-- ITS FALSE NEIGHBOUR: 'it returns false'. Refute it at one input. -/
def opValuesWrong : ChangeSpec := { name := "opValues", fn := fun _ => fun
  | [d1, d2] => { results := [.lit (.bool false)], args := [d1, d2] }
  | _ => none }
def OpValuesWrongFalsely : Prop := opValuesRow.holds Tryd.pinned (OpenSpec.ofChange opValuesWrong)

/-- 'bedrocklaw2.RealScales': WHATEVER THE INPUT: true; the input reads as it did. -/
def realScalesSpec : ChangeSpec := { name := "realScales", fn := fun _ => fun
  | [d1, d2, d3, d4] => { results := [.lit (.bool true)], args := [d1, d2, d3, d4] }
  | _ => none }
def realScalesRow : OpenClaim := { program := "ytafoagllbajfnaadoor", sum := "423768285622a165d53bd8dd960d1134bf37e79d2b99ecfe4dd2a0a375e0ae99", func := "bedrock/bedrocklaw2.RealScales", spec := "realScales", inPlace := ["math.Float64frombits", "internal/bytealg.IndexByteString", "internal/bytealg.IndexString", "math.Float64bits", "internal/bytealg.abigen_runtime_cmpstring"], unfollowed := true, recurses := true, named := ["internal/bytealg.MaxLen", "math/bits.deBruijn64tab"], apart := false, laid := [("math/bits.deBruijn64tab", laid_math_bits_deBruijn64tab)] }
def RealScalesSaid : Prop := realScalesRow.holds Tryd.pinned (OpenSpec.ofChange realScalesSpec)

/-- ITS FALSE NEIGHBOUR: 'it returns false'. Refute it at one input. -/
def realScalesWrong : ChangeSpec := { name := "realScales", fn := fun _ => fun
  | [d1, d2, d3, d4] => { results := [.lit (.bool false)], args := [d1, d2, d3, d4] }
  | _ => none }
def RealScalesWrongFalsely : Prop := realScalesRow.holds Tryd.pinned (OpenSpec.ofChange realScalesWrong)

/-- 'bedrocklaw6.OpLatest': WHATEVER THE INPUT: true; the input reads as it did. -/
def opLatestSpec : ChangeSpec := { name := "opLatest", fn := fun _ => fun
  | [d1, d2, d3] => { results := [.lit (.bool true)], args := [d1, d2, d3] }
  | _ => none }
def opLatestRow : OpenClaim := { program := "ytafoagllbajfnaadoor", sum := "423768285622a165d53bd8dd960d1134bf37e79d2b99ecfe4dd2a0a375e0ae99", func := "bedrock/bedrocklaw6.OpLatest", spec := "opLatest", inPlace := ["internal/bytealg.IndexByteString", "math.Float64bits", "internal/bytealg.abigen_runtime_cmpstring", "math.Float64frombits"], named := ["math/bits.deBruijn64tab"], apart := false, laid := [("math/bits.deBruijn64tab", laid_math_bits_deBruijn64tab)] }
def OpLatestSaid : Prop := opLatestRow.holds Tryd.pinned (OpenSpec.ofChange opLatestSpec)

/-- ITS FALSE NEIGHBOUR: 'it returns false'. Refute it at one input. -/
def opLatestWrong : ChangeSpec := { name := "opLatest", fn := fun _ => fun
  | [d1, d2, d3] => { results := [.lit (.bool false)], args := [d1, d2, d3] }
  | _ => none }
def OpLatestWrongFalsely : Prop := opLatestRow.holds Tryd.pinned (OpenSpec.ofChange opLatestWrong)

/-- 'bedrocklaw6.OpShuffled': WHATEVER THE INPUT: true; the input reads as it did. -/
def opShuffledSpec : ChangeSpec := { name := "opShuffled", fn := fun _ => fun
  | [d1, d2, d3] => { results := [.lit (.bool true)], args := [d1, d2, d3] }
  | _ => none }
def opShuffledRow : OpenClaim := { program := "ytafoagllbajfnaadoor", sum := "423768285622a165d53bd8dd960d1134bf37e79d2b99ecfe4dd2a0a375e0ae99", func := "bedrock/bedrocklaw6.OpShuffled", spec := "opShuffled", inPlace := ["internal/bytealg.IndexByteString", "math.Float64bits", "internal/bytealg.abigen_runtime_cmpstring", "math.Float64frombits"], named := ["math/bits.deBruijn64tab"], apart := false, laid := [("math/bits.deBruijn64tab", laid_math_bits_deBruijn64tab)] }
def OpShuffledSaid : Prop := opShuffledRow.holds Tryd.pinned (OpenSpec.ofChange opShuffledSpec)

/-- ITS FALSE NEIGHBOUR: 'it returns false'. Refute it at one input. -/
def opShuffledWrong : ChangeSpec := { name := "opShuffled", fn := fun _ => fun
  | [d1, d2, d3] => { results := [.lit (.bool false)], args := [d1, d2, d3] }
  | _ => none }
def OpShuffledWrongFalsely : Prop := opShuffledRow.holds Tryd.pinned (OpenSpec.ofChange opShuffledWrong)

/-- 'bedrocklaw6.OpGrows': WHATEVER THE INPUT: true; the input reads as it did. -/
def opGrowsSpec : ChangeSpec := { name := "opGrows", fn := fun _ => fun
  | [d1, d2, d3] => { results := [.lit (.bool true)], args := [d1, d2, d3] }
  | _ => none }
def opGrowsRow : OpenClaim := { program := "ytafoagllbajfnaadoor", sum := "423768285622a165d53bd8dd960d1134bf37e79d2b99ecfe4dd2a0a375e0ae99", func := "bedrock/bedrocklaw6.OpGrows", spec := "opGrows", inPlace := ["internal/bytealg.IndexByteString", "math.Float64bits", "internal/bytealg.abigen_runtime_cmpstring", "math.Float64frombits"], named := ["math/bits.deBruijn64tab"], apart := false, laid := [("math/bits.deBruijn64tab", laid_math_bits_deBruijn64tab)] }
def OpGrowsSaid : Prop := opGrowsRow.holds Tryd.pinned (OpenSpec.ofChange opGrowsSpec)

/-- ITS FALSE NEIGHBOUR: 'it returns false'. Refute it at one input. -/
def opGrowsWrong : ChangeSpec := { name := "opGrows", fn := fun _ => fun
  | [d1, d2, d3] => { results := [.lit (.bool false)], args := [d1, d2, d3] }
  | _ => none }
def OpGrowsWrongFalsely : Prop := opGrowsRow.holds Tryd.pinned (OpenSpec.ofChange opGrowsWrong)

/-- 'bedrocklaw2.RealRatios': WHATEVER THE INPUT: true; the input reads as it did. -/
def realRatiosSpec : ChangeSpec := { name := "realRatios", fn := fun _ => fun
  | [d1, d2] => { results := [.lit (.bool true)], args := [d1, d2] }
  | _ => none }
def realRatiosRow : OpenClaim := { program := "ytafoagllbajfnaadoor", sum := "423768285622a165d53bd8dd960d1134bf37e79d2b99ecfe4dd2a0a375e0ae99", func := "bedrock/bedrocklaw2.RealRatios", spec := "realRatios", inPlace := ["math.Float64frombits", "internal/bytealg.IndexByteString", "internal/bytealg.IndexString", "math.Float64bits", "internal/bytealg.abigen_runtime_cmpstring"], unfollowed := true, recurses := true, named := ["internal/bytealg.MaxLen", "math/bits.deBruijn64tab"], apart := false, laid := [("math/bits.deBruijn64tab", laid_math_bits_deBruijn64tab)] }
def RealRatiosSaid : Prop := realRatiosRow.holds Tryd.pinned (OpenSpec.ofChange realRatiosSpec)

/-- ITS FALSE NEIGHBOUR: 'it returns false'. Refute it at one input. -/
def realRatiosWrong : ChangeSpec := { name := "realRatios", fn := fun _ => fun
  | [d1, d2] => { results := [.lit (.bool false)], args := [d1, d2] }
  | _ => none }
def RealRatiosWrongFalsely : Prop := realRatiosRow.holds Tryd.pinned (OpenSpec.ofChange realRatiosWrong)

/-- 'bedrocklaw2.RealBytes': WHATEVER THE INPUT: true; the input reads as it did. -/
def realBytesSpec : ChangeSpec := { name := "realBytes", fn := fun _ => fun
  | [d1, d2] => { results := [.lit (.bool true)], args := [d1, d2] }
  | _ => none }
def realBytesRow : OpenClaim := { program := "ytafoagllbajfnaadoor", sum := "423768285622a165d53bd8dd960d1134bf37e79d2b99ecfe4dd2a0a375e0ae99", func := "bedrock/bedrocklaw2.RealBytes", spec := "realBytes", inPlace := ["math.Float64bits", "internal/bytealg.abigen_runtime_cmpstring", "math.Float64frombits", "internal/bytealg.IndexByteString", "internal/bytealg.IndexString"], unfollowed := true, recurses := true, named := ["internal/bytealg.MaxLen", "math/bits.deBruijn64tab"], apart := false, laid := [("math/bits.deBruijn64tab", laid_math_bits_deBruijn64tab)] }
def RealBytesSaid : Prop := realBytesRow.holds Tryd.pinned (OpenSpec.ofChange realBytesSpec)

/-- ITS FALSE NEIGHBOUR: 'it returns false'. Refute it at one input. -/
def realBytesWrong : ChangeSpec := { name := "realBytes", fn := fun _ => fun
  | [d1, d2] => { results := [.lit (.bool false)], args := [d1, d2] }
  | _ => none }
def RealBytesWrongFalsely : Prop := realBytesRow.holds Tryd.pinned (OpenSpec.ofChange realBytesWrong)

/-- 'bedrocklaw2.RealOrder': WHATEVER THE INPUT: true; the input reads as it did. -/
def realOrderSpec : ChangeSpec := { name := "realOrder", fn := fun _ => fun
  | [d1, d2, d3] => { results := [.lit (.bool true)], args := [d1, d2, d3] }
  | _ => none }
def realOrderRow : OpenClaim := { program := "ytafoagllbajfnaadoor", sum := "423768285622a165d53bd8dd960d1134bf37e79d2b99ecfe4dd2a0a375e0ae99", func := "bedrock/bedrocklaw2.RealOrder", spec := "realOrder", inPlace := ["math.Float64bits", "internal/bytealg.abigen_runtime_cmpstring", "math.Float64frombits", "internal/bytealg.IndexByteString", "internal/bytealg.IndexString"], unfollowed := true, recurses := true, named := ["internal/bytealg.MaxLen", "math/bits.deBruijn64tab"], apart := false, laid := [("math/bits.deBruijn64tab", laid_math_bits_deBruijn64tab)] }
def RealOrderSaid : Prop := realOrderRow.holds Tryd.pinned (OpenSpec.ofChange realOrderSpec)

/-- ITS FALSE NEIGHBOUR: 'it returns false'. Refute it at one input. -/
def realOrderWrong : ChangeSpec := { name := "realOrder", fn := fun _ => fun
  | [d1, d2, d3] => { results := [.lit (.bool false)], args := [d1, d2, d3] }
  | _ => none }
def RealOrderWrongFalsely : Prop := realOrderRow.holds Tryd.pinned (OpenSpec.ofChange realOrderWrong)

/-- 'bedrocklaw2.RealTwo': WHATEVER THE INPUT: true; the input reads as it did. -/
def realTwoSpec : ChangeSpec := { name := "realTwo", fn := fun _ => fun
  | [d1, d2, d3] => { results := [.lit (.bool true)], args := [d1, d2, d3] }
  | _ => none }
def realTwoRow : OpenClaim := { program := "ytafoagllbajfnaadoor", sum := "423768285622a165d53bd8dd960d1134bf37e79d2b99ecfe4dd2a0a375e0ae99", func := "bedrock/bedrocklaw2.RealTwo", spec := "realTwo", inPlace := ["math.Float64frombits", "internal/bytealg.IndexByteString", "internal/bytealg.IndexString", "math.Float64bits", "internal/bytealg.abigen_runtime_cmpstring"], unfollowed := true, recurses := true, named := ["internal/bytealg.MaxLen", "math/bits.deBruijn64tab"], apart := false, laid := [("math/bits.deBruijn64tab", laid_math_bits_deBruijn64tab)] }
def RealTwoSaid : Prop := realTwoRow.holds Tryd.pinned (OpenSpec.ofChange realTwoSpec)

/-- ITS FALSE NEIGHBOUR: 'it returns false'. Refute it at one input. -/
def realTwoWrong : ChangeSpec := { name := "realTwo", fn := fun _ => fun
  | [d1, d2, d3] => { results := [.lit (.bool false)], args := [d1, d2, d3] }
  | _ => none }
def RealTwoWrongFalsely : Prop := realTwoRow.holds Tryd.pinned (OpenSpec.ofChange realTwoWrong)

/-- 'bedrocklaw2.RealTurned': WHATEVER THE INPUT: true; the input reads as it did. -/
def realTurnedSpec : ChangeSpec := { name := "realTurned", fn := fun _ => fun
  | [d1, d2] => { results := [.lit (.bool true)], args := [d1, d2] }
  | _ => none }
def realTurnedRow : OpenClaim := { program := "ytafoagllbajfnaadoor", sum := "423768285622a165d53bd8dd960d1134bf37e79d2b99ecfe4dd2a0a375e0ae99", func := "bedrock/bedrocklaw2.RealTurned", spec := "realTurned", inPlace := ["math.Float64frombits", "internal/bytealg.IndexByteString", "internal/bytealg.IndexString", "math.Float64bits", "internal/bytealg.abigen_runtime_cmpstring"], unfollowed := true, recurses := true, named := ["internal/bytealg.MaxLen", "math/bits.deBruijn64tab"], apart := false, laid := [("math/bits.deBruijn64tab", laid_math_bits_deBruijn64tab)] }
def RealTurnedSaid : Prop := realTurnedRow.holds Tryd.pinned (OpenSpec.ofChange realTurnedSpec)

/-- ITS FALSE NEIGHBOUR: 'it returns false'. Refute it at one input. -/
def realTurnedWrong : ChangeSpec := { name := "realTurned", fn := fun _ => fun
  | [d1, d2] => { results := [.lit (.bool false)], args := [d1, d2] }
  | _ => none }
def RealTurnedWrongFalsely : Prop := realTurnedRow.holds Tryd.pinned (OpenSpec.ofChange realTurnedWrong)

/-- 'bedrocklaw2.RealMeets': WHATEVER THE INPUT: true; the input reads as it did. -/
def realMeetsSpec : ChangeSpec := { name := "realMeets", fn := fun _ => fun
  | [d1, d2, d3] => { results := [.lit (.bool true)], args := [d1, d2, d3] }
  | _ => none }
def realMeetsRow : OpenClaim := { program := "ytafoagllbajfnaadoor", sum := "423768285622a165d53bd8dd960d1134bf37e79d2b99ecfe4dd2a0a375e0ae99", func := "bedrock/bedrocklaw2.RealMeets", spec := "realMeets", inPlace := ["math.Float64bits", "internal/bytealg.abigen_runtime_cmpstring", "math.Float64frombits", "internal/bytealg.IndexByteString", "internal/bytealg.IndexString"], unfollowed := true, recurses := true, named := ["internal/bytealg.MaxLen", "math/bits.deBruijn64tab"], apart := false, laid := [("math/bits.deBruijn64tab", laid_math_bits_deBruijn64tab)] }
def RealMeetsSaid : Prop := realMeetsRow.holds Tryd.pinned (OpenSpec.ofChange realMeetsSpec)

/-- ITS FALSE NEIGHBOUR: 'it returns false'. Refute it at one input. -/
def realMeetsWrong : ChangeSpec := { name := "realMeets", fn := fun _ => fun
  | [d1, d2, d3] => { results := [.lit (.bool false)], args := [d1, d2, d3] }
  | _ => none }
def RealMeetsWrongFalsely : Prop := realMeetsRow.holds Tryd.pinned (OpenSpec.ofChange realMeetsWrong)

/-- 'bedrocklaw6.OpBack': WHATEVER THE INPUT: true; the input reads as it did. -/
def opBackSpec : ChangeSpec := { name := "opBack", fn := fun _ => fun
  | [d1, d2] => { results := [.lit (.bool true)], args := [d1, d2] }
  | _ => none }
def opBackRow : OpenClaim := { program := "ytafoagllbajfnaadoor", sum := "423768285622a165d53bd8dd960d1134bf37e79d2b99ecfe4dd2a0a375e0ae99", func := "bedrock/bedrocklaw6.OpBack", spec := "opBack", inPlace := ["internal/bytealg.IndexByteString", "math.Float64bits", "internal/bytealg.abigen_runtime_cmpstring", "math.Float64frombits"], unfollowed := true, recurses := true, named := ["math/bits.deBruijn64tab"], apart := false, laid := [("math/bits.deBruijn64tab", laid_math_bits_deBruijn64tab)] }
def OpBackSaid : Prop := opBackRow.holds Tryd.pinned (OpenSpec.ofChange opBackSpec)

/-- ITS FALSE NEIGHBOUR: 'it returns false'. Refute it at one input. -/
def opBackWrong : ChangeSpec := { name := "opBack", fn := fun _ => fun
  | [d1, d2] => { results := [.lit (.bool false)], args := [d1, d2] }
  | _ => none }
def OpBackWrongFalsely : Prop := opBackRow.holds Tryd.pinned (OpenSpec.ofChange opBackWrong)

/-- 'bedrocklaw2.RealTexts': WHATEVER THE INPUT: true; the input reads as it did. -/
def realTextsSpec : ChangeSpec := { name := "realTexts", fn := fun _ => fun
  | [d1, d2] => { results := [.lit (.bool true)], args := [d1, d2] }
  | _ => none }
def realTextsRow : OpenClaim := { program := "ytafoagllbajfnaadoor", sum := "423768285622a165d53bd8dd960d1134bf37e79d2b99ecfe4dd2a0a375e0ae99", func := "bedrock/bedrocklaw2.RealTexts", spec := "realTexts", inPlace := ["math.Float64frombits", "internal/bytealg.IndexByteString", "internal/bytealg.IndexString", "math.Float64bits", "internal/bytealg.abigen_runtime_cmpstring"], unfollowed := true, recurses := true, named := ["internal/bytealg.MaxLen", "math/bits.deBruijn64tab"], apart := false, laid := [("math/bits.deBruijn64tab", laid_math_bits_deBruijn64tab)] }
def RealTextsSaid : Prop := realTextsRow.holds Tryd.pinned (OpenSpec.ofChange realTextsSpec)

/-- ITS FALSE NEIGHBOUR: 'it returns false'. Refute it at one input. -/
def realTextsWrong : ChangeSpec := { name := "realTexts", fn := fun _ => fun
  | [d1, d2] => { results := [.lit (.bool false)], args := [d1, d2] }
  | _ => none }
def RealTextsWrongFalsely : Prop := realTextsRow.holds Tryd.pinned (OpenSpec.ofChange realTextsWrong)

/-- 'bedrocklaw2.RealBack': WHATEVER THE INPUT: true; the input reads as it did. -/
def realBackSpec : ChangeSpec := { name := "realBack", fn := fun _ => fun
  | [d] => { results := [.lit (.bool true)], args := [d] }
  | _ => none }
def realBackRow : OpenClaim := { program := "ytafoagllbajfnaadoor", sum := "423768285622a165d53bd8dd960d1134bf37e79d2b99ecfe4dd2a0a375e0ae99", func := "bedrock/bedrocklaw2.RealBack", spec := "realBack", inPlace := ["math.Float64bits", "math.Float64frombits", "internal/bytealg.IndexByteString", "internal/bytealg.IndexString", "internal/bytealg.abigen_runtime_cmpstring"], unfollowed := true, recurses := true, named := ["math/bits.deBruijn64tab", "internal/bytealg.MaxLen"], apart := false, laid := [("math/bits.deBruijn64tab", laid_math_bits_deBruijn64tab)] }
def RealBackSaid : Prop := realBackRow.holds Tryd.pinned (OpenSpec.ofChange realBackSpec)

/-- ITS FALSE NEIGHBOUR: 'it returns false'. Refute it at one input. -/
def realBackWrong : ChangeSpec := { name := "realBack", fn := fun _ => fun
  | [d] => { results := [.lit (.bool false)], args := [d] }
  | _ => none }
def RealBackWrongFalsely : Prop := realBackRow.holds Tryd.pinned (OpenSpec.ofChange realBackWrong)

/-- 'bedrocklaw6.OpActs': WHATEVER THE INPUT: true; the input reads as it did. -/
def opActsSpec : ChangeSpec := { name := "opActs", fn := fun _ => fun
  | [d1, d2, d3, d4, d5, d6] => { results := [.lit (.bool true)], args := [d1, d2, d3, d4, d5, d6] }
  | _ => none }
def opActsRow : OpenClaim := { program := "ytafoagllbajfnaadoor", sum := "423768285622a165d53bd8dd960d1134bf37e79d2b99ecfe4dd2a0a375e0ae99", func := "bedrock/bedrocklaw6.OpActs", spec := "opActs", inPlace := ["internal/bytealg.IndexByteString", "math.Float64bits", "internal/bytealg.abigen_runtime_cmpstring", "math.Float64frombits"], unfollowed := true, recurses := true, named := ["math/bits.deBruijn64tab"], apart := false, laid := [("math/bits.deBruijn64tab", laid_math_bits_deBruijn64tab)] }
def OpActsSaid : Prop := opActsRow.holds Tryd.pinned (OpenSpec.ofChange opActsSpec)

/-- ITS FALSE NEIGHBOUR: 'it returns false'. Refute it at one input. -/
def opActsWrong : ChangeSpec := { name := "opActs", fn := fun _ => fun
  | [d1, d2, d3, d4, d5, d6] => { results := [.lit (.bool false)], args := [d1, d2, d3, d4, d5, d6] }
  | _ => none }
def OpActsWrongFalsely : Prop := opActsRow.holds Tryd.pinned (OpenSpec.ofChange opActsWrong)

/-- 'bedrocklaw2.RealNumbers': WHATEVER THE INPUT: true; the input reads as it did. -/
def realNumbersSpec : ChangeSpec := { name := "realNumbers", fn := fun _ => fun
  | [d1, d2, d3, d4] => { results := [.lit (.bool true)], args := [d1, d2, d3, d4] }
  | _ => none }
def realNumbersRow : OpenClaim := { program := "ytafoagllbajfnaadoor", sum := "423768285622a165d53bd8dd960d1134bf37e79d2b99ecfe4dd2a0a375e0ae99", func := "bedrock/bedrocklaw2.RealNumbers", spec := "realNumbers", inPlace := ["math.Float64bits", "internal/bytealg.abigen_runtime_cmpstring", "math.Float64frombits", "internal/bytealg.IndexByteString", "internal/bytealg.IndexString", "math.archFloor", "math.archTrunc"], unfollowed := true, recurses := true, named := ["math/bits.deBruijn64tab", "internal/bytealg.MaxLen"], apart := false, laid := [("math/bits.deBruijn64tab", laid_math_bits_deBruijn64tab)] }
def RealNumbersSaid : Prop := realNumbersRow.holds Tryd.pinned (OpenSpec.ofChange realNumbersSpec)

/-- ITS FALSE NEIGHBOUR: 'it returns false'. Refute it at one input. -/
def realNumbersWrong : ChangeSpec := { name := "realNumbers", fn := fun _ => fun
  | [d1, d2, d3, d4] => { results := [.lit (.bool false)], args := [d1, d2, d3, d4] }
  | _ => none }
def RealNumbersWrongFalsely : Prop := realNumbersRow.holds Tryd.pinned (OpenSpec.ofChange realNumbersWrong)

/- THE SECOND FORM. 'bulk': how many values and letters a reading holds, each counted each time it is reached (what is shared counts as often as it is met; a slice's spare places count too). A statement '..UptoSaid' is the law's where the arguments, and the package variables that the reading takes, are together of bulk at most 1048576: NARROWER than '..Said'. Prove '..Said' where nothing that the law and all that it calls make is longer than what came in: it says more and counts as full. Else prove '..UptoSaid'. A law counts once. -/
mutual
def uptoBulk {H : Type} : DataW H → Nat
  | .lit (.string bytes) => bytes.length + 1
  | .lit _ => 1
  | .nil => 1
  | .ptr d => uptoBulk d + 1
  | .slice elems spare => uptoBulkAll elems + uptoBulkAll spare + 1
  | .agg parts => uptoBulkAll parts + 1
  | .iface _ d => uptoBulk d + 1
  | .map entries => uptoBulkEntries entries + 1
  | .held _ => 1
def uptoBulkAll {H : Type} : List (DataW H) → Nat
  | [] => 0
  | d :: r => uptoBulk d + uptoBulkAll r
def uptoBulkEntries {H : Type} : List (Lit × DataW H) → Nat
  | [] => 0
  | x :: r => uptoBulkEntry x + uptoBulkEntries r
def uptoBulkEntry {H : Type} : Lit × DataW H → Nat
  | (.string bytes, d) => bytes.length + uptoBulk d + 1
  | (_, d) => uptoBulk d + 1
 end
def uptoSmall : (H : Type) → List (DataW H) → Bool := fun _ ds => decide (uptoBulkAll ds ≤ 1048576)
def OpenSpec.upto (s : _root_.Go.ChangeSpec) : _root_.Go.OpenSpec := { _root_.Go.OpenSpec.ofChange s with cond := some uptoSmall }

/-- 'bedrocklaw6.OpTexts', WHERE WHAT IT READS IS OF BULK AT MOST 1048576: true; the input reads as it did. -/
def opTextsUptoRow : OpenClaim := { program := "ytafoagllbajfnaadoor", sum := "423768285622a165d53bd8dd960d1134bf37e79d2b99ecfe4dd2a0a375e0ae99", func := "bedrock/bedrocklaw6.OpTexts", spec := "opTexts", inPlace := ["internal/bytealg.IndexByteString", "math.Float64bits", "internal/bytealg.abigen_runtime_cmpstring", "math.Float64frombits"], named := ["math/bits.deBruijn64tab"], apart := false, laid := [("math/bits.deBruijn64tab", laid_math_bits_deBruijn64tab)], narrowed := true }
def OpTextsUptoSaid : Prop := opTextsUptoRow.holds Tryd.pinned (OpenSpec.upto opTextsSpec)

/-- 'bedrocklaw6.OpTogether', WHERE WHAT IT READS IS OF BULK AT MOST 1048576: true; the input reads as it did. -/
def opTogetherUptoRow : OpenClaim := { program := "ytafoagllbajfnaadoor", sum := "423768285622a165d53bd8dd960d1134bf37e79d2b99ecfe4dd2a0a375e0ae99", func := "bedrock/bedrocklaw6.OpTogether", spec := "opTogether", inPlace := ["internal/bytealg.IndexByteString", "math.Float64bits", "internal/bytealg.abigen_runtime_cmpstring", "math.Float64frombits"], named := ["math/bits.deBruijn64tab"], apart := false, laid := [("math/bits.deBruijn64tab", laid_math_bits_deBruijn64tab)], narrowed := true }
def OpTogetherUptoSaid : Prop := opTogetherUptoRow.holds Tryd.pinned (OpenSpec.upto opTogetherSpec)

/-- 'bedrocklaw6.OpValues', WHERE WHAT IT READS IS OF BULK AT MOST 1048576: true; the input reads as it did. -/
def opValuesUptoRow : OpenClaim := { program := "ytafoagllbajfnaadoor", sum := "423768285622a165d53bd8dd960d1134bf37e79d2b99ecfe4dd2a0a375e0ae99", func := "bedrock/bedrocklaw6.OpValues", spec := "opValues", inPlace := ["internal/bytealg.IndexByteString", "math.Float64bits", "internal/bytealg.abigen_runtime_cmpstring", "math.Float64frombits"], named := ["math/bits.deBruijn64tab"], apart := false, laid := [("math/bits.deBruijn64tab", laid_math_bits_deBruijn64tab)], narrowed := true }
def OpValuesUptoSaid : Prop := opValuesUptoRow.holds Tryd.pinned (OpenSpec.upto opValuesSpec)

/-- 'bedrocklaw2.RealScales', WHERE WHAT IT READS IS OF BULK AT MOST 1048576: true; the input reads as it did. -/
def realScalesUptoRow : OpenClaim := { program := "ytafoagllbajfnaadoor", sum := "423768285622a165d53bd8dd960d1134bf37e79d2b99ecfe4dd2a0a375e0ae99", func := "bedrock/bedrocklaw2.RealScales", spec := "realScales", inPlace := ["math.Float64frombits", "internal/bytealg.IndexByteString", "internal/bytealg.IndexString", "math.Float64bits", "internal/bytealg.abigen_runtime_cmpstring"], unfollowed := true, recurses := true, named := ["internal/bytealg.MaxLen", "math/bits.deBruijn64tab"], apart := false, laid := [("math/bits.deBruijn64tab", laid_math_bits_deBruijn64tab)], narrowed := true }
def RealScalesUptoSaid : Prop := realScalesUptoRow.holds Tryd.pinned (OpenSpec.upto realScalesSpec)

/-- 'bedrocklaw6.OpLatest', WHERE WHAT IT READS IS OF BULK AT MOST 1048576: true; the input reads as it did. -/
def opLatestUptoRow : OpenClaim := { program := "ytafoagllbajfnaadoor", sum := "423768285622a165d53bd8dd960d1134bf37e79d2b99ecfe4dd2a0a375e0ae99", func := "bedrock/bedrocklaw6.OpLatest", spec := "opLatest", inPlace := ["internal/bytealg.IndexByteString", "math.Float64bits", "internal/bytealg.abigen_runtime_cmpstring", "math.Float64frombits"], named := ["math/bits.deBruijn64tab"], apart := false, laid := [("math/bits.deBruijn64tab", laid_math_bits_deBruijn64tab)], narrowed := true }
def OpLatestUptoSaid : Prop := opLatestUptoRow.holds Tryd.pinned (OpenSpec.upto opLatestSpec)

/-- 'bedrocklaw6.OpShuffled', WHERE WHAT IT READS IS OF BULK AT MOST 1048576: true; the input reads as it did. -/
def opShuffledUptoRow : OpenClaim := { program := "ytafoagllbajfnaadoor", sum := "423768285622a165d53bd8dd960d1134bf37e79d2b99ecfe4dd2a0a375e0ae99", func := "bedrock/bedrocklaw6.OpShuffled", spec := "opShuffled", inPlace := ["internal/bytealg.IndexByteString", "math.Float64bits", "internal/bytealg.abigen_runtime_cmpstring", "math.Float64frombits"], named := ["math/bits.deBruijn64tab"], apart := false, laid := [("math/bits.deBruijn64tab", laid_math_bits_deBruijn64tab)], narrowed := true }
def OpShuffledUptoSaid : Prop := opShuffledUptoRow.holds Tryd.pinned (OpenSpec.upto opShuffledSpec)

/-- 'bedrocklaw6.OpGrows', WHERE WHAT IT READS IS OF BULK AT MOST 1048576: true; the input reads as it did. -/
def opGrowsUptoRow : OpenClaim := { program := "ytafoagllbajfnaadoor", sum := "423768285622a165d53bd8dd960d1134bf37e79d2b99ecfe4dd2a0a375e0ae99", func := "bedrock/bedrocklaw6.OpGrows", spec := "opGrows", inPlace := ["internal/bytealg.IndexByteString", "math.Float64bits", "internal/bytealg.abigen_runtime_cmpstring", "math.Float64frombits"], named := ["math/bits.deBruijn64tab"], apart := false, laid := [("math/bits.deBruijn64tab", laid_math_bits_deBruijn64tab)], narrowed := true }
def OpGrowsUptoSaid : Prop := opGrowsUptoRow.holds Tryd.pinned (OpenSpec.upto opGrowsSpec)

/-- 'bedrocklaw2.RealRatios', WHERE WHAT IT READS IS OF BULK AT MOST 1048576: true; the input reads as it did. -/
def realRatiosUptoRow : OpenClaim := { program := "ytafoagllbajfnaadoor", sum := "423768285622a165d53bd8dd960d1134bf37e79d2b99ecfe4dd2a0a375e0ae99", func := "bedrock/bedrocklaw2.RealRatios", spec := "realRatios", inPlace := ["math.Float64frombits", "internal/bytealg.IndexByteString", "internal/bytealg.IndexString", "math.Float64bits", "internal/bytealg.abigen_runtime_cmpstring"], unfollowed := true, recurses := true, named := ["internal/bytealg.MaxLen", "math/bits.deBruijn64tab"], apart := false, laid := [("math/bits.deBruijn64tab", laid_math_bits_deBruijn64tab)], narrowed := true }
def RealRatiosUptoSaid : Prop := realRatiosUptoRow.holds Tryd.pinned (OpenSpec.upto realRatiosSpec)

/-- 'bedrocklaw2.RealBytes', WHERE WHAT IT READS IS OF BULK AT MOST 1048576: true; the input reads as it did. -/
def realBytesUptoRow : OpenClaim := { program := "ytafoagllbajfnaadoor", sum := "423768285622a165d53bd8dd960d1134bf37e79d2b99ecfe4dd2a0a375e0ae99", func := "bedrock/bedrocklaw2.RealBytes", spec := "realBytes", inPlace := ["math.Float64bits", "internal/bytealg.abigen_runtime_cmpstring", "math.Float64frombits", "internal/bytealg.IndexByteString", "internal/bytealg.IndexString"], unfollowed := true, recurses := true, named := ["internal/bytealg.MaxLen", "math/bits.deBruijn64tab"], apart := false, laid := [("math/bits.deBruijn64tab", laid_math_bits_deBruijn64tab)], narrowed := true }
def RealBytesUptoSaid : Prop := realBytesUptoRow.holds Tryd.pinned (OpenSpec.upto realBytesSpec)

/-- 'bedrocklaw2.RealOrder', WHERE WHAT IT READS IS OF BULK AT MOST 1048576: true; the input reads as it did. -/
def realOrderUptoRow : OpenClaim := { program := "ytafoagllbajfnaadoor", sum := "423768285622a165d53bd8dd960d1134bf37e79d2b99ecfe4dd2a0a375e0ae99", func := "bedrock/bedrocklaw2.RealOrder", spec := "realOrder", inPlace := ["math.Float64bits", "internal/bytealg.abigen_runtime_cmpstring", "math.Float64frombits", "internal/bytealg.IndexByteString", "internal/bytealg.IndexString"], unfollowed := true, recurses := true, named := ["internal/bytealg.MaxLen", "math/bits.deBruijn64tab"], apart := false, laid := [("math/bits.deBruijn64tab", laid_math_bits_deBruijn64tab)], narrowed := true }
def RealOrderUptoSaid : Prop := realOrderUptoRow.holds Tryd.pinned (OpenSpec.upto realOrderSpec)

/-- 'bedrocklaw2.RealTwo', WHERE WHAT IT READS IS OF BULK AT MOST 1048576: true; the input reads as it did. -/
def realTwoUptoRow : OpenClaim := { program := "ytafoagllbajfnaadoor", sum := "423768285622a165d53bd8dd960d1134bf37e79d2b99ecfe4dd2a0a375e0ae99", func := "bedrock/bedrocklaw2.RealTwo", spec := "realTwo", inPlace := ["math.Float64frombits", "internal/bytealg.IndexByteString", "internal/bytealg.IndexString", "math.Float64bits", "internal/bytealg.abigen_runtime_cmpstring"], unfollowed := true, recurses := true, named := ["internal/bytealg.MaxLen", "math/bits.deBruijn64tab"], apart := false, laid := [("math/bits.deBruijn64tab", laid_math_bits_deBruijn64tab)], narrowed := true }
def RealTwoUptoSaid : Prop := realTwoUptoRow.holds Tryd.pinned (OpenSpec.upto realTwoSpec)

/-- 'bedrocklaw2.RealTurned', WHERE WHAT IT READS IS OF BULK AT MOST 1048576: true; the input reads as it did. -/
def realTurnedUptoRow : OpenClaim := { program := "ytafoagllbajfnaadoor", sum := "423768285622a165d53bd8dd960d1134bf37e79d2b99ecfe4dd2a0a375e0ae99", func := "bedrock/bedrocklaw2.RealTurned", spec := "realTurned", inPlace := ["math.Float64frombits", "internal/bytealg.IndexByteString", "internal/bytealg.IndexString", "math.Float64bits", "internal/bytealg.abigen_runtime_cmpstring"], unfollowed := true, recurses := true, named := ["internal/bytealg.MaxLen", "math/bits.deBruijn64tab"], apart := false, laid := [("math/bits.deBruijn64tab", laid_math_bits_deBruijn64tab)], narrowed := true }
def RealTurnedUptoSaid : Prop := realTurnedUptoRow.holds Tryd.pinned (OpenSpec.upto realTurnedSpec)

/-- 'bedrocklaw2.RealMeets', WHERE WHAT IT READS IS OF BULK AT MOST 1048576: true; the input reads as it did. -/
def realMeetsUptoRow : OpenClaim := { program := "ytafoagllbajfnaadoor", sum := "423768285622a165d53bd8dd960d1134bf37e79d2b99ecfe4dd2a0a375e0ae99", func := "bedrock/bedrocklaw2.RealMeets", spec := "realMeets", inPlace := ["math.Float64bits", "internal/bytealg.abigen_runtime_cmpstring", "math.Float64frombits", "internal/bytealg.IndexByteString", "internal/bytealg.IndexString"], unfollowed := true, recurses := true, named := ["internal/bytealg.MaxLen", "math/bits.deBruijn64tab"], apart := false, laid := [("math/bits.deBruijn64tab", laid_math_bits_deBruijn64tab)], narrowed := true }
def RealMeetsUptoSaid : Prop := realMeetsUptoRow.holds Tryd.pinned (OpenSpec.upto realMeetsSpec)

/-- 'bedrocklaw6.OpBack', WHERE WHAT IT READS IS OF BULK AT MOST 1048576: true; the input reads as it did. -/
def opBackUptoRow : OpenClaim := { program := "ytafoagllbajfnaadoor", sum := "423768285622a165d53bd8dd960d1134bf37e79d2b99ecfe4dd2a0a375e0ae99", func := "bedrock/bedrocklaw6.OpBack", spec := "opBack", inPlace := ["internal/bytealg.IndexByteString", "math.Float64bits", "internal/bytealg.abigen_runtime_cmpstring", "math.Float64frombits"], unfollowed := true, recurses := true, named := ["math/bits.deBruijn64tab"], apart := false, laid := [("math/bits.deBruijn64tab", laid_math_bits_deBruijn64tab)], narrowed := true }
def OpBackUptoSaid : Prop := opBackUptoRow.holds Tryd.pinned (OpenSpec.upto opBackSpec)

/-- 'bedrocklaw2.RealTexts', WHERE WHAT IT READS IS OF BULK AT MOST 1048576: true; the input reads as it did. -/
def realTextsUptoRow : OpenClaim := { program := "ytafoagllbajfnaadoor", sum := "423768285622a165d53bd8dd960d1134bf37e79d2b99ecfe4dd2a0a375e0ae99", func := "bedrock/bedrocklaw2.RealTexts", spec := "realTexts", inPlace := ["math.Float64frombits", "internal/bytealg.IndexByteString", "internal/bytealg.IndexString", "math.Float64bits", "internal/bytealg.abigen_runtime_cmpstring"], unfollowed := true, recurses := true, named := ["internal/bytealg.MaxLen", "math/bits.deBruijn64tab"], apart := false, laid := [("math/bits.deBruijn64tab", laid_math_bits_deBruijn64tab)], narrowed := true }
def RealTextsUptoSaid : Prop := realTextsUptoRow.holds Tryd.pinned (OpenSpec.upto realTextsSpec)

/-- 'bedrocklaw2.RealBack', WHERE WHAT IT READS IS OF BULK AT MOST 1048576: true; the input reads as it did. -/
def realBackUptoRow : OpenClaim := { program := "ytafoagllbajfnaadoor", sum := "423768285622a165d53bd8dd960d1134bf37e79d2b99ecfe4dd2a0a375e0ae99", func := "bedrock/bedrocklaw2.RealBack", spec := "realBack", inPlace := ["math.Float64bits", "math.Float64frombits", "internal/bytealg.IndexByteString", "internal/bytealg.IndexString", "internal/bytealg.abigen_runtime_cmpstring"], unfollowed := true, recurses := true, named := ["math/bits.deBruijn64tab", "internal/bytealg.MaxLen"], apart := false, laid := [("math/bits.deBruijn64tab", laid_math_bits_deBruijn64tab)], narrowed := true }
def RealBackUptoSaid : Prop := realBackUptoRow.holds Tryd.pinned (OpenSpec.upto realBackSpec)

/-- 'bedrocklaw6.OpActs', WHERE WHAT IT READS IS OF BULK AT MOST 1048576: true; the input reads as it did. -/
def opActsUptoRow : OpenClaim := { program := "ytafoagllbajfnaadoor", sum := "423768285622a165d53bd8dd960d1134bf37e79d2b99ecfe4dd2a0a375e0ae99", func := "bedrock/bedrocklaw6.OpActs", spec := "opActs", inPlace := ["internal/bytealg.IndexByteString", "math.Float64bits", "internal/bytealg.abigen_runtime_cmpstring", "math.Float64frombits"], unfollowed := true, recurses := true, named := ["math/bits.deBruijn64tab"], apart := false, laid := [("math/bits.deBruijn64tab", laid_math_bits_deBruijn64tab)], narrowed := true }
def OpActsUptoSaid : Prop := opActsUptoRow.holds Tryd.pinned (OpenSpec.upto opActsSpec)

/-- 'bedrocklaw2.RealNumbers', WHERE WHAT IT READS IS OF BULK AT MOST 1048576: true; the input reads as it did. -/
def realNumbersUptoRow : OpenClaim := { program := "ytafoagllbajfnaadoor", sum := "423768285622a165d53bd8dd960d1134bf37e79d2b99ecfe4dd2a0a375e0ae99", func := "bedrock/bedrocklaw2.RealNumbers", spec := "realNumbers", inPlace := ["math.Float64bits", "internal/bytealg.abigen_runtime_cmpstring", "math.Float64frombits", "internal/bytealg.IndexByteString", "internal/bytealg.IndexString", "math.archFloor", "math.archTrunc"], unfollowed := true, recurses := true, named := ["math/bits.deBruijn64tab", "internal/bytealg.MaxLen"], apart := false, laid := [("math/bits.deBruijn64tab", laid_math_bits_deBruijn64tab)], narrowed := true }
def RealNumbersUptoSaid : Prop := realNumbersUptoRow.holds Tryd.pinned (OpenSpec.upto realNumbersSpec)

end Rows
end Go.Proofs.YtafoagllbajfnaaDoor
