/-
  No cell of these rows narrows 'for every input' (looked for: loops, veiled, ifaces, maps, wideKeys, modest, calm, conditions, laid).
  DERIVED. THE GIVEN ROWS OF THIS SEAT. 6 by the template 'for every input the law returns true; each argument reads behind the call as it read before'; 0 by the template 'total and deterministic' (their statements: YtaokennbpgdngaaTotals.lean).
  GIVEN WITH THE SEED: the statements are not yours to turn. If you find one false, say at which input.
  Laid BY PROGRAM, IN A SANDBOX (cutbox-rows.mjs): the forced cells as the released guide's own fill.sh prints them over the translation 6c27a6340f013ec4… (all of the seat's roots in one cut). By AI agents, Wed Nov 11 2026. No macro, syntax, notation, axiom, sorry.
-/
import Derived.Test.YtaokennbpgdngaaChecked
import GoSem.Claim
import GoSem.ClaimJoined
import GoSem.ClaimMapViews
import Derived.JoinedTies
import Derived.KernelRfl
namespace Go.Proofs.Ytaokennbpgdngaa
/- THE CELL 'sum', in the pinned program and in every row, IS THE sha256 OF THE DUMP (.gsa) THAT YtaokennbpgdngaaProg.lean LOADS. Nothing in Lean hashes anything: it is a label: what it is worth is what the hold of that sum in a sandbox is worth. -/
noncomputable def Try.pinned : Pinned := { name := "ytaokennbpgdngaa", sum := "6c27a6340f013ec40b107ba657e1c14f758fded45a951369f512deb0644be672", checked := Try.checked }
namespace Rows
def none {H : Type} : Left H := { results := [], args := [] }

/-- 'bedrocklaw22.StreamUnsent': WHATEVER THE INPUT: true; the input reads as it did. -/
def streamUnsentSpec : ChangeSpec := { name := "streamUnsent", fn := fun _ => fun
  | [d1, d2, d3] => { results := [.lit (.bool true)], args := [d1, d2, d3] }
  | _ => none }
def streamUnsentRow : OpenClaim := { program := "ytaokennbpgdngaa", sum := "6c27a6340f013ec40b107ba657e1c14f758fded45a951369f512deb0644be672", func := "bedrock/bedrocklaw22.StreamUnsent", spec := "streamUnsent", inPlace := ["math.Float64bits", "internal/abi.NoEscape", "math.Float64frombits", "internal/bytealg.IndexByteString", "internal/bytealg.abigen_runtime_cmpstring"], unfollowed := true, recurses := true, apart := false }
def StreamUnsentSaid : Prop := streamUnsentRow.holds Try.pinned (OpenSpec.ofChange streamUnsentSpec)

/-- ITS FALSE NEIGHBOUR: 'it returns false'. Refute it at one input. -/
def streamUnsentWrong : ChangeSpec := { name := "streamUnsent", fn := fun _ => fun
  | [d1, d2, d3] => { results := [.lit (.bool false)], args := [d1, d2, d3] }
  | _ => none }
def StreamUnsentWrongFalsely : Prop := streamUnsentRow.holds Try.pinned (OpenSpec.ofChange streamUnsentWrong)

/-- 'bedrocklaw22.StreamBytes': WHATEVER THE INPUT: true; the input reads as it did. -/
def streamBytesSpec : ChangeSpec := { name := "streamBytes", fn := fun _ => fun
  | [d1, d2, d3, d4] => { results := [.lit (.bool true)], args := [d1, d2, d3, d4] }
  | _ => none }
def streamBytesRow : OpenClaim := { program := "ytaokennbpgdngaa", sum := "6c27a6340f013ec40b107ba657e1c14f758fded45a951369f512deb0644be672", func := "bedrock/bedrocklaw22.StreamBytes", spec := "streamBytes", inPlace := ["internal/abi.NoEscape", "math.Float64frombits", "internal/bytealg.IndexByteString", "math.Float64bits", "internal/bytealg.abigen_runtime_cmpstring"], unfollowed := true, recurses := true, apart := false }
def StreamBytesSaid : Prop := streamBytesRow.holds Try.pinned (OpenSpec.ofChange streamBytesSpec)

/-- ITS FALSE NEIGHBOUR: 'it returns false'. Refute it at one input. -/
def streamBytesWrong : ChangeSpec := { name := "streamBytes", fn := fun _ => fun
  | [d1, d2, d3, d4] => { results := [.lit (.bool false)], args := [d1, d2, d3, d4] }
  | _ => none }
def StreamBytesWrongFalsely : Prop := streamBytesRow.holds Try.pinned (OpenSpec.ofChange streamBytesWrong)

/-- 'bedrocklaw21.TxnBytes': WHATEVER THE INPUT: true; the input reads as it did. -/
def txnBytesSpec : ChangeSpec := { name := "txnBytes", fn := fun _ => fun
  | [d1, d2, d3, d4, d5] => { results := [.lit (.bool true)], args := [d1, d2, d3, d4, d5] }
  | _ => none }
def txnBytesRow : OpenClaim := { program := "ytaokennbpgdngaa", sum := "6c27a6340f013ec40b107ba657e1c14f758fded45a951369f512deb0644be672", func := "bedrock/bedrocklaw21.TxnBytes", spec := "txnBytes", inPlace := ["internal/bytealg.IndexByteString", "math.Float64bits", "internal/bytealg.abigen_runtime_cmpstring", "internal/abi.NoEscape", "math.Float64frombits"], unfollowed := true, recurses := true, apart := false }
def TxnBytesSaid : Prop := txnBytesRow.holds Try.pinned (OpenSpec.ofChange txnBytesSpec)

/-- ITS FALSE NEIGHBOUR: 'it returns false'. Refute it at one input. -/
def txnBytesWrong : ChangeSpec := { name := "txnBytes", fn := fun _ => fun
  | [d1, d2, d3, d4, d5] => { results := [.lit (.bool false)], args := [d1, d2, d3, d4, d5] }
  | _ => none }
def TxnBytesWrongFalsely : Prop := txnBytesRow.holds Try.pinned (OpenSpec.ofChange txnBytesWrong)

/-- 'bedrocklaw21.TxnFolds': WHATEVER THE INPUT: true; the input reads as it did. -/
def txnFoldsSpec : ChangeSpec := { name := "txnFolds", fn := fun _ => fun
  | [d1, d2, d3] => { results := [.lit (.bool true)], args := [d1, d2, d3] }
  | _ => none }
def txnFoldsRow : OpenClaim := { program := "ytaokennbpgdngaa", sum := "6c27a6340f013ec40b107ba657e1c14f758fded45a951369f512deb0644be672", func := "bedrock/bedrocklaw21.TxnFolds", spec := "txnFolds", inPlace := ["internal/bytealg.IndexByteString", "math.Float64bits", "internal/bytealg.abigen_runtime_cmpstring", "internal/abi.NoEscape", "math.Float64frombits"], unfollowed := true, recurses := true, apart := false }
def TxnFoldsSaid : Prop := txnFoldsRow.holds Try.pinned (OpenSpec.ofChange txnFoldsSpec)

/-- ITS FALSE NEIGHBOUR: 'it returns false'. Refute it at one input. -/
def txnFoldsWrong : ChangeSpec := { name := "txnFolds", fn := fun _ => fun
  | [d1, d2, d3] => { results := [.lit (.bool false)], args := [d1, d2, d3] }
  | _ => none }
def TxnFoldsWrongFalsely : Prop := txnFoldsRow.holds Try.pinned (OpenSpec.ofChange txnFoldsWrong)

/-- 'bedrocklaw21.TxnReads': WHATEVER THE INPUT: true; the input reads as it did. -/
def txnReadsSpec : ChangeSpec := { name := "txnReads", fn := fun _ => fun
  | [d1, d2, d3, d4, d5] => { results := [.lit (.bool true)], args := [d1, d2, d3, d4, d5] }
  | _ => none }
def txnReadsRow : OpenClaim := { program := "ytaokennbpgdngaa", sum := "6c27a6340f013ec40b107ba657e1c14f758fded45a951369f512deb0644be672", func := "bedrock/bedrocklaw21.TxnReads", spec := "txnReads", inPlace := ["internal/bytealg.IndexByteString", "math.Float64bits", "internal/bytealg.abigen_runtime_cmpstring", "internal/abi.NoEscape", "math.Float64frombits"], unfollowed := true, recurses := true, apart := false }
def TxnReadsSaid : Prop := txnReadsRow.holds Try.pinned (OpenSpec.ofChange txnReadsSpec)

/-- ITS FALSE NEIGHBOUR: 'it returns false'. Refute it at one input. -/
def txnReadsWrong : ChangeSpec := { name := "txnReads", fn := fun _ => fun
  | [d1, d2, d3, d4, d5] => { results := [.lit (.bool false)], args := [d1, d2, d3, d4, d5] }
  | _ => none }
def TxnReadsWrongFalsely : Prop := txnReadsRow.holds Try.pinned (OpenSpec.ofChange txnReadsWrong)

/-- 'bedrocklaw21.TxnParts': WHATEVER THE INPUT: true; the input reads as it did. -/
def txnPartsSpec : ChangeSpec := { name := "txnParts", fn := fun _ => fun
  | [d1, d2] => { results := [.lit (.bool true)], args := [d1, d2] }
  | _ => none }
def txnPartsRow : OpenClaim := { program := "ytaokennbpgdngaa", sum := "6c27a6340f013ec40b107ba657e1c14f758fded45a951369f512deb0644be672", func := "bedrock/bedrocklaw21.TxnParts", spec := "txnParts", inPlace := ["internal/bytealg.IndexByteString", "math.Float64bits", "internal/bytealg.abigen_runtime_cmpstring", "internal/abi.NoEscape", "math.Float64frombits"], unfollowed := true, recurses := true, apart := false }
def TxnPartsSaid : Prop := txnPartsRow.holds Try.pinned (OpenSpec.ofChange txnPartsSpec)

/-- ITS FALSE NEIGHBOUR: 'it returns false'. Refute it at one input. -/
def txnPartsWrong : ChangeSpec := { name := "txnParts", fn := fun _ => fun
  | [d1, d2] => { results := [.lit (.bool false)], args := [d1, d2] }
  | _ => none }
def TxnPartsWrongFalsely : Prop := txnPartsRow.holds Try.pinned (OpenSpec.ofChange txnPartsWrong)

/- THE SECOND FORM. 'bulk': how many values and letters a reading holds, each counted each time it is reached (what is shared counts as often as it is met; a slice's spare places count too). A statement '..UptoSaid' is the law's where the arguments, and the package variables that the reading takes, are together of bulk at most 1048576: NARROWER than '..Said'. Prove '..Said' where nothing that the law and all that it calls make is longer than what came in: it says more and counts as full. Else prove '..UptoSaid'. A law counts once. -/
mutual
def uptoBulk {H : Type} : DataW H → Nat
  | .lit (.string bytes) => bytes.length + 1
  | .lit _ => 1
  | .nil => 1
  | .ptr d => uptoBulk d + 1
  | .slice elems spare => uptoBulkAll elems + uptoBulkAll spare + 1
  | .agg parts => uptoBulkAll parts + 1
  | .iface _ d => uptoBulk d + 1
  | .map entries => uptoBulkEntries entries + 1
  | .held _ => 1
def uptoBulkAll {H : Type} : List (DataW H) → Nat
  | [] => 0
  | d :: r => uptoBulk d + uptoBulkAll r
def uptoBulkEntries {H : Type} : List (Lit × DataW H) → Nat
  | [] => 0
  | x :: r => uptoBulkEntry x + uptoBulkEntries r
def uptoBulkEntry {H : Type} : Lit × DataW H → Nat
  | (.string bytes, d) => bytes.length + uptoBulk d + 1
  | (_, d) => uptoBulk d + 1
 end
def uptoSmall : (H : Type) → List (DataW H) → Bool := fun _ ds => decide (uptoBulkAll ds ≤ 1048576)
def OpenSpec.upto (s : _root_.Go.ChangeSpec) : _root_.Go.OpenSpec := { _root_.Go.OpenSpec.ofChange s with cond := some uptoSmall }

/-- 'bedrocklaw22.StreamUnsent', WHERE WHAT IT READS IS OF BULK AT MOST 1048576: true; the input reads as it did. -/
def streamUnsentUptoRow : OpenClaim := { program := "ytaokennbpgdngaa", sum := "6c27a6340f013ec40b107ba657e1c14f758fded45a951369f512deb0644be672", func := "bedrock/bedrocklaw22.StreamUnsent", spec := "streamUnsent", inPlace := ["math.Float64bits", "internal/abi.NoEscape", "math.Float64frombits", "internal/bytealg.IndexByteString", "internal/bytealg.abigen_runtime_cmpstring"], unfollowed := true, recurses := true, apart := false, narrowed := true }
def StreamUnsentUptoSaid : Prop := streamUnsentUptoRow.holds Try.pinned (OpenSpec.upto streamUnsentSpec)

/-- 'bedrocklaw22.StreamBytes', WHERE WHAT IT READS IS OF BULK AT MOST 1048576: true; the input reads as it did. -/
def streamBytesUptoRow : OpenClaim := { program := "ytaokennbpgdngaa", sum := "6c27a6340f013ec40b107ba657e1c14f758fded45a951369f512deb0644be672", func := "bedrock/bedrocklaw22.StreamBytes", spec := "streamBytes", inPlace := ["internal/abi.NoEscape", "math.Float64frombits", "internal/bytealg.IndexByteString", "math.Float64bits", "internal/bytealg.abigen_runtime_cmpstring"], unfollowed := true, recurses := true, apart := false, narrowed := true }
def StreamBytesUptoSaid : Prop := streamBytesUptoRow.holds Try.pinned (OpenSpec.upto streamBytesSpec)

/-- 'bedrocklaw21.TxnBytes', WHERE WHAT IT READS IS OF BULK AT MOST 1048576: true; the input reads as it did. -/
def txnBytesUptoRow : OpenClaim := { program := "ytaokennbpgdngaa", sum := "6c27a6340f013ec40b107ba657e1c14f758fded45a951369f512deb0644be672", func := "bedrock/bedrocklaw21.TxnBytes", spec := "txnBytes", inPlace := ["internal/bytealg.IndexByteString", "math.Float64bits", "internal/bytealg.abigen_runtime_cmpstring", "internal/abi.NoEscape", "math.Float64frombits"], unfollowed := true, recurses := true, apart := false, narrowed := true }
def TxnBytesUptoSaid : Prop := txnBytesUptoRow.holds Try.pinned (OpenSpec.upto txnBytesSpec)

/-- 'bedrocklaw21.TxnFolds', WHERE WHAT IT READS IS OF BULK AT MOST 1048576: true; the input reads as it did. -/
def txnFoldsUptoRow : OpenClaim := { program := "ytaokennbpgdngaa", sum := "6c27a6340f013ec40b107ba657e1c14f758fded45a951369f512deb0644be672", func := "bedrock/bedrocklaw21.TxnFolds", spec := "txnFolds", inPlace := ["internal/bytealg.IndexByteString", "math.Float64bits", "internal/bytealg.abigen_runtime_cmpstring", "internal/abi.NoEscape", "math.Float64frombits"], unfollowed := true, recurses := true, apart := false, narrowed := true }
def TxnFoldsUptoSaid : Prop := txnFoldsUptoRow.holds Try.pinned (OpenSpec.upto txnFoldsSpec)

/-- 'bedrocklaw21.TxnReads', WHERE WHAT IT READS IS OF BULK AT MOST 1048576: true; the input reads as it did. -/
def txnReadsUptoRow : OpenClaim := { program := "ytaokennbpgdngaa", sum := "6c27a6340f013ec40b107ba657e1c14f758fded45a951369f512deb0644be672", func := "bedrock/bedrocklaw21.TxnReads", spec := "txnReads", inPlace := ["internal/bytealg.IndexByteString", "math.Float64bits", "internal/bytealg.abigen_runtime_cmpstring", "internal/abi.NoEscape", "math.Float64frombits"], unfollowed := true, recurses := true, apart := false, narrowed := true }
def TxnReadsUptoSaid : Prop := txnReadsUptoRow.holds Try.pinned (OpenSpec.upto txnReadsSpec)

/-- 'bedrocklaw21.TxnParts', WHERE WHAT IT READS IS OF BULK AT MOST 1048576: true; the input reads as it did. -/
def txnPartsUptoRow : OpenClaim := { program := "ytaokennbpgdngaa", sum := "6c27a6340f013ec40b107ba657e1c14f758fded45a951369f512deb0644be672", func := "bedrock/bedrocklaw21.TxnParts", spec := "txnParts", inPlace := ["internal/bytealg.IndexByteString", "math.Float64bits", "internal/bytealg.abigen_runtime_cmpstring", "internal/abi.NoEscape", "math.Float64frombits"], unfollowed := true, recurses := true, apart := false, narrowed := true }
def TxnPartsUptoSaid : Prop := txnPartsUptoRow.holds Try.pinned (OpenSpec.upto txnPartsSpec)

end Rows
end Go.Proofs.Ytaokennbpgdngaa
