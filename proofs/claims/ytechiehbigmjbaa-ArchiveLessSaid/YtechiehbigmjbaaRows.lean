/-
  No cell of these rows narrows 'for every input' (looked for: loops, veiled, ifaces, maps, wideKeys, modest, calm, conditions, laid).
  DERIVED. THE GIVEN ROWS OF THIS SEAT. 12 by the template 'for every input the law returns true; each argument reads behind the call as it read before'; 0 by the template 'total and deterministic' (their statements: YtechiehbigmjbaaTotals.lean).
  GIVEN WITH THE SEED: the statements are not yours to turn. If you find one false, say at which input.
  Laid BY PROGRAM, IN A SANDBOX (cutbox-rows.mjs): the forced cells as the released guide's own fill.sh prints them over the translation 19fe1de5fc150fc2… (all of the seat's roots in one cut). By AI agents, Wed Nov 11 2026. No macro, syntax, notation, axiom, sorry.
-/
import Derived.Test.YtechiehbigmjbaaChecked
import GoSem.Claim
import GoSem.ClaimJoined
import GoSem.ClaimMapViews
import Derived.JoinedTies
import Derived.KernelRfl
namespace Go.Proofs.Ytechiehbigmjbaa
/- THE CELL 'sum', in the pinned program and in every row, IS THE sha256 OF THE DUMP (.gsa) THAT YtechiehbigmjbaaProg.lean LOADS. Nothing in Lean hashes anything: it is a label: what it is worth is what the hold of that sum in a sandbox is worth. -/
noncomputable def Try.pinned : Pinned := { name := "ytechiehbigmjbaa", sum := "19fe1de5fc150fc27f765de09d862bd55f1a3e19335cc038236ce8e0c1660d88", checked := Try.checked }
namespace Rows
def none {H : Type} : Left H := { results := [], args := [] }

/-- 'bedrocklaw20.GossipLoads': WHATEVER THE INPUT: true; the input reads as it did. -/
def gossipLoadsSpec : ChangeSpec := { name := "gossipLoads", fn := fun _ => fun
  | [d1, d2, d3] => { results := [.lit (.bool true)], args := [d1, d2, d3] }
  | _ => none }
def gossipLoadsRow : OpenClaim := { program := "ytechiehbigmjbaa", sum := "19fe1de5fc150fc27f765de09d862bd55f1a3e19335cc038236ce8e0c1660d88", func := "bedrock/bedrocklaw20.GossipLoads", spec := "gossipLoads", inPlace := ["math.Float64frombits", "math.Float64bits", "internal/bytealg.abigen_runtime_cmpstring", "internal/abi.NoEscape"], unfollowed := true, recurses := true, apart := false }
def GossipLoadsSaid : Prop := gossipLoadsRow.holds Try.pinned (OpenSpec.ofChange gossipLoadsSpec)

/-- ITS FALSE NEIGHBOUR: 'it returns false'. Refute it at one input. -/
def gossipLoadsWrong : ChangeSpec := { name := "gossipLoads", fn := fun _ => fun
  | [d1, d2, d3] => { results := [.lit (.bool false)], args := [d1, d2, d3] }
  | _ => none }
def GossipLoadsWrongFalsely : Prop := gossipLoadsRow.holds Try.pinned (OpenSpec.ofChange gossipLoadsWrong)

/-- 'bedrocklaw25.ProtoReads': WHATEVER THE INPUT: true; the input reads as it did. -/
def protoReadsSpec : ChangeSpec := { name := "protoReads", fn := fun _ => fun
  | [d1, d2] => { results := [.lit (.bool true)], args := [d1, d2] }
  | _ => none }
def protoReadsRow : OpenClaim := { program := "ytechiehbigmjbaa", sum := "19fe1de5fc150fc27f765de09d862bd55f1a3e19335cc038236ce8e0c1660d88", func := "bedrock/bedrocklaw25.ProtoReads", spec := "protoReads", inPlace := ["math.Float64bits", "internal/bytealg.abigen_runtime_cmpstring", "internal/abi.NoEscape", "math.Float64frombits"], unfollowed := true, recurses := true, apart := false }
def ProtoReadsSaid : Prop := protoReadsRow.holds Try.pinned (OpenSpec.ofChange protoReadsSpec)

/-- ITS FALSE NEIGHBOUR: 'it returns false'. Refute it at one input. -/
def protoReadsWrong : ChangeSpec := { name := "protoReads", fn := fun _ => fun
  | [d1, d2] => { results := [.lit (.bool false)], args := [d1, d2] }
  | _ => none }
def ProtoReadsWrongFalsely : Prop := protoReadsRow.holds Try.pinned (OpenSpec.ofChange protoReadsWrong)

/-- 'bedrocklaw25.ProtoPieces': WHATEVER THE INPUT: true; the input reads as it did. -/
def protoPiecesSpec : ChangeSpec := { name := "protoPieces", fn := fun _ => fun
  | [d1, d2] => { results := [.lit (.bool true)], args := [d1, d2] }
  | _ => none }
def protoPiecesRow : OpenClaim := { program := "ytechiehbigmjbaa", sum := "19fe1de5fc150fc27f765de09d862bd55f1a3e19335cc038236ce8e0c1660d88", func := "bedrock/bedrocklaw25.ProtoPieces", spec := "protoPieces", inPlace := ["math.Float64bits", "internal/bytealg.abigen_runtime_cmpstring", "internal/abi.NoEscape", "math.Float64frombits"], unfollowed := true, recurses := true, apart := false }
def ProtoPiecesSaid : Prop := protoPiecesRow.holds Try.pinned (OpenSpec.ofChange protoPiecesSpec)

/-- ITS FALSE NEIGHBOUR: 'it returns false'. Refute it at one input. -/
def protoPiecesWrong : ChangeSpec := { name := "protoPieces", fn := fun _ => fun
  | [d1, d2] => { results := [.lit (.bool false)], args := [d1, d2] }
  | _ => none }
def ProtoPiecesWrongFalsely : Prop := protoPiecesRow.holds Try.pinned (OpenSpec.ofChange protoPiecesWrong)

/-- 'bedrocklaw25.ProtoChanged': WHATEVER THE INPUT: true; the input reads as it did. -/
def protoChangedSpec : ChangeSpec := { name := "protoChanged", fn := fun _ => fun
  | [d1, d2, d3] => { results := [.lit (.bool true)], args := [d1, d2, d3] }
  | _ => none }
def protoChangedRow : OpenClaim := { program := "ytechiehbigmjbaa", sum := "19fe1de5fc150fc27f765de09d862bd55f1a3e19335cc038236ce8e0c1660d88", func := "bedrock/bedrocklaw25.ProtoChanged", spec := "protoChanged", inPlace := ["math.Float64bits", "internal/bytealg.abigen_runtime_cmpstring", "internal/abi.NoEscape", "math.Float64frombits"], unfollowed := true, recurses := true, apart := false }
def ProtoChangedSaid : Prop := protoChangedRow.holds Try.pinned (OpenSpec.ofChange protoChangedSpec)

/-- ITS FALSE NEIGHBOUR: 'it returns false'. Refute it at one input. -/
def protoChangedWrong : ChangeSpec := { name := "protoChanged", fn := fun _ => fun
  | [d1, d2, d3] => { results := [.lit (.bool false)], args := [d1, d2, d3] }
  | _ => none }
def ProtoChangedWrongFalsely : Prop := protoChangedRow.holds Try.pinned (OpenSpec.ofChange protoChangedWrong)

/-- 'bedrocklaw25.ProtoApart': WHATEVER THE INPUT: true; the input reads as it did. -/
def protoApartSpec : ChangeSpec := { name := "protoApart", fn := fun _ => fun
  | [d1, d2, d3] => { results := [.lit (.bool true)], args := [d1, d2, d3] }
  | _ => none }
def protoApartRow : OpenClaim := { program := "ytechiehbigmjbaa", sum := "19fe1de5fc150fc27f765de09d862bd55f1a3e19335cc038236ce8e0c1660d88", func := "bedrock/bedrocklaw25.ProtoApart", spec := "protoApart", inPlace := ["math.Float64bits", "internal/bytealg.abigen_runtime_cmpstring", "internal/abi.NoEscape", "math.Float64frombits"], unfollowed := true, recurses := true, apart := false }
def ProtoApartSaid : Prop := protoApartRow.holds Try.pinned (OpenSpec.ofChange protoApartSpec)

/-- ITS FALSE NEIGHBOUR: 'it returns false'. Refute it at one input. -/
def protoApartWrong : ChangeSpec := { name := "protoApart", fn := fun _ => fun
  | [d1, d2, d3] => { results := [.lit (.bool false)], args := [d1, d2, d3] }
  | _ => none }
def ProtoApartWrongFalsely : Prop := protoApartRow.holds Try.pinned (OpenSpec.ofChange protoApartWrong)

/-- 'bedrocklaw24.ArchiveBack': WHATEVER THE INPUT: true; the input reads as it did. -/
def archiveBackSpec : ChangeSpec := { name := "archiveBack", fn := fun _ => fun
  | [d1, d2, d3, d4] => { results := [.lit (.bool true)], args := [d1, d2, d3, d4] }
  | _ => none }
def archiveBackRow : OpenClaim := { program := "ytechiehbigmjbaa", sum := "19fe1de5fc150fc27f765de09d862bd55f1a3e19335cc038236ce8e0c1660d88", func := "bedrock/bedrocklaw24.ArchiveBack", spec := "archiveBack", inPlace := ["internal/bytealg.IndexByteString", "internal/bytealg.abigen_runtime_cmpstring", "math.Float64bits", "internal/abi.NoEscape", "math.Float64frombits"], unfollowed := true, recurses := true, apart := false }
def ArchiveBackSaid : Prop := archiveBackRow.holds Try.pinned (OpenSpec.ofChange archiveBackSpec)

/-- ITS FALSE NEIGHBOUR: 'it returns false'. Refute it at one input. -/
def archiveBackWrong : ChangeSpec := { name := "archiveBack", fn := fun _ => fun
  | [d1, d2, d3, d4] => { results := [.lit (.bool false)], args := [d1, d2, d3, d4] }
  | _ => none }
def ArchiveBackWrongFalsely : Prop := archiveBackRow.holds Try.pinned (OpenSpec.ofChange archiveBackWrong)

/-- 'bedrocklaw24.ArchiveActs': WHATEVER THE INPUT: true; the input reads as it did. -/
def archiveActsSpec : ChangeSpec := { name := "archiveActs", fn := fun _ => fun
  | [d] => { results := [.lit (.bool true)], args := [d] }
  | _ => none }
def archiveActsRow : OpenClaim := { program := "ytechiehbigmjbaa", sum := "19fe1de5fc150fc27f765de09d862bd55f1a3e19335cc038236ce8e0c1660d88", func := "bedrock/bedrocklaw24.ArchiveActs", spec := "archiveActs", inPlace := ["internal/bytealg.IndexByteString", "internal/bytealg.abigen_runtime_cmpstring", "math.Float64bits", "internal/abi.NoEscape", "math.Float64frombits"], unfollowed := true, recurses := true, apart := false }
def ArchiveActsSaid : Prop := archiveActsRow.holds Try.pinned (OpenSpec.ofChange archiveActsSpec)

/-- ITS FALSE NEIGHBOUR: 'it returns false'. Refute it at one input. -/
def archiveActsWrong : ChangeSpec := { name := "archiveActs", fn := fun _ => fun
  | [d] => { results := [.lit (.bool false)], args := [d] }
  | _ => none }
def ArchiveActsWrongFalsely : Prop := archiveActsRow.holds Try.pinned (OpenSpec.ofChange archiveActsWrong)

/-- 'bedrocklaw24.ArchiveLess': WHATEVER THE INPUT: true; the input reads as it did. -/
def archiveLessSpec : ChangeSpec := { name := "archiveLess", fn := fun _ => fun
  | [d1, d2] => { results := [.lit (.bool true)], args := [d1, d2] }
  | _ => none }
def archiveLessRow : OpenClaim := { program := "ytechiehbigmjbaa", sum := "19fe1de5fc150fc27f765de09d862bd55f1a3e19335cc038236ce8e0c1660d88", func := "bedrock/bedrocklaw24.ArchiveLess", spec := "archiveLess", inPlace := ["internal/bytealg.IndexByteString", "internal/bytealg.abigen_runtime_cmpstring", "math.Float64bits", "internal/abi.NoEscape", "math.Float64frombits"], unfollowed := true, recurses := true, apart := false }
def ArchiveLessSaid : Prop := archiveLessRow.holds Try.pinned (OpenSpec.ofChange archiveLessSpec)

/-- ITS FALSE NEIGHBOUR: 'it returns false'. Refute it at one input. -/
def archiveLessWrong : ChangeSpec := { name := "archiveLess", fn := fun _ => fun
  | [d1, d2] => { results := [.lit (.bool false)], args := [d1, d2] }
  | _ => none }
def ArchiveLessWrongFalsely : Prop := archiveLessRow.holds Try.pinned (OpenSpec.ofChange archiveLessWrong)

/-- 'bedrocklaw25.ProtoBytes': WHATEVER THE INPUT: true; the input reads as it did. -/
def protoBytesSpec : ChangeSpec := { name := "protoBytes", fn := fun _ => fun
  | [d] => { results := [.lit (.bool true)], args := [d] }
  | _ => none }
def protoBytesRow : OpenClaim := { program := "ytechiehbigmjbaa", sum := "19fe1de5fc150fc27f765de09d862bd55f1a3e19335cc038236ce8e0c1660d88", func := "bedrock/bedrocklaw25.ProtoBytes", spec := "protoBytes", inPlace := ["math.Float64bits", "internal/bytealg.abigen_runtime_cmpstring", "internal/abi.NoEscape", "math.Float64frombits"], unfollowed := true, recurses := true, apart := false }
def ProtoBytesSaid : Prop := protoBytesRow.holds Try.pinned (OpenSpec.ofChange protoBytesSpec)

/-- ITS FALSE NEIGHBOUR: 'it returns false'. Refute it at one input. -/
def protoBytesWrong : ChangeSpec := { name := "protoBytes", fn := fun _ => fun
  | [d] => { results := [.lit (.bool false)], args := [d] }
  | _ => none }
def ProtoBytesWrongFalsely : Prop := protoBytesRow.holds Try.pinned (OpenSpec.ofChange protoBytesWrong)

/-- 'bedrocklaw22.StreamTakes': WHATEVER THE INPUT: true; the input reads as it did. -/
def streamTakesSpec : ChangeSpec := { name := "streamTakes", fn := fun _ => fun
  | [d1, d2] => { results := [.lit (.bool true)], args := [d1, d2] }
  | _ => none }
def streamTakesRow : OpenClaim := { program := "ytechiehbigmjbaa", sum := "19fe1de5fc150fc27f765de09d862bd55f1a3e19335cc038236ce8e0c1660d88", func := "bedrock/bedrocklaw22.StreamTakes", spec := "streamTakes", inPlace := ["math.Float64bits", "internal/abi.NoEscape", "math.Float64frombits", "internal/bytealg.IndexByteString", "internal/bytealg.abigen_runtime_cmpstring"], unfollowed := true, recurses := true, apart := false }
def StreamTakesSaid : Prop := streamTakesRow.holds Try.pinned (OpenSpec.ofChange streamTakesSpec)

/-- ITS FALSE NEIGHBOUR: 'it returns false'. Refute it at one input. -/
def streamTakesWrong : ChangeSpec := { name := "streamTakes", fn := fun _ => fun
  | [d1, d2] => { results := [.lit (.bool false)], args := [d1, d2] }
  | _ => none }
def StreamTakesWrongFalsely : Prop := streamTakesRow.holds Try.pinned (OpenSpec.ofChange streamTakesWrong)

/-- 'bedrocklaw22.StreamUnsent': WHATEVER THE INPUT: true; the input reads as it did. -/
def streamUnsentSpec : ChangeSpec := { name := "streamUnsent", fn := fun _ => fun
  | [d1, d2, d3] => { results := [.lit (.bool true)], args := [d1, d2, d3] }
  | _ => none }
def streamUnsentRow : OpenClaim := { program := "ytechiehbigmjbaa", sum := "19fe1de5fc150fc27f765de09d862bd55f1a3e19335cc038236ce8e0c1660d88", func := "bedrock/bedrocklaw22.StreamUnsent", spec := "streamUnsent", inPlace := ["math.Float64bits", "internal/abi.NoEscape", "math.Float64frombits", "internal/bytealg.IndexByteString", "internal/bytealg.abigen_runtime_cmpstring"], unfollowed := true, recurses := true, apart := false }
def StreamUnsentSaid : Prop := streamUnsentRow.holds Try.pinned (OpenSpec.ofChange streamUnsentSpec)

/-- ITS FALSE NEIGHBOUR: 'it returns false'. Refute it at one input. -/
def streamUnsentWrong : ChangeSpec := { name := "streamUnsent", fn := fun _ => fun
  | [d1, d2, d3] => { results := [.lit (.bool false)], args := [d1, d2, d3] }
  | _ => none }
def StreamUnsentWrongFalsely : Prop := streamUnsentRow.holds Try.pinned (OpenSpec.ofChange streamUnsentWrong)

/-- 'bedrocklaw22.StreamBytes': WHATEVER THE INPUT: true; the input reads as it did. -/
def streamBytesSpec : ChangeSpec := { name := "streamBytes", fn := fun _ => fun
  | [d1, d2, d3, d4] => { results := [.lit (.bool true)], args := [d1, d2, d3, d4] }
  | _ => none }
def streamBytesRow : OpenClaim := { program := "ytechiehbigmjbaa", sum := "19fe1de5fc150fc27f765de09d862bd55f1a3e19335cc038236ce8e0c1660d88", func := "bedrock/bedrocklaw22.StreamBytes", spec := "streamBytes", inPlace := ["internal/abi.NoEscape", "math.Float64frombits", "internal/bytealg.IndexByteString", "math.Float64bits", "internal/bytealg.abigen_runtime_cmpstring"], unfollowed := true, recurses := true, apart := false }
def StreamBytesSaid : Prop := streamBytesRow.holds Try.pinned (OpenSpec.ofChange streamBytesSpec)

/-- ITS FALSE NEIGHBOUR: 'it returns false'. Refute it at one input. -/
def streamBytesWrong : ChangeSpec := { name := "streamBytes", fn := fun _ => fun
  | [d1, d2, d3, d4] => { results := [.lit (.bool false)], args := [d1, d2, d3, d4] }
  | _ => none }
def StreamBytesWrongFalsely : Prop := streamBytesRow.holds Try.pinned (OpenSpec.ofChange streamBytesWrong)

/- THE SECOND FORM. 'bulk': how many values and letters a reading holds, each counted each time it is reached (what is shared counts as often as it is met; a slice's spare places count too). A statement '..UptoSaid' is the law's where the arguments, and the package variables that the reading takes, are together of bulk at most 1048576: NARROWER than '..Said'. Prove '..Said' where nothing that the law and all that it calls make is longer than what came in: it says more and counts as full. Else prove '..UptoSaid'. A law counts once. -/
mutual
def uptoBulk {H : Type} : DataW H → Nat
  | .lit (.string bytes) => bytes.length + 1
  | .lit _ => 1
  | .nil => 1
  | .ptr d => uptoBulk d + 1
  | .slice elems spare => uptoBulkAll elems + uptoBulkAll spare + 1
  | .agg parts => uptoBulkAll parts + 1
  | .iface _ d => uptoBulk d + 1
  | .map entries => uptoBulkEntries entries + 1
  | .held _ => 1
def uptoBulkAll {H : Type} : List (DataW H) → Nat
  | [] => 0
  | d :: r => uptoBulk d + uptoBulkAll r
def uptoBulkEntries {H : Type} : List (Lit × DataW H) → Nat
  | [] => 0
  | x :: r => uptoBulkEntry x + uptoBulkEntries r
def uptoBulkEntry {H : Type} : Lit × DataW H → Nat
  | (.string bytes, d) => bytes.length + uptoBulk d + 1
  | (_, d) => uptoBulk d + 1
 end
def uptoSmall : (H : Type) → List (DataW H) → Bool := fun _ ds => decide (uptoBulkAll ds ≤ 1048576)
def OpenSpec.upto (s : _root_.Go.ChangeSpec) : _root_.Go.OpenSpec := { _root_.Go.OpenSpec.ofChange s with cond := some uptoSmall }

/-- 'bedrocklaw20.GossipLoads', WHERE WHAT IT READS IS OF BULK AT MOST 1048576: true; the input reads as it did. -/
def gossipLoadsUptoRow : OpenClaim := { program := "ytechiehbigmjbaa", sum := "19fe1de5fc150fc27f765de09d862bd55f1a3e19335cc038236ce8e0c1660d88", func := "bedrock/bedrocklaw20.GossipLoads", spec := "gossipLoads", inPlace := ["math.Float64frombits", "math.Float64bits", "internal/bytealg.abigen_runtime_cmpstring", "internal/abi.NoEscape"], unfollowed := true, recurses := true, apart := false, narrowed := true }
def GossipLoadsUptoSaid : Prop := gossipLoadsUptoRow.holds Try.pinned (OpenSpec.upto gossipLoadsSpec)

/-- 'bedrocklaw25.ProtoReads', WHERE WHAT IT READS IS OF BULK AT MOST 1048576: true; the input reads as it did. -/
def protoReadsUptoRow : OpenClaim := { program := "ytechiehbigmjbaa", sum := "19fe1de5fc150fc27f765de09d862bd55f1a3e19335cc038236ce8e0c1660d88", func := "bedrock/bedrocklaw25.ProtoReads", spec := "protoReads", inPlace := ["math.Float64bits", "internal/bytealg.abigen_runtime_cmpstring", "internal/abi.NoEscape", "math.Float64frombits"], unfollowed := true, recurses := true, apart := false, narrowed := true }
def ProtoReadsUptoSaid : Prop := protoReadsUptoRow.holds Try.pinned (OpenSpec.upto protoReadsSpec)

/-- 'bedrocklaw25.ProtoPieces', WHERE WHAT IT READS IS OF BULK AT MOST 1048576: true; the input reads as it did. -/
def protoPiecesUptoRow : OpenClaim := { program := "ytechiehbigmjbaa", sum := "19fe1de5fc150fc27f765de09d862bd55f1a3e19335cc038236ce8e0c1660d88", func := "bedrock/bedrocklaw25.ProtoPieces", spec := "protoPieces", inPlace := ["math.Float64bits", "internal/bytealg.abigen_runtime_cmpstring", "internal/abi.NoEscape", "math.Float64frombits"], unfollowed := true, recurses := true, apart := false, narrowed := true }
def ProtoPiecesUptoSaid : Prop := protoPiecesUptoRow.holds Try.pinned (OpenSpec.upto protoPiecesSpec)

/-- 'bedrocklaw25.ProtoChanged', WHERE WHAT IT READS IS OF BULK AT MOST 1048576: true; the input reads as it did. -/
def protoChangedUptoRow : OpenClaim := { program := "ytechiehbigmjbaa", sum := "19fe1de5fc150fc27f765de09d862bd55f1a3e19335cc038236ce8e0c1660d88", func := "bedrock/bedrocklaw25.ProtoChanged", spec := "protoChanged", inPlace := ["math.Float64bits", "internal/bytealg.abigen_runtime_cmpstring", "internal/abi.NoEscape", "math.Float64frombits"], unfollowed := true, recurses := true, apart := false, narrowed := true }
def ProtoChangedUptoSaid : Prop := protoChangedUptoRow.holds Try.pinned (OpenSpec.upto protoChangedSpec)

/-- 'bedrocklaw25.ProtoApart', WHERE WHAT IT READS IS OF BULK AT MOST 1048576: true; the input reads as it did. -/
def protoApartUptoRow : OpenClaim := { program := "ytechiehbigmjbaa", sum := "19fe1de5fc150fc27f765de09d862bd55f1a3e19335cc038236ce8e0c1660d88", func := "bedrock/bedrocklaw25.ProtoApart", spec := "protoApart", inPlace := ["math.Float64bits", "internal/bytealg.abigen_runtime_cmpstring", "internal/abi.NoEscape", "math.Float64frombits"], unfollowed := true, recurses := true, apart := false, narrowed := true }
def ProtoApartUptoSaid : Prop := protoApartUptoRow.holds Try.pinned (OpenSpec.upto protoApartSpec)

/-- 'bedrocklaw24.ArchiveBack', WHERE WHAT IT READS IS OF BULK AT MOST 1048576: true; the input reads as it did. -/
def archiveBackUptoRow : OpenClaim := { program := "ytechiehbigmjbaa", sum := "19fe1de5fc150fc27f765de09d862bd55f1a3e19335cc038236ce8e0c1660d88", func := "bedrock/bedrocklaw24.ArchiveBack", spec := "archiveBack", inPlace := ["internal/bytealg.IndexByteString", "internal/bytealg.abigen_runtime_cmpstring", "math.Float64bits", "internal/abi.NoEscape", "math.Float64frombits"], unfollowed := true, recurses := true, apart := false, narrowed := true }
def ArchiveBackUptoSaid : Prop := archiveBackUptoRow.holds Try.pinned (OpenSpec.upto archiveBackSpec)

/-- 'bedrocklaw24.ArchiveActs', WHERE WHAT IT READS IS OF BULK AT MOST 1048576: true; the input reads as it did. -/
def archiveActsUptoRow : OpenClaim := { program := "ytechiehbigmjbaa", sum := "19fe1de5fc150fc27f765de09d862bd55f1a3e19335cc038236ce8e0c1660d88", func := "bedrock/bedrocklaw24.ArchiveActs", spec := "archiveActs", inPlace := ["internal/bytealg.IndexByteString", "internal/bytealg.abigen_runtime_cmpstring", "math.Float64bits", "internal/abi.NoEscape", "math.Float64frombits"], unfollowed := true, recurses := true, apart := false, narrowed := true }
def ArchiveActsUptoSaid : Prop := archiveActsUptoRow.holds Try.pinned (OpenSpec.upto archiveActsSpec)

/-- 'bedrocklaw24.ArchiveLess', WHERE WHAT IT READS IS OF BULK AT MOST 1048576: true; the input reads as it did. -/
def archiveLessUptoRow : OpenClaim := { program := "ytechiehbigmjbaa", sum := "19fe1de5fc150fc27f765de09d862bd55f1a3e19335cc038236ce8e0c1660d88", func := "bedrock/bedrocklaw24.ArchiveLess", spec := "archiveLess", inPlace := ["internal/bytealg.IndexByteString", "internal/bytealg.abigen_runtime_cmpstring", "math.Float64bits", "internal/abi.NoEscape", "math.Float64frombits"], unfollowed := true, recurses := true, apart := false, narrowed := true }
def ArchiveLessUptoSaid : Prop := archiveLessUptoRow.holds Try.pinned (OpenSpec.upto archiveLessSpec)

/-- 'bedrocklaw25.ProtoBytes', WHERE WHAT IT READS IS OF BULK AT MOST 1048576: true; the input reads as it did. -/
def protoBytesUptoRow : OpenClaim := { program := "ytechiehbigmjbaa", sum := "19fe1de5fc150fc27f765de09d862bd55f1a3e19335cc038236ce8e0c1660d88", func := "bedrock/bedrocklaw25.ProtoBytes", spec := "protoBytes", inPlace := ["math.Float64bits", "internal/bytealg.abigen_runtime_cmpstring", "internal/abi.NoEscape", "math.Float64frombits"], unfollowed := true, recurses := true, apart := false, narrowed := true }
def ProtoBytesUptoSaid : Prop := protoBytesUptoRow.holds Try.pinned (OpenSpec.upto protoBytesSpec)

/-- 'bedrocklaw22.StreamTakes', WHERE WHAT IT READS IS OF BULK AT MOST 1048576: true; the input reads as it did. -/
def streamTakesUptoRow : OpenClaim := { program := "ytechiehbigmjbaa", sum := "19fe1de5fc150fc27f765de09d862bd55f1a3e19335cc038236ce8e0c1660d88", func := "bedrock/bedrocklaw22.StreamTakes", spec := "streamTakes", inPlace := ["math.Float64bits", "internal/abi.NoEscape", "math.Float64frombits", "internal/bytealg.IndexByteString", "internal/bytealg.abigen_runtime_cmpstring"], unfollowed := true, recurses := true, apart := false, narrowed := true }
def StreamTakesUptoSaid : Prop := streamTakesUptoRow.holds Try.pinned (OpenSpec.upto streamTakesSpec)

/-- 'bedrocklaw22.StreamUnsent', WHERE WHAT IT READS IS OF BULK AT MOST 1048576: true; the input reads as it did. -/
def streamUnsentUptoRow : OpenClaim := { program := "ytechiehbigmjbaa", sum := "19fe1de5fc150fc27f765de09d862bd55f1a3e19335cc038236ce8e0c1660d88", func := "bedrock/bedrocklaw22.StreamUnsent", spec := "streamUnsent", inPlace := ["math.Float64bits", "internal/abi.NoEscape", "math.Float64frombits", "internal/bytealg.IndexByteString", "internal/bytealg.abigen_runtime_cmpstring"], unfollowed := true, recurses := true, apart := false, narrowed := true }
def StreamUnsentUptoSaid : Prop := streamUnsentUptoRow.holds Try.pinned (OpenSpec.upto streamUnsentSpec)

/-- 'bedrocklaw22.StreamBytes', WHERE WHAT IT READS IS OF BULK AT MOST 1048576: true; the input reads as it did. -/
def streamBytesUptoRow : OpenClaim := { program := "ytechiehbigmjbaa", sum := "19fe1de5fc150fc27f765de09d862bd55f1a3e19335cc038236ce8e0c1660d88", func := "bedrock/bedrocklaw22.StreamBytes", spec := "streamBytes", inPlace := ["internal/abi.NoEscape", "math.Float64frombits", "internal/bytealg.IndexByteString", "math.Float64bits", "internal/bytealg.abigen_runtime_cmpstring"], unfollowed := true, recurses := true, apart := false, narrowed := true }
def StreamBytesUptoSaid : Prop := streamBytesUptoRow.holds Try.pinned (OpenSpec.upto streamBytesSpec)

end Rows
end Go.Proofs.Ytechiehbigmjbaa
