/-
  No cell of these rows narrows 'for every input' (looked for: loops, veiled, ifaces, maps, wideKeys, modest, calm, conditions, laid).
  DERIVED. THE GIVEN ROWS OF THIS SEAT. 3 by the template 'for every input the law returns true; each argument reads behind the call as it read before'; 0 by the template 'total and deterministic' (their statements: YtibabgokmacnaaaGreatTotals.lean).
  GIVEN WITH THE SEED: the statements are not yours to turn. If you find one false, say at which input.
  Laid BY PROGRAM, IN A SANDBOX (cutbox-rows.mjs): the forced cells as the released guide's own fill.sh prints them over the translation db1c79cf54442f0e… (all of the seat's roots in one cut). By AI agents, Wed Nov 11 2026. No macro, syntax, notation, axiom, sorry.
-/
import Derived.Test.YtibabgokmacnaaaGreatChecked
import GoSem.Claim
import GoSem.ClaimJoined
import GoSem.ClaimMapViews
import Derived.JoinedTies
import Derived.KernelRfl
namespace Go.Proofs.YtibabgokmacnaaaGreat
/- THE CELL 'sum', in the pinned program and in every row, IS THE sha256 OF THE DUMP (.gsa) THAT YtibabgokmacnaaaGreatProg.lean LOADS. Nothing in Lean hashes anything: it is a label: what it is worth is what the hold of that sum in a sandbox is worth. -/
noncomputable def Tryz.pinned : Pinned := { name := "ytibabgokmacnaaagreat", sum := "db1c79cf54442f0e50a423d9ac72cab734279134aef7fb8a3bedf428dded66bd", checked := Tryz.checked }
namespace Rows
def none {H : Type} : Left H := { results := [], args := [] }

/-- 'bedrocklaw3.VecTells': WHATEVER THE INPUT: true; the input reads as it did. -/
def vecTellsSpec : ChangeSpec := { name := "vecTells", fn := fun _ => fun
  | [d1, d2, d3, d4, d5] => { results := [.lit (.bool true)], args := [d1, d2, d3, d4, d5] }
  | _ => none }
def vecTellsRow : OpenClaim := { program := "ytibabgokmacnaaagreat", sum := "db1c79cf54442f0e50a423d9ac72cab734279134aef7fb8a3bedf428dded66bd", func := "bedrock/bedrocklaw3.VecTells", spec := "vecTells", inPlace := ["internal/abi.NoEscape", "internal/bytealg.MakeNoZero", "math.Float64bits"], unfollowed := true, recurses := true, apart := false }
def VecTellsSaid : Prop := vecTellsRow.holds Tryz.pinned (OpenSpec.ofChange vecTellsSpec)

/-- ITS FALSE NEIGHBOUR: 'it returns false'. Refute it at one input. -/
def vecTellsWrong : ChangeSpec := { name := "vecTells", fn := fun _ => fun
  | [d1, d2, d3, d4, d5] => { results := [.lit (.bool false)], args := [d1, d2, d3, d4, d5] }
  | _ => none }
def VecTellsWrongFalsely : Prop := vecTellsRow.holds Tryz.pinned (OpenSpec.ofChange vecTellsWrong)

/-- 'bedrocklaw20.GossipPlays': WHATEVER THE INPUT: true; the input reads as it did. -/
def gossipPlaysSpec : ChangeSpec := { name := "gossipPlays", fn := fun _ => fun
  | [d1, d2] => { results := [.lit (.bool true)], args := [d1, d2] }
  | _ => none }
def gossipPlaysRow : OpenClaim := { program := "ytibabgokmacnaaagreat", sum := "db1c79cf54442f0e50a423d9ac72cab734279134aef7fb8a3bedf428dded66bd", func := "bedrock/bedrocklaw20.GossipPlays", spec := "gossipPlays", inPlace := ["math.Float64frombits", "math.Float64bits", "internal/bytealg.abigen_runtime_cmpstring", "internal/abi.NoEscape"], unfollowed := true, recurses := true, apart := false }
def GossipPlaysSaid : Prop := gossipPlaysRow.holds Tryz.pinned (OpenSpec.ofChange gossipPlaysSpec)

/-- ITS FALSE NEIGHBOUR: 'it returns false'. Refute it at one input. -/
def gossipPlaysWrong : ChangeSpec := { name := "gossipPlays", fn := fun _ => fun
  | [d1, d2] => { results := [.lit (.bool false)], args := [d1, d2] }
  | _ => none }
def GossipPlaysWrongFalsely : Prop := gossipPlaysRow.holds Tryz.pinned (OpenSpec.ofChange gossipPlaysWrong)

/-- 'bedrocklaw25.ProtoAsks': WHATEVER THE INPUT: true; the input reads as it did. -/
def protoAsksSpec : ChangeSpec := { name := "protoAsks", fn := fun _ => fun
  | [d1, d2] => { results := [.lit (.bool true)], args := [d1, d2] }
  | _ => none }
def protoAsksRow : OpenClaim := { program := "ytibabgokmacnaaagreat", sum := "db1c79cf54442f0e50a423d9ac72cab734279134aef7fb8a3bedf428dded66bd", func := "bedrock/bedrocklaw25.ProtoAsks", spec := "protoAsks", inPlace := ["math.Float64bits", "internal/bytealg.abigen_runtime_cmpstring", "internal/abi.NoEscape", "math.Float64frombits"], unfollowed := true, recurses := true, apart := false }
def ProtoAsksSaid : Prop := protoAsksRow.holds Tryz.pinned (OpenSpec.ofChange protoAsksSpec)

/-- ITS FALSE NEIGHBOUR: 'it returns false'. Refute it at one input. -/
def protoAsksWrong : ChangeSpec := { name := "protoAsks", fn := fun _ => fun
  | [d1, d2] => { results := [.lit (.bool false)], args := [d1, d2] }
  | _ => none }
def ProtoAsksWrongFalsely : Prop := protoAsksRow.holds Tryz.pinned (OpenSpec.ofChange protoAsksWrong)

/- THE SECOND FORM. 'bulk': how many values and letters a reading holds, each counted each time it is reached (what is shared counts as often as it is met; a slice's spare places count too). A statement '..UptoSaid' is the law's where the arguments, and the package variables that the reading takes, are together of bulk at most 1048576: NARROWER than '..Said'. Prove '..Said' where nothing that the law and all that it calls make is longer than what came in: it says more and counts as full. Else prove '..UptoSaid'. A law counts once. -/
mutual
def uptoBulk {H : Type} : DataW H → Nat
  | .lit (.string bytes) => bytes.length + 1
  | .lit _ => 1
  | .nil => 1
  | .ptr d => uptoBulk d + 1
  | .slice elems spare => uptoBulkAll elems + uptoBulkAll spare + 1
  | .agg parts => uptoBulkAll parts + 1
  | .iface _ d => uptoBulk d + 1
  | .map entries => uptoBulkEntries entries + 1
  | .held _ => 1
def uptoBulkAll {H : Type} : List (DataW H) → Nat
  | [] => 0
  | d :: r => uptoBulk d + uptoBulkAll r
def uptoBulkEntries {H : Type} : List (Lit × DataW H) → Nat
  | [] => 0
  | x :: r => uptoBulkEntry x + uptoBulkEntries r
def uptoBulkEntry {H : Type} : Lit × DataW H → Nat
  | (.string bytes, d) => bytes.length + uptoBulk d + 1
  | (_, d) => uptoBulk d + 1
 end
def uptoSmall : (H : Type) → List (DataW H) → Bool := fun _ ds => decide (uptoBulkAll ds ≤ 1048576)
def OpenSpec.upto (s : _root_.Go.ChangeSpec) : _root_.Go.OpenSpec := { _root_.Go.OpenSpec.ofChange s with cond := some uptoSmall }

/-- 'bedrocklaw3.VecTells', WHERE WHAT IT READS IS OF BULK AT MOST 1048576: true; the input reads as it did. -/
def vecTellsUptoRow : OpenClaim := { program := "ytibabgokmacnaaagreat", sum := "db1c79cf54442f0e50a423d9ac72cab734279134aef7fb8a3bedf428dded66bd", func := "bedrock/bedrocklaw3.VecTells", spec := "vecTells", inPlace := ["internal/abi.NoEscape", "internal/bytealg.MakeNoZero", "math.Float64bits"], unfollowed := true, recurses := true, apart := false, narrowed := true }
def VecTellsUptoSaid : Prop := vecTellsUptoRow.holds Tryz.pinned (OpenSpec.upto vecTellsSpec)

/-- 'bedrocklaw20.GossipPlays', WHERE WHAT IT READS IS OF BULK AT MOST 1048576: true; the input reads as it did. -/
def gossipPlaysUptoRow : OpenClaim := { program := "ytibabgokmacnaaagreat", sum := "db1c79cf54442f0e50a423d9ac72cab734279134aef7fb8a3bedf428dded66bd", func := "bedrock/bedrocklaw20.GossipPlays", spec := "gossipPlays", inPlace := ["math.Float64frombits", "math.Float64bits", "internal/bytealg.abigen_runtime_cmpstring", "internal/abi.NoEscape"], unfollowed := true, recurses := true, apart := false, narrowed := true }
def GossipPlaysUptoSaid : Prop := gossipPlaysUptoRow.holds Tryz.pinned (OpenSpec.upto gossipPlaysSpec)

/-- 'bedrocklaw25.ProtoAsks', WHERE WHAT IT READS IS OF BULK AT MOST 1048576: true; the input reads as it did. -/
def protoAsksUptoRow : OpenClaim := { program := "ytibabgokmacnaaagreat", sum := "db1c79cf54442f0e50a423d9ac72cab734279134aef7fb8a3bedf428dded66bd", func := "bedrock/bedrocklaw25.ProtoAsks", spec := "protoAsks", inPlace := ["math.Float64bits", "internal/bytealg.abigen_runtime_cmpstring", "internal/abi.NoEscape", "math.Float64frombits"], unfollowed := true, recurses := true, apart := false, narrowed := true }
def ProtoAsksUptoSaid : Prop := protoAsksUptoRow.holds Tryz.pinned (OpenSpec.upto protoAsksSpec)

end Rows
end Go.Proofs.YtibabgokmacnaaaGreat
