/-
  No cell of these rows narrows 'for every input' (looked for: loops, veiled, ifaces, maps, wideKeys, modest, calm, conditions, laid).
  DERIVED. THE GIVEN ROWS OF THIS SEAT. 7 by the template 'for every input the law returns true; each argument reads behind the call as it read before'; 0 by the template 'total and deterministic' (their statements: YtpfpefapdcdkeaaTotals.lean).
  GIVEN WITH THE SEED: the statements are not yours to turn. If you find one false, say at which input.
  Laid BY PROGRAM, IN A SANDBOX (cutbox-rows.mjs): the forced cells as the released guide's own fill.sh prints them over the translation 805ffb0ecff0bb55… (all of the seat's roots in one cut). By AI agents, Wed Nov 11 2026. No macro, syntax, notation, axiom, sorry.
-/
import Derived.Test.YtpfpefapdcdkeaaChecked
import GoSem.Claim
import GoSem.ClaimJoined
import GoSem.ClaimMapViews
import Derived.JoinedTies
import Derived.KernelRfl
namespace Go.Proofs.Ytpfpefapdcdkeaa
/- THE CELL 'sum', in the pinned program and in every row, IS THE sha256 OF THE DUMP (.gsa) THAT YtpfpefapdcdkeaaProg.lean LOADS. Nothing in Lean hashes anything: it is a label: what it is worth is what the hold of that sum in a sandbox is worth. -/
noncomputable def Try.pinned : Pinned := { name := "ytpfpefapdcdkeaa", sum := "805ffb0ecff0bb55dfee5a0cabe0e38bae507d15e54aba8d5a23c07c06cca84b", checked := Try.checked }
namespace Rows
def none {H : Type} : Left H := { results := [], args := [] }

/-- 'bedrocklaw20.GossipLags': WHATEVER THE INPUT: true; the input reads as it did. -/
def gossipLagsSpec : ChangeSpec := { name := "gossipLags", fn := fun _ => fun
  | [d1, d2] => { results := [.lit (.bool true)], args := [d1, d2] }
  | _ => none }
def gossipLagsRow : OpenClaim := { program := "ytpfpefapdcdkeaa", sum := "805ffb0ecff0bb55dfee5a0cabe0e38bae507d15e54aba8d5a23c07c06cca84b", func := "bedrock/bedrocklaw20.GossipLags", spec := "gossipLags", inPlace := ["math.Float64frombits", "math.Float64bits", "internal/bytealg.abigen_runtime_cmpstring"], unfollowed := true, recurses := true, apart := false }
def GossipLagsSaid : Prop := gossipLagsRow.holds Try.pinned (OpenSpec.ofChange gossipLagsSpec)

/-- ITS FALSE NEIGHBOUR: 'it returns false'. Refute it at one input. -/
def gossipLagsWrong : ChangeSpec := { name := "gossipLags", fn := fun _ => fun
  | [d1, d2] => { results := [.lit (.bool false)], args := [d1, d2] }
  | _ => none }
def GossipLagsWrongFalsely : Prop := gossipLagsRow.holds Try.pinned (OpenSpec.ofChange gossipLagsWrong)

/-- 'bedrocklaw3.VecTexts': WHATEVER THE INPUT: true; the input reads as it did. -/
def vecTextsSpec : ChangeSpec := { name := "vecTexts", fn := fun _ => fun
  | [d1, d2] => { results := [.lit (.bool true)], args := [d1, d2] }
  | _ => none }
def vecTextsRow : OpenClaim := { program := "ytpfpefapdcdkeaa", sum := "805ffb0ecff0bb55dfee5a0cabe0e38bae507d15e54aba8d5a23c07c06cca84b", func := "bedrock/bedrocklaw3.VecTexts", spec := "vecTexts", inPlace := ["internal/abi.NoEscape", "internal/bytealg.MakeNoZero"], unfollowed := true, recurses := true, apart := false }
def VecTextsSaid : Prop := vecTextsRow.holds Try.pinned (OpenSpec.ofChange vecTextsSpec)

/-- ITS FALSE NEIGHBOUR: 'it returns false'. Refute it at one input. -/
def vecTextsWrong : ChangeSpec := { name := "vecTexts", fn := fun _ => fun
  | [d1, d2] => { results := [.lit (.bool false)], args := [d1, d2] }
  | _ => none }
def VecTextsWrongFalsely : Prop := vecTextsRow.holds Try.pinned (OpenSpec.ofChange vecTextsWrong)

/-- 'bedrocklaw3.VecLattice': WHATEVER THE INPUT: true; the input reads as it did. -/
def vecLatticeSpec : ChangeSpec := { name := "vecLattice", fn := fun _ => fun
  | [d1, d2, d3] => { results := [.lit (.bool true)], args := [d1, d2, d3] }
  | _ => none }
def vecLatticeRow : OpenClaim := { program := "ytpfpefapdcdkeaa", sum := "805ffb0ecff0bb55dfee5a0cabe0e38bae507d15e54aba8d5a23c07c06cca84b", func := "bedrock/bedrocklaw3.VecLattice", spec := "vecLattice", inPlace := ["internal/abi.NoEscape", "internal/bytealg.MakeNoZero"], unfollowed := true, recurses := true, apart := false }
def VecLatticeSaid : Prop := vecLatticeRow.holds Try.pinned (OpenSpec.ofChange vecLatticeSpec)

/-- ITS FALSE NEIGHBOUR: 'it returns false'. Refute it at one input. -/
def vecLatticeWrong : ChangeSpec := { name := "vecLattice", fn := fun _ => fun
  | [d1, d2, d3] => { results := [.lit (.bool false)], args := [d1, d2, d3] }
  | _ => none }
def VecLatticeWrongFalsely : Prop := vecLatticeRow.holds Try.pinned (OpenSpec.ofChange vecLatticeWrong)

/-- 'bedrocklaw3.VecWith': WHATEVER THE INPUT: true; the input reads as it did. -/
def vecWithSpec : ChangeSpec := { name := "vecWith", fn := fun _ => fun
  | [d1, d2, d3] => { results := [.lit (.bool true)], args := [d1, d2, d3] }
  | _ => none }
def vecWithRow : OpenClaim := { program := "ytpfpefapdcdkeaa", sum := "805ffb0ecff0bb55dfee5a0cabe0e38bae507d15e54aba8d5a23c07c06cca84b", func := "bedrock/bedrocklaw3.VecWith", spec := "vecWith", inPlace := ["internal/abi.NoEscape", "internal/bytealg.MakeNoZero"], unfollowed := true, recurses := true, apart := false }
def VecWithSaid : Prop := vecWithRow.holds Try.pinned (OpenSpec.ofChange vecWithSpec)

/-- ITS FALSE NEIGHBOUR: 'it returns false'. Refute it at one input. -/
def vecWithWrong : ChangeSpec := { name := "vecWith", fn := fun _ => fun
  | [d1, d2, d3] => { results := [.lit (.bool false)], args := [d1, d2, d3] }
  | _ => none }
def VecWithWrongFalsely : Prop := vecWithRow.holds Try.pinned (OpenSpec.ofChange vecWithWrong)

/-- 'bedrocklaw20.GossipGrows': WHATEVER THE INPUT: true; the input reads as it did. -/
def gossipGrowsSpec : ChangeSpec := { name := "gossipGrows", fn := fun _ => fun
  | [d] => { results := [.lit (.bool true)], args := [d] }
  | _ => none }
def gossipGrowsRow : OpenClaim := { program := "ytpfpefapdcdkeaa", sum := "805ffb0ecff0bb55dfee5a0cabe0e38bae507d15e54aba8d5a23c07c06cca84b", func := "bedrock/bedrocklaw20.GossipGrows", spec := "gossipGrows", inPlace := ["math.Float64frombits", "math.Float64bits", "internal/bytealg.abigen_runtime_cmpstring", "internal/abi.NoEscape"], unfollowed := true, recurses := true, apart := false }
def GossipGrowsSaid : Prop := gossipGrowsRow.holds Try.pinned (OpenSpec.ofChange gossipGrowsSpec)

/-- ITS FALSE NEIGHBOUR: 'it returns false'. Refute it at one input. -/
def gossipGrowsWrong : ChangeSpec := { name := "gossipGrows", fn := fun _ => fun
  | [d] => { results := [.lit (.bool false)], args := [d] }
  | _ => none }
def GossipGrowsWrongFalsely : Prop := gossipGrowsRow.holds Try.pinned (OpenSpec.ofChange gossipGrowsWrong)

/-- 'bedrocklaw3.VecBack': WHATEVER THE INPUT: true; the input reads as it did. -/
def vecBackSpec : ChangeSpec := { name := "vecBack", fn := fun _ => fun
  | [d1, d2, d3] => { results := [.lit (.bool true)], args := [d1, d2, d3] }
  | _ => none }
def vecBackRow : OpenClaim := { program := "ytpfpefapdcdkeaa", sum := "805ffb0ecff0bb55dfee5a0cabe0e38bae507d15e54aba8d5a23c07c06cca84b", func := "bedrock/bedrocklaw3.VecBack", spec := "vecBack", inPlace := ["internal/abi.NoEscape", "internal/bytealg.MakeNoZero"], unfollowed := true, recurses := true, apart := false }
def VecBackSaid : Prop := vecBackRow.holds Try.pinned (OpenSpec.ofChange vecBackSpec)

/-- ITS FALSE NEIGHBOUR: 'it returns false'. Refute it at one input. -/
def vecBackWrong : ChangeSpec := { name := "vecBack", fn := fun _ => fun
  | [d1, d2, d3] => { results := [.lit (.bool false)], args := [d1, d2, d3] }
  | _ => none }
def VecBackWrongFalsely : Prop := vecBackRow.holds Try.pinned (OpenSpec.ofChange vecBackWrong)

/-- 'bedrocklaw20.GossipLoads': WHATEVER THE INPUT: true; the input reads as it did. -/
def gossipLoadsSpec : ChangeSpec := { name := "gossipLoads", fn := fun _ => fun
  | [d1, d2, d3] => { results := [.lit (.bool true)], args := [d1, d2, d3] }
  | _ => none }
def gossipLoadsRow : OpenClaim := { program := "ytpfpefapdcdkeaa", sum := "805ffb0ecff0bb55dfee5a0cabe0e38bae507d15e54aba8d5a23c07c06cca84b", func := "bedrock/bedrocklaw20.GossipLoads", spec := "gossipLoads", inPlace := ["math.Float64frombits", "math.Float64bits", "internal/bytealg.abigen_runtime_cmpstring", "internal/abi.NoEscape"], unfollowed := true, recurses := true, apart := false }
def GossipLoadsSaid : Prop := gossipLoadsRow.holds Try.pinned (OpenSpec.ofChange gossipLoadsSpec)

/-- ITS FALSE NEIGHBOUR: 'it returns false'. Refute it at one input. -/
def gossipLoadsWrong : ChangeSpec := { name := "gossipLoads", fn := fun _ => fun
  | [d1, d2, d3] => { results := [.lit (.bool false)], args := [d1, d2, d3] }
  | _ => none }
def GossipLoadsWrongFalsely : Prop := gossipLoadsRow.holds Try.pinned (OpenSpec.ofChange gossipLoadsWrong)

/- THE SECOND FORM. 'bulk': how many values and letters a reading holds, each counted each time it is reached (what is shared counts as often as it is met; a slice's spare places count too). A statement '..UptoSaid' is the law's where the arguments, and the package variables that the reading takes, are together of bulk at most 1048576: NARROWER than '..Said'. Prove '..Said' where nothing that the law and all that it calls make is longer than what came in: it says more and counts as full. Else prove '..UptoSaid'. A law counts once. -/
mutual
def uptoBulk {H : Type} : DataW H → Nat
  | .lit (.string bytes) => bytes.length + 1
  | .lit _ => 1
  | .nil => 1
  | .ptr d => uptoBulk d + 1
  | .slice elems spare => uptoBulkAll elems + uptoBulkAll spare + 1
  | .agg parts => uptoBulkAll parts + 1
  | .iface _ d => uptoBulk d + 1
  | .map entries => uptoBulkEntries entries + 1
  | .held _ => 1
def uptoBulkAll {H : Type} : List (DataW H) → Nat
  | [] => 0
  | d :: r => uptoBulk d + uptoBulkAll r
def uptoBulkEntries {H : Type} : List (Lit × DataW H) → Nat
  | [] => 0
  | x :: r => uptoBulkEntry x + uptoBulkEntries r
def uptoBulkEntry {H : Type} : Lit × DataW H → Nat
  | (.string bytes, d) => bytes.length + uptoBulk d + 1
  | (_, d) => uptoBulk d + 1
 end
def uptoSmall : (H : Type) → List (DataW H) → Bool := fun _ ds => decide (uptoBulkAll ds ≤ 1048576)
def OpenSpec.upto (s : _root_.Go.ChangeSpec) : _root_.Go.OpenSpec := { _root_.Go.OpenSpec.ofChange s with cond := some uptoSmall }

/-- 'bedrocklaw20.GossipLags', WHERE WHAT IT READS IS OF BULK AT MOST 1048576: true; the input reads as it did. -/
def gossipLagsUptoRow : OpenClaim := { program := "ytpfpefapdcdkeaa", sum := "805ffb0ecff0bb55dfee5a0cabe0e38bae507d15e54aba8d5a23c07c06cca84b", func := "bedrock/bedrocklaw20.GossipLags", spec := "gossipLags", inPlace := ["math.Float64frombits", "math.Float64bits", "internal/bytealg.abigen_runtime_cmpstring"], unfollowed := true, recurses := true, apart := false, narrowed := true }
def GossipLagsUptoSaid : Prop := gossipLagsUptoRow.holds Try.pinned (OpenSpec.upto gossipLagsSpec)

/-- 'bedrocklaw3.VecTexts', WHERE WHAT IT READS IS OF BULK AT MOST 1048576: true; the input reads as it did. -/
def vecTextsUptoRow : OpenClaim := { program := "ytpfpefapdcdkeaa", sum := "805ffb0ecff0bb55dfee5a0cabe0e38bae507d15e54aba8d5a23c07c06cca84b", func := "bedrock/bedrocklaw3.VecTexts", spec := "vecTexts", inPlace := ["internal/abi.NoEscape", "internal/bytealg.MakeNoZero"], unfollowed := true, recurses := true, apart := false, narrowed := true }
def VecTextsUptoSaid : Prop := vecTextsUptoRow.holds Try.pinned (OpenSpec.upto vecTextsSpec)

/-- 'bedrocklaw3.VecLattice', WHERE WHAT IT READS IS OF BULK AT MOST 1048576: true; the input reads as it did. -/
def vecLatticeUptoRow : OpenClaim := { program := "ytpfpefapdcdkeaa", sum := "805ffb0ecff0bb55dfee5a0cabe0e38bae507d15e54aba8d5a23c07c06cca84b", func := "bedrock/bedrocklaw3.VecLattice", spec := "vecLattice", inPlace := ["internal/abi.NoEscape", "internal/bytealg.MakeNoZero"], unfollowed := true, recurses := true, apart := false, narrowed := true }
def VecLatticeUptoSaid : Prop := vecLatticeUptoRow.holds Try.pinned (OpenSpec.upto vecLatticeSpec)

/-- 'bedrocklaw3.VecWith', WHERE WHAT IT READS IS OF BULK AT MOST 1048576: true; the input reads as it did. -/
def vecWithUptoRow : OpenClaim := { program := "ytpfpefapdcdkeaa", sum := "805ffb0ecff0bb55dfee5a0cabe0e38bae507d15e54aba8d5a23c07c06cca84b", func := "bedrock/bedrocklaw3.VecWith", spec := "vecWith", inPlace := ["internal/abi.NoEscape", "internal/bytealg.MakeNoZero"], unfollowed := true, recurses := true, apart := false, narrowed := true }
def VecWithUptoSaid : Prop := vecWithUptoRow.holds Try.pinned (OpenSpec.upto vecWithSpec)

/-- 'bedrocklaw20.GossipGrows', WHERE WHAT IT READS IS OF BULK AT MOST 1048576: true; the input reads as it did. -/
def gossipGrowsUptoRow : OpenClaim := { program := "ytpfpefapdcdkeaa", sum := "805ffb0ecff0bb55dfee5a0cabe0e38bae507d15e54aba8d5a23c07c06cca84b", func := "bedrock/bedrocklaw20.GossipGrows", spec := "gossipGrows", inPlace := ["math.Float64frombits", "math.Float64bits", "internal/bytealg.abigen_runtime_cmpstring", "internal/abi.NoEscape"], unfollowed := true, recurses := true, apart := false, narrowed := true }
def GossipGrowsUptoSaid : Prop := gossipGrowsUptoRow.holds Try.pinned (OpenSpec.upto gossipGrowsSpec)

/-- 'bedrocklaw3.VecBack', WHERE WHAT IT READS IS OF BULK AT MOST 1048576: true; the input reads as it did. -/
def vecBackUptoRow : OpenClaim := { program := "ytpfpefapdcdkeaa", sum := "805ffb0ecff0bb55dfee5a0cabe0e38bae507d15e54aba8d5a23c07c06cca84b", func := "bedrock/bedrocklaw3.VecBack", spec := "vecBack", inPlace := ["internal/abi.NoEscape", "internal/bytealg.MakeNoZero"], unfollowed := true, recurses := true, apart := false, narrowed := true }
def VecBackUptoSaid : Prop := vecBackUptoRow.holds Try.pinned (OpenSpec.upto vecBackSpec)

/-- 'bedrocklaw20.GossipLoads', WHERE WHAT IT READS IS OF BULK AT MOST 1048576: true; the input reads as it did. -/
def gossipLoadsUptoRow : OpenClaim := { program := "ytpfpefapdcdkeaa", sum := "805ffb0ecff0bb55dfee5a0cabe0e38bae507d15e54aba8d5a23c07c06cca84b", func := "bedrock/bedrocklaw20.GossipLoads", spec := "gossipLoads", inPlace := ["math.Float64frombits", "math.Float64bits", "internal/bytealg.abigen_runtime_cmpstring", "internal/abi.NoEscape"], unfollowed := true, recurses := true, apart := false, narrowed := true }
def GossipLoadsUptoSaid : Prop := gossipLoadsUptoRow.holds Try.pinned (OpenSpec.upto gossipLoadsSpec)

end Rows
end Go.Proofs.Ytpfpefapdcdkeaa
