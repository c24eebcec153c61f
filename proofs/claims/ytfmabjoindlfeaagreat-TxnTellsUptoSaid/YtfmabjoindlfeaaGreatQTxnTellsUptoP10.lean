import Derived.Test.YtfmabjoindlfeaaGreatQTxnTellsUptoP9
import Derived.Test.YtfmabjoindlfeaaGreatQTxnTellsUptoP1
import Derived.Outline
import Derived.Deep.DeepCutAuto

/- versions and their order: cmp.Or, slices.Compare, slices.Max, ikey.Time. By an AI agent. -/
section
namespace Go.Proofs.YtfmabjoindlfeaaGreat
open Go.RowKit

structure VerL where
  key : ByteArray
  at_ : List Int
  origin : Int
  tx : Int
  act : ActL


end Go.Proofs.YtfmabjoindlfeaaGreat
end

/- ikey.Time, ikey.Order. By an AI agent. -/
section
namespace Go.Proofs.YtfmabjoindlfeaaGreat
open Go.RowKit
attribute [local go_sem] eOp eOper eUpon

/-- a version's eight cells -/
def verC (key : ByteArray) (a : Option Addr) (n ca : Nat) (o t : Int) (k : Int) (x : Nat) (m : Int) (s : ByteArray) : List Value :=
  [.string key, .slice a n ca, .int .i64 o, .int .i64 t, .int .i64 k, .float .f64 x, .int .i64 m, .string s]
theorem AC.ver {W : World} {g : Nat} {key : ByteArray} {a : Option Addr} {n ca : Nat} {o t : Int} {k : Int} {x : Nat} {m : Int} {s : ByteArray} (h : AC W g (verC key a n ca o t k x m s)) :
    W.cell? ⟨g, 0, none⟩ = some (.string key) ∧ W.cell? ⟨g, 1, none⟩ = some (.slice a n ca) ∧ W.cell? ⟨g, 2, none⟩ = some (.int .i64 o) ∧ W.cell? ⟨g, 3, none⟩ = some (.int .i64 t) ∧
    W.cell? ⟨g, 4, none⟩ = some (.int .i64 k) ∧ W.cell? ⟨g, 5, none⟩ = some (.float .f64 x) ∧ W.cell? ⟨g, 6, none⟩ = some (.int .i64 m) ∧ W.cell? ⟨g, 7, none⟩ = some (.string s) :=
  ⟨h.cell 0 _ rfl, h.cell 1 _ rfl, h.cell 2 _ rfl, h.cell 3 _ rfl, h.cell 4 _ rfl, h.cell 5 _ rfl, h.cell 6 _ rfl, h.cell 7 _ rfl⟩


end Go.Proofs.YtfmabjoindlfeaaGreat
end

/- stable merges and sorts: plain laws. By an AI agent. -/
section
set_option linter.unusedVariables false
set_option linter.unusedSectionVars false
namespace Go.Proofs.YtfmabjoindlfeaaGreat

section
variable {α : Type} {le : α → α → Bool}
abbrev mrg (le : α → α → Bool) (l r : List α) : List α := l.merge r le
/-- the stable sort -/
def srt (le : α → α → Bool) (l : List α) : List α := l.foldr (fun x l => Go.Proofs.YtfmabjoindlfeaaGreat.mrg le [x] l) []
end
end Go.Proofs.YtfmabjoindlfeaaGreat
end
