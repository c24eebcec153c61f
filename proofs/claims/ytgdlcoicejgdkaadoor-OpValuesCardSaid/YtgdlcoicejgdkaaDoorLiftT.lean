/- What the given cards ask beside a walk: the laid table's cells, and a world for the witness. By an AI agent. -/
import Derived.Test.YtgdlcoicejgdkaaDoorLift
import Derived.Test.YtgdlcoicejgdkaaDoorMath3
import Derived.Test.YtgdlcoicejgdkaaDoorCards
import Derived.Test.YtgdlcoicejgdkaaDoorTie
import Derived.Deep.DeepHandedRow
import Derived.Lib.LaidTab
import Derived.Laws.Cover2
namespace Go.Proofs.YtgdlcoicejgdkaaDoor
open Go.ChangeShapes Go.WideShapes Go.ChangeAt Go.RowKit

theorem gTab : Tryd.prog.globalNamed "math/bits.deBruijn64tab" = some 1 := by kernel_rfl
theorem gTabType : (Tryd.prog.globals[1]?).map (·.type) = some 143 := by kernel_rfl
theorem cellsTab : Tryd.prog.cellsOf 143 = 64 := by kernel_rfl
theorem cellsByte : Tryd.prog.cellsOf 5 = 1 := by kernel_rfl
def tabInts : List Int := Lib.deBruijn64tab.map fun (n : Nat) => (n : Int)
theorem tab_of_laid {W : World} (h : laidMetH Tryd.prog [("math/bits.deBruijn64tab", Rows.laid_math_bits_deBruijn64tab)] W) : Tab W := by
  have ht : Lib.TabIs Tryd.prog W "math/bits.deBruijn64tab" .u8 tabInts := Lib.tabIs_of_head (rest := []) gTab gTabType Tryd.underlying143 Tryd.underlying5 cellsByte cellsTab h
  intro j hj
  have hc := ht.cell gTab j (by rw [tabInts, List.length_map]; exact hj)
  rw [hc]
  congr 2
  simp [tabInts, List.getD, hj]
theorem wf_two64 {b : Nat} (h : (Lit.float .f64 b).wf = true) : b < two64 := by
  simpa [Lit.wf, two64] using h

/-- a world for the witness: the table holds what its initialiser lays -/
noncomputable def laidWorld (os : Os) : World :=
  { World.holding Tryd.prog os ⟨#[], #[], []⟩ with heap := (World.holding Tryd.prog os ⟨#[], #[], []⟩).heap.modify 1 fun
      | .cells _ t frozen => .cells (Lib.deBruijn64tab.map fun (n : Nat) => Value.int .u8 (n : Int)).toArray t frozen
      | o => o }
end Go.Proofs.YtgdlcoicejgdkaaDoor
