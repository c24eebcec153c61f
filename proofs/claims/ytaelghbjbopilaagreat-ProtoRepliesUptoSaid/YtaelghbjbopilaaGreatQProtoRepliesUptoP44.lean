import Derived.Test.YtaelghbjbopilaaGreatQProtoRepliesUptoP1
import Derived.Test.YtaelghbjbopilaaGreatQProtoRepliesUptoP43

/- slices of ints that are written out; a string of known bytes. By an AI agent. -/
section
namespace Go.Proofs.YtaelghbjbopilaaGreat
open Go.RowKit

theorem IA.lit (w : World) (xs : List Int) (t : TypeId) (hc : xs.length ≤ 1000) (hw : ∀ x ∈ xs, -9223372036854775808 ≤ x ∧ x ≤ 9223372036854775807) :
    IA (w.alloc (.cells (xs.map (Value.int .i64)).toArray t)) (some ⟨w.heap.size, 0, none⟩) xs.length xs :=
  ⟨rfl, by omega, fun j hj => ⟨w.heap.size, 0, rfl, fun j hj => by
    rw [Nat.zero_add, cell_of_row _ w.heap.size j _ t (0, 0) (heap_alloc_new w _)]
    simp [nth_eq hj, hj]⟩, hw⟩



end Go.Proofs.YtaelghbjbopilaaGreat
end

/- an argument of type archive.Archive opened. By an AI agent. -/
section
namespace Go.Proofs.YtaelghbjbopilaaGreat
open Go.ChangeShapes Go.WideShapes Go.ChangeAt Go.RowKit Go.Deep

section
variable {H : Type} {enc : TypeId × Value → H}
theorem cells_pair : Tryz.prog.cellsOf 52 = 5 := by kernel_rfl
theorem cells_pairs : Tryz.prog.cellsOf 28 = 1 := by kernel_rfl
end
end Go.Proofs.YtaelghbjbopilaaGreat
end
