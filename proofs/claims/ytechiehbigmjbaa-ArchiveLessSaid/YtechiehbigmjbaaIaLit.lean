/- slices of ints that are written out; a string of known bytes. By an AI agent. -/
import Derived.Test.YtechiehbigmjbaaBase
namespace Go.Proofs.Ytechiehbigmjbaa
open Go.RowKit

theorem IA.lit (w : World) (xs : List Int) (t : TypeId) (hc : xs.length ≤ 1000) (hw : ∀ x ∈ xs, -9223372036854775808 ≤ x ∧ x ≤ 9223372036854775807) :
    IA (w.alloc (.cells (xs.map (Value.int .i64)).toArray t)) (some ⟨w.heap.size, 0, none⟩) xs.length xs :=
  ⟨rfl, by omega, fun j hj => ⟨w.heap.size, 0, rfl, fun j hj => by
    rw [Nat.zero_add, cell_of_row _ w.heap.size j _ t (0, 0) (heap_alloc_new w _)]
    simp [nth_eq hj, hj]⟩, hw⟩

theorem IA.lit_at (w : World) (g : Nat) (xs : List Int) (t : TypeId) (hg : g = w.heap.size) (hc : xs.length ≤ 1000) (hw : ∀ x ∈ xs, -9223372036854775808 ≤ x ∧ x ≤ 9223372036854775807) :
    IA (w.alloc (.cells (xs.map (Value.int .i64)).toArray t)) (some ⟨g, 0, none⟩) xs.length xs := by subst hg; exact IA.lit w xs t hc hw

theorem str_eq {s : ByteArray} {l m : List UInt8} (h : SB s l) (e : l = m) : s = ⟨m.toArray⟩ := by
  rw [SB, e] at h
  exact ByteArray.ext (Array.toList_inj.1 h)

end Go.Proofs.Ytechiehbigmjbaa
