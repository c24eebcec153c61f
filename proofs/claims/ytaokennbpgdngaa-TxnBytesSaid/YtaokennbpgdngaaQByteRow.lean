/- the bytes of a string in a row of their own ([]byte(s)). By an AI agent. -/
import Derived.Test.YtaokennbpgdngaaCore1
import Derived.Laws.IdiomStrings
import Derived.Laws.BitsAllLaws

namespace Go.Proofs.Ytaokennbpgdngaa
open Go.RowKit

theorem bxor_ne {a b : Nat} (h : b ≠ 0) : a ^^^ b ≠ a := by
  intro e
  have := congrArg (fun z => a ^^^ z) e
  simp only [Nat.xor_self, ← Nat.xor_assoc, Nat.zero_xor] at this
  exact h this
/-- the bytes of a string, in a row of their own -/
structure BR (W : World) (g : Nat) (l : List UInt8) : Prop where
  cells : ∀ j (hj : j < l.length), W.cell? ⟨g, j, none⟩ = some (.int .u8 (l[j].toNat : Int))
  free : ∀ j, j < l.length → W.frozen? ⟨g, j, none⟩ = false
theorem BR.new (w : World) (p : ByteArray) (cap : Nat) (e : TypeId) (l : List UInt8) (hp : SB p l) :
    BR (w.drew.alloc (.cells (bytesRow p cap) e ((bytesRow p cap).size, (bytesRow p cap).size + 1))) w.heap.size l := by
  have hl := hp.size
  have hh : (w.drew.alloc (.cells (bytesRow p cap) e ((bytesRow p cap).size, (bytesRow p cap).size + 1))).heap[w.heap.size]? = some (.cells (bytesRow p cap) e ((bytesRow p cap).size, (bytesRow p cap).size + 1)) := heap_alloc_new w.drew _
  refine ⟨fun j hj => ?_, fun j hj => ?_⟩
  · rw [cell_of_row _ _ j _ _ _ hh]
    have h2 : l[j] = p[j]'(by omega) := (hp.get j (by omega) hj).symm
    rw [h2]
    have hjs : j < p.data.size := by have : p.data.size = p.size := rfl; omega
    simp [bytesRow, Array.getElem?_append]
    rw [if_pos (by omega), Array.getElem?_eq_getElem hjs]
    rfl
  · unfold World.frozen?
    dsimp only
    rw [hh]
    simp [bytesRow]
    omega
theorem BR.set {W : World} {g : Nat} {l : List UInt8} (h : BR W g l) (K : Nat) (hK : K < l.length) (c : UInt8) : ∀ j (hj : j < (l.set K c).length), (W.setCell ⟨g, K, none⟩ (.int .u8 (c.toNat : Int))).cell? ⟨g, j, none⟩ = some (.int .u8 ((l.set K c)[j].toNat : Int)) := by
  intro j hj
  have hj2 : j < l.length := by simpa using hj
  by_cases hjk : K = j
  · subst hjk
    rw [World.cell?_setCell_same _ _ _ (h.cells K hK)]
    simp
  · rw [World.cell?_setCell_other _ _ _ _ (fun e => hjk (by cases e; rfl)), h.cells j hj2]
    simp [hjk]

end Go.Proofs.Ytaokennbpgdngaa
