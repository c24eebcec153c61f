import Derived.Test.YtaelghbjbopilaaGreatQProtoRepliesUptoP1
import Derived.Outline
import Derived.Deep.RegionHeld3
import Derived.Recover
import Derived.Laws.Pointers
import Derived.WalkLawsBesides

/- a block of one cell; recovered panics. By an AI agent. -/
section
namespace Go.Proofs.YtaelghbjbopilaaGreat
open Go.RowKit

/-! ### a block of one cell -/
def C1 (w : World) (g : Nat) (v : Value) : Prop := ∃ t, w.heap[g]? = some (.cells #[v] t (0, 0))
theorem C1.cell {w : World} {g : Nat} {v : Value} (h : C1 w g v) : w.cell? ⟨g, 0, none⟩ = some v := by
  obtain ⟨t, h⟩ := h
  rw [cell_of_row w g 0 _ t (0, 0) h]; rfl
theorem C1.frozen {w : World} {g : Nat} {v : Value} (h : C1 w g v) : w.frozen? ⟨g, 0, none⟩ = false := by
  obtain ⟨t, h⟩ := h
  exact frozen_of_row w g 0 _ t h
theorem C1.lt {w : World} {g : Nat} {v : Value} (h : C1 w g v) : g < w.heap.size := by
  obtain ⟨t, h⟩ := h
  exact lt_of_heap h
theorem C1.set {w : World} {g : Nat} {v : Value} (h : C1 w g v) (u : Value) : C1 (w.setCell ⟨g, 0, none⟩ u) g u := by
  obtain ⟨t, h⟩ := h
  exact ⟨t, by rw [heap_setCell_same w g 0 _ t _ h]; rfl⟩
theorem C1.other {w : World} {g g' : Nat} {v : Value} (h : C1 w g v) (hn : g ≠ g') (u : Value) : C1 (w.setCell ⟨g', 0, none⟩ u) g v := by
  obtain ⟨t, h⟩ := h
  exact ⟨t, by rw [Below.heap_setCell _ _ _ _ hn]; exact h⟩
theorem C1.keep {w w' : World} {g : Nat} {v : Value} (h : C1 w g v) (hb : Bl w w') : C1 w' g v := by
  obtain ⟨t, h⟩ := h
  exact ⟨t, hb.heap h⟩
theorem C1.grown {w w' : World} {g : Nat} {v : Value} {row : Option Nat} (h : C1 w g v) (hg : w.grownBy w' row) (hn : some g ≠ row) : C1 w' g v := by
  obtain ⟨t, h⟩ := h
  exact ⟨t, by rw [hg.block g (lt_of_heap h) hn]; exact h⟩
theorem C1.alloc {w : World} {g : Nat} {v : Value} (h : C1 w g v) (o : Obj) : C1 (w.alloc o) g v := h.keep ((Bl.refl w).alloc o)
theorem C1.new (w : World) (g : Nat) (hg : g = w.heap.size) (v : Value) (t : TypeId) : C1 (w.alloc (.cells #[v] t)) g v := by
  subst hg
  exact ⟨t, heap_alloc_new w _⟩

theorem hmf (fn : Fn) (first cap : Array Value) (w : World) : (Instr.makeFunc fn first cap).run Tryz.prog w = .ok (.func fn first cap) w := rfl
theorem store_fl (a : Addr) (b : Nat) (w : World) : (store a (.float .f64 b)).run Tryz.prog w = stored Tryz.prog w a (.float .f64 b) .plain := run_store Tryz.prog w a _ .plain rfl
/-- a recovered panic settles to a return -/
theorem leaves_back {P : Program} {fn : Func} {tmps : Array Value} {R : Ending → World → Prop} {w : World} {v x : Value} (h : (results fn tmps).run P w = .ok v w) (hR : R (.returned v) w) :
    Leaves P fn tmps R [] (settle (.panicking [{ v := x, recovered := true }])) w := ⟨v, h, hR⟩
theorem leaves_ret {P : Program} {fn : Func} {tmps : Array Value} {R : Ending → World → Prop} {w : World} {v : Value} (h : (results fn tmps).run P w = .ok v w) (hR : R (.returned v) w) :
    Leaves P fn tmps R [] (settle .returning) w := ⟨v, h, hR⟩
end Go.Proofs.YtaelghbjbopilaaGreat
end

/- the assertion that a recovered value is a code. By an AI agent. -/
section
namespace Go.Proofs.YtaelghbjbopilaaGreat
open Go.RowKit

theorem assert_code (c : Int) (w : World) : (Instr.typeAssert (.iface 22 (.int .i64 c)) 20 22 true).run Tryz.prog w = .ok (.tuple #[.int .i64 c, .bool true]) w := by
  simp [Instr.typeAssert, run_underlying Tryz.underlying22]
end Go.Proofs.YtaelghbjbopilaaGreat
end
