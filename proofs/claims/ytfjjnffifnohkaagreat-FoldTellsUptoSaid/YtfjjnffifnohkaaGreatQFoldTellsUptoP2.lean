import Derived.Test.YtfjjnffifnohkaaGreatQFoldTellsUptoP1
import Derived.Deep.RegionLaw
import Derived.Deep.AppendLies

/- real.Min. By an AI agent. -/
section
set_option linter.unusedVariables false
namespace Go.Proofs.YtfjjnffifnohkaaGreat
open Go.RowKit Ieee

theorem rmin_any (x y : Nat) (w : World) (hx : x < two64) (hy : y < two64) : Calls Tryz.prog 198 #[.float .f64 x, .float .f64 y] w fun e w' => e = .returned (.float .f64 (rmin x y)) ∧ Bl w w' := by
  by_cases h : 0 < cmpN (fkey x) (fkey y)
  · have HR := Lib.hid (show rmin x y = y from if_pos h)
    go_enter Tryz.func198, Tryz.ntmps198
    go_wp2_with fail
    refine (rcompare_any x y _ hx hy).mono ?_
    rintro e w1 ⟨rfl, hb1⟩
    go_wp2_with fail
    go_ret
    exact ⟨congrArg (fun b => Ending.returned (.float .f64 b)) HR.out.symm, hb1⟩
  · have HR := Lib.hid (show rmin x y = x from if_neg h)
    go_enter Tryz.func198, Tryz.ntmps198
    go_wp2_with fail
    refine (rcompare_any x y _ hx hy).mono ?_
    rintro e w1 ⟨rfl, hb1⟩
    go_wp2_with fail
    go_ret
    exact ⟨congrArg (fun b => Ending.returned (.float .f64 b)) HR.out.symm, hb1⟩
end Go.Proofs.YtfjjnffifnohkaaGreat
end

/- a block that holds these cells. By an AI agent. -/
section
namespace Go.Proofs.YtfjjnffifnohkaaGreat
open Go.RowKit

/-- a block that holds these cells -/
def AC (w : World) (g : Nat) (cs : List Value) : Prop := ∃ t, w.heap[g]? = some (.cells cs.toArray t (0, 0))
theorem AC.new (w : World) (g : Nat) (hg : g = w.heap.size) (cs : List Value) (t : TypeId) : AC (w.alloc (.cells cs.toArray t)) g cs := by
  subst hg; exact ⟨t, heap_alloc_new w _⟩
theorem AC.keep {w w' : World} {g : Nat} {cs : List Value} (h : AC w g cs) (hb : Bl w w') : AC w' g cs := by
  obtain ⟨t, h⟩ := h; exact ⟨t, hb.heap h⟩
theorem AC.cell {w : World} {g : Nat} {cs : List Value} (h : AC w g cs) (j : Nat) (v : Value) (hj : cs[j]? = some v) : w.cell? ⟨g, j, none⟩ = some v := by
  obtain ⟨t, h⟩ := h
  rw [cell_of_row w g j _ t (0, 0) h]
  simpa using hj
theorem AC.frozen {w : World} {g : Nat} {cs : List Value} (h : AC w g cs) (j : Nat) : w.frozen? ⟨g, j, none⟩ = false := by
  obtain ⟨t, h⟩ := h
  exact frozen_of_row w g j _ t h
theorem AC.lt {w : World} {g : Nat} {cs : List Value} (h : AC w g cs) : g < w.heap.size := by
  obtain ⟨t, h⟩ := h; exact lt_of_heap h
theorem AC.other {w : World} {g g' j : Nat} {cs : List Value} {u : Value} (h : AC w g cs) (hn : g ≠ g') : AC (w.setCell ⟨g', j, none⟩ u) g cs := by
  obtain ⟨t, h⟩ := h
  exact ⟨t, by rw [Below.heap_setCell _ _ _ _ hn]; exact h⟩
end Go.Proofs.YtfjjnffifnohkaaGreat
end
