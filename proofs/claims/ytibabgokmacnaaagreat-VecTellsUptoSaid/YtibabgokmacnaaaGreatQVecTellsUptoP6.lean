import Derived.Test.YtibabgokmacnaaaGreatQVecTellsUptoP5
import Derived.Test.YtibabgokmacnaaaGreatQVecTellsUptoP1
import Derived.Outline
import Derived.Deep.RegionHeld3
import Derived.Recover
import Derived.Laws.Pointers
import Derived.WalkLawsBesides

/- vec.With. By an AI agent. -/
section
set_option linter.unusedVariables false
set_option linter.unusedSimpArgs false
namespace Go.Proofs.YtibabgokmacnaaaGreat
open Go.RowKit

set_option maxHeartbeats 400000 in
theorem with_any (a : Option Addr) (n ca : Nat) (xs : List Int) (i t : Int) (w : World) (hx : IA w a n xs) (ht : -9223372036854775808 ≤ t ∧ t ≤ 9223372036854775807) :
    Calls Tryz.prog 11 #[.slice a n ca, .int .i64 i, .int .i64 t] w fun e w' => ∃ v, e = .returned v ∧ FI w.heap.size w' v (withL xs i t) ∧ Bl w w' := by
  have HX := Lib.hid hx.len
  by_cases hin : 0 ≤ i ∧ i < n
  · obtain ⟨h0, h1⟩ := hin
    obtain ⟨k, rfl⟩ := Int.eq_ofNat_of_zero_le h0
    have hkn : k < n := by omega
    go_enter Tryz.func11, Tryz.ntmps11
    go_wp2_with fail
    refine (vclone_any a n ca xs w hx).mono ?_
    rintro e w' ⟨v, rfl, hf, hb⟩
    have hn0 := hf.own.1
    obtain ⟨h1', ⟨rfl, h2⟩ | ⟨g, cap, cur, rfl, hB, hg, hn, hm, hs, htk⟩⟩ := hf.own
    · exfalso; have := HX.out; omega
    · have hown : w'.ownsRow w.heap.size 3 1 (.slice (some ⟨g, 0, none⟩) xs.length cap) xs.length (xs.map (Value.int .i64)) := ⟨h1', .inr ⟨g, cap, cur, rfl, hB, hg, hn, hm, hs, htk⟩⟩
      have hst := hown.stored k (.int .i64 t)
      have hc : w'.cell? ⟨g, k, none⟩ = some (.int .i64 (nth xs k)) := by
        rw [hown.cellAt k (by rw [HX.out]; omega)]
        have : k < xs.length := by rw [HX.out]; exact hkn
        simp [nth_eq this, this]
      have hfz : w'.frozen? ⟨g, k, none⟩ = false := hown.frozenAt k
      have hkx : k < xs.length := by rw [HX.out]; exact hkn
      have hnm : xs.length ≤ 9223372036854775807 := by have := hf.cap; omega
      have HST := Lib.hid hst
      have HF := Lib.hid hf
      clear hst hown htk hs hg h1' hf hn0
      go_wp2
      go_ret
      refine ⟨_, rfl, ⟨?_, ?_, ?_⟩, hb.grown HST.out.2 hb.size (fun k hk => by cases hk; exact hB)⟩
      · have := HST.out.1
        simpa [OI, withL, List.map_set] using this
      · rw [withL_len]; exact HF.out.cap
      · intro x hx
        unfold withL at hx
        rw [if_pos h0] at hx
        rcases List.mem_or_eq_of_mem_set hx with h | h
        · exact HF.out.wf x h
        · rw [h]; exact ht
  · have hw : withL xs i t = xs := by
      unfold withL
      split
      · rw [List.set_eq_of_length_le]; have := HX.out; omega
      · rfl
    have HW := Lib.hid hw; clear hw
    by_cases h0 : 0 ≤ i
    · have h1 : ¬ i < n := fun h => hin ⟨h0, h⟩
      clear hin
      go_enter Tryz.func11, Tryz.ntmps11
      go_wp2_with fail
      refine (vclone_any a n ca xs w hx).mono ?_
      rintro e w' ⟨v, rfl, hf, hb⟩
      obtain ⟨a', n', cap', rfl, hI⟩ := hf.si
      have hnn : n' = n := hI.len.symm.trans HX.out
      subst hnn
      go_wp2
      go_ret
      exact ⟨_, rfl, by rw [HW.out]; exact hf, hb⟩
    · clear hin
      go_enter Tryz.func11, Tryz.ntmps11
      go_wp2_with fail
      refine (vclone_any a n ca xs w hx).mono ?_
      rintro e w' ⟨v, rfl, hf, hb⟩
      obtain ⟨a', n', cap', rfl, hI⟩ := hf.si
      go_wp2
      go_ret
      exact ⟨_, rfl, by rw [HW.out]; exact hf, hb⟩
end Go.Proofs.YtibabgokmacnaaaGreat
end

/- a block of one cell; recovered panics. By an AI agent. -/
section
namespace Go.Proofs.YtibabgokmacnaaaGreat
open Go.RowKit

/-! ### a block of one cell -/
def C1 (w : World) (g : Nat) (v : Value) : Prop := ∃ t, w.heap[g]? = some (.cells #[v] t (0, 0))
theorem C1.cell {w : World} {g : Nat} {v : Value} (h : C1 w g v) : w.cell? ⟨g, 0, none⟩ = some v := by
  obtain ⟨t, h⟩ := h
  rw [cell_of_row w g 0 _ t (0, 0) h]; rfl
theorem C1.frozen {w : World} {g : Nat} {v : Value} (h : C1 w g v) : w.frozen? ⟨g, 0, none⟩ = false := by
  obtain ⟨t, h⟩ := h
  exact frozen_of_row w g 0 _ t h
theorem C1.lt {w : World} {g : Nat} {v : Value} (h : C1 w g v) : g < w.heap.size := by
  obtain ⟨t, h⟩ := h
  exact lt_of_heap h
theorem C1.set {w : World} {g : Nat} {v : Value} (h : C1 w g v) (u : Value) : C1 (w.setCell ⟨g, 0, none⟩ u) g u := by
  obtain ⟨t, h⟩ := h
  exact ⟨t, by rw [heap_setCell_same w g 0 _ t _ h]; rfl⟩
theorem C1.other {w : World} {g g' : Nat} {v : Value} (h : C1 w g v) (hn : g ≠ g') (u : Value) : C1 (w.setCell ⟨g', 0, none⟩ u) g v := by
  obtain ⟨t, h⟩ := h
  exact ⟨t, by rw [Below.heap_setCell _ _ _ _ hn]; exact h⟩
theorem C1.keep {w w' : World} {g : Nat} {v : Value} (h : C1 w g v) (hb : Bl w w') : C1 w' g v := by
  obtain ⟨t, h⟩ := h
  exact ⟨t, hb.heap h⟩
theorem C1.grown {w w' : World} {g : Nat} {v : Value} {row : Option Nat} (h : C1 w g v) (hg : w.grownBy w' row) (hn : some g ≠ row) : C1 w' g v := by
  obtain ⟨t, h⟩ := h
  exact ⟨t, by rw [hg.block g (lt_of_heap h) hn]; exact h⟩
theorem C1.alloc {w : World} {g : Nat} {v : Value} (h : C1 w g v) (o : Obj) : C1 (w.alloc o) g v := h.keep ((Bl.refl w).alloc o)
theorem C1.new (w : World) (g : Nat) (hg : g = w.heap.size) (v : Value) (t : TypeId) : C1 (w.alloc (.cells #[v] t)) g v := by
  subst hg
  exact ⟨t, heap_alloc_new w _⟩

theorem hmf (fn : Fn) (first cap : Array Value) (w : World) : (Instr.makeFunc fn first cap).run Tryz.prog w = .ok (.func fn first cap) w := rfl
theorem assert_code (c : Int) (w : World) : (Instr.typeAssert (.iface 47 (.int .i64 c)) 20 47 true).run Tryz.prog w = .ok (.tuple #[.int .i64 c, .bool true]) w := by
  simp [Instr.typeAssert, run_underlying Tryz.underlying47]
theorem store_fl (a : Addr) (b : Nat) (w : World) : (store a (.float .f64 b)).run Tryz.prog w = stored Tryz.prog w a (.float .f64 b) .plain := run_store Tryz.prog w a _ .plain rfl
/-- a recovered panic settles to a return -/
theorem leaves_back {P : Program} {fn : Func} {tmps : Array Value} {R : Ending → World → Prop} {w : World} {v x : Value} (h : (results fn tmps).run P w = .ok v w) (hR : R (.returned v) w) :
    Leaves P fn tmps R [] (settle (.panicking [{ v := x, recovered := true }])) w := ⟨v, h, hR⟩
theorem leaves_ret {P : Program} {fn : Func} {tmps : Array Value} {R : Ending → World → Prop} {w : World} {v : Value} (h : (results fn tmps).run P w = .ok v w) (hR : R (.returned v) w) :
    Leaves P fn tmps R [] (settle .returning) w := ⟨v, h, hR⟩
end Go.Proofs.YtibabgokmacnaaaGreat
end
