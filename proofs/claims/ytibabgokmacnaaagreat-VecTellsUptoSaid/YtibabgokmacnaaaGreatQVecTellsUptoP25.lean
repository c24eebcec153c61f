import Derived.Test.YtibabgokmacnaaaGreatQVecTellsUptoP4
import Derived.Test.YtibabgokmacnaaaGreatQVecTellsUptoP6
import Derived.Test.YtibabgokmacnaaaGreatQVecTellsUptoP10
import Derived.Test.YtibabgokmacnaaaGreatQVecTellsUptoP12
import Derived.Test.YtibabgokmacnaaaGreatQVecTellsUptoP13
import Derived.Test.YtibabgokmacnaaaGreatQVecTellsUptoP14
import Derived.Test.YtibabgokmacnaaaGreatQVecTellsUptoP20
import Derived.Test.YtibabgokmacnaaaGreatQVecTellsUptoP21
import Derived.Test.YtibabgokmacnaaaGreatQVecTellsUptoP23
import Derived.Test.YtibabgokmacnaaaGreatQVecTellsUptoP1
import Derived.Test.YtibabgokmacnaaaGreatQVecTellsUptoP24

/- what VecTells compares: both sides in the same words. By an AI agent. -/
section
set_option linter.unusedVariables false
namespace Go.Proofs.YtibabgokmacnaaaGreat
open Go.RowKit

/-- what reading gives: the vector, the length, the code -/
def rdX (l : List UInt8) : List Int := match rdV l with | some (xs, _) => xs | none => []
def rdN (l : List UInt8) : Int := match rdV l with | some (xs, _) => ((1 + 6 * xs.length : Nat) : Int) | none => 0
def rdC (l : List UInt8) : Int := match rdV l with | some _ => 0 | none => codeV l
theorem rdX_len (l : List UInt8) : (rdX l).length ≤ 8 := by
  unfold rdX
  split
  · rename_i xs m h
    exact (valid_parts (rdV_back h).2).2.1
  · simp
def RdAll (w : World) (l : List UInt8) (e : Ending) (w' : World) : Prop := ∃ v, e = .returned (.tuple #[v, .int .i64 (rdN l), .int .i64 (rdC l)]) ∧ FI w.heap.size w' v (rdX l) ∧ Bl w w'
theorem rdAll_of {w w' : World} {l : List UInt8} {e : Ending} (h : RdPostC w l e w') : RdAll w l e w' := by
  rcases h with ⟨xs, m, v, h, rfl, hf, hb⟩ | ⟨h, rfl, hb⟩
  · have e1 : rdX l = xs := by unfold rdX; rw [h]
    have e2 : rdN l = ((1 + 6 * xs.length : Nat) : Int) := by unfold rdN; rw [h]
    have e3 : rdC l = 0 := by unfold rdC; rw [h]
    exact ⟨v, by rw [e2, e3], by rw [e1]; exact hf, hb⟩
  · have e1 : rdX l = [] := by unfold rdX; rw [h]
    have e2 : rdN l = 0 := by unfold rdN; rw [h]
    have e3 : rdC l = codeV l := by unfold rdC; rw [h]
    exact ⟨_, by rw [e2, e3], by rw [e1]; exact FI.nil _ _, hb⟩
/-- what putting gives -/
def ptX (xs : List Int) : List UInt8 := if validL xs then putL xs else []
def ptE (xs : List Int) : Int := if validL xs then 0 else 1
theorem vptL_any (a : Option Addr) (n ca : Nat) (xs : List Int) (w : World) (hx : IA w a n xs) :
    Calls Tryz.prog 15 #[.slice a n ca] w fun e w' => e = .returned (.tuple #[.string (strL (ptX xs)), .int .i64 (ptE xs)]) ∧ Bl w w' := by
  cases hv : validL xs
  · refine (vput_no a n ca xs w hx hv).mono ?_
    rintro e w' ⟨rfl, rfl⟩
    exact ⟨by simp [ptX, ptE, hv, strL], Bl.refl _⟩
  · refine (vput_yes a n ca xs w hx hv).mono ?_
    rintro e w' ⟨rfl, hb⟩
    exact ⟨by simp [ptX, ptE, hv, strL], hb⟩
theorem rptL_any (a : Option Addr) (n ca : Nat) (xs : List Int) (w : World) (hx : IA w a n xs) :
    Calls Tryz.prog 16 #[.slice a n ca] w fun e w' => e = .returned (.tuple #[.string (strL (ptX xs)), .int .i64 (ptE xs)]) ∧ Bl w w' := by
  cases hv : validL xs
  · refine (rput3_no a n ca xs w hx hv).mono ?_
    rintro e w' ⟨rfl, rfl⟩
    exact ⟨by simp [ptX, ptE, hv, strL], Bl.refl _⟩
  · refine (rput3_yes a n ca xs w hx hv).mono ?_
    rintro e w' ⟨rfl, hb⟩
    exact ⟨by simp [ptX, ptE, hv], hb⟩
/-- two slices that read the same are the same -/
theorem rsameY (v u : Value) (xs : List Int) (w : World) (hv : SI w v xs) (hu : SI w u xs) :
    Calls Tryz.prog 17 #[v, u] w fun e w' => e = .returned (.bool true) ∧ Bl w w' := by
  obtain ⟨a, n, c, rfl, ha⟩ := hv
  obtain ⟨a2, n2, c2, rfl, ha2⟩ := hu
  have := rsame_any a a2 n n2 c c2 xs xs w ha ha2
  rwa [decide_eq_true (rfl : xs = xs)] at this
theorem text_same (a : Option Addr) (n ca : Nat) (xs : List Int) (w : World) (hx : IA w a n xs) (hn : n ≤ 1000000) :
    Calls Tryz.prog 27 #[.slice a n ca] w fun e w' => e = .returned (.string (strL (textL xs))) ∧ Bl w w' := by
  refine (text_any a n ca xs w hx hn).mono ?_
  rintro e w' ⟨s, rfl, hs, hb⟩
  exact ⟨by rw [strL_of hs], hb⟩
theorem each_len8 (t : Int → Int → Int) (xs ys : List Int) : (eachL t xs ys).length ≤ xs.length := by
  unfold eachL
  split
  · rw [List.length_zipWith]; exact Nat.min_le_left _ _
  · simp
theorem zeroI_len (i : Int) : (zeroI i).length ≤ 8 := by
  unfold zeroI
  split
  · simp; omega
  · simp
end Go.Proofs.YtibabgokmacnaaaGreat
end

/- slices of ints that are written out; a string of known bytes. By an AI agent. -/
section
namespace Go.Proofs.YtibabgokmacnaaaGreat
open Go.RowKit

theorem IA.lit (w : World) (xs : List Int) (t : TypeId) (hc : xs.length ≤ 1000) (hw : ∀ x ∈ xs, -9223372036854775808 ≤ x ∧ x ≤ 9223372036854775807) :
    IA (w.alloc (.cells (xs.map (Value.int .i64)).toArray t)) (some ⟨w.heap.size, 0, none⟩) xs.length xs :=
  ⟨rfl, by omega, fun j hj => ⟨w.heap.size, 0, rfl, fun j hj => by
    rw [Nat.zero_add, cell_of_row _ w.heap.size j _ t (0, 0) (heap_alloc_new w _)]
    simp [nth_eq hj, hj]⟩, hw⟩

theorem IA.lit_at (w : World) (g : Nat) (xs : List Int) (t : TypeId) (hg : g = w.heap.size) (hc : xs.length ≤ 1000) (hw : ∀ x ∈ xs, -9223372036854775808 ≤ x ∧ x ≤ 9223372036854775807) :
    IA (w.alloc (.cells (xs.map (Value.int .i64)).toArray t)) (some ⟨g, 0, none⟩) xs.length xs := by subst hg; exact IA.lit w xs t hc hw

theorem str_eq {s : ByteArray} {l m : List UInt8} (h : SB s l) (e : l = m) : s = ⟨m.toArray⟩ := by
  rw [SB, e] at h
  exact ByteArray.ext (Array.toList_inj.1 h)

end Go.Proofs.YtibabgokmacnaaaGreat
end
