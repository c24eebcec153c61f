import Derived.Test.YtfjjnffifnohkaaGreatQFoldTellsUptoP1
import Derived.Test.YtfjjnffifnohkaaGreatQFoldTellsUptoP14
import Derived.Test.YtfjjnffifnohkaaGreatShelf
import Derived.Lib.Strings
import Derived.Lib.Slices
import Derived.Lib.Builder
import Derived.Lib.AppendStr
import Derived.Lib.UnsafeStr
import Derived.Lib.MakeNoZero
import Derived.Laws.Externs
import Derived.Deep.QuietTactic
import Derived.BigQuiet
import Derived.Test.YtfjjnffifnohkaaGreatQFoldTellsUptoP18
import Derived.Recover
import Derived.Laws.Pointers
import Derived.WalkLawsBesides
import Derived.Deep.RegionHeld3
import Derived.Test.YtfjjnffifnohkaaGreatQFoldTellsUptoP3

/- vec.take, vec.Get (lines of the texts Get, Get2). By an AI agent. -/
section
namespace Go.Proofs.YtfjjnffifnohkaaGreat
open Go.RowKit




theorem _root_.Go.World.ownsRow.mono {w : World} {B B' : Nat} {e : TypeId} {sz : Nat} {v : Value} {n : Nat} {xs : List Value} (h : w.ownsRow B e sz v n xs) (hB : B' ≤ B) : w.ownsRow B' e sz v n xs := by
  obtain ⟨h1, h2 | ⟨g, cap, cur, hv, hg, r⟩⟩ := h
  · exact ⟨h1, .inl h2⟩
  · exact ⟨h1, .inr ⟨g, cap, cur, hv, Nat.le_trans hB hg, r⟩⟩






end Go.Proofs.YtfjjnffifnohkaaGreat
end

/- readers: a cell that holds what is left; vec.Get, whatever the bytes are. By an AI agent. -/
section
namespace Go.Proofs.YtfjjnffifnohkaaGreat
open Go.RowKit

theorem OB.other {B g j : Nat} {w : World} {v u : Value} {xs : List Int} (h : OB B w v xs) (hg : g < B) : OB B (w.setCell ⟨g, j, none⟩ u) v xs := by
  obtain ⟨h1, h2 | ⟨g', cap, cur, hv, hB, hh, r⟩⟩ := h
  · exact ⟨h1, .inl h2⟩
  · exact ⟨h1, .inr ⟨g', cap, cur, hv, hB, by rw [Below.heap_setCell _ _ _ _ (show g' ≠ g by omega)]; exact hh, r⟩⟩

theorem OB.push2 {B : Nat} {w0 w w1 : World} {v v' : Value} {xs : List Int} {x : Int} {o : Obj} (hb : Bl w0 w) (hz : w0.heap.size = B) (hown : OB B w v xs)
    (hown' : w1.ownsRow B 5 1 v' (xs.length + 1) (xs.map (Value.int .u8) ++ [.int .u8 x])) (hg : (w.alloc o).grownBy w1 v.ownBlock) : OB B w1 v' (xs ++ [x]) ∧ Bl w0 w1 := by
  subst hz
  exact OB.push hb hb.size hown hown' hg
theorem SB.one {t : ByteArray} {c : UInt8} (h : SB t [c]) : t = ⟨#[c]⟩ := by
  apply ByteArray.ext
  apply Array.toList_inj.1
  exact h
theorem Bl.same {w : World} {g : Nat} {v : Value} (hc : C1 w g v) : Bl (w.setCell ⟨g, 0, none⟩ v) w := by
  obtain ⟨t, hg⟩ := hc
  refine ⟨rfl, rfl, rfl, by simp, fun q hq => ?_⟩
  by_cases hqg : q = g
  · subst hqg
    rw [heap_setCell_same w q 0 _ t v hg, hg]; rfl
  · rw [Below.heap_setCell _ _ _ _ hqg]


/-- a slice that lies from block B on -/
def FarIA (B : Nat) (w : World) (a : Option Addr) (n : Nat) (xs : List Int) : Prop := IA w a n xs ∧ ∀ b off, a = some ⟨b, off, none⟩ → n = 0 ∨ B ≤ b
theorem FarIA.nil (B : Nat) (w : World) : FarIA B w none 0 [] := ⟨IA.nil _ _, fun _ _ _ => .inl rfl⟩
theorem FarIA.keep {B : Nat} {w w' : World} {a : Option Addr} {n : Nat} {xs : List Int} (h : FarIA B w a n xs) (hb : Bl w w') : FarIA B w' a n xs := ⟨h.1.keep hb, h.2⟩
theorem FarIA.mono {B B' : Nat} {w : World} {a : Option Addr} {n : Nat} {xs : List Int} (h : FarIA B w a n xs) (hB : B' ≤ B) : FarIA B' w a n xs :=
  ⟨h.1, fun b off e => by have := h.2 b off e; omega⟩
theorem FarIA.set {B : Nat} {w : World} {a : Option Addr} {n : Nat} {xs : List Int} (h : FarIA B w a n xs) {q : Nat} (hq : q < B) (j : Nat) (u : Value) : FarIA B (w.setCell ⟨q, j, none⟩ u) a n xs := by
  refine ⟨⟨h.1.len, h.1.cap, fun i hi => ?_, h.1.wf⟩, h.2⟩
  obtain ⟨b, off, e, hc⟩ := h.1.cells i hi
  refine ⟨b, off, e, fun i hi => ?_⟩
  have hne : b ≠ q := by
    have := h.2 b off e
    omega
  rw [← hc i hi]
  unfold World.cell?
  rw [Below.heap_setCell _ _ _ _ hne]
theorem FI.far {B : Nat} {w : World} {a : Option Addr} {n ca : Nat} {xs : List Int} (h : FI B w (.slice a n ca) xs) : FarIA B w a n xs := by
  obtain ⟨a', n', ca', e, hI⟩ := h.si
  cases e
  refine ⟨hI, fun b off e => ?_⟩
  obtain ⟨-, ⟨h1, -⟩ | ⟨g, cap, cur, hv, hB, -⟩⟩ := h.own
  · cases h1; cases e
  · cases hv
    cases e
    exact .inr hB
theorem AC.setj {w : World} {g : Nat} {cs : List Value} (h : AC w g cs) (j : Nat) (v : Value) : AC (w.setCell ⟨g, j, none⟩ v) g (cs.set j v) := by
  obtain ⟨t, h⟩ := h
  exact ⟨t, by rw [heap_setCell_same w g j _ t v h]; simp⟩
theorem C1.otherj {w : World} {g g' j : Nat} {v u : Value} (h : C1 w g v) (hn : g ≠ g') : C1 (w.setCell ⟨g', j, none⟩ u) g v := by
  obtain ⟨t, h⟩ := h
  exact ⟨t, by rw [Below.heap_setCell _ _ _ _ hn]; exact h⟩
end Go.Proofs.YtfjjnffifnohkaaGreat
end
