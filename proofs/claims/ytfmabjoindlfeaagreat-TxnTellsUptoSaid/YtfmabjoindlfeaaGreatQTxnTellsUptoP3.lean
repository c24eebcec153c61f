import Derived.Test.YtfmabjoindlfeaaGreatQTxnTellsUptoP1
import Derived.Below
import Derived.Deep.RegionLaw
import Derived.Deep.AppendLies

/- a frame: which blocks may turn. By an AI agent. -/
section
set_option linter.unusedVariables false
namespace Go.Proofs.YtfmabjoindlfeaaGreat
open Go.RowKit

/-- blocks that lay in w and are not of S are as they were -/
structure Fr (S : Nat → Prop) (w w' : World) : Prop where
  os : w'.os = w.os
  tape : w'.tape = w.tape
  output : w'.output = w.output
  size : w.heap.size ≤ w'.heap.size
  block : ∀ k, k < w.heap.size → ¬ S k → w'.heap[k]? = w.heap[k]?
theorem Fr.refl (S : Nat → Prop) (w : World) : Fr S w w := ⟨rfl, rfl, rfl, Nat.le_refl _, fun _ _ _ => rfl⟩
theorem Fr.trans {S : Nat → Prop} {a b c : World} (h : Fr S a b) (k : Fr S b c) : Fr S a c :=
  ⟨k.os.trans h.os, k.tape.trans h.tape, k.output.trans h.output, Nat.le_trans h.size k.size, fun i hi hs => (k.block i (Nat.lt_of_lt_of_le hi h.size) hs).trans (h.block i hi hs)⟩
theorem Fr.bl {S : Nat → Prop} {a b c : World} (h : Fr S a b) (k : Bl b c) : Fr S a c :=
  h.trans ⟨k.os, k.tape, k.output, k.size, fun i hi _ => k.block i hi⟩
theorem Fr.grown {S : Nat → Prop} {a b c : World} {row : Option Nat} (h : Fr S a b) (k : b.grownBy c row) (hr : ∀ i, row = some i → S i) : Fr S a c :=
  h.trans ⟨k.os, k.tape, k.output, k.size, fun i hi hs => k.block i hi (fun e => hs (hr i e.symm))⟩
theorem Fr.below {S : Nat → Prop} {w w' : World} (h : Fr S w w') {B : Nat} (hB : B ≤ w.heap.size) (hs : ∀ k, S k → B ≤ k) : Below B w w' :=
  ⟨h.os, h.tape, h.output, h.size, fun k hk => h.block k (by omega) (fun q => by have := hs k q; omega)⟩
theorem Fr.cell {S : Nat → Prop} {w w' : World} (h : Fr S w w') {p : Addr} {v : Value} (hv : w.cell? p = some v) (hs : ¬ S p.block) : w'.cell? p = some v := by
  rw [← hv]
  exact World.cell?_of_block (h.block p.block (World.block_lt_of_cell? _ _ hv) hs)
theorem Fr.ia {S : Nat → Prop} {w w' : World} (h : Fr S w w') {a : Option Addr} {n : Nat} {xs : List Int} (hl : IA w a n xs) (hs : ∀ b off, a = some ⟨b, off, none⟩ → ¬ S b) : IA w' a n xs := ⟨hl.len, hl.cap, fun j hj => by
  obtain ⟨b, off, e, hc⟩ := hl.cells j hj
  exact ⟨b, off, e, fun j hj => h.cell (hc j hj) (hs b off e)⟩, hl.wf⟩

theorem Fr.own {S : Nat → Prop} {w w' : World} (h : Fr S w w') {B : Nat} {E : TypeId} {z : Nat} {v : Value} {n : Nat} {cs : List Value} (ho : w.ownsRow B E z v n cs) (hs : ∀ b, v.ownBlock = some b → ¬ S b) : w'.ownsRow B E z v n cs := by
  obtain ⟨h1, h2 | ⟨g, cap, cur, rfl, hB, hg, r⟩⟩ := ho
  · exact ⟨h1, .inl h2⟩
  · exact ⟨h1, .inr ⟨g, cap, cur, rfl, hB, by rw [h.block g (lt_of_heap hg) (hs g rfl)]; exact hg, r⟩⟩
theorem FI.fr {S : Nat → Prop} {B : Nat} {w w' : World} {v : Value} {xs : List Int} (h : FI B w v xs) (hf : Fr S w w') (hs : ∀ b, v.ownBlock = some b → ¬ S b) : FI B w' v xs := ⟨hf.own h.own hs, h.cap, h.wf⟩
end Go.Proofs.YtfmabjoindlfeaaGreat
end

/- a block that holds these cells. By an AI agent. -/
section
namespace Go.Proofs.YtfmabjoindlfeaaGreat
open Go.RowKit

/-- a block that holds these cells -/
def AC (w : World) (g : Nat) (cs : List Value) : Prop := ∃ t, w.heap[g]? = some (.cells cs.toArray t (0, 0))
theorem AC.new (w : World) (g : Nat) (hg : g = w.heap.size) (cs : List Value) (t : TypeId) : AC (w.alloc (.cells cs.toArray t)) g cs := by
  subst hg; exact ⟨t, heap_alloc_new w _⟩
theorem AC.keep {w w' : World} {g : Nat} {cs : List Value} (h : AC w g cs) (hb : Bl w w') : AC w' g cs := by
  obtain ⟨t, h⟩ := h; exact ⟨t, hb.heap h⟩
theorem AC.cell {w : World} {g : Nat} {cs : List Value} (h : AC w g cs) (j : Nat) (v : Value) (hj : cs[j]? = some v) : w.cell? ⟨g, j, none⟩ = some v := by
  obtain ⟨t, h⟩ := h
  rw [cell_of_row w g j _ t (0, 0) h]
  simpa using hj
theorem AC.frozen {w : World} {g : Nat} {cs : List Value} (h : AC w g cs) (j : Nat) : w.frozen? ⟨g, j, none⟩ = false := by
  obtain ⟨t, h⟩ := h
  exact frozen_of_row w g j _ t h
theorem AC.lt {w : World} {g : Nat} {cs : List Value} (h : AC w g cs) : g < w.heap.size := by
  obtain ⟨t, h⟩ := h; exact lt_of_heap h
theorem AC.other {w : World} {g g' j : Nat} {cs : List Value} {u : Value} (h : AC w g cs) (hn : g ≠ g') : AC (w.setCell ⟨g', j, none⟩ u) g cs := by
  obtain ⟨t, h⟩ := h
  exact ⟨t, by rw [Below.heap_setCell _ _ _ _ hn]; exact h⟩
end Go.Proofs.YtfmabjoindlfeaaGreat
end

/- values that lie one behind the other. By an AI agent. -/
section
namespace Go.Proofs.YtfmabjoindlfeaaGreat
open Go.RowKit

/-- n values that lie one behind the other -/
def LA (W : World) (a : Option Addr) (n : Nat) (vs : Nat → Value) : Prop := ∀ j, j < n → ∃ b off, a = some ⟨b, off, none⟩ ∧ ∀ j, j < n → W.cell? ⟨b, off + j, none⟩ = some (vs j)
theorem LA.keep {W W' : World} {a : Option Addr} {n : Nat} {vs : Nat → Value} (h : LA W a n vs) (hb : Bl W W') : LA W' a n vs := fun j hj => by
  obtain ⟨b, off, e, hc⟩ := h j hj
  exact ⟨b, off, e, fun j hj => hb.cell (hc j hj)⟩
theorem Fr.la {S : Nat → Prop} {w w' : World} (h : Fr S w w') {a : Option Addr} {n : Nat} {vs : Nat → Value} (hl : LA w a n vs) (hs : ∀ b off, a = some ⟨b, off, none⟩ → ¬ S b) : LA w' a n vs := fun j hj => by
  obtain ⟨b, off, e, hc⟩ := hl j hj
  exact ⟨b, off, e, fun j hj => h.cell (hc j hj) (hs b off e)⟩
theorem Fr.ac {S : Nat → Prop} {w w' : World} (h : Fr S w w') {g : Nat} {cs : List Value} (ha : AC w g cs) (hs : ¬ S g) : AC w' g cs := by
  obtain ⟨t, ha⟩ := ha
  exact ⟨t, by rw [h.block g (lt_of_heap ha) hs]; exact ha⟩
theorem row_la {W : World} {B n : Nat} {E : TypeId} {out : Value} {gs : Nat → Value} (h : W.ownsRow B E 1 out n ((List.range n).map gs)) : ∃ oa oc, out = .slice oa n oc ∧ LA W oa n gs := by
  obtain ⟨h1, ⟨rfl, h2⟩ | ⟨g, cap, cur, rfl, hB, hg, hn, hm, hs, ht⟩⟩ := h
  · subst h2
    exact ⟨none, 0, rfl, fun j hj => absurd hj (Nat.not_lt_zero _)⟩
  · refine ⟨some ⟨g, 0, none⟩, cap, rfl, fun j0 hj0 => ⟨g, 0, rfl, fun j hj => ?_⟩⟩
    have := World.ownsRow.cellAt (w := W) (base := B) (e := E) (size := 1) (g := g) (n := n) (cap := cap) ⟨h1, .inr ⟨g, cap, cur, rfl, hB, hg, hn, hm, hs, ht⟩⟩ j (by omega)
    rw [Nat.zero_add, this]
    simp [hj]
end Go.Proofs.YtfmabjoindlfeaaGreat
end
