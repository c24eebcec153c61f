import Derived.Test.YtaelghbjbopilaaGreatQProtoRepliesUptoP5
import Derived.Test.YtaelghbjbopilaaGreatQProtoRepliesUptoP6

/- readers: a cell that holds what is left; vec.Get, whatever the bytes are. By an AI agent. -/
section
namespace Go.Proofs.YtaelghbjbopilaaGreat
open Go.RowKit

theorem OB.other {B g j : Nat} {w : World} {v u : Value} {xs : List Int} (h : OB B w v xs) (hg : g < B) : OB B (w.setCell ⟨g, j, none⟩ u) v xs := by
  obtain ⟨h1, h2 | ⟨g', cap, cur, hv, hB, hh, r⟩⟩ := h
  · exact ⟨h1, .inl h2⟩
  · exact ⟨h1, .inr ⟨g', cap, cur, hv, hB, by rw [Below.heap_setCell _ _ _ _ (show g' ≠ g by omega)]; exact hh, r⟩⟩
/-- the reader's cell is set anew in what has come behind -/
theorem Bl.reset {w wr : World} {g : Nat} {v0 a b : Value} (hc : C1 w g v0) (hb : Bl (w.setCell ⟨g, 0, none⟩ a) wr) : Bl (w.setCell ⟨g, 0, none⟩ b) (wr.setCell ⟨g, 0, none⟩ b) := by
  obtain ⟨t, hg⟩ := hc
  have hlt : g < w.heap.size := lt_of_heap hg
  have e1 : ∀ u, (w.setCell ⟨g, 0, none⟩ u).heap[g]? = some (.cells #[u] t (0, 0)) := fun u => by
    rw [heap_setCell_same w g 0 _ t u hg]; rfl
  have hz : ∀ (x : World) (u : Value), (x.setCell ⟨g, 0, none⟩ u).heap.size = x.heap.size := fun x u => by simp
  have e2 : wr.heap[g]? = some (.cells #[a] t (0, 0)) := by
    rw [hb.block g (by rw [hz]; exact hlt)]; exact e1 a
  have e3 : (wr.setCell ⟨g, 0, none⟩ b).heap[g]? = some (.cells #[b] t (0, 0)) := by
    rw [heap_setCell_same wr g 0 _ t b e2]; rfl
  refine ⟨hb.os, hb.tape, hb.output, ?_, fun q hq => ?_⟩
  · rw [hz, hz]; have := hb.size; rw [hz] at this; exact this
  · by_cases hqg : q = g
    · subst hqg; rw [e3, e1]
    · rw [Below.heap_setCell _ _ _ _ hqg, Below.heap_setCell _ _ _ _ hqg]
      have := hb.block q (by rw [hz] at hq ⊢; exact hq)
      rw [this, Below.heap_setCell _ _ _ _ hqg]

theorem setCell_size (w : World) (g : Nat) (u : Value) : (w.setCell ⟨g, 0, none⟩ u).heap.size = w.heap.size := by simp
theorem SB.one {t : ByteArray} {c : UInt8} (h : SB t [c]) : t = ⟨#[c]⟩ := by
  apply ByteArray.ext
  apply Array.toList_inj.1
  exact h
theorem Bl.same {w : World} {g : Nat} {v : Value} (hc : C1 w g v) : Bl (w.setCell ⟨g, 0, none⟩ v) w := by
  obtain ⟨t, hg⟩ := hc
  refine ⟨rfl, rfl, rfl, by simp, fun q hq => ?_⟩
  by_cases hqg : q = g
  · subst hqg
    rw [heap_setCell_same w q 0 _ t v hg, hg]; rfl
  · rw [Below.heap_setCell _ _ _ _ hqg]

/-- the plain way back of numbers -/
theorem getN_put6 (x : Int) (h0 : 0 ≤ x) (h1 : x < 281474976710656) : getN (bytesN (putN x 6 6)) = x := by
  have e : putN x 6 6 = [x / 1099511627776 % 256, x / 4294967296 % 256, x / 16777216 % 256, x / 65536 % 256, x / 256 % 256, x % 256] := by
    simp [putN, byteAt, List.range, List.range.loop]
  rw [e]
  simp only [bytesN, List.map_cons, List.map_nil, getN, List.foldl_cons, List.foldl_nil]
  have hb : ∀ y : Int, ((UInt8.ofNat (y % 256).toNat).toNat : Int) = y % 256 := by
    intro y
    simp; omega
  simp only [hb]
  omega
theorem putBodyL_cons (x : Int) (xs : List Int) : putBodyL (x :: xs) = bytesN (putN x 6 6) ++ putBodyL xs := by simp [putBodyL]
theorem len6 (x : Int) : (bytesN (putN x 6 6)).length = 6 := by rw [bytesN_len, putN_len]
theorem body_drop (xs : List Int) (more : List UInt8) (j : Nat) (hj : j ≤ xs.length) : (putBodyL xs ++ more).drop (6 * j) = putBodyL (xs.drop j) ++ more := by
  induction j generalizing xs with
  | zero => simp
  | succ j ih =>
    cases xs with
    | nil => simp at hj
    | cons x xs =>
      rw [putBodyL_cons, List.append_assoc, show 6 * (j + 1) = 6 + 6 * j by omega, ← List.drop_drop, List.drop_left' (len6 x), ih xs (by simpa using hj)]
      simp
theorem vals_put (xs : List Int) (more : List UInt8) (hw : ∀ j, j < xs.length → 0 ≤ nth xs j ∧ nth xs j < 281474976710656) : valsL xs.length (putBodyL xs ++ more) = xs := by
  refine getD_ext (valsL_len _ _) fun j hj => ?_
  rw [valsL_len] at hj
  have h1 : nth (valsL xs.length (putBodyL xs ++ more)) j = getN (((putBodyL xs ++ more).drop (6 * j)).take 6) := by
    rw [nth_eq (by rw [valsL_len]; exact hj)]; simp [valsL]
  rw [h1, body_drop xs more j (by omega), List.drop_eq_getElem_cons hj, putBodyL_cons, List.append_assoc, List.take_left' (len6 _), ← nth_eq hj]
  have := hw j hj
  exact getN_put6 _ this.1 this.2

/-- a slice that lies from block B on -/
def FarIA (B : Nat) (w : World) (a : Option Addr) (n : Nat) (xs : List Int) : Prop := IA w a n xs ∧ ∀ b off, a = some ⟨b, off, none⟩ → n = 0 ∨ B ≤ b
theorem FarIA.nil (B : Nat) (w : World) : FarIA B w none 0 [] := ⟨IA.nil _ _, fun _ _ _ => .inl rfl⟩
theorem FarIA.keep {B : Nat} {w w' : World} {a : Option Addr} {n : Nat} {xs : List Int} (h : FarIA B w a n xs) (hb : Bl w w') : FarIA B w' a n xs := ⟨h.1.keep hb, h.2⟩
theorem FarIA.mono {B B' : Nat} {w : World} {a : Option Addr} {n : Nat} {xs : List Int} (h : FarIA B w a n xs) (hB : B' ≤ B) : FarIA B' w a n xs :=
  ⟨h.1, fun b off e => by have := h.2 b off e; omega⟩
theorem FarIA.set {B : Nat} {w : World} {a : Option Addr} {n : Nat} {xs : List Int} (h : FarIA B w a n xs) {q : Nat} (hq : q < B) (j : Nat) (u : Value) : FarIA B (w.setCell ⟨q, j, none⟩ u) a n xs := by
  refine ⟨⟨h.1.len, h.1.cap, fun i hi => ?_, h.1.wf⟩, h.2⟩
  obtain ⟨b, off, e, hc⟩ := h.1.cells i hi
  refine ⟨b, off, e, fun i hi => ?_⟩
  have hne : b ≠ q := by
    have := h.2 b off e
    omega
  rw [← hc i hi]
  unfold World.cell?
  rw [Below.heap_setCell _ _ _ _ hne]
theorem FI.far {B : Nat} {w : World} {a : Option Addr} {n ca : Nat} {xs : List Int} (h : FI B w (.slice a n ca) xs) : FarIA B w a n xs := by
  obtain ⟨a', n', ca', e, hI⟩ := h.si
  cases e
  refine ⟨hI, fun b off e => ?_⟩
  obtain ⟨-, ⟨h1, -⟩ | ⟨g, cap, cur, hv, hB, -⟩⟩ := h.own
  · cases h1; cases e
  · cases hv
    cases e
    exact .inr hB
theorem AC.setj {w : World} {g : Nat} {cs : List Value} (h : AC w g cs) (j : Nat) (v : Value) : AC (w.setCell ⟨g, j, none⟩ v) g (cs.set j v) := by
  obtain ⟨t, h⟩ := h
  exact ⟨t, by rw [heap_setCell_same w g j _ t v h]; simp⟩
theorem C1.otherj {w : World} {g g' j : Nat} {v u : Value} (h : C1 w g v) (hn : g ≠ g') : C1 (w.setCell ⟨g', j, none⟩ u) g v := by
  obtain ⟨t, h⟩ := h
  exact ⟨t, by rw [Below.heap_setCell _ _ _ _ hn]; exact h⟩
end Go.Proofs.YtaelghbjbopilaaGreat
end

/- the one word of what is no number. By an AI agent. -/
section
namespace Go.Proofs.YtaelghbjbopilaaGreat
open Go.RowKit

def nanW : Nat := 9221120237041090561
def canon (x : Nat) : Nat := if nanB x then nanW else x
theorem canon_key (x : Nat) : fkey (canon x) = fkey x := by
  cases h : nanB x
  · have : canon x = x := by unfold canon; rw [h]; rfl
    rw [this]
  · have : canon x = nanW := by unfold canon; rw [h]; rfl
    have h2 : fkey x = 0 := by unfold fkey; rw [h]; rfl
    rw [this, h2]
    decide +kernel
end Go.Proofs.YtaelghbjbopilaaGreat
end
