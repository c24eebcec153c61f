import Derived.Test.YtibabgokmacnaaaGreatQGossipPlaysUptoP9

/- a block that is filled anew, cell by cell. By an AI agent. -/
section
namespace Go.Proofs.YtibabgokmacnaaaGreat
open Go.RowKit

/-- the cells of block g from j on are set anew -/
def fill (w : World) (g : Nat) : Nat → List Value → World
  | _, [] => w
  | j, v :: vs => fill (w.setCell ⟨g, j, none⟩ v) g (j + 1) vs
theorem AC.fillFrom (vs : List Value) : ∀ (w : World) (g j : Nat) (cs ds : List Value), AC w g (ds ++ cs) → ds.length = j → cs.length = vs.length → AC (fill w g j vs) g (ds ++ vs) := by
  induction vs with
  | nil =>
    intro w g j cs ds h _ hl
    obtain rfl : cs = [] := List.eq_nil_of_length_eq_zero hl
    exact h
  | cons v vs ih =>
    intro w g j cs ds h hj hl
    cases cs with
    | nil => cases hl
    | cons c cs =>
      have h1 := h.setj j v
      have e : (ds ++ c :: cs).set j v = (ds ++ [v]) ++ cs := by
        subst hj
        rw [List.set_append_right _ _ (Nat.le_refl _)]
        simp
      rw [e] at h1
      have := ih (w.setCell ⟨g, j, none⟩ v) g (j + 1) cs (ds ++ [v]) h1 (by simp [hj]) (by simpa using hl)
      simpa [fill] using this
theorem AC.fill {w : World} {g : Nat} {cs : List Value} (h : AC w g cs) (vs : List Value) (hl : cs.length = vs.length) : AC (fill w g 0 vs) g vs :=
  AC.fillFrom vs w g 0 cs [] h rfl hl
theorem Bl.fill {w : World} {g : Nat} (hg : w.heap.size ≤ g) (vs : List Value) : ∀ (W : World) (j : Nat), Bl w W → Bl w (fill W g j vs) := by
  induction vs with
  | nil => intro W j h; exact h
  | cons v vs ih => intro W j h; exact ih _ _ (h.setCell (p := ⟨g, j, none⟩) hg v)
theorem AC.fillOther {g g' : Nat} {cs : List Value} (hn : g ≠ g') (vs : List Value) : ∀ (w : World) (j : Nat), AC w g cs → AC (Go.Proofs.YtibabgokmacnaaaGreat.fill w g' j vs) g cs := by
  induction vs with
  | nil => intro w j h; exact h
  | cons v vs ih => intro w j h; exact ih _ _ (h.other hn)
theorem FarIA.fill {B : Nat} {a : Option Addr} {n : Nat} {xs : List Int} {q : Nat} (hq : q < B) (vs : List Value) : ∀ (w : World) (j : Nat), FarIA B w a n xs → FarIA B (Go.Proofs.YtibabgokmacnaaaGreat.fill w q j vs) a n xs := by
  induction vs with
  | nil => intro w j h; exact h
  | cons v vs ih => intro w j h; exact ih _ _ (h.set hq j v)
theorem C1.fillOther {g g' : Nat} {v : Value} (hn : g ≠ g') (vs : List Value) : ∀ (w : World) (j : Nat), C1 w g v → C1 (Go.Proofs.YtibabgokmacnaaaGreat.fill w g' j vs) g v := by
  induction vs with
  | nil => intro w j h; exact h
  | cons u vs ih => intro w j h; exact ih _ _ (h.otherj hn)
theorem IA.apart {w : World} {a : Option Addr} {n : Nat} {xs : List Int} (h : IA w a n xs) {q : Nat} (hq : ∀ b off, a = some ⟨b, off, none⟩ → n = 0 ∨ b ≠ q) (j : Nat) (u : Value) : IA (w.setCell ⟨q, j, none⟩ u) a n xs := by
  refine ⟨h.len, h.cap, fun i hi => ?_, h.wf⟩
  obtain ⟨b, off, e, hc⟩ := h.cells i hi
  refine ⟨b, off, e, fun i hi => ?_⟩
  have hne : b ≠ q := by
    have := hq b off e
    omega
  rw [← hc i hi]
  unfold World.cell?
  rw [Below.heap_setCell _ _ _ _ hne]
theorem IA.fillApart {a : Option Addr} {n : Nat} {xs : List Int} {q : Nat} (hq : ∀ b off, a = some ⟨b, off, none⟩ → n = 0 ∨ b ≠ q) (vs : List Value) : ∀ (w : World) (j : Nat), IA w a n xs → IA (fill w q j vs) a n xs := by
  induction vs with
  | nil => intro w j h; exact h
  | cons v vs ih => intro w j h; exact ih _ _ (h.apart hq j v)
theorem IA.block {w : World} {a : Option Addr} {n : Nat} {xs : List Int} (h : IA w a n xs) : ∀ b off, a = some ⟨b, off, none⟩ → n = 0 ∨ b < w.heap.size := by
  intro b off e
  by_cases hn : n = 0
  · exact .inl hn
  · obtain ⟨b', off', e', hc⟩ := h.cells 0 (by omega)
    rw [e] at e'
    cases e'
    exact .inr (World.block_lt_of_cell? _ _ (hc 0 (by omega)))
end Go.Proofs.YtibabgokmacnaaaGreat
end

/- an own slice of ints among boxes that turn. By an AI agent. -/
section
set_option linter.unusedVariables false
namespace Go.Proofs.YtibabgokmacnaaaGreat
open Go.RowKit

/-- an own slice, in parts -/
def FarO (B : Nat) (w : World) (a : Option Addr) (n ca : Nat) (xs : List Int) : Prop := FI B w (.slice a n ca) xs
theorem FarO.nil (B : Nat) (w : World) : FarO B w none 0 0 [] := FI.nil B w
theorem FarO.keep {B : Nat} {w w' : World} {a : Option Addr} {n ca : Nat} {xs : List Int} (h : FarO B w a n ca xs) (hb : Bl w w') : FarO B w' a n ca xs := FI.keep h hb
theorem FarO.block {B : Nat} {w : World} {a : Option Addr} {n ca : Nat} {xs : List Int} (h : FarO B w a n ca xs) : ∀ b off, a = some ⟨b, off, none⟩ → B ≤ b ∧ b < w.heap.size := by
  intro b off e
  obtain ⟨-, ⟨h1, -⟩ | ⟨g, cap, cur, hv, hB, hg, -⟩⟩ := h.own
  · cases h1; cases e
  · cases hv
    cases e
    exact ⟨hB, lt_of_heap hg⟩
theorem FarO.apart {B : Nat} {w : World} {a : Option Addr} {n ca : Nat} {xs : List Int} (h : FarO B w a n ca xs) {q : Nat} (hq : ∀ b off, a = some ⟨b, off, none⟩ → b ≠ q) (j : Nat) (u : Value) : FarO B (w.setCell ⟨q, j, none⟩ u) a n ca xs := by
  refine ⟨?_, h.cap, h.wf⟩
  obtain ⟨h1, h2 | ⟨g, cap, cur, hv, hB, hg, r⟩⟩ := h.own
  · exact ⟨h1, .inl h2⟩
  · have hne : g ≠ q := by
      cases hv
      exact hq g 0 rfl
    exact ⟨h1, .inr ⟨g, cap, cur, hv, hB, by rw [Below.heap_setCell _ _ _ _ hne]; exact hg, r⟩⟩
theorem FarO.mono {B B' : Nat} {w : World} {a : Option Addr} {n ca : Nat} {xs : List Int} (h : FarO B w a n ca xs) (hB : B' ≤ B) : FarO B' w a n ca xs := by
  refine ⟨?_, h.cap, h.wf⟩
  obtain ⟨h1, h2 | ⟨g, cap, cur, hv, hB2, r⟩⟩ := h.own
  · exact ⟨h1, .inl h2⟩
  · exact ⟨h1, .inr ⟨g, cap, cur, hv, Nat.le_trans hB hB2, r⟩⟩
theorem FarO.set {B : Nat} {w : World} {a : Option Addr} {n ca : Nat} {xs : List Int} (h : FarO B w a n ca xs) {q : Nat} (hq : q < B) (j : Nat) (u : Value) : FarO B (w.setCell ⟨q, j, none⟩ u) a n ca xs :=
  h.apart (fun b off e => by have := h.block b off e; omega) j u
theorem FarO.fill {B : Nat} {a : Option Addr} {n ca : Nat} {xs : List Int} {q : Nat} (hq : q < B) (vs : List Value) : ∀ (w : World) (j : Nat), FarO B w a n ca xs → FarO B (Go.Proofs.YtibabgokmacnaaaGreat.fill w q j vs) a n ca xs := by
  induction vs with
  | nil => intro w j h; exact h
  | cons v vs ih => intro w j h; exact ih _ _ (h.set hq j v)
theorem FarO.fillApart {B : Nat} {a : Option Addr} {n ca : Nat} {xs : List Int} {q : Nat} (hq : ∀ b off, a = some ⟨b, off, none⟩ → b ≠ q) (vs : List Value) : ∀ (w : World) (j : Nat), FarO B w a n ca xs → FarO B (Go.Proofs.YtibabgokmacnaaaGreat.fill w q j vs) a n ca xs := by
  induction vs with
  | nil => intro w j h; exact h
  | cons v vs ih => intro w j h; exact ih _ _ (h.apart hq j v)
theorem FarO.far {B : Nat} {w : World} {a : Option Addr} {n ca : Nat} {xs : List Int} (h : FarO B w a n ca xs) : FarIA B w a n xs := FI.far h
end Go.Proofs.YtibabgokmacnaaaGreat
end
