/- a block that is filled anew, cell by cell. By an AI agent. -/
import Derived.Test.YtdkfgoaogmjjfaaVecQ
namespace Go.Proofs.Ytdkfgoaogmjjfaa
open Go.RowKit

/-- the cells of block g from j on are set anew -/
def fill (w : World) (g : Nat) : Nat → List Value → World
  | _, [] => w
  | j, v :: vs => fill (w.setCell ⟨g, j, none⟩ v) g (j + 1) vs
theorem AC.fillFrom (vs : List Value) : ∀ (w : World) (g j : Nat) (cs ds : List Value), AC w g (ds ++ cs) → ds.length = j → cs.length = vs.length → AC (fill w g j vs) g (ds ++ vs) := by
  induction vs with
  | nil =>
    intro w g j cs ds h _ hl
    obtain rfl : cs = [] := List.eq_nil_of_length_eq_zero hl
    exact h
  | cons v vs ih =>
    intro w g j cs ds h hj hl
    cases cs with
    | nil => cases hl
    | cons c cs =>
      have h1 := h.setj j v
      have e : (ds ++ c :: cs).set j v = (ds ++ [v]) ++ cs := by
        subst hj
        rw [List.set_append_right _ _ (Nat.le_refl _)]
        simp
      rw [e] at h1
      have := ih (w.setCell ⟨g, j, none⟩ v) g (j + 1) cs (ds ++ [v]) h1 (by simp [hj]) (by simpa using hl)
      simpa [fill] using this
theorem AC.fill {w : World} {g : Nat} {cs : List Value} (h : AC w g cs) (vs : List Value) (hl : cs.length = vs.length) : AC (fill w g 0 vs) g vs :=
  AC.fillFrom vs w g 0 cs [] h rfl hl
theorem Bl.fill {w : World} {g : Nat} (hg : w.heap.size ≤ g) (vs : List Value) : ∀ (W : World) (j : Nat), Bl w W → Bl w (fill W g j vs) := by
  induction vs with
  | nil => intro W j h; exact h
  | cons v vs ih => intro W j h; exact ih _ _ (h.setCell (p := ⟨g, j, none⟩) hg v)
theorem AC.fillOther {g g' : Nat} {cs : List Value} (hn : g ≠ g') (vs : List Value) : ∀ (w : World) (j : Nat), AC w g cs → AC (Go.Proofs.Ytdkfgoaogmjjfaa.fill w g' j vs) g cs := by
  induction vs with
  | nil => intro w j h; exact h
  | cons v vs ih => intro w j h; exact ih _ _ (h.other hn)
theorem FarIA.fill {B : Nat} {a : Option Addr} {n : Nat} {xs : List Int} {q : Nat} (hq : q < B) (vs : List Value) : ∀ (w : World) (j : Nat), FarIA B w a n xs → FarIA B (Go.Proofs.Ytdkfgoaogmjjfaa.fill w q j vs) a n xs := by
  induction vs with
  | nil => intro w j h; exact h
  | cons v vs ih => intro w j h; exact ih _ _ (h.set hq j v)
theorem C1.fillOther {g g' : Nat} {v : Value} (hn : g ≠ g') (vs : List Value) : ∀ (w : World) (j : Nat), C1 w g v → C1 (Go.Proofs.Ytdkfgoaogmjjfaa.fill w g' j vs) g v := by
  induction vs with
  | nil => intro w j h; exact h
  | cons u vs ih => intro w j h; exact ih _ _ (h.otherj hn)
theorem IA.apart {w : World} {a : Option Addr} {n : Nat} {xs : List Int} (h : IA w a n xs) {q : Nat} (hq : ∀ b off, a = some ⟨b, off, none⟩ → n = 0 ∨ b ≠ q) (j : Nat) (u : Value) : IA (w.setCell ⟨q, j, none⟩ u) a n xs := by
  refine ⟨h.len, h.cap, fun i hi => ?_, h.wf⟩
  obtain ⟨b, off, e, hc⟩ := h.cells i hi
  refine ⟨b, off, e, fun i hi => ?_⟩
  have hne : b ≠ q := by
    have := hq b off e
    omega
  rw [← hc i hi]
  unfold World.cell?
  rw [Below.heap_setCell _ _ _ _ hne]
theorem IA.fillApart {a : Option Addr} {n : Nat} {xs : List Int} {q : Nat} (hq : ∀ b off, a = some ⟨b, off, none⟩ → n = 0 ∨ b ≠ q) (vs : List Value) : ∀ (w : World) (j : Nat), IA w a n xs → IA (fill w q j vs) a n xs := by
  induction vs with
  | nil => intro w j h; exact h
  | cons v vs ih => intro w j h; exact ih _ _ (h.apart hq j v)
theorem IA.block {w : World} {a : Option Addr} {n : Nat} {xs : List Int} (h : IA w a n xs) : ∀ b off, a = some ⟨b, off, none⟩ → n = 0 ∨ b < w.heap.size := by
  intro b off e
  by_cases hn : n = 0
  · exact .inl hn
  · obtain ⟨b', off', e', hc⟩ := h.cells 0 (by omega)
    rw [e] at e'
    cases e'
    exact .inr (World.block_lt_of_cell? _ _ (hc 0 (by omega)))
end Go.Proofs.Ytdkfgoaogmjjfaa
