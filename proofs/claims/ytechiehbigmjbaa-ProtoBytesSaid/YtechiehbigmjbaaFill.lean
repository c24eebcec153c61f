/- a block that is filled anew, cell by cell. By an AI agent. -/
import Derived.Test.YtechiehbigmjbaaVecQ
namespace Go.Proofs.Ytechiehbigmjbaa
open Go.RowKit

/-- the cells of block g from j on are set anew -/
def fill (w : World) (g : Nat) : Nat → List Value → World
  | _, [] => w
  | j, v :: vs => fill (w.setCell ⟨g, j, none⟩ v) g (j + 1) vs
theorem AC.fillFrom (vs : List Value) : ∀ (w : World) (g j : Nat) (cs ds : List Value), AC w g (ds ++ cs) → ds.length = j → cs.length = vs.length → AC (fill w g j vs) g (ds ++ vs) := by
  induction vs with
  | nil =>
    intro w g j cs ds h _ hl
    obtain rfl : cs = [] := List.eq_nil_of_length_eq_zero hl
    exact h
  | cons v vs ih =>
    intro w g j cs ds h hj hl
    cases cs with
    | nil => cases hl
    | cons c cs =>
      have h1 := h.setj j v
      have e : (ds ++ c :: cs).set j v = (ds ++ [v]) ++ cs := by
        subst hj
        rw [List.set_append_right _ _ (Nat.le_refl _)]
        simp
      rw [e] at h1
      have := ih (w.setCell ⟨g, j, none⟩ v) g (j + 1) cs (ds ++ [v]) h1 (by simp [hj]) (by simpa using hl)
      simpa [fill] using this
theorem AC.fill {w : World} {g : Nat} {cs : List Value} (h : AC w g cs) (vs : List Value) (hl : cs.length = vs.length) : AC (fill w g 0 vs) g vs :=
  AC.fillFrom vs w g 0 cs [] h rfl hl
theorem Bl.fill {w : World} {g : Nat} (hg : w.heap.size ≤ g) (vs : List Value) : ∀ (W : World) (j : Nat), Bl w W → Bl w (fill W g j vs) := by
  induction vs with
  | nil => intro W j h; exact h
  | cons v vs ih => intro W j h; exact ih _ _ (h.setCell (p := ⟨g, j, none⟩) hg v)
theorem AC.fillOther {g g' : Nat} {cs : List Value} (hn : g ≠ g') (vs : List Value) : ∀ (w : World) (j : Nat), AC w g cs → AC (Go.Proofs.Ytechiehbigmjbaa.fill w g' j vs) g cs := by
  induction vs with
  | nil => intro w j h; exact h
  | cons v vs ih => intro w j h; exact ih _ _ (h.other hn)
theorem FarIA.fill {B : Nat} {a : Option Addr} {n : Nat} {xs : List Int} {q : Nat} (hq : q < B) (vs : List Value) : ∀ (w : World) (j : Nat), FarIA B w a n xs → FarIA B (Go.Proofs.Ytechiehbigmjbaa.fill w q j vs) a n xs := by
  induction vs with
  | nil => intro w j h; exact h
  | cons v vs ih => intro w j h; exact ih _ _ (h.set hq j v)
theorem C1.fillOther {g g' : Nat} {v : Value} (hn : g ≠ g') (vs : List Value) : ∀ (w : World) (j : Nat), C1 w g v → C1 (Go.Proofs.Ytechiehbigmjbaa.fill w g' j vs) g v := by
  induction vs with
  | nil => intro w j h; exact h
  | cons u vs ih => intro w j h; exact ih _ _ (h.otherj hn)
end Go.Proofs.Ytechiehbigmjbaa
