/- The document's own answer to chapter 2: bytes and keys in halves; plain facts. By an AI agent. -/
import Derived.Test.YtgdlcoicejgdkaaDoorRefN
import Derived.Test.YtgdlcoicejgdkaaDoorGetR
namespace Go.Proofs.YtgdlcoicejgdkaaDoor
open Go.RowKit Ieee

/-- the halves of a number's key -/
def keyH (x : Nat) : Nat := fkey x / 4294967296
def keyL (x : Nat) : Nat := fkey x % 4294967296
theorem keyH_lt {x : Nat} (hx : x < two64) : keyH x < 4294967296 := by
  have := fkey_lt hx
  unfold keyH; unfold two64 at this; omega
theorem keyL_lt (x : Nat) : keyL x < 4294967296 := by unfold keyL; omega
theorem key_nan {x : Nat} (h : nanB x = true) : keyH x = 0 ∧ keyL x = 0 := by
  have : fkey x = 0 := by unfold fkey; rw [h]; rfl
  unfold keyH keyL; rw [this]; exact ⟨rfl, rfl⟩
theorem key_neg {x : Nat} (h : nanB x = false) (hx : x < two64) (k : 2147483648 ≤ x / 4294967296) : keyH x = 4294967295 - x / 4294967296 ∧ keyL x = 4294967295 - x % 4294967296 := by
  have e := fkey_num h
  unfold two63 at e
  rw [if_pos (by omega)] at e
  unfold keyH keyL
  rw [e]
  unfold two64 at *
  omega
theorem key_pos {x : Nat} (h : nanB x = false) (k : ¬ 2147483648 ≤ x / 4294967296) : keyH x = x / 4294967296 + 2147483648 ∧ keyL x = x % 4294967296 := by
  have e := fkey_num h
  unfold two63 at e
  rw [if_neg (by omega)] at e
  unfold keyH keyL
  rw [e]
  omega
theorem key_order (x y : Nat) : cmpN (fkey x) (fkey y) = if keyH x < keyH y ∨ (keyH x = keyH y ∧ keyL x < keyL y) then -1 else if keyH y < keyH x ∨ keyL y < keyL x then 1 else 0 := by
  have h1 : fkey x < fkey y ↔ (keyH x < keyH y ∨ (keyH x = keyH y ∧ keyL x < keyL y)) := by unfold keyH keyL; omega
  have h2 : ¬ fkey x < fkey y → (fkey y < fkey x ↔ (keyH y < keyH x ∨ keyL y < keyL x)) := by unfold keyH keyL; omega
  unfold cmpN
  by_cases h : fkey x < fkey y
  · rw [if_pos h, if_pos (h1.1 h)]
  · rw [if_neg h, if_neg (fun k => h (h1.2 k))]
    by_cases h3 : fkey y < fkey x
    · rw [if_pos h3, if_pos ((h2 h).1 h3)]
    · rw [if_neg h3, if_neg (fun k => h3 ((h2 h).2 k))]
theorem key_same (x y : Nat) : fkey x = fkey y ↔ keyH x = keyH y ∧ keyL x = keyL y := by unfold keyH keyL; omega

/-- eight bytes in two halves -/
theorem put_halves (x : Nat) : putN (keyH x : Int) 4 4 ++ putN (keyL x : Int) 4 4 = putN (fkey x : Int) 8 8 := by
  unfold keyH keyL
  generalize fkey x = u
  simp only [putN, byteAt, List.range_succ, List.range_zero, List.map_nil, List.map_cons, List.nil_append, List.cons_append]
  simp
  omega
theorem str_append (a b : List Int) : strOfNums a ++ strOfNums b = strOfNums (a ++ b) := by
  have h : SB (strOfNums a ++ strOfNums b) (strOfNums (a ++ b)).data.toList := by
    rw [SB]; simp [strOfNums]
  exact h.eq rfl
theorem getN_append (l m : List UInt8) (h : m.length = 4) : getN (l ++ m) = getN l * 4294967296 + getN m := by
  match m, h with
  | [a, b, c, d], _ =>
    simp only [getN, List.foldl_append, List.foldl_cons, List.foldl_nil]
    omega
end Go.Proofs.YtgdlcoicejgdkaaDoor
