/- the order of numbers by their keys: plain facts. By an AI agent. -/
import Derived.Test.YtafoagllbajfnaaDoorReal3
namespace Go.Proofs.YtafoagllbajfnaaDoor
open Go.RowKit

structure Ord3 (ka kb kc : Nat) (x y z : Int) : Prop where
  x1 : -1 ≤ x
  x2 : x ≤ 1
  y1 : -1 ≤ y
  y2 : y ≤ 1
  z1 : -1 ≤ z
  z2 : z ≤ 1
  le : x ≤ 0 → y ≤ 0 → z ≤ 0
  lt : x < 0 → y < 0 → z < 0
  eq : x = 0 ↔ ka = kb
  ne : x < 0 ↔ ka < kb
theorem ord3 (ka kb kc : Nat) : Ord3 ka kb kc (cmpN ka kb) (cmpN kb kc) (cmpN ka kc) := by
  constructor <;> (unfold cmpN; repeat' split) <;> omega
theorem cmp_turn (ka kb : Nat) : cmpN kb ka = -cmpN ka kb := by
  unfold cmpN; (repeat' split) <;> omega
theorem key_pos {x : Nat} (hx : x < two64) (h : nanB x = false) : 0 < fkey x := by
  have := fun e => fkey_zero' hx e
  rcases Nat.eq_zero_or_pos (fkey x) with e | e
  · rw [this e] at h; cases h
  · exact e
theorem key_nan {x : Nat} (h : nanB x = true) : fkey x = 0 := by unfold fkey; rw [h]; rfl

/-! ### the greatest and the least of three -/
theorem same_max3 (a b c : Nat) : fkey (rmax a (rmax b c)) = fkey (rmax (rmax c a) b) := by
  simp only [rmax_key']; omega
theorem same_min3 (a b c : Nat) : fkey (rmin a (rmin b c)) = fkey (rmin (rmin c a) b) := by
  simp only [rmin_key]; omega
theorem same_max_self (a : Nat) : fkey (rmax a a) = fkey a := by simp only [rmax_key']; omega
theorem max3_one (a b c : Nat) : fkey (rmax a (rmax b c)) = fkey a ∨ fkey (rmax a (rmax b c)) = fkey b ∨ fkey (rmax a (rmax b c)) = fkey c := by
  simp only [rmax_key']; omega
theorem min_le_max3 (a b c : Nat) : cmpN (fkey (rmin a (rmin b c))) (fkey (rmax a (rmax b c))) ≤ 0 := by
  unfold cmpN; simp only [rmax_key', rmin_key]; (repeat' split) <;> omega
theorem max_min_self (a b : Nat) : fkey (rmax a (rmin a b)) = fkey a := by simp only [rmax_key', rmin_key]; omega
theorem max_nan (a x : Nat) (h : nanB x = true) : fkey (rmax a x) = fkey a := by simp only [rmax_key', key_nan h]; omega

/-! ### the other sign -/
/-- the number with the other sign -/
def negW (x : Nat) : Nat := if two63 ≤ x then x - two63 else x + two63
theorem negW_lt {x : Nat} (hx : x < two64) : negW x < two64 := by unfold negW two63 two64 at *; split <;> omega
theorem negW_mod {x : Nat} (hx : x < two64) : negW x % two63 = x % two63 := by unfold negW two63 two64 at *; split <;> omega
theorem negW_nan {x : Nat} (hx : x < two64) : nanB (negW x) = nanB x := by unfold nanB; rw [negW_mod hx]
theorem negW_key {x : Nat} (hx : x < two64) (h : nanB x = false) : fkey (negW x) = two64 - 1 - fkey x := by
  rw [fkey_num h, fkey_num (by rw [negW_nan hx]; exact h)]
  unfold negW two63 two64 at *
  split <;> split <;> omega
theorem neg_cmp {x y : Nat} (hx : x < two64) (hy : y < two64) (nx : nanB x = false) (ny : nanB y = false) : cmpN (fkey (negW x)) (fkey (negW y)) = cmpN (fkey y) (fkey x) := by
  rw [negW_key hx nx, negW_key hy ny]
  have h1 := fkey_lt hx
  have h2 := fkey_lt hy
  unfold cmpN
  (repeat' split) <;> omega
theorem rmax_or (x y : Nat) : rmax x y = x ∨ rmax x y = y := by unfold rmax; split <;> simp
theorem rmin_or (x y : Nat) : rmin x y = x ∨ rmin x y = y := by unfold rmin; split <;> simp
theorem min_neg {x y : Nat} (hx : x < two64) (hy : y < two64) (nx : nanB x = false) (ny : nanB y = false) : fkey (rmin x y) = fkey (negW (rmax (negW x) (negW y))) := by
  have hm : rmax (negW x) (negW y) < two64 := rmax_lt' (negW_lt hx) (negW_lt hy)
  have nm : nanB (rmax (negW x) (negW y)) = false := by
    rcases rmax_or (negW x) (negW y) with h | h <;> rw [h]
    · rw [negW_nan hx]; exact nx
    · rw [negW_nan hy]; exact ny
  have h1 := fkey_lt hx
  have h2 := fkey_lt hy
  rw [negW_key hm nm, rmax_key', rmin_key, negW_key hx nx, negW_key hy ny]
  omega
end Go.Proofs.YtafoagllbajfnaaDoor
