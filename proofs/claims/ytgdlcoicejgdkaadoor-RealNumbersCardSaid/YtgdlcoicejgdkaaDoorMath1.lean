/- math/bits.TrailingZeros64, Len64; math.Abs, IsInf, IsNaN. By an AI agent. -/
import Derived.Test.YtgdlcoicejgdkaaDoorReal3
import Derived.Test.YtgdlcoicejgdkaaDoorNear
import Derived.Shelf.Spec.TrailingZeros
import Derived.Shelf.Strconv.Itoa0
import Derived.Laws.BitsAllLaws
namespace Go.Proofs.YtgdlcoicejgdkaaDoor
open Go.RowKit

/-- the library's table -/
def Tab (w : World) : Prop := TabAt 1 Lib.deBruijn64tab w
theorem Tab.keep {w w' : World} (h : Tab w) (hb : Bl w w') : Tab w' := fun j hj => hb.cell (h j hj)

set_option maxHeartbeats 1000000 in
theorem tz_core (x k idx : Nat) (w : World) (hx0 : ((x : Int) == 0) = false)
    (key : IntKind.u64.wrap (bits BinOp.and IntKind.u64 (x : Int) (IntKind.u64.wrap (-(x : Int))) * 285870213051353865) / 288230376151711744 = (idx : Int))
    (hi : idx < 64) (hk : k < 64) (hcell : w.cell? ⟨1, idx, none⟩ = some (.int .u8 k)) :
    Calls Tryd.prog 131 #[.int .u64 x] w fun e w' => e = .returned (.int .i64 k) ∧ w = w' := by
  go_enter Tryd.func131, Tryd.ntmps131
  go_wp2_with (simp only [key])
  go_ret
  exact ⟨rfl, rfl⟩
theorem tz_any (x : Nat) (hx : x < two64) (hx0 : x ≠ 0) (w : World) (hT : Tab w) :
    Calls Tryd.prog 131 #[.int .u64 x] w fun e w' => e = .returned (.int .i64 (Lib.ctz 64 x)) ∧ w = w' := by
  obtain ⟨hlow, hk⟩ := Lib.lowest_bit 64 x hx0 hx
  obtain ⟨hi, htab⟩ := Lib.deBruijn64_at _ hk
  have hcell := hT _ hi
  rw [htab] at hcell
  exact tz_core x _ _ w (by simp; omega) (tz64_key x _ hx hx0 hlow) hi hk hcell

theorem abs_bits (x : Nat) (hx : x < two64) : bits .andNot .u64 (x : Int) 9223372036854775808 = ((x % two63 : Nat) : Int) := by
  rw [show (9223372036854775808 : Int) = ((9223372036854775808 : Nat) : Int) from rfl, u64_andNot_nat x _ hx (by decide)]
  congr 1
  exact Nat.and_two_pow_sub_one_eq_mod x 63
theorem abs_any (x : Nat) (w : World) (hx : x < two64) : Calls Tryd.prog 138 #[.float .f64 x] w fun e w' => e = .returned (.float .f64 (x % two63)) ∧ w = w' := by
  have hrb := run_bits x
  have hfb := run_frombits
  have ha := abs_bits x hx
  go_enter Tryd.func138, Tryd.ntmps138
  go_wp2_with fail
  go_ret
  exact ⟨rfl, rfl⟩
theorem isNaN_any (x : Nat) (w : World) (hx : x < two64) : Calls Tryd.prog 156 #[.float .f64 x] w fun e w' => e = .returned (.bool (nanB x)) ∧ w = w' := by
  have hn : (FloatKind.f64.format.order x x != some .eq) = nanB x := self_nan hx
  go_enter Tryd.func156, Tryd.ntmps156
  go_wp2_with fail
  go_ret
  exact ⟨rfl, rfl⟩

/-- the order of words without a sign -/
theorem order_pos {x y : Nat} (hx : x < two63) (hy : y < two63) (nx : nanB x = false) (ny : nanB y = false) : FloatKind.f64.format.order x y = some (compare x y) := by
  have e : FloatKind.f64.format.order x y = some (compare (sval x) (sval y)) := order_eq (by unfold two63 two64 at *; omega) (by unfold two63 two64 at *; omega) nx ny
  rw [e]
  congr 1
  have s1 : sval x = (uval x : Int) := by rw [sval, if_neg (by omega), Nat.mod_eq_of_lt hx]
  have s2 : sval y = (uval y : Int) := by rw [sval, if_neg (by omega), Nat.mod_eq_of_lt hy]
  rw [s1, s2]
  rcases Nat.lt_trichotomy x y with h | h | h
  · rw [Nat.compare_eq_lt.2 h, Int.compare_eq_lt.2 (by have := uval_lt h; omega)]
  · subst h; simp
  · rw [Nat.compare_eq_gt.2 h, Int.compare_eq_gt.2 (by have := uval_lt h; omega)]
theorem nan_mod (x : Nat) : nanB (x % two63) = nanB x := by
  unfold nanB; rw [Nat.mod_mod]
theorem nan_small {x : Nat} (h : x ≤ infR) : nanB x = false := by
  unfold nanB
  rw [Nat.mod_eq_of_lt (by unfold infR two63 at *; omega)]
  exact decide_eq_false (by omega)
/-- is it an infinity, of any sign? -/
def infB (x : Nat) : Bool := decide (x % two63 = infR)
theorem inf_order (x : Nat) : (FloatKind.f64.format.order (x % two63) 9218868437227405311 == some .gt) = infB x := by
  have hlt : x % two63 < two63 := Nat.mod_lt _ (by decide)
  cases hn : nanB x
  · have h2 : x % two63 ≤ infR := by simpa [nanB] using hn
    rw [order_pos hlt (by decide) (by rw [nan_mod]; exact hn) (by decide)]
    unfold infB
    by_cases h : x % two63 = infR
    · rw [h]; decide
    · rw [decide_eq_false h]
      rcases Nat.lt_or_eq_of_le (show x % two63 ≤ 9218868437227405311 by unfold infR at *; omega) with h3 | h3
      · rw [Nat.compare_eq_lt.2 h3]; rfl
      · rw [h3]; decide
  · have : FloatKind.f64.format.order (x % two63) 9218868437227405311 = none := order_nan (.inl (by rw [nan_mod]; exact hn))
    rw [this]
    have h2 : infR < x % two63 := by simpa [nanB] using hn
    unfold infB
    rw [decide_eq_false (by omega)]; rfl
theorem isInf_any (x : Nat) (w : World) (hx : x < two64) : Calls Tryd.prog 106 #[.float .f64 x, .int .i64 0] w fun e w' => e = .returned (.bool (infB x)) ∧ w = w' := by
  have hn := inf_order x
  go_enter Tryd.func106, Tryd.ntmps106
  go_wp2_with fail
  refine (abs_any x _ hx).mono ?_
  rintro e w' ⟨rfl, rfl⟩
  go_wp2_with fail
  go_ret
  exact ⟨rfl, rfl⟩
end Go.Proofs.YtgdlcoicejgdkaaDoor
