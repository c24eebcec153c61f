/- math/bits.TrailingZeros64, Len64; math.Abs, IsInf, IsNaN. · math.normalize, Frexp. · math.Ldexp of a normal number. By an AI agent. -/
import Derived.Test.YtgdlcoicejgdkaaDoorReal3
import Derived.Test.YtgdlcoicejgdkaaDoorNear
import Derived.Shelf.Spec.TrailingZeros
import Derived.Shelf.Strconv.Itoa0
import Derived.Laws.BitsAllLaws
import Derived.Laws.FloatArith
import Derived.IntWalk
import Derived.Outline
namespace Go.Proofs.YtgdlcoicejgdkaaDoor
open Go.RowKit

/-- the library's table -/
def Tab (w : World) : Prop := TabAt 1 Lib.deBruijn64tab w
theorem Tab.keep {w w' : World} (h : Tab w) (hb : Bl w w') : Tab w' := fun j hj => hb.cell (h j hj)

set_option maxHeartbeats 1000000 in
theorem tz_core (x k idx : Nat) (w : World) (hx0 : ((x : Int) == 0) = false)
    (key : IntKind.u64.wrap (bits BinOp.and IntKind.u64 (x : Int) (IntKind.u64.wrap (-(x : Int))) * 285870213051353865) / 288230376151711744 = (idx : Int))
    (hi : idx < 64) (hk : k < 64) (hcell : w.cell? ⟨1, idx, none⟩ = some (.int .u8 k)) :
    Calls Tryd.prog 131 #[.int .u64 x] w fun e w' => e = .returned (.int .i64 k) ∧ w = w' := by
  go_enter Tryd.func131, Tryd.ntmps131
  go_wp2_with (simp only [key])
  go_ret
  exact ⟨rfl, rfl⟩
theorem tz_any (x : Nat) (hx : x < two64) (hx0 : x ≠ 0) (w : World) (hT : Tab w) :
    Calls Tryd.prog 131 #[.int .u64 x] w fun e w' => e = .returned (.int .i64 (Lib.ctz 64 x)) ∧ w = w' := by
  obtain ⟨hlow, hk⟩ := Lib.lowest_bit 64 x hx0 hx
  obtain ⟨hi, htab⟩ := Lib.deBruijn64_at _ hk
  have hcell := hT _ hi
  rw [htab] at hcell
  exact tz_core x _ _ w (by simp; omega) (tz64_key x _ hx hx0 hlow) hi hk hcell

theorem abs_bits (x : Nat) (hx : x < two64) : bits .andNot .u64 (x : Int) 9223372036854775808 = ((x % two63 : Nat) : Int) := by
  rw [show (9223372036854775808 : Int) = ((9223372036854775808 : Nat) : Int) from rfl, u64_andNot_nat x _ hx (by decide)]
  congr 1
  exact Nat.and_two_pow_sub_one_eq_mod x 63
theorem abs_any (x : Nat) (w : World) (hx : x < two64) : Calls Tryd.prog 138 #[.float .f64 x] w fun e w' => e = .returned (.float .f64 (x % two63)) ∧ w = w' := by
  have hrb := run_bits x
  have hfb := run_frombits
  have ha := abs_bits x hx
  go_enter Tryd.func138, Tryd.ntmps138
  go_wp2_with fail
  go_ret
  exact ⟨rfl, rfl⟩
theorem isNaN_any (x : Nat) (w : World) (hx : x < two64) : Calls Tryd.prog 156 #[.float .f64 x] w fun e w' => e = .returned (.bool (nanB x)) ∧ w = w' := by
  have hn : (FloatKind.f64.format.order x x != some .eq) = nanB x := self_nan hx
  go_enter Tryd.func156, Tryd.ntmps156
  go_wp2_with fail
  go_ret
  exact ⟨rfl, rfl⟩

/-- the order of words without a sign -/
theorem order_pos {x y : Nat} (hx : x < two63) (hy : y < two63) (nx : nanB x = false) (ny : nanB y = false) : FloatKind.f64.format.order x y = some (compare x y) := by
  have e : FloatKind.f64.format.order x y = some (compare (sval x) (sval y)) := order_eq (by unfold two63 two64 at *; omega) (by unfold two63 two64 at *; omega) nx ny
  rw [e]
  congr 1
  have s1 : sval x = (uval x : Int) := by rw [sval, if_neg (by omega), Nat.mod_eq_of_lt hx]
  have s2 : sval y = (uval y : Int) := by rw [sval, if_neg (by omega), Nat.mod_eq_of_lt hy]
  rw [s1, s2]
  rcases Nat.lt_trichotomy x y with h | h | h
  · rw [Nat.compare_eq_lt.2 h, Int.compare_eq_lt.2 (by have := uval_lt h; omega)]
  · subst h; simp
  · rw [Nat.compare_eq_gt.2 h, Int.compare_eq_gt.2 (by have := uval_lt h; omega)]
theorem nan_mod (x : Nat) : nanB (x % two63) = nanB x := by
  unfold nanB; rw [Nat.mod_mod]
theorem nan_small {x : Nat} (h : x ≤ infR) : nanB x = false := by
  unfold nanB
  rw [Nat.mod_eq_of_lt (by unfold infR two63 at *; omega)]
  exact decide_eq_false (by omega)
/-- is it an infinity, of any sign? -/
def infB (x : Nat) : Bool := decide (x % two63 = infR)
theorem inf_order (x : Nat) : (FloatKind.f64.format.order (x % two63) 9218868437227405311 == some .gt) = infB x := by
  have hlt : x % two63 < two63 := Nat.mod_lt _ (by decide)
  cases hn : nanB x
  · have h2 : x % two63 ≤ infR := by simpa [nanB] using hn
    rw [order_pos hlt (by decide) (by rw [nan_mod]; exact hn) (by decide)]
    unfold infB
    by_cases h : x % two63 = infR
    · rw [h]; decide
    · rw [decide_eq_false h]
      rcases Nat.lt_or_eq_of_le (show x % two63 ≤ 9218868437227405311 by unfold infR at *; omega) with h3 | h3
      · rw [Nat.compare_eq_lt.2 h3]; rfl
      · rw [h3]; decide
  · have : FloatKind.f64.format.order (x % two63) 9218868437227405311 = none := order_nan (.inl (by rw [nan_mod]; exact hn))
    rw [this]
    have h2 : infR < x % two63 := by simpa [nanB] using hn
    unfold infB
    rw [decide_eq_false (by omega)]; rfl
theorem isInf_any (x : Nat) (w : World) (hx : x < two64) : Calls Tryd.prog 106 #[.float .f64 x, .int .i64 0] w fun e w' => e = .returned (.bool (infB x)) ∧ w = w' := by
  have hn := inf_order x
  go_enter Tryd.func106, Tryd.ntmps106
  go_wp2_with fail
  refine (abs_any x _ hx).mono ?_
  rintro e w' ⟨rfl, rfl⟩
  go_wp2_with fail
  go_ret
  exact ⟨rfl, rfl⟩
end Go.Proofs.YtgdlcoicejgdkaaDoor

namespace Go.Proofs.YtgdlcoicejgdkaaDoor
open Go.RowKit Ieee

/-- a rung's 53 digits, and their place -/
def normS (r : Nat) : Nat := if r < two52 then r * 2 ^ (52 - r.log2) else two52 + r % two52
def normP (r : Nat) : Int := if r < two52 then (r.log2 : Int) - 1126 else ((r / two52 : Nat) : Int) - 1075

theorem log2_sub {r : Nat} (h0 : r ≠ 0) (h : r < two52) : r.log2 < 52 := (Nat.log2_lt h0).2 h
theorem normS_ge {r : Nat} (h0 : r ≠ 0) : two52 ≤ normS r := by
  unfold normS
  split
  · rename_i h
    have hl := log2_sub h0 h
    calc two52 = 2 ^ r.log2 * 2 ^ (52 - r.log2) := by rw [← Nat.pow_add, show r.log2 + (52 - r.log2) = 52 by omega]; rfl
      _ ≤ r * 2 ^ (52 - r.log2) := Nat.mul_le_mul_right _ (Nat.log2_self_le h0)
  · exact Nat.le_add_right _ _
theorem normS_lt {r : Nat} (h0 : r ≠ 0) : normS r < 2 * two52 := by
  unfold normS
  split
  · rename_i h
    have hl := log2_sub h0 h
    calc r * 2 ^ (52 - r.log2) < 2 ^ (r.log2 + 1) * 2 ^ (52 - r.log2) := Nat.mul_lt_mul_of_pos_right Nat.lt_log2_self (Nat.two_pow_pos _)
      _ = 2 * two52 := by rw [← Nat.pow_add, show r.log2 + 1 + (52 - r.log2) = 53 by omega]; rfl
  · have : r % two52 < two52 := Nat.mod_lt _ (by decide)
    omega

/-- the normal word of a rung that is small: times 2^52 -/
theorem sub_word {r : Nat} (h0 : r ≠ 0) (h : r < two52) : rung r (-1022) = (r.log2 + 1) * two52 + (normS r - two52) := by
  have hl := log2_sub h0 h
  have e := rung_shift r (52 - r.log2) (-1022 - ((52 - r.log2 : Nat) : Int))
  rw [show (-1022 - ((52 - r.log2 : Nat) : Int)) + ((52 - r.log2 : Nat) : Int) = -1022 by omega] at e
  rw [← e]
  have hs : r * 2 ^ (52 - r.log2) = normS r := by rw [normS, if_pos h]
  have h1 := normS_ge h0
  have h2 := normS_lt h0
  rw [hs, rung_exact h1 h2 (by omega) (by omega)]
  have e2 : (-1022 - ((52 - r.log2 : Nat) : Int) + 1074).toNat = r.log2 := by omega
  rw [e2, Nat.succ_mul]
  omega

theorem read_small {r : Nat} (h : r < two52) : Ieee.double.read r = .number false r (-1074) := by
  have hm : r % two63 = r := Nat.mod_eq_of_lt (by unfold two52 two63 at *; omega)
  have hn : r / two63 % 2 = 0 := by rw [Nat.div_eq_of_lt (by unfold two52 two63 at *; omega)]
  unfold Format.read
  rw [d_signWeight, d_binade, d_infRung, d_leastPlace]
  simp only [hm, hn]
  rw [if_pos h]
  rfl
theorem read_normal {r : Nat} (h1 : two52 ≤ r) (h2 : r < infR) : Ieee.double.read r = .number false (two52 + r % two52) (((r / two52 : Nat) : Int) - 1075) := by
  have hm : r % two63 = r := Nat.mod_eq_of_lt (by unfold infR two63 at *; omega)
  have hn : r / two63 % 2 = 0 := by rw [Nat.div_eq_of_lt (by unfold infR two63 at *; omega)]
  unfold Format.read
  rw [d_signWeight, d_binade, d_infRung, d_leastPlace]
  simp only [hm, hn]
  rw [if_neg (by omega), if_pos h2]
  have hq : 1 ≤ r / two52 := by rw [Nat.le_div_iff_mul_le (by decide)]; omega
  have e : (-1074 : Int) + ((r / two52 - 1 : Nat) : Int) = ((r / two52 : Nat) : Int) - 1075 := by omega
  rw [e]
  rfl
theorem mul_of {x y m n : Nat} {i j : Int} (hx : Ieee.double.read x = .number false m i) (hy : Ieee.double.read y = .number false n j) : floatBits .mul .f64 x y = some (rung (m * n) (i + j)) := by
  show Ieee.double.mul x y = _
  unfold Format.mul
  rw [hx, hy]
  simp only [Datum.product, Option.map_some]
  congr 1
  show Ieee.double.nearest _ _ _ = _
  rw [nearest_rung]
  simp
theorem mul_sub {r : Nat} (h0 : r ≠ 0) (h : r < two52) : floatBits .mul .f64 r 4841369599423283200 = some ((r.log2 + 1) * two52 + (normS r - two52)) := by
  rw [mul_of (read_small h) (show Ieee.double.read 4841369599423283200 = .number false two52 0 from by decide +kernel), ← sub_word h0 h]
  congr 1
  have e := rung_shift r 52 (-1074)
  rw [show two52 = 2 ^ 52 from by decide]
  exact e

theorem pos_nan {r : Nat} (h : r < infR) : nanB r = false := nan_small (Nat.le_of_lt h)
theorem eq_zero_no {r : Nat} (h0 : r ≠ 0) (h : r < infR) : (FloatKind.f64.format.order r 0 == some .eq) = false := by
  rw [order_pos (by unfold infR two63 at *; omega) (by decide) (pos_nan h) (by decide), Nat.compare_eq_gt.2 (by omega)]
  rfl
theorem norm_lt {r : Nat} (h : r < infR) : (FloatKind.f64.format.order r 4503599627370496 == some .lt) = decide (r < two52) := by
  rw [order_pos (by unfold infR two63 at *; omega) (by decide) (pos_nan h) (by decide)]
  show (some (compare r two52) == some Ordering.lt) = decide (r < two52)
  by_cases h1 : r < two52
  · rw [Nat.compare_eq_lt.2 h1, decide_eq_true h1]; rfl
  · rw [decide_eq_false h1]
    rcases Nat.lt_or_eq_of_le (show two52 ≤ r by omega) with h2 | h2
    · rw [Nat.compare_eq_gt.2 h2]; rfl
    · rw [← h2]; decide

/-- the word of a normal number with the same digits -/
def normW (r : Nat) : Nat := if r < two52 then (r.log2 + 1) * two52 + (normS r - two52) else r
theorem normW_parts {r : Nat} (h0 : r ≠ 0) (h : r < infR) : two52 ≤ normW r ∧ normW r < infR ∧ normW r % two52 = normS r - two52 ∧ ((normW r / two52 : Nat) : Int) + (if r < two52 then -52 else 0) = normP r + 1075 := by
  have h1 := normS_ge h0
  have h2 := normS_lt h0
  unfold normW normP
  by_cases hs : r < two52
  · have hl := log2_sub h0 hs
    rw [if_pos hs, if_pos hs, if_pos hs]
    have hp : 0 < two52 := by decide
    have hd : ((r.log2 + 1) * two52 + (normS r - two52)) / two52 = r.log2 + 1 := by
      rw [Nat.add_comm, Nat.add_mul_div_right _ _ hp, Nat.div_eq_of_lt (by omega)]; omega
    have hm : ((r.log2 + 1) * two52 + (normS r - two52)) % two52 = normS r - two52 := by
      rw [Nat.add_comm, Nat.add_mul_mod_self_right, Nat.mod_eq_of_lt (by omega)]
    have hb : (r.log2 + 1) * two52 ≤ 52 * two52 := Nat.mul_le_mul_right _ (by omega)
    have hb2 : 1 * two52 ≤ (r.log2 + 1) * two52 := Nat.mul_le_mul_right _ (by omega)
    refine ⟨by omega, ?_, hm, by rw [hd]; omega⟩
    have : 53 * two52 < infR := by decide
    omega
  · rw [if_neg hs, if_neg hs, if_neg hs]
    refine ⟨by omega, h, ?_, by omega⟩
    unfold normS
    rw [if_neg hs]; omega

theorem normalize_any (r : Nat) (w : World) (h0 : r ≠ 0) (h : r < infR) : Calls Tryd.prog 157 #[.float .f64 r] w fun e w' => e = .returned (.tuple #[.float .f64 (normW r), .int .i64 (if r < two52 then -52 else 0)]) ∧ w = w' := by
  have hx : r < two64 := by unfold infR two64 at *; omega
  have hm : r % two63 = r := Nat.mod_eq_of_lt (by unfold infR two63 at *; omega)
  have hl := norm_lt h
  by_cases hs : r < two52
  · rw [normW, if_pos hs, if_pos hs]
    rw [decide_eq_true hs] at hl
    have hmul : ∀ w, (binOp .mul 26 (.float .f64 r) (.float .f64 4841369599423283200)).run Tryd.prog w = .ok (.float .f64 ((r.log2 + 1) * two52 + (normS r - two52))) w := fun w => run_float_arith w .mul 26 .f64 r _ _ (mul_sub h0 hs)
    clear hs
    go_enter Tryd.func157, Tryd.ntmps157
    go_wp2_with fail
    refine (abs_any r _ hx).mono ?_
    rintro e w' ⟨rfl, rfl⟩
    rw [hm]
    go_wp2_with fail
    go_ret2
    exact ⟨rfl, rfl⟩
  · rw [normW, if_neg hs, if_neg hs]
    rw [decide_eq_false hs] at hl
    clear hs
    go_enter Tryd.func157, Tryd.ntmps157
    go_wp2_with fail
    refine (abs_any r _ hx).mono ?_
    rintro e w' ⟨rfl, rfl⟩
    rw [hm]
    go_wp2_with fail
    go_ret2
    exact ⟨rfl, rfl⟩

theorem low_bits (y m : Nat) (hy : y < two63) (hm : m < two63) : y &&& (two63 + m) = y &&& m := by
  have e : two63 + m = two63 ||| m := (nat_join 63 two63 m (by decide) hm).symm
  rw [e, Nat.and_or_distrib_left, show two63 = 2 ^ 63 from by decide, nat_bit, Nat.div_eq_of_lt (show y < 2 ^ 63 from hy)]
  simp
theorem frac_bits (y : Nat) (hy : y < two63) : bits .andNot .u64 (y : Int) 9218868437227405312 = ((y % two52 : Nat) : Int) := by
  rw [show (9218868437227405312 : Int) = ((9218868437227405312 : Nat) : Int) from rfl, u64_andNot_nat y _ (by unfold two63 at hy; omega) (by decide)]
  congr 1
  rw [show 18446744073709551615 - 9218868437227405312 = two63 + (2 ^ 52 - 1) from by decide, low_bits y _ hy (by decide)]
  exact Nat.and_two_pow_sub_one_eq_mod y 52
theorem expo_bits (q : Nat) (hq : q < 2048) : bits .and .u64 (q : Int) 2047 = (q : Int) := by
  rw [show (2047 : Int) = ((2047 : Nat) : Int) from rfl, u64_and_nat q _ (by omega) (by decide)]
  congr 1
  rw [show 2047 = 2 ^ 11 - 1 from by decide, Nat.and_two_pow_sub_one_eq_mod]
  exact Nat.mod_eq_of_lt (by omega)
theorem half_bits (f : Nat) (hf : f < two52) : bits .or .u64 (f : Int) 4602678819172646912 = ((4602678819172646912 + f : Nat) : Int) := by
  rw [show (4602678819172646912 : Int) = ((4602678819172646912 : Nat) : Int) from rfl, u64_or_nat f _ (by unfold two52 at hf; omega) (by decide), Nat.or_comm]
  congr 1
  exact nat_join 52 _ f (by decide) hf

set_option maxRecDepth 100000 in
theorem frexp_core (r : Nat) (w : World) (h0 : r ≠ 0) (h : r < infR) : Calls Tryd.prog 161 #[.float .f64 r] w fun e w' => e = .returned (.tuple #[.float .f64 (4602678819172646912 + (normS r - two52)), .int .i64 (normP r + 53)]) ∧ w = w' := by
  have hx : r < two64 := by unfold infR two64 at *; omega
  have hz := eq_zero_no h0 h
  have hi : infB r = false := by
    unfold infB; rw [Nat.mod_eq_of_lt (by unfold infR two63 at *; omega)]; exact decide_eq_false (by omega)
  have hn : nanB r = false := pos_nan h
  obtain ⟨y1, y2, y3, y4⟩ := normW_parts h0 h
  have hy63 : normW r < two63 := by unfold infR two63 at *; omega
  have hq : normW r / two52 < 2048 := by unfold infR two52 at *; omega
  have hrb := run_bits (normW r)
  have hfb := run_frombits
  have e1 : ((normW r : Nat) : Int) / 4503599627370496 = ((normW r / two52 : Nat) : Int) := by unfold two52; omega
  have e2 := expo_bits _ hq
  have e3 := frac_bits _ hy63
  rw [y3] at e3
  have e4 := half_bits (normS r - two52) (by have := normS_lt h0; omega)
  have HY := Lib.hid y4
  have HB : 1 ≤ normW r / two52 := by rw [Nat.le_div_iff_mul_le (by decide)]; omega
  have HN := Lib.hid (fun w => normalize_any r w h0 h)
  clear y1 y2 y3 y4 hy63 h h0
  generalize normW r / two52 = Q at *
  generalize hc : (if r < two52 then (-52 : Int) else 0) = c at *
  have hcase : -52 ≤ c ∧ c ≤ 0 := by rw [← hc]; split <;> omega
  clear hc
  go_enter Tryd.func161, Tryd.ntmps161
  go_wp2_with fail
  refine (isInf_any r _ hx).mono ?_
  rintro e w' ⟨rfl, rfl⟩
  rw [hi]
  go_wp2_with fail
  refine (isNaN_any r _ hx).mono ?_
  rintro e w' ⟨rfl, rfl⟩
  rw [hn]
  go_wp2_with fail
  refine (HN.out _).mono ?_
  rintro e w' ⟨rfl, rfl⟩
  go_wp2_with fail
  have e5 : normP r + 53 = c + ((Q : Int) - 1023 + 1) := by have := HY.out; omega
  rw [e5]
  go_ret2
  exact ⟨rfl, rfl⟩
theorem frexp_any (r : Nat) (w : World) (h0 : r ≠ 0) (h : r < infR) : Calls Tryd.prog 139 #[.float .f64 r] w fun e w' => e = .returned (.tuple #[.float .f64 (4602678819172646912 + (normS r - two52)), .int .i64 (normP r + 53)]) ∧ w = w' := by
  go_enter Tryd.func139, Tryd.ntmps139
  go_wp2_with fail
  refine (frexp_core r _ h0 h).mono ?_
  rintro e w' ⟨rfl, rfl⟩
  go_wp2_with fail
  go_ret2
  exact ⟨rfl, rfl⟩
end Go.Proofs.YtgdlcoicejgdkaaDoor

namespace Go.Proofs.YtgdlcoicejgdkaaDoor
open Go.RowKit Ieee

theorem rung_tiny {m : Nat} {p : Int} (h2 : m < 2 * two52) (hp : p ≤ -1128) : rung m p = 0 := by
  by_cases h0 : m = 0
  · subst h0; rfl
  · unfold rung
    rw [if_neg h0]
    have b := (Nat.log2_lt (k := 53) h0).2 h2
    have e : max (p + (m.log2 : Int) - 52) (-1074) = -1074 := by omega
    rw [e]
    have e1 : (p - -1074).toNat = 0 := by omega
    obtain ⟨d, hd⟩ : ∃ d : Nat, (-1074 - p).toNat = 54 + d := ⟨(-1074 - p).toNat - 54, by omega⟩
    rw [e1, hd, Nat.pow_zero, Nat.mul_one, cut_full]
    have hb : 2 ^ 54 ≤ 2 ^ (54 + d) := Nat.pow_le_pow_right (by decide) (by omega)
    have h3 : (2 : Nat) ^ 54 = 4 * two52 := by decide
    have hm : m % 2 ^ (54 + d) = m := Nat.mod_eq_of_lt (by omega)
    have hq : m / 2 ^ (54 + d) = 0 := Nat.div_eq_of_lt (by omega)
    unfold halfUp
    rw [hm, hq, decide_eq_false (by omega)]
    simp
theorem rung_huge {m : Nat} {p : Int} (h1 : two52 ≤ m) (h2 : m < 2 * two52) (hp : 972 ≤ p) : rung m p = infR := by
  have h0 : m ≠ 0 := by unfold two52 at h1; omega
  have a := (Nat.le_log2 (k := 52) h0).2 h1
  have b := (Nat.log2_lt (k := 53) h0).2 h2
  have hl : m.log2 = 52 := by omega
  unfold rung
  rw [if_neg h0, hl]
  have e : max (p + ((52 : Nat) : Int) - 52) (-1074) = p := by omega
  rw [e]
  have e1 : (p - p).toNat = 0 := by omega
  rw [e1, cut_none, Nat.pow_zero, Nat.mul_one]
  refine Nat.min_eq_right ?_
  have h5 : 2046 * two52 ≤ (p + 1074).toNat * two52 := Nat.mul_le_mul_right _ (by omega)
  have h6 : 2046 * two52 + two52 = infR := by decide
  omega

theorem top_bits (x : Nat) (hx : x < two64) : bits .and .u64 (x : Int) 9223372036854775808 = ((x / two63 * two63 : Nat) : Int) := by
  rw [show (9223372036854775808 : Int) = ((9223372036854775808 : Nat) : Int) from rfl, u64_and_nat x _ hx (by decide)]
  congr 1
  rw [show 9223372036854775808 = 2 ^ 63 from by decide, nat_bit]
  rw [Nat.mod_eq_of_lt (by unfold two64 at hx; omega)]
  rfl
theorem copysign_pos (x y : Nat) (w : World) (hx : x < two63) (hy : y < two63) : Calls Tryd.prog 78 #[.float .f64 x, .float .f64 y] w fun e w' => e = .returned (.float .f64 x) ∧ w = w' := by
  have hx64 : x < two64 := by unfold two63 two64 at *; omega
  have hy64 : y < two64 := by unfold two63 two64 at *; omega
  have hrx := run_bits x
  have hry := run_bits y
  have hfb := run_frombits
  have e1 := abs_bits x hx64
  rw [Nat.mod_eq_of_lt hx] at e1
  have e2 := top_bits y hy64
  rw [Nat.div_eq_of_lt hy, Nat.zero_mul] at e2
  have e3 : bits .or .u64 (x : Int) 0 = (x : Int) := by
    rw [show (0 : Int) = ((0 : Nat) : Int) from rfl, u64_or_nat x _ hx64 (by decide)]
    simp
  go_enter Tryd.func78, Tryd.ntmps78
  go_wp2_with fail
  go_ret
  exact ⟨rfl, rfl⟩
theorem inf_pos (w : World) : Calls Tryd.prog 85 #[.int .i64 1] w fun e w' => e = .returned (.float .f64 infR) ∧ w = w' := by
  have hfb := run_frombits
  go_enter Tryd.func85, Tryd.ntmps85
  go_wp2_with fail
  go_ret
  exact ⟨rfl, rfl⟩
theorem lt_zero_no {r : Nat} (h : r < infR) : (FloatKind.f64.format.order r 0 == some .lt) = false := by
  rw [order_pos (by unfold infR two63 at *; omega) (by decide) (pos_nan h) (by decide)]
  rcases Nat.eq_zero_or_pos r with rfl | h1
  · decide
  · rw [Nat.compare_eq_gt.2 h1]; rfl
theorem join_word (f q : Nat) (hf : f < two52) (hq : q < 2048) : bits .or .u64 (f : Int) ((q * two52 : Nat) : Int) = ((q * two52 + f : Nat) : Int) := by
  have hb : q * two52 ≤ 2047 * two52 := Nat.mul_le_mul_right _ (by omega)
  have hc : 2047 * two52 < 18446744073709551616 := by decide
  rw [u64_or_nat f _ (by unfold two52 at hf; omega) (by omega), Nat.or_comm]
  congr 1
  exact nat_join 52 _ f (by rw [show two52 = 2 ^ 52 from by decide]; exact Nat.mul_mod_left _ _) hf
theorem word_parts (q f : Nat) (hf : f < two52) : (q * two52 + f) / two52 = q ∧ (q * two52 + f) % two52 = f := by
  have hp : 0 < two52 := by decide
  constructor
  · rw [Nat.add_comm, Nat.add_mul_div_right _ _ hp, Nat.div_eq_of_lt hf]; omega
  · rw [Nat.add_comm, Nat.add_mul_mod_self_right, Nat.mod_eq_of_lt hf]
theorem word_lt_inf (q f : Nat) (hf : f < two52) (hq : q ≤ 2046) : q * two52 + f < infR := by
  have h5 : q * two52 ≤ 2046 * two52 := Nat.mul_le_mul_right _ hq
  have h6 : 2046 * two52 + two52 = infR := by decide
  omega
theorem mul_word (c : Nat) (j : Int) (hc : Ieee.double.read c = .number false two52 j) (q f : Nat) (hf : f < two52) (h1 : 1 ≤ q) (hq : q ≤ 2046) : floatBits .mul .f64 c (q * two52 + f) = some (rung (two52 + f) (j + 52 + ((q : Int) - 1075))) := by
  obtain ⟨p1, p2⟩ := word_parts q f hf
  have hge : two52 ≤ q * two52 + f := by
    have : 1 * two52 ≤ q * two52 := Nat.mul_le_mul_right _ h1
    omega
  rw [mul_of hc (read_normal hge (word_lt_inf q f hf hq)), p1, p2, Nat.mul_comm]
  congr 1
  have e := rung_shift (two52 + f) 52 (j + ((q : Int) - 1075))
  rw [show (2 : Nat) ^ 52 = two52 from by decide] at e
  rw [e]
  congr 1
  omega

set_option maxHeartbeats 1600000 in
set_option maxRecDepth 100000 in
theorem ldexp_core (Q F : Nat) (e : Int) (w : World) (h1 : 1 ≤ Q) (h2 : Q ≤ 2046) (hF : F < two52) (he : -1000000 ≤ e ∧ e ≤ 1000000) :
    Calls Tryd.prog 133 #[.float .f64 (Q * two52 + F), .int .i64 e] w fun r w' => r = .returned (.float .f64 (rung (two52 + F) (e + Q - 1075))) ∧ w = w' := by
  obtain ⟨p1, p2⟩ := word_parts Q F hF
  have hyi := word_lt_inf Q F hF h2
  have hge : two52 ≤ Q * two52 + F := by
    have : 1 * two52 ≤ Q * two52 := Nat.mul_le_mul_right _ h1
    omega
  have HW : normW (Q * two52 + F) = Q * two52 + F := by unfold normW; rw [if_neg (by omega)]
  have HC : ¬ (Q * two52 + F < two52) := by omega
  have h0 : Q * two52 + F ≠ 0 := by unfold two52 at hge ⊢; omega
  have HN := fun w => normalize_any (Q * two52 + F) w h0 hyi
  simp only [HW, if_neg HC] at HN
  have HN := Lib.hid HN
  have hx : Q * two52 + F < two64 := by unfold infR two64 at *; omega
  have hx63 : Q * two52 + F < two63 := by unfold infR two63 at *; omega
  have hz := eq_zero_no h0 hyi
  have hlt := lt_zero_no hyi
  have hi : infB (Q * two52 + F) = false := by
    unfold infB; rw [Nat.mod_eq_of_lt hx63]; exact decide_eq_false (by omega)
  have hn : nanB (Q * two52 + F) = false := pos_nan hyi
  have hrb := run_bits (Q * two52 + F)
  have hfb := run_frombits
  have e1 : ((Q * two52 + F : Nat) : Int) / 4503599627370496 = (Q : Int) := by
    have : ((Q * two52 + F : Nat) : Int) / 4503599627370496 = (((Q * two52 + F) / two52 : Nat) : Int) := by unfold two52; omega
    rw [this, p1]
  have e2 : bits .and .i64 (Q : Int) 2047 = (Q : Int) := by
    have := bits_mask .i64 63 (by decide) wraps_i64 11 (by decide) (Q : Int) (by omega) (by omega)
    rw [show ((2 : Int) ^ 11 - 1) = 2047 from by decide] at this
    rw [this]; omega
  have e3 := frac_bits _ hx63
  rw [p2] at e3
  clear p1 p2 hge HW HC h0 hyi hx63
  have HCS := Lib.hid (fun w => copysign_pos 0 (Q * two52 + F) w (by decide) (by have := word_lt_inf Q F hF h2; unfold infR two63 at *; omega))
  generalize hy : Q * two52 + F = y at *
  clear hy
  by_cases hA : e + ((Q : Int) - 1023) < -1075
  · rw [rung_tiny (by omega) (by omega)]
    go_enter Tryd.func133, Tryd.ntmps133
    go_wp2_with fail
    refine (isInf_any y _ hx).mono ?_
    rintro e w' ⟨rfl, rfl⟩
    rw [hi]
    go_wp2_with fail
    refine (isNaN_any y _ hx).mono ?_
    rintro e w' ⟨rfl, rfl⟩
    rw [hn]
    go_wp2_with fail
    refine (HN.out _).mono ?_
    rintro e w' ⟨rfl, rfl⟩
    go_wp2_with fail
    refine (HCS.out _).mono ?_
    rintro e w' ⟨rfl, rfl⟩
    go_wp2_with fail
    go_ret
    exact ⟨rfl, rfl⟩
  by_cases hB : 1023 < e + ((Q : Int) - 1023)
  · rw [rung_huge (by omega) (by omega) (by omega)]
    go_enter Tryd.func133, Tryd.ntmps133
    go_wp2_with fail
    refine (isInf_any y _ hx).mono ?_
    rintro e w' ⟨rfl, rfl⟩
    rw [hi]
    go_wp2_with fail
    refine (isNaN_any y _ hx).mono ?_
    rintro e w' ⟨rfl, rfl⟩
    rw [hn]
    go_wp2_with fail
    refine (HN.out _).mono ?_
    rintro e w' ⟨rfl, rfl⟩
    go_wp2_with fail
    refine (inf_pos _).mono ?_
    rintro e w' ⟨rfl, rfl⟩
    go_wp2_with fail
    go_ret
    exact ⟨rfl, rfl⟩
  by_cases hC : e + ((Q : Int) - 1023) < -1022
  · obtain ⟨q, hq⟩ : ∃ q : Nat, e + ((Q : Int) - 1023) + 53 + 1023 = (q : Int) := ⟨(e + ((Q : Int) - 1023) + 53 + 1023).toNat, by omega⟩
    have hqb : 1 ≤ q ∧ q ≤ 2046 := by omega
    have e5 : bits .or .u64 (F : Int) ((q : Int) * 4503599627370496) = ((q * two52 + F : Nat) : Int) := by
      rw [← join_word F q hF (by omega), Int.natCast_mul]; rfl
    have hmul : ∀ w, (binOp .mul 26 (.float .f64 4368491638549381120) (.float .f64 (q * two52 + F))).run Tryd.prog w = .ok (.float .f64 (rung (two52 + F) (e + Q - 1075))) w := fun w =>
      run_float_arith w .mul 26 .f64 _ _ _ (by
        rw [mul_word 4368491638549381120 (-105) (by decide +kernel) q F hF hqb.1 hqb.2]
        congr 2; omega)
    have HQ := Lib.hid hqb
    clear hqb
    generalize rung (two52 + F) (e + Q - 1075) = R at *
    go_enter Tryd.func133, Tryd.ntmps133
    go_wp2_with fail
    refine (isInf_any y _ hx).mono ?_
    rintro e w' ⟨rfl, rfl⟩
    rw [hi]
    go_wp2_with fail
    refine (isNaN_any y _ hx).mono ?_
    rintro e w' ⟨rfl, rfl⟩
    rw [hn]
    go_wp2_with fail
    refine (HN.out _).mono ?_
    rintro e w' ⟨rfl, rfl⟩
    go_wp2_with fail
    go_ret
    exact ⟨rfl, rfl⟩
  · obtain ⟨q, hq⟩ : ∃ q : Nat, e + ((Q : Int) - 1023) + 1023 = (q : Int) := ⟨(e + ((Q : Int) - 1023) + 1023).toNat, by omega⟩
    have hqb : 1 ≤ q ∧ q ≤ 2046 := by omega
    have e5 : bits .or .u64 (F : Int) ((q : Int) * 4503599627370496) = ((q * two52 + F : Nat) : Int) := by
      rw [← join_word F q hF (by omega), Int.natCast_mul]; rfl
    have hmul : ∀ w, (binOp .mul 26 (.float .f64 4607182418800017408) (.float .f64 (q * two52 + F))).run Tryd.prog w = .ok (.float .f64 (rung (two52 + F) (e + Q - 1075))) w := fun w =>
      run_float_arith w .mul 26 .f64 _ _ _ (by
        rw [mul_word 4607182418800017408 (-52) (by decide +kernel) q F hF hqb.1 hqb.2]
        congr 2; omega)
    have HQ := Lib.hid hqb
    clear hqb
    generalize rung (two52 + F) (e + Q - 1075) = R at *
    go_enter Tryd.func133, Tryd.ntmps133
    go_wp2_with fail
    refine (isInf_any y _ hx).mono ?_
    rintro e w' ⟨rfl, rfl⟩
    rw [hi]
    go_wp2_with fail
    refine (isNaN_any y _ hx).mono ?_
    rintro e w' ⟨rfl, rfl⟩
    rw [hn]
    go_wp2_with fail
    refine (HN.out _).mono ?_
    rintro e w' ⟨rfl, rfl⟩
    go_wp2_with fail
    go_ret
    exact ⟨rfl, rfl⟩

theorem ldexp_any (Q F : Nat) (e : Int) (w : World) (h1 : 1 ≤ Q) (h2 : Q ≤ 2046) (hF : F < two52) (he : -1000000 ≤ e ∧ e ≤ 1000000) :
    Calls Tryd.prog 88 #[.float .f64 (Q * two52 + F), .int .i64 e] w fun r w' => r = .returned (.float .f64 (rung (two52 + F) (e + Q - 1075))) ∧ w = w' := by
  go_enter Tryd.func88, Tryd.ntmps88
  go_wp2_with fail
  refine (ldexp_core Q F e _ h1 h2 hF he).mono ?_
  rintro e w' ⟨rfl, rfl⟩
  go_wp2_with fail
  go_ret
  exact ⟨rfl, rfl⟩
end Go.Proofs.YtgdlcoicejgdkaaDoor
