/- math.normalize, Frexp. By an AI agent. -/
import Derived.Test.YtgdlcoicejgdkaaDoorMath1
import Derived.Laws.FloatArith
import Derived.IntWalk
import Derived.Outline
namespace Go.Proofs.YtgdlcoicejgdkaaDoor
open Go.RowKit Ieee

/-- a rung's 53 digits, and their place -/
def normS (r : Nat) : Nat := if r < two52 then r * 2 ^ (52 - r.log2) else two52 + r % two52
def normP (r : Nat) : Int := if r < two52 then (r.log2 : Int) - 1126 else ((r / two52 : Nat) : Int) - 1075

theorem log2_sub {r : Nat} (h0 : r ≠ 0) (h : r < two52) : r.log2 < 52 := (Nat.log2_lt h0).2 h
theorem normS_ge {r : Nat} (h0 : r ≠ 0) : two52 ≤ normS r := by
  unfold normS
  split
  · rename_i h
    have hl := log2_sub h0 h
    calc two52 = 2 ^ r.log2 * 2 ^ (52 - r.log2) := by rw [← Nat.pow_add, show r.log2 + (52 - r.log2) = 52 by omega]; rfl
      _ ≤ r * 2 ^ (52 - r.log2) := Nat.mul_le_mul_right _ (Nat.log2_self_le h0)
  · exact Nat.le_add_right _ _
theorem normS_lt {r : Nat} (h0 : r ≠ 0) : normS r < 2 * two52 := by
  unfold normS
  split
  · rename_i h
    have hl := log2_sub h0 h
    calc r * 2 ^ (52 - r.log2) < 2 ^ (r.log2 + 1) * 2 ^ (52 - r.log2) := Nat.mul_lt_mul_of_pos_right Nat.lt_log2_self (Nat.two_pow_pos _)
      _ = 2 * two52 := by rw [← Nat.pow_add, show r.log2 + 1 + (52 - r.log2) = 53 by omega]; rfl
  · have : r % two52 < two52 := Nat.mod_lt _ (by decide)
    omega

/-- the normal word of a rung that is small: times 2^52 -/
theorem sub_word {r : Nat} (h0 : r ≠ 0) (h : r < two52) : rung r (-1022) = (r.log2 + 1) * two52 + (normS r - two52) := by
  have hl := log2_sub h0 h
  have e := rung_shift r (52 - r.log2) (-1022 - ((52 - r.log2 : Nat) : Int))
  rw [show (-1022 - ((52 - r.log2 : Nat) : Int)) + ((52 - r.log2 : Nat) : Int) = -1022 by omega] at e
  rw [← e]
  have hs : r * 2 ^ (52 - r.log2) = normS r := by rw [normS, if_pos h]
  have h1 := normS_ge h0
  have h2 := normS_lt h0
  rw [hs, rung_exact h1 h2 (by omega) (by omega)]
  have e2 : (-1022 - ((52 - r.log2 : Nat) : Int) + 1074).toNat = r.log2 := by omega
  rw [e2, Nat.succ_mul]
  omega

theorem read_small {r : Nat} (h : r < two52) : Ieee.double.read r = .number false r (-1074) := by
  have hm : r % two63 = r := Nat.mod_eq_of_lt (by unfold two52 two63 at *; omega)
  have hn : r / two63 % 2 = 0 := by rw [Nat.div_eq_of_lt (by unfold two52 two63 at *; omega)]
  unfold Format.read
  rw [d_signWeight, d_binade, d_infRung, d_leastPlace]
  simp only [hm, hn]
  rw [if_pos h]
  rfl
theorem read_normal {r : Nat} (h1 : two52 ≤ r) (h2 : r < infR) : Ieee.double.read r = .number false (two52 + r % two52) (((r / two52 : Nat) : Int) - 1075) := by
  have hm : r % two63 = r := Nat.mod_eq_of_lt (by unfold infR two63 at *; omega)
  have hn : r / two63 % 2 = 0 := by rw [Nat.div_eq_of_lt (by unfold infR two63 at *; omega)]
  unfold Format.read
  rw [d_signWeight, d_binade, d_infRung, d_leastPlace]
  simp only [hm, hn]
  rw [if_neg (by omega), if_pos h2]
  have hq : 1 ≤ r / two52 := by rw [Nat.le_div_iff_mul_le (by decide)]; omega
  have e : (-1074 : Int) + ((r / two52 - 1 : Nat) : Int) = ((r / two52 : Nat) : Int) - 1075 := by omega
  rw [e]
  rfl
theorem mul_of {x y m n : Nat} {i j : Int} (hx : Ieee.double.read x = .number false m i) (hy : Ieee.double.read y = .number false n j) : floatBits .mul .f64 x y = some (rung (m * n) (i + j)) := by
  show Ieee.double.mul x y = _
  unfold Format.mul
  rw [hx, hy]
  simp only [Datum.product, Option.map_some]
  congr 1
  show Ieee.double.nearest _ _ _ = _
  rw [nearest_rung]
  simp
theorem mul_sub {r : Nat} (h0 : r ≠ 0) (h : r < two52) : floatBits .mul .f64 r 4841369599423283200 = some ((r.log2 + 1) * two52 + (normS r - two52)) := by
  rw [mul_of (read_small h) (show Ieee.double.read 4841369599423283200 = .number false two52 0 from by decide +kernel), ← sub_word h0 h]
  congr 1
  have e := rung_shift r 52 (-1074)
  rw [show two52 = 2 ^ 52 from by decide]
  exact e

theorem pos_nan {r : Nat} (h : r < infR) : nanB r = false := nan_small (Nat.le_of_lt h)
theorem eq_zero_no {r : Nat} (h0 : r ≠ 0) (h : r < infR) : (FloatKind.f64.format.order r 0 == some .eq) = false := by
  rw [order_pos (by unfold infR two63 at *; omega) (by decide) (pos_nan h) (by decide), Nat.compare_eq_gt.2 (by omega)]
  rfl
theorem norm_lt {r : Nat} (h : r < infR) : (FloatKind.f64.format.order r 4503599627370496 == some .lt) = decide (r < two52) := by
  rw [order_pos (by unfold infR two63 at *; omega) (by decide) (pos_nan h) (by decide)]
  show (some (compare r two52) == some Ordering.lt) = decide (r < two52)
  by_cases h1 : r < two52
  · rw [Nat.compare_eq_lt.2 h1, decide_eq_true h1]; rfl
  · rw [decide_eq_false h1]
    rcases Nat.lt_or_eq_of_le (show two52 ≤ r by omega) with h2 | h2
    · rw [Nat.compare_eq_gt.2 h2]; rfl
    · rw [← h2]; decide

/-- the word of a normal number with the same digits -/
def normW (r : Nat) : Nat := if r < two52 then (r.log2 + 1) * two52 + (normS r - two52) else r
theorem normW_parts {r : Nat} (h0 : r ≠ 0) (h : r < infR) : two52 ≤ normW r ∧ normW r < infR ∧ normW r % two52 = normS r - two52 ∧ ((normW r / two52 : Nat) : Int) + (if r < two52 then -52 else 0) = normP r + 1075 := by
  have h1 := normS_ge h0
  have h2 := normS_lt h0
  unfold normW normP
  by_cases hs : r < two52
  · have hl := log2_sub h0 hs
    rw [if_pos hs, if_pos hs, if_pos hs]
    have hp : 0 < two52 := by decide
    have hd : ((r.log2 + 1) * two52 + (normS r - two52)) / two52 = r.log2 + 1 := by
      rw [Nat.add_comm, Nat.add_mul_div_right _ _ hp, Nat.div_eq_of_lt (by omega)]; omega
    have hm : ((r.log2 + 1) * two52 + (normS r - two52)) % two52 = normS r - two52 := by
      rw [Nat.add_comm, Nat.add_mul_mod_self_right, Nat.mod_eq_of_lt (by omega)]
    have hb : (r.log2 + 1) * two52 ≤ 52 * two52 := Nat.mul_le_mul_right _ (by omega)
    have hb2 : 1 * two52 ≤ (r.log2 + 1) * two52 := Nat.mul_le_mul_right _ (by omega)
    refine ⟨by omega, ?_, hm, by rw [hd]; omega⟩
    have : 53 * two52 < infR := by decide
    omega
  · rw [if_neg hs, if_neg hs, if_neg hs]
    refine ⟨by omega, h, ?_, by omega⟩
    unfold normS
    rw [if_neg hs]; omega

theorem normalize_any (r : Nat) (w : World) (h0 : r ≠ 0) (h : r < infR) : Calls Tryd.prog 157 #[.float .f64 r] w fun e w' => e = .returned (.tuple #[.float .f64 (normW r), .int .i64 (if r < two52 then -52 else 0)]) ∧ w = w' := by
  have hx : r < two64 := by unfold infR two64 at *; omega
  have hm : r % two63 = r := Nat.mod_eq_of_lt (by unfold infR two63 at *; omega)
  have hl := norm_lt h
  by_cases hs : r < two52
  · rw [normW, if_pos hs, if_pos hs]
    rw [decide_eq_true hs] at hl
    have hmul : ∀ w, (binOp .mul 26 (.float .f64 r) (.float .f64 4841369599423283200)).run Tryd.prog w = .ok (.float .f64 ((r.log2 + 1) * two52 + (normS r - two52))) w := fun w => run_float_arith w .mul 26 .f64 r _ _ (mul_sub h0 hs)
    clear hs
    go_enter Tryd.func157, Tryd.ntmps157
    go_wp2_with fail
    refine (abs_any r _ hx).mono ?_
    rintro e w' ⟨rfl, rfl⟩
    rw [hm]
    go_wp2_with fail
    go_ret2
    exact ⟨rfl, rfl⟩
  · rw [normW, if_neg hs, if_neg hs]
    rw [decide_eq_false hs] at hl
    clear hs
    go_enter Tryd.func157, Tryd.ntmps157
    go_wp2_with fail
    refine (abs_any r _ hx).mono ?_
    rintro e w' ⟨rfl, rfl⟩
    rw [hm]
    go_wp2_with fail
    go_ret2
    exact ⟨rfl, rfl⟩

theorem low_bits (y m : Nat) (hy : y < two63) (hm : m < two63) : y &&& (two63 + m) = y &&& m := by
  have e : two63 + m = two63 ||| m := (nat_join 63 two63 m (by decide) hm).symm
  rw [e, Nat.and_or_distrib_left, show two63 = 2 ^ 63 from by decide, nat_bit, Nat.div_eq_of_lt (show y < 2 ^ 63 from hy)]
  simp
theorem frac_bits (y : Nat) (hy : y < two63) : bits .andNot .u64 (y : Int) 9218868437227405312 = ((y % two52 : Nat) : Int) := by
  rw [show (9218868437227405312 : Int) = ((9218868437227405312 : Nat) : Int) from rfl, u64_andNot_nat y _ (by unfold two63 at hy; omega) (by decide)]
  congr 1
  rw [show 18446744073709551615 - 9218868437227405312 = two63 + (2 ^ 52 - 1) from by decide, low_bits y _ hy (by decide)]
  exact Nat.and_two_pow_sub_one_eq_mod y 52
theorem expo_bits (q : Nat) (hq : q < 2048) : bits .and .u64 (q : Int) 2047 = (q : Int) := by
  rw [show (2047 : Int) = ((2047 : Nat) : Int) from rfl, u64_and_nat q _ (by omega) (by decide)]
  congr 1
  rw [show 2047 = 2 ^ 11 - 1 from by decide, Nat.and_two_pow_sub_one_eq_mod]
  exact Nat.mod_eq_of_lt (by omega)
theorem half_bits (f : Nat) (hf : f < two52) : bits .or .u64 (f : Int) 4602678819172646912 = ((4602678819172646912 + f : Nat) : Int) := by
  rw [show (4602678819172646912 : Int) = ((4602678819172646912 : Nat) : Int) from rfl, u64_or_nat f _ (by unfold two52 at hf; omega) (by decide), Nat.or_comm]
  congr 1
  exact nat_join 52 _ f (by decide) hf

set_option maxRecDepth 100000 in
theorem frexp_core (r : Nat) (w : World) (h0 : r ≠ 0) (h : r < infR) : Calls Tryd.prog 161 #[.float .f64 r] w fun e w' => e = .returned (.tuple #[.float .f64 (4602678819172646912 + (normS r - two52)), .int .i64 (normP r + 53)]) ∧ w = w' := by
  have hx : r < two64 := by unfold infR two64 at *; omega
  have hz := eq_zero_no h0 h
  have hi : infB r = false := by
    unfold infB; rw [Nat.mod_eq_of_lt (by unfold infR two63 at *; omega)]; exact decide_eq_false (by omega)
  have hn : nanB r = false := pos_nan h
  obtain ⟨y1, y2, y3, y4⟩ := normW_parts h0 h
  have hy63 : normW r < two63 := by unfold infR two63 at *; omega
  have hq : normW r / two52 < 2048 := by unfold infR two52 at *; omega
  have hrb := run_bits (normW r)
  have hfb := run_frombits
  have e1 : ((normW r : Nat) : Int) / 4503599627370496 = ((normW r / two52 : Nat) : Int) := by unfold two52; omega
  have e2 := expo_bits _ hq
  have e3 := frac_bits _ hy63
  rw [y3] at e3
  have e4 := half_bits (normS r - two52) (by have := normS_lt h0; omega)
  have HY := Lib.hid y4
  have HB : 1 ≤ normW r / two52 := by rw [Nat.le_div_iff_mul_le (by decide)]; omega
  have HN := Lib.hid (fun w => normalize_any r w h0 h)
  clear y1 y2 y3 y4 hy63 h h0
  generalize normW r / two52 = Q at *
  generalize hc : (if r < two52 then (-52 : Int) else 0) = c at *
  have hcase : -52 ≤ c ∧ c ≤ 0 := by rw [← hc]; split <;> omega
  clear hc
  go_enter Tryd.func161, Tryd.ntmps161
  go_wp2_with fail
  refine (isInf_any r _ hx).mono ?_
  rintro e w' ⟨rfl, rfl⟩
  rw [hi]
  go_wp2_with fail
  refine (isNaN_any r _ hx).mono ?_
  rintro e w' ⟨rfl, rfl⟩
  rw [hn]
  go_wp2_with fail
  refine (HN.out _).mono ?_
  rintro e w' ⟨rfl, rfl⟩
  go_wp2_with fail
  have e5 : normP r + 53 = c + ((Q : Int) - 1023 + 1) := by have := HY.out; omega
  rw [e5]
  go_ret2
  exact ⟨rfl, rfl⟩
theorem frexp_any (r : Nat) (w : World) (h0 : r ≠ 0) (h : r < infR) : Calls Tryd.prog 139 #[.float .f64 r] w fun e w' => e = .returned (.tuple #[.float .f64 (4602678819172646912 + (normS r - two52)), .int .i64 (normP r + 53)]) ∧ w = w' := by
  go_enter Tryd.func139, Tryd.ntmps139
  go_wp2_with fail
  refine (frexp_core r _ h0 h).mono ?_
  rintro e w' ⟨rfl, rfl⟩
  go_wp2_with fail
  go_ret2
  exact ⟨rfl, rfl⟩
end Go.Proofs.YtgdlcoicejgdkaaDoor
