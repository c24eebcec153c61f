/- math.Frexp and math.Ldexp at edges and below nought; the law's own count of digits. By an AI agent. -/
import Derived.Test.YtafoagllbajfnaaDoorTwo0
import Derived.Test.YtafoagllbajfnaaDoorNum2
namespace Go.Proofs.YtafoagllbajfnaaDoor
open Go.RowKit Ieee

/-- a word with a sign -/
def sW (b : Bool) (r : Nat) : Nat := if b then two63 + r else r
theorem sW_lt {b : Bool} {r : Nat} (h : r < two63) : sW b r < two64 := by
  unfold sW; split <;> (unfold two63 two64 at *; omega)
theorem sW_mod {b : Bool} {r : Nat} (h : r < two63) : sW b r % two63 = r := by
  unfold sW; split
  · rw [Nat.add_mod_left]; exact Nat.mod_eq_of_lt h
  · exact Nat.mod_eq_of_lt h
theorem sW_nan {b : Bool} {r : Nat} (h : r ≤ infR) : nanB (sW b r) = false := by
  have h63 : r < two63 := by unfold infR two63 at *; omega
  rw [← nan_mod, sW_mod h63]; exact nan_small h
theorem sW_inf {b : Bool} {r : Nat} (h : r ≤ infR) : infB (sW b r) = decide (r = infR) := by
  have h63 : r < two63 := by unfold infR two63 at *; omega
  unfold infB; rw [sW_mod h63]
theorem sW_zero {b : Bool} {r : Nat} (h : r ≤ infR) : (FloatKind.f64.format.order (sW b r) 0 == some .eq) = decide (r = 0) := by
  have h63 : r < two63 := by unfold infR two63 at *; omega
  rw [zero_order (sW_lt h63) (sW_nan h), sW_mod h63]

/-- math.Frexp is math.frexp -/
theorem frexp_by (x y : Nat) (k : Int) (w : World) (H : ∀ w, Calls Tryd.prog 97 #[.float .f64 x] w fun e w' => e = .returned (.tuple #[.float .f64 y, .int .i64 k]) ∧ w = w') :
    Calls Tryd.prog 47 #[.float .f64 x] w fun e w' => e = .returned (.tuple #[.float .f64 y, .int .i64 k]) ∧ w = w' := by
  go_enter Tryd.func47, Tryd.ntmps47
  go_wp2_with fail
  refine (H _).mono ?_
  rintro e w' ⟨rfl, rfl⟩
  go_wp2_with fail
  go_ret2
  exact ⟨rfl, rfl⟩
set_option maxRecDepth 100000 in
theorem frexp_zero (b : Bool) (w : World) : Calls Tryd.prog 47 #[.float .f64 (sW b 0)] w fun e w' => e = .returned (.tuple #[.float .f64 (sW b 0), .int .i64 0]) ∧ w = w' := by
  refine frexp_by _ _ _ _ fun w => ?_
  have q := sW_zero (b := b) (r := 0) (by decide)
  rw [show decide ((0 : Nat) = 0) = true from rfl] at q
  generalize sW b 0 = x at *
  go_enter Tryd.func97, Tryd.ntmps97
  go_wp2_with fail
  go_ret2
  exact ⟨rfl, rfl⟩
set_option maxRecDepth 100000 in
theorem frexp_inf (b : Bool) (w : World) : Calls Tryd.prog 47 #[.float .f64 (sW b infR)] w fun e w' => e = .returned (.tuple #[.float .f64 (sW b infR), .int .i64 0]) ∧ w = w' := by
  refine frexp_by _ _ _ _ fun w => ?_
  have q := sW_zero (b := b) (r := infR) (by decide)
  have qi := sW_inf (b := b) (r := infR) (by decide)
  have hx : sW b infR < two64 := sW_lt (by decide)
  rw [show decide (infR = 0) = false from by decide] at q
  rw [show decide (infR = infR) = true from by decide] at qi
  generalize sW b infR = x at *
  have HQ := Lib.hid qi
  clear qi
  go_enter Tryd.func97, Tryd.ntmps97
  go_wp2_with fail
  refine (isInf_any x _ hx).mono ?_
  rintro e w' ⟨rfl, rfl⟩
  rw [HQ.out]
  go_wp2_with fail
  go_ret2
  exact ⟨rfl, rfl⟩
set_option maxRecDepth 100000 in
theorem ldexp_inf (k : Int) (w : World) : Calls Tryd.prog 46 #[.float .f64 infR, .int .i64 k] w fun e w' => e = .returned (.float .f64 infR) ∧ w = w' := by
  have h0 : ∀ w, Calls Tryd.prog 95 #[.float .f64 infR, .int .i64 k] w fun e w' => e = .returned (.float .f64 infR) ∧ w = w' := by
    intro w
    have q := sW_zero (b := false) (r := infR) (by decide)
    have qi : infB infR = true := by decide
    have hx : infR < two64 := by decide
    rw [show decide (infR = 0) = false from by decide, show sW false infR = infR from rfl] at q
    generalize infR = x at *
    have HQ := Lib.hid qi
    clear qi
    go_enter Tryd.func95, Tryd.ntmps95
    go_wp2_with fail
    refine (isInf_any x _ hx).mono ?_
    rintro e w' ⟨rfl, rfl⟩
    rw [HQ.out]
    go_wp2_with fail
    go_ret
    exact ⟨rfl, rfl⟩
  go_enter Tryd.func46, Tryd.ntmps46
  go_wp2_with fail
  refine (h0 _).mono ?_
  rintro e w' ⟨rfl, rfl⟩
  go_wp2_with fail
  go_ret
  exact ⟨rfl, rfl⟩

theorem read_neg {r : Nat} (h : r < infR) : ∃ m i, Ieee.double.read r = .number false m i ∧ Ieee.double.read (two63 + r) = .number true m i := by
  have hr63 : r < two63 := by unfold infR two63 at *; omega
  have hm : r % two63 = r := Nat.mod_eq_of_lt hr63
  have hn : r / two63 % 2 = 0 := by rw [Nat.div_eq_of_lt hr63]
  have hm2 : (two63 + r) % two63 = r := by rw [Nat.add_mod_left]; exact hm
  have hn2 : (two63 + r) / two63 % 2 = 1 := by unfold two63 at *; omega
  unfold Format.read
  rw [d_signWeight, d_binade, d_infRung, d_leastPlace]
  simp only [hm, hn, hm2, hn2]
  by_cases h1 : r < two52
  · rw [if_pos h1, if_pos h1]; exact ⟨_, _, rfl, rfl⟩
  · rw [if_neg h1, if_neg h1, if_pos h, if_pos h]; exact ⟨_, _, rfl, rfl⟩
theorem mul_neg {r y v n : Nat} {j : Int} (h : r < infR) (hy : Ieee.double.read y = .number false n j) (hv : floatBits .mul .f64 r y = some v) : floatBits .mul .f64 (two63 + r) y = some (two63 + v) := by
  obtain ⟨m, i, h1, h2⟩ := read_neg h
  have e1 := mul_of h1 hy
  rw [hv] at e1
  cases e1
  show Ieee.double.mul _ y = _
  unfold Format.mul
  rw [h2, hy]
  simp only [Datum.product, Option.map_some]
  congr 1
  show Ieee.double.nearest _ _ _ = _
  rw [nearest_rung]
  simp

set_option maxRecDepth 100000 in
theorem normalize_neg (r : Nat) (w : World) (h0 : r ≠ 0) (h : r < infR) : Calls Tryd.prog 128 #[.float .f64 (two63 + r)] w fun e w' => e = .returned (.tuple #[.float .f64 (two63 + normW r), .int .i64 (if r < two52 then -52 else 0)]) ∧ w = w' := by
  have h63 : r < two63 := by unfold infR two63 at *; omega
  have hx : two63 + r < two64 := by unfold two63 two64 at *; omega
  have hm : (two63 + r) % two63 = r := by rw [Nat.add_mod_left]; exact Nat.mod_eq_of_lt h63
  have hl := norm_lt h
  by_cases hs : r < two52
  · rw [normW, if_pos hs, if_pos hs]
    rw [decide_eq_true hs] at hl
    have hmul : ∀ w, (binOp .mul 22 (.float .f64 (two63 + r)) (.float .f64 4841369599423283200)).run Tryd.prog w = .ok (.float .f64 (two63 + ((r.log2 + 1) * two52 + (normS r - two52)))) w := fun w => run_float_arith w .mul 22 .f64 _ _ _ (mul_neg h (show Ieee.double.read 4841369599423283200 = .number false two52 0 from by decide +kernel) (mul_sub h0 hs))
    clear hs
    generalize two63 + r = x at *
    generalize two63 + ((r.log2 + 1) * two52 + (normS r - two52)) = y at *
    go_enter Tryd.func128, Tryd.ntmps128
    go_wp2_with fail
    refine (abs_any x _ hx).mono ?_
    rintro e w' ⟨rfl, rfl⟩
    rw [hm]
    go_wp2_with fail
    go_ret2
    exact ⟨rfl, rfl⟩
  · rw [normW, if_neg hs, if_neg hs]
    rw [decide_eq_false hs] at hl
    clear hs
    generalize two63 + r = x at *
    go_enter Tryd.func128, Tryd.ntmps128
    go_wp2_with fail
    refine (abs_any x _ hx).mono ?_
    rintro e w' ⟨rfl, rfl⟩
    rw [hm]
    go_wp2_with fail
    go_ret2
    exact ⟨rfl, rfl⟩

theorem neg_or (y : Nat) (hy : y < two63) : two63 + y = two63 ||| y := (nat_join 63 two63 y (by decide) hy).symm
theorem frac_neg (y : Nat) (hy : y < two63) : bits .andNot .u64 ((two63 + y : Nat) : Int) 9218868437227405312 = ((two63 + y % two52 : Nat) : Int) := by
  rw [show (9218868437227405312 : Int) = ((9218868437227405312 : Nat) : Int) from rfl, u64_andNot_nat _ _ (by unfold two63 at *; omega) (by decide)]
  congr 1
  rw [show 18446744073709551615 - 9218868437227405312 = two63 + (2 ^ 52 - 1) from by decide, neg_or y hy, neg_or (2 ^ 52 - 1) (by decide), ← Nat.or_and_distrib_left, Nat.and_two_pow_sub_one_eq_mod]
  exact (neg_or (y % 2 ^ 52) (by unfold two63; omega)).symm
theorem expo_neg (q : Nat) (hq : q < 2048) : bits .and .u64 (((2048 + q : Nat)) : Int) 2047 = (q : Int) := by
  rw [show (2047 : Int) = ((2047 : Nat) : Int) from rfl, u64_and_nat _ _ (by omega) (by decide)]
  congr 1
  rw [show 2047 = 2 ^ 11 - 1 from by decide, Nat.and_two_pow_sub_one_eq_mod]
  omega
theorem half_neg (f : Nat) (hf : f < two52) : bits .or .u64 ((two63 + f : Nat) : Int) 4602678819172646912 = ((two63 + (4602678819172646912 + f) : Nat) : Int) := by
  rw [show (4602678819172646912 : Int) = ((4602678819172646912 : Nat) : Int) from rfl, u64_or_nat _ _ (by unfold two63; unfold two52 at hf; omega) (by decide)]
  congr 1
  rw [neg_or f (by unfold two63; unfold two52 at hf; omega), neg_or (4602678819172646912 + f) (by unfold two63; unfold two52 at hf; omega), Nat.or_assoc, Nat.or_comm f]
  congr 1
  exact nat_join 52 _ f (by decide) hf

set_option maxRecDepth 100000 in
theorem frexp_neg (r : Nat) (w : World) (h0 : r ≠ 0) (h : r < infR) : Calls Tryd.prog 47 #[.float .f64 (two63 + r)] w fun e w' => e = .returned (.tuple #[.float .f64 (two63 + (4602678819172646912 + (normS r - two52))), .int .i64 (normP r + 53)]) ∧ w = w' := by
  refine frexp_by _ _ _ _ fun w => ?_
  have h63 : r < two63 := by unfold infR two63 at *; omega
  have hx : two63 + r < two64 := by unfold two63 two64 at *; omega
  have hz := sW_zero (b := true) (Nat.le_of_lt h)
  rw [decide_eq_false h0] at hz
  have hi := sW_inf (b := true) (Nat.le_of_lt h)
  rw [decide_eq_false (by omega)] at hi
  have hn := sW_nan (b := true) (Nat.le_of_lt h)
  rw [show sW true r = two63 + r from rfl] at hz hi hn
  obtain ⟨y1, y2, y3, y4⟩ := normW_parts h0 h
  have hy63 : normW r < two63 := by unfold infR two63 at *; omega
  have hq : normW r / two52 < 2048 := by unfold infR two52 at *; omega
  have hrb := run_bits (two63 + normW r)
  have hfb := run_frombits
  have e1 : ((two63 + normW r : Nat) : Int) / 4503599627370496 = ((2048 + normW r / two52 : Nat) : Int) := by unfold two52 two63; omega
  have e2 := expo_neg _ hq
  have e3 := frac_neg _ hy63
  rw [y3] at e3
  have e4 := half_neg (normS r - two52) (by have := normS_lt h0; omega)
  have HY := Lib.hid y4
  have HB : 1 ≤ normW r / two52 := by rw [Nat.le_div_iff_mul_le (by decide)]; omega
  have HN := Lib.hid (fun w => normalize_neg r w h0 h)
  clear y1 y2 y3 y4 hy63 h h0 h63
  generalize normW r / two52 = Q at *
  generalize hc : (if r < two52 then (-52 : Int) else 0) = c at *
  have hcase : -52 ≤ c ∧ c ≤ 0 := by rw [← hc]; split <;> omega
  clear hc
  generalize two63 + r = X at *
  generalize two63 + normW r = Y at *
  generalize two63 + (4602678819172646912 + (normS r - two52)) = Z at *
  generalize two63 + (normS r - two52) = Z2 at *
  generalize 2048 + Q = Q2 at *
  go_enter Tryd.func97, Tryd.ntmps97
  go_wp2_with fail
  refine (isInf_any X _ hx).mono ?_
  rintro e w' ⟨rfl, rfl⟩
  rw [hi]
  go_wp2_with fail
  refine (isNaN_any X _ hx).mono ?_
  rintro e w' ⟨rfl, rfl⟩
  rw [hn]
  go_wp2_with fail
  refine (HN.out _).mono ?_
  rintro e w' ⟨rfl, rfl⟩
  go_wp2_with fail
  have e5 : normP r + 53 = c + ((Q : Int) - 1023 + 1) := by have := HY.out; omega
  rw [e5]
  go_ret2
  exact ⟨rfl, rfl⟩
theorem frexp_sign (b : Bool) (r : Nat) (w : World) (h0 : r ≠ 0) (h : r < infR) : Calls Tryd.prog 47 #[.float .f64 (sW b r)] w fun e w' => e = .returned (.tuple #[.float .f64 (sW b (4602678819172646912 + (normS r - two52))), .int .i64 (normP r + 53)]) ∧ w = w' := by
  cases b
  · exact frexp_any r w h0 h
  · exact frexp_neg r w h0 h
/-- what Frexp tells, put together again with 53 digits -/
theorem ldexp_digits (r : Nat) (w : World) (h0 : r ≠ 0) : Calls Tryd.prog 46 #[.float .f64 (4602678819172646912 + (normS r - two52)), .int .i64 53] w fun e w' => e = .returned (.float .f64 (rung (normS r) 0)) ∧ w = w' := by
  have h1 := normS_ge h0
  have h2 := normS_lt h0
  have hc := ldexp_any 1022 (normS r - two52) 53 w (by decide) (by decide) (by omega) (by decide)
  rw [show two52 + (normS r - two52) = normS r by omega, show (53 : Int) + ((1022 : Nat) : Int) - 1075 = 0 from by decide, show 1022 * two52 = 4602678819172646912 from by decide] at hc
  exact hc

theorem bits_step {n : Nat} (h : n ≠ 0) : bitsN n = bitsN (n / 2) + 1 := by
  unfold bitsN
  rw [if_neg h]
  by_cases h1 : n / 2 = 0
  · obtain rfl : n = 1 := by omega
    rfl
  · rw [if_neg h1]
    congr 1
    rw [Nat.log2_def n, if_pos (by omega)]
theorem tdiv_two (n : Nat) : wrap64 ((n : Int).tdiv 2) = if n < 9223372036854775808 then ((n / 2 : Nat) : Int) else wrap64 ((n : Int).tdiv 2) := by
  split
  · have : (n : Int).tdiv 2 = ((n / 2 : Nat) : Int) := by
      rw [Int.tdiv_eq_ediv_of_nonneg (by omega)]; omega
    rw [this]; unfold wrap64; omega
  · rfl
end Go.Proofs.YtafoagllbajfnaaDoor
