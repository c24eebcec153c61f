/- floats of whole numbers, and their quotients. By an AI agent. -/
import Derived.Test.YtpfpefapdcdkeaaRatio
namespace Go.Proofs.Ytpfpefapdcdkeaa
open Ieee Go.RowKit

theorem cut_zero (s : Bool) (n : Nat) : Toward.even.cut s n 0 = n := by
  unfold Toward.cut
  simp [Nat.mod_one]

theorem sum_small {u v : Nat} (h1 : u ≤ 1069 * two52) (h2 : v < 9007199254740992) : u + v < infR := by
  unfold two52 infR at *; omega
theorem sum_large {u v : Nat} (h1 : 1022 * two52 ≤ u) : two52 ≤ u + v := by
  unfold two52 at *; omega
theorem mul_small (a l : Nat) (hl : l < 48) (hhi : a < 2 ^ (l + 1)) : a * 2 ^ (52 - l) < 9007199254740992 := by
  calc a * 2 ^ (52 - l) < 2 ^ (l + 1) * 2 ^ (52 - l) := Nat.mul_lt_mul_of_pos_right hhi (Nat.two_pow_pos _)
    _ = 2 ^ 53 := by rw [← Nat.pow_add, show l + 1 + (52 - l) = 53 by omega]

/-- a whole number's float, of not too many digits -/
theorem float_nat (a : Nat) (h0 : a ≠ 0) (h : a < 2 ^ 48) : floatOfInt .f64 (a : Int) = (a.log2 + 1022) * two52 + a * 2 ^ (52 - a.log2) := by
  have hl : a.log2 < 48 := (Nat.log2_lt h0).2 h
  have hlo : 2 ^ a.log2 ≤ a := Nat.log2_self_le h0
  have hhi : a < 2 ^ (a.log2 + 1) := Nat.lt_log2_self
  show Ieee.double.write (.number (decide ((a : Int) < 0)) ((a : Int).natAbs) 0) = _
  have hd : decide ((a : Int) < 0) = false := decide_eq_false (by omega)
  rw [hd, Int.natAbs_natCast]
  show Ieee.double.nearest false a 0 = _
  unfold Format.nearest
  rw [if_neg h0, d_leastPlace, d_binade, d_infRung]
  have hf : Ieee.double.fractionBits = 52 := rfl
  rw [hf]
  have e1 : max ((0 : Int) + a.log2 - (52 : Nat)) (-1074) = (a.log2 : Int) - 52 := by omega
  simp only [e1]
  have e2 : ((0 : Int) - ((a.log2 : Int) - 52)).toNat = 52 - a.log2 := by omega
  have e3 : ((a.log2 : Int) - 52 - 0).toNat = 0 := by omega
  have e4 : ((a.log2 : Int) - 52 - -1074).toNat = a.log2 + 1022 := by omega
  rw [e2, e3, e4, cut_zero, Nat.shiftLeft_eq]
  unfold Format.word
  simp only [Bool.false_eq_true, if_false]
  refine Nat.min_eq_left ?_
  exact Nat.le_of_lt (sum_small (Nat.mul_le_mul_right _ (by omega)) (mul_small a _ hl hhi))

theorem read_nat (a : Nat) (h0 : a ≠ 0) (h : a < 2 ^ 48) : ∃ m p, Ieee.double.read (floatOfInt .f64 (a : Int)) = .number false m p ∧ m ≠ 0 := by
  have hl : a.log2 < 48 := (Nat.log2_lt h0).2 h
  have hlo : 2 ^ a.log2 ≤ a := Nat.log2_self_le h0
  have hhi : a < 2 ^ (a.log2 + 1) := Nat.lt_log2_self
  rw [float_nat a h0 h]
  have e1 := sum_small (Nat.mul_le_mul_right two52 (show a.log2 + 1022 ≤ 1069 by omega)) (mul_small a _ hl hhi)
  have e2 : two52 ≤ (a.log2 + 1022) * two52 + a * 2 ^ (52 - a.log2) := sum_large (Nat.mul_le_mul_right _ (by omega))
  generalize (a.log2 + 1022) * two52 + a * 2 ^ (52 - a.log2) = x at *
  have hx : x % two63 = x := Nat.mod_eq_of_lt (by unfold infR two63 at *; omega)
  have hn : x / two63 % 2 = 0 := by rw [Nat.div_eq_of_lt (by unfold infR two63 at *; omega)]
  unfold Format.read
  rw [d_signWeight, d_binade, d_infRung, d_leastPlace]
  simp only [hx, hn]
  rw [if_neg (by omega), if_pos e1]
  exact ⟨_, _, rfl, by have : two52 ≠ 0 := by decide
                       omega⟩

theorem quo_self (a : Nat) (h0 : a ≠ 0) (h : a < 2 ^ 48) : floatBits .quo .f64 (floatOfInt .f64 (a : Int)) (floatOfInt .f64 (a : Int)) = some 4607182418800017408 := by
  obtain ⟨m, p, e, hm⟩ := read_nat a h0 h
  show Ieee.double.div _ _ = _
  unfold Format.div
  rw [e]
  simp only [Datum.quotient, if_neg hm]
  have e1 : Ieee.double.fractionBits + 2 + m.log2 - m.log2 = 54 := by show 52 + 2 + m.log2 - m.log2 = 54; omega
  rw [e1, Nat.shiftLeft_eq, Nat.mul_div_cancel_left _ (Nat.pos_of_ne_zero hm), Nat.mul_mod_right]
  have e2 : p - p - ((54 : Nat) : Int) - 1 = -55 := by omega
  rw [e2]
  decide +kernel
theorem quo_zero (a : Nat) (h0 : a ≠ 0) (h : a < 2 ^ 48) : floatBits .quo .f64 (floatOfInt .f64 0) (floatOfInt .f64 (a : Int)) = some 0 := by
  obtain ⟨m, p, e, hm⟩ := read_nat a h0 h
  show Ieee.double.div _ _ = _
  unfold Format.div
  rw [e, show Ieee.double.read (floatOfInt .f64 0) = .number false 0 (-1074) from by decide +kernel]
  simp only [Datum.quotient, if_neg hm]
  simp [Format.write, Format.nearest, Format.word]
end Go.Proofs.Ytpfpefapdcdkeaa
