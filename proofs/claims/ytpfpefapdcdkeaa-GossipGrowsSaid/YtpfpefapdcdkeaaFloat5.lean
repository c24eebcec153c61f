/- what a whole number's float reads as. By an AI agent. -/
import Derived.Test.YtpfpefapdcdkeaaFloat3
namespace Go.Proofs.Ytpfpefapdcdkeaa
open Ieee Go.RowKit

theorem rung_parts (k v : Nat) (h1 : two52 ≤ v) (h2 : v < 2 * two52) : ((k + 1022) * two52 + v) / two52 = k + 1023 ∧ two52 + ((k + 1022) * two52 + v) % two52 = v := by
  have e : (k + 1022) * two52 + v = (k + 1023) * two52 + (v - two52) := by
    have : (k + 1023) * two52 = (k + 1022) * two52 + two52 := by rw [← Nat.succ_mul]
    omega
  have hp : 0 < two52 := by decide
  rw [e, Nat.add_comm, Nat.add_mul_div_right _ _ hp, Nat.add_mul_mod_self_right, Nat.div_eq_of_lt (by omega), Nat.mod_eq_of_lt (by omega)]
  omega

set_option maxRecDepth 100000 in
theorem read_exact (a : Nat) (h0 : a ≠ 0) (h : a < 2 ^ 48) : Ieee.double.read (floatOfInt .f64 (a : Int)) = .number false (a * 2 ^ (52 - a.log2)) ((a.log2 : Int) - 52) := by
  have hl : a.log2 < 48 := (Nat.log2_lt h0).2 h
  have hlo : 2 ^ a.log2 ≤ a := Nat.log2_self_le h0
  have hhi : a < 2 ^ (a.log2 + 1) := Nat.lt_log2_self
  rw [float_nat a h0 h]
  have e1 := sum_small (Nat.mul_le_mul_right two52 (show a.log2 + 1022 ≤ 1069 by omega)) (mul_small a _ hl hhi)
  have e2 : two52 ≤ (a.log2 + 1022) * two52 + a * 2 ^ (52 - a.log2) := sum_large (Nat.mul_le_mul_right _ (by omega))
  have e3 : two52 ≤ a * 2 ^ (52 - a.log2) := by
    calc two52 = 2 ^ a.log2 * 2 ^ (52 - a.log2) := by rw [← Nat.pow_add, show a.log2 + (52 - a.log2) = 52 by omega]; rfl
      _ ≤ a * 2 ^ (52 - a.log2) := Nat.mul_le_mul_right _ hlo
  have e4 : a * 2 ^ (52 - a.log2) < 2 * two52 := mul_small a _ hl hhi
  obtain ⟨r1, r2⟩ := rung_parts a.log2 _ e3 e4
  generalize a * 2 ^ (52 - a.log2) = v at *
  generalize hx0 : (a.log2 + 1022) * two52 + v = x at *
  have hx : x % two63 = x := Nat.mod_eq_of_lt (by unfold infR two63 at *; omega)
  have hn : x / two63 % 2 = 0 := by rw [Nat.div_eq_of_lt (by unfold infR two63 at *; omega)]
  unfold Format.read
  rw [d_signWeight, d_binade, d_infRung, d_leastPlace]
  simp only [hx, hn]
  rw [if_neg (by omega), if_pos e1, r1, r2]
  have : ((a.log2 + 1023 - 1 : Nat) : Int) = a.log2 + 1022 := by omega
  rw [this]
  congr 1
  omega
end Go.Proofs.Ytpfpefapdcdkeaa
