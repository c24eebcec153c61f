/- a quotient of at most one. By an AI agent. -/
import Derived.Test.YtpfpefapdcdkeaaFloat5
import Derived.Test.YtpfpefapdcdkeaaFloat4
namespace Go.Proofs.Ytpfpefapdcdkeaa
open Ieee Go.RowKit

theorem div_le (m n q : Nat) (hn : 0 < n) (h : m ≤ n * q) : 2 * (m / n) + (m % n != 0).toNat ≤ 2 * q := by
  by_cases he : m = n * q
  · subst he
    rw [Nat.mul_div_cancel_left _ hn, Nat.mul_mod_right]
    simp
  · have h1 : m / n < q := by
      rw [Nat.div_lt_iff_lt_mul hn, Nat.mul_comm]; omega
    have h2 : (m % n != 0).toNat ≤ 1 := by cases (m % n != 0) <;> decide
    omega

theorem log2_52 {v : Nat} (h1 : two52 ≤ v) (h2 : v < 2 * two52) : v.log2 = 52 := by
  have h0 : v ≠ 0 := by unfold two52 at h1; omega
  have a := (Nat.le_log2 (k := 52) h0).2 h1
  have b := (Nat.log2_lt (k := 53) h0).2 h2
  omega

theorem pow_shift (t l k : Nat) (hl : l ≤ 52) : t * 2 ^ (52 - l) * 2 ^ k = t * 2 ^ (52 + k - l) := by
  rw [Nat.mul_assoc, ← Nat.pow_add]; congr 2; omega

theorem quo_le_one (t b : Nat) (h0 : t ≠ 0) (h : b < 2 ^ 48) (hle : t ≤ b) : ∃ mag place, place ≤ 0 ∧ mag ≤ 2 ^ (-place).toNat ∧ floatBits .quo .f64 (floatOfInt .f64 (t : Int)) (floatOfInt .f64 (b : Int)) = some (Ieee.double.nearest false mag place) := by
  have hb0 : b ≠ 0 := by omega
  have ht : t < 2 ^ 48 := by omega
  have lt48 : t.log2 < 48 := (Nat.log2_lt h0).2 ht
  have lb48 : b.log2 < 48 := (Nat.log2_lt hb0).2 h
  have hlo : 2 ^ t.log2 ≤ t := Nat.log2_self_le h0
  have hhi : t < 2 ^ (t.log2 + 1) := Nat.lt_log2_self
  have blo : 2 ^ b.log2 ≤ b := Nat.log2_self_le hb0
  have bhi : b < 2 ^ (b.log2 + 1) := Nat.lt_log2_self
  have hll : t.log2 ≤ b.log2 := (Nat.le_log2 hb0).2 (Nat.le_trans hlo hle)
  have e3 : ∀ a l : Nat, l < 48 → 2 ^ l ≤ a → two52 ≤ a * 2 ^ (52 - l) := fun a l hl ha => by
    calc two52 = 2 ^ l * 2 ^ (52 - l) := by rw [← Nat.pow_add, show l + (52 - l) = 52 by omega]; rfl
      _ ≤ a * 2 ^ (52 - l) := Nat.mul_le_mul_right _ ha
  have m1 := log2_52 (e3 t _ lt48 hlo) (mul_small t _ lt48 hhi)
  have n1 := log2_52 (e3 b _ lb48 blo) (mul_small b _ lb48 bhi)
  have nz : b * 2 ^ (52 - b.log2) ≠ 0 := by
    have := e3 b _ lb48 blo
    have h52 : 0 < two52 := by decide
    omega
  refine ⟨2 * ((t * 2 ^ (52 - t.log2)) <<< (Ieee.double.fractionBits + 2 + (b * 2 ^ (52 - b.log2)).log2 - (t * 2 ^ (52 - t.log2)).log2) / (b * 2 ^ (52 - b.log2))) + ((t * 2 ^ (52 - t.log2)) <<< (Ieee.double.fractionBits + 2 + (b * 2 ^ (52 - b.log2)).log2 - (t * 2 ^ (52 - t.log2)).log2) % (b * 2 ^ (52 - b.log2)) != 0).toNat,
    (t.log2 : Int) - 52 - ((b.log2 : Int) - 52) - ((Ieee.double.fractionBits + 2 + (b * 2 ^ (52 - b.log2)).log2 - (t * 2 ^ (52 - t.log2)).log2 : Nat) : Int) - 1, ?_, ?_, ?_⟩
  rotate_left 2
  · show Ieee.double.div _ _ = _
    unfold Format.div
    rw [read_exact t h0 ht, read_exact b hb0 h]
    simp only [Datum.quotient, if_neg nz]
    rfl
  · rw [m1, n1]
    show (t.log2 : Int) - 52 - ((b.log2 : Int) - 52) - ((52 + 2 + 52 - 52 : Nat) : Int) - 1 ≤ 0
    omega
  · rw [m1, n1]
    have ep : (-((t.log2 : Int) - 52 - ((b.log2 : Int) - 52) - ((Ieee.double.fractionBits + 2 + 52 - 52 : Nat) : Int) - 1)).toNat = 54 + b.log2 - t.log2 + 1 := by
      show (-((t.log2 : Int) - 52 - ((b.log2 : Int) - 52) - ((52 + 2 + 52 - 52 : Nat) : Int) - 1)).toNat = _
      omega
    rw [ep, Nat.pow_succ, Nat.mul_comm (2 ^ _) 2]
    refine div_le _ _ _ (Nat.pos_of_ne_zero nz) ?_
    rw [Nat.shiftLeft_eq]
    show t * 2 ^ (52 - t.log2) * 2 ^ (52 + 2 + 52 - 52) ≤ _
    rw [pow_shift t _ _ (by omega), pow_shift b _ _ (by omega)]
    have e4 : 52 + (54 + b.log2 - t.log2) - b.log2 = 52 + (52 + 2 + 52 - 52) - t.log2 := by omega
    rw [e4]
    exact Nat.mul_le_mul_right _ hle
end Go.Proofs.Ytpfpefapdcdkeaa
