/- rounding below one. By an AI agent. -/
import Derived.Test.YtpfpefapdcdkeaaFloat3
namespace Go.Proofs.Ytpfpefapdcdkeaa
open Ieee Go.RowKit

theorem cut_le (n d e : Nat) (h : n < 2 ^ (e + d)) : Toward.even.cut false n d ≤ 2 ^ e := by
  unfold Toward.cut
  simp only
  have hm : ∀ b : Bool, b.toNat ≤ 1 := by decide
  rw [Nat.one_shiftLeft]
  have hlow : n / 2 ^ min d (n.log2 + 2) < 2 ^ e := by
    rw [Nat.div_lt_iff_lt_mul (Nat.two_pow_pos _), ← Nat.pow_add]
    by_cases hd : d ≤ n.log2 + 2
    · rw [Nat.min_eq_left hd]; exact h
    · rw [Nat.min_eq_right (by omega)]
      calc n < 2 ^ (n.log2 + 1) := Nat.lt_log2_self
        _ ≤ 2 ^ (e + (n.log2 + 2)) := Nat.pow_le_pow_right (by decide) (by omega)
  have := hm (decide (2 ^ min d (n.log2 + 2) < 2 * (n % 2 ^ min d (n.log2 + 2))) || 2 ^ min d (n.log2 + 2) == 2 * (n % 2 ^ min d (n.log2 + 2)) && n / 2 ^ min d (n.log2 + 2) % 2 == 1)
  omega

theorem cut_pow (e d : Nat) : Toward.even.cut false (2 ^ (e + d)) d = 2 ^ e := by
  unfold Toward.cut
  simp only
  rw [Nat.one_shiftLeft, Nat.log2_two_pow, Nat.min_eq_left (by omega), Nat.pow_add, Nat.mul_div_cancel _ (Nat.two_pow_pos _), Nat.mul_mod_left]
  have : 2 ^ d ≠ 0 := Nat.ne_of_gt (Nat.two_pow_pos _)
  simp

theorem rung_le {u v : Nat} (h1 : u ≤ 1021 * two52) (h2 : v ≤ 9007199254740992) : u + v ≤ 4607182418800017408 := by
  unfold two52 at *; omega

/-- what is at most one rounds to at most one -/
theorem nearest_le_one (m : Nat) (p : Int) (hp : p ≤ 0) (h : m ≤ 2 ^ (-p).toNat) : Ieee.double.nearest false m p ≤ 4607182418800017408 := by
  unfold Format.nearest
  by_cases h0 : m = 0
  · rw [if_pos h0]; simp [Format.word]
  rw [if_neg h0, d_leastPlace, d_binade, d_infRung, show Ieee.double.fractionBits = 52 from rfl]
  have hlo : 2 ^ m.log2 ≤ m := Nat.log2_self_le h0
  have hhi : m < 2 ^ (m.log2 + 1) := Nat.lt_log2_self
  have hL : m.log2 ≤ (-p).toNat := (Nat.pow_le_pow_iff_right (by decide)).1 (Nat.le_trans hlo h)
  unfold Format.word
  simp only [Bool.false_eq_true, if_false]
  refine Nat.le_trans (Nat.min_le_left _ _) ?_
  generalize hl : max (p + (m.log2 : Int) - ((52 : Nat) : Int)) (-1074) = last
  by_cases hlt : p + m.log2 < 0
  · refine rung_le (Nat.mul_le_mul_right _ (by omega)) (Nat.le_trans (cut_le _ _ 53 ?_) (by decide))
    rw [Nat.shiftLeft_eq]
    calc m * 2 ^ (p - last).toNat < 2 ^ (m.log2 + 1) * 2 ^ (p - last).toNat := Nat.mul_lt_mul_of_pos_right hhi (Nat.two_pow_pos _)
      _ = 2 ^ (m.log2 + 1 + (p - last).toNat) := by rw [← Nat.pow_add]
      _ ≤ 2 ^ (53 + (last - p).toNat) := Nat.pow_le_pow_right (by decide) (by omega)
  · have he : m.log2 = (-p).toNat := by omega
    have hm : m = 2 ^ m.log2 := Nat.le_antisymm (by rw [he]; exact h) hlo
    have hlast : last = -52 := by omega
    subst hlast
    have hk : (m <<< (p - -52).toNat) = 2 ^ (52 + (-52 - p).toNat) := by
      rw [Nat.shiftLeft_eq, hm, ← Nat.pow_add]; congr 1; omega
    rw [hk, cut_pow]
    decide
end Go.Proofs.Ytpfpefapdcdkeaa
