/- rounding: what Format.nearest gives, by the worth alone; it is monotone. Plain facts over the model's Ieee. By an AI agent. -/
import Derived.Test.YtgdlcoicejgdkaaDoorReal3
namespace Go.Proofs.YtgdlcoicejgdkaaDoor
open Ieee

theorem log2_lt_self' (n : Nat) : n < 2 ^ (n.log2 + 1) := Nat.lt_log2_self
theorem log2_shift {m : Nat} (h : m ≠ 0) (k : Nat) : (m * 2 ^ k).log2 = m.log2 + k := by
  have h0 : m * 2 ^ k ≠ 0 := Nat.mul_ne_zero h (Nat.ne_of_gt (Nat.two_pow_pos k))
  have a : m.log2 + k ≤ (m * 2 ^ k).log2 := (Nat.le_log2 h0).2 (by rw [Nat.pow_add]; exact Nat.mul_le_mul_right _ (Nat.log2_self_le h))
  have b : (m * 2 ^ k).log2 < m.log2 + k + 1 := (Nat.log2_lt h0).2 (by
    rw [show m.log2 + k + 1 = (m.log2 + 1) + k by omega, Nat.pow_add]
    exact Nat.mul_lt_mul_of_pos_right Nat.lt_log2_self (Nat.two_pow_pos k))
  omega

/-- half up, or to the even one -/
def halfUp (n d : Nat) : Bool := decide (2 ^ d < 2 * (n % 2 ^ d)) || (2 ^ d == 2 * (n % 2 ^ d) && n / 2 ^ d % 2 == 1)
theorem cut_full (s : Bool) (n d : Nat) : Toward.even.cut s n d = n / 2 ^ d + (halfUp n d).toNat := by
  unfold Toward.cut halfUp
  simp only
  rw [Nat.one_shiftLeft]
  by_cases h : d ≤ n.log2 + 2
  · rw [Nat.min_eq_left h]
  · rw [Nat.min_eq_right (by omega)]
    have h1 : n < 2 ^ (n.log2 + 1) := Nat.lt_log2_self
    have h2 : 2 ^ (n.log2 + 2) = 2 * 2 ^ (n.log2 + 1) := by rw [Nat.pow_succ]; omega
    have h3 : 2 ^ (n.log2 + 2) ≤ 2 ^ d := Nat.pow_le_pow_right (by decide) (by omega)
    have e1 : n / 2 ^ (n.log2 + 2) = 0 := Nat.div_eq_of_lt (by omega)
    have e2 : n / 2 ^ d = 0 := Nat.div_eq_of_lt (by omega)
    have e3 : n % 2 ^ (n.log2 + 2) = n := Nat.mod_eq_of_lt (by omega)
    have e4 : n % 2 ^ d = n := Nat.mod_eq_of_lt (by omega)
    rw [e1, e2, e3, e4, decide_eq_false (by omega), decide_eq_false (by omega)]
    simp
theorem halfUp_shift (n d j : Nat) : halfUp (n * 2 ^ j) (d + j) = halfUp n d := by
  have hj := Nat.two_pow_pos j
  unfold halfUp
  have e1 : n * 2 ^ j % 2 ^ (d + j) = n % 2 ^ d * 2 ^ j := by rw [Nat.pow_add, Nat.mul_mod_mul_right]
  have e2 : n * 2 ^ j / 2 ^ (d + j) = n / 2 ^ d := by rw [Nat.pow_add, Nat.mul_div_mul_right _ _ hj]
  rw [e1, e2, ← Nat.mul_assoc, Nat.pow_add]
  have e3 : decide (2 ^ d * 2 ^ j < 2 * (n % 2 ^ d) * 2 ^ j) = decide (2 ^ d < 2 * (n % 2 ^ d)) := by
    rw [Bool.eq_iff_iff, decide_eq_true_eq, decide_eq_true_eq]
    exact Nat.mul_lt_mul_right hj
  have e4 : (2 ^ d * 2 ^ j == 2 * (n % 2 ^ d) * 2 ^ j) = (2 ^ d == 2 * (n % 2 ^ d)) := by
    rw [Bool.eq_iff_iff, beq_iff_eq, beq_iff_eq]
    exact Nat.mul_left_inj (Nat.ne_of_gt hj)
  rw [e3, e4]
theorem cut_shift (s : Bool) (n d j : Nat) : Toward.even.cut s (n * 2 ^ j) (d + j) = Toward.even.cut s n d := by
  rw [cut_full, cut_full, halfUp_shift, Nat.pow_add, Nat.mul_div_mul_right _ _ (Nat.two_pow_pos j)]
theorem cut_none (s : Bool) (n : Nat) : Toward.even.cut s n 0 = n := by
  rw [cut_full]; simp [halfUp, Nat.mod_one]
/-- rounded to a whole number a greater one is no lesser -/
theorem cut_mono (s : Bool) {n m : Nat} (h : n ≤ m) (d : Nat) : Toward.even.cut s n d ≤ Toward.even.cut s m d := by
  rw [cut_full, cut_full]
  have hp := Nat.two_pow_pos d
  have hle : n / 2 ^ d ≤ m / 2 ^ d := Nat.div_le_div_right h
  have hb : ∀ b : Bool, b.toNat ≤ 1 := by decide
  rcases Nat.lt_or_ge (n / 2 ^ d) (m / 2 ^ d) with h1 | h1
  · have := hb (halfUp n d); omega
  · have e : n / 2 ^ d = m / 2 ^ d := by omega
    have hm : n % 2 ^ d ≤ m % 2 ^ d := by
      have a := Nat.div_add_mod n (2 ^ d)
      have b := Nat.div_add_mod m (2 ^ d)
      rw [e] at a
      omega
    have hi : halfUp n d = true → halfUp m d = true := by
      unfold halfUp
      simp only [Bool.or_eq_true, Bool.and_eq_true, decide_eq_true_eq, beq_iff_eq]
      rw [e]
      intro h2
      rcases h2 with h2 | ⟨h2, h3⟩
      · exact .inl (by omega)
      · rcases Nat.lt_or_eq_of_le hm with h4 | h4
        · exact .inl (by omega)
        · exact .inr ⟨by omega, h3⟩
    rw [e]
    cases h2 : halfUp n d
    · simp
    · rw [hi h2]; exact Nat.le_refl _

/-- the rung of a worth: 'nearest' without its sign -/
def rung (m : Nat) (p : Int) : Nat :=
  if m = 0 then 0 else min ((max (p + m.log2 - 52) (-1074) + 1074).toNat * two52 + Toward.even.cut false (m * 2 ^ (p - max (p + m.log2 - 52) (-1074)).toNat) (max (p + m.log2 - 52) (-1074) - p).toNat) infR
theorem cut_sign (s : Bool) (n d : Nat) : Toward.even.cut s n d = Toward.even.cut false n d := by rw [cut_full, cut_full]
theorem nearest_rung (s : Bool) (m : Nat) (p : Int) : Ieee.double.nearest s m p = (if s then two63 else 0) + rung m p := by
  unfold Format.nearest rung
  rw [d_leastPlace, d_binade, d_infRung, show Ieee.double.fractionBits = 52 from rfl]
  unfold Format.word
  rw [d_signWeight]
  by_cases h : m = 0
  · rw [if_pos h, if_pos h]; cases s <;> simp
  · rw [if_neg h, if_neg h]
    simp only [cut_sign s, Nat.shiftLeft_eq, Int.sub_neg]
    have e : ((52 : Nat) : Int) = 52 := rfl
    rw [e]
    cases s <;> simp
theorem rung_le_inf (m : Nat) (p : Int) : rung m p ≤ infR := by
  unfold rung; split
  · decide
  · exact Nat.min_le_right _ _

theorem rung_shift (m k : Nat) (p : Int) : rung (m * 2 ^ k) p = rung m (p + k) := by
  unfold rung
  by_cases h : m = 0
  · subst h; simp
  · have h0 : m * 2 ^ k ≠ 0 := Nat.mul_ne_zero h (Nat.ne_of_gt (Nat.two_pow_pos k))
    rw [if_neg h, if_neg h0, log2_shift h]
    have el : max (p + ((m.log2 + k : Nat) : Int) - 52) (-1074) = max (p + k + m.log2 - 52) (-1074) := by
      congr 1; omega
    rw [el]
    generalize max (p + (k : Int) + m.log2 - 52) (-1074) = last
    congr 2
    by_cases h1 : last ≤ p
    · have e1 : (last - p).toNat = 0 := by omega
      have e2 : (last - (p + k)).toNat = 0 := by omega
      rw [e1, e2, Nat.mul_assoc, ← Nat.pow_add]
      congr 3; omega
    · by_cases h2 : (last - p).toNat ≤ k
      · have e1 : (last - (p + k)).toNat = 0 := by omega
        have e2 : (p - last).toNat = 0 := by omega
        have e3 : m * 2 ^ k * 2 ^ 0 = (m * 2 ^ (p + k - last).toNat) * 2 ^ (last - p).toNat := by
          rw [Nat.pow_zero, Nat.mul_one, Nat.mul_assoc, ← Nat.pow_add]; congr 2; omega
        rw [e1, e2, e3]
        have e5 := cut_shift false (m * 2 ^ (p + k - last).toNat) 0 (last - p).toNat
        rw [Nat.zero_add] at e5
        exact e5
      · have e1 : (p - last).toNat = 0 := by omega
        have e2 : (p + k - last).toNat = 0 := by omega
        have e3 : (last - p).toNat = (last - (p + k)).toNat + k := by omega
        rw [e1, e2, e3, Nat.pow_zero, Nat.mul_one, Nat.mul_one, cut_shift]

theorem cut_bound {n d e : Nat} (h : n < 2 ^ (e + d)) : Toward.even.cut false n d ≤ 2 ^ e := by
  rw [cut_full]
  have h1 : n / 2 ^ d < 2 ^ e := by rw [Nat.div_lt_iff_lt_mul (Nat.two_pow_pos d), ← Nat.pow_add]; exact h
  have hb : ∀ b : Bool, b.toNat ≤ 1 := by decide
  have := hb (halfUp n d)
  omega
theorem cut_least {n d e : Nat} (h : 2 ^ (e + d) ≤ n) : 2 ^ e ≤ Toward.even.cut false n d := by
  rw [cut_full]
  have h1 : 2 ^ e ≤ n / 2 ^ d := by rw [Nat.le_div_iff_mul_le (Nat.two_pow_pos d), ← Nat.pow_add]; exact h
  omega

/-- of two worths at one place the greater one's rung is no lesser -/
theorem rung_mono_at {m n : Nat} (h : m ≤ n) (p : Int) : rung m p ≤ rung n p := by
  by_cases hm : m = 0
  · subst hm; unfold rung; rw [if_pos rfl]; exact Nat.zero_le _
  · have hn : n ≠ 0 := by omega
    unfold rung
    rw [if_neg hm, if_neg hn]
    have hl : m.log2 ≤ n.log2 := (Nat.le_log2 hn).2 (Nat.le_trans (Nat.log2_self_le hm) h)
    refine Nat.le_min.2 ⟨Nat.le_trans (Nat.min_le_left _ _) ?_, Nat.min_le_right _ _⟩
    by_cases he : max (p + (m.log2 : Int) - 52) (-1074) = max (p + (n.log2 : Int) - 52) (-1074)
    · rw [he]
      exact Nat.add_le_add_left (cut_mono _ (Nat.mul_le_mul_right _ h) _) _
    · have hlt : m.log2 < n.log2 := by omega
      generalize h1 : max (p + (m.log2 : Int) - 52) (-1074) = a at *
      generalize h2 : max (p + (n.log2 : Int) - 52) (-1074) = b at *
      have hab : a + 1 ≤ b := by omega
      have hb : b = p + n.log2 - 52 := by omega
      have k1 : Toward.even.cut false (m * 2 ^ (p - a).toNat) (a - p).toNat ≤ 2 ^ 53 := by
        refine cut_bound ?_
        calc m * 2 ^ (p - a).toNat < 2 ^ (m.log2 + 1) * 2 ^ (p - a).toNat := Nat.mul_lt_mul_of_pos_right Nat.lt_log2_self (Nat.two_pow_pos _)
          _ = 2 ^ (m.log2 + 1 + (p - a).toNat) := by rw [← Nat.pow_add]
          _ ≤ 2 ^ (53 + (a - p).toNat) := Nat.pow_le_pow_right (by decide) (by omega)
      have k2 : 2 ^ 52 ≤ Toward.even.cut false (n * 2 ^ (p - b).toNat) (b - p).toNat := by
        refine cut_least ?_
        calc 2 ^ (52 + (b - p).toNat) ≤ 2 ^ (n.log2 + (p - b).toNat) := Nat.pow_le_pow_right (by decide) (by omega)
          _ = 2 ^ n.log2 * 2 ^ (p - b).toNat := Nat.pow_add _ _ _
          _ ≤ n * 2 ^ (p - b).toNat := Nat.mul_le_mul_right _ (Nat.log2_self_le hn)
      have k3 : (a + 1074).toNat + 1 ≤ (b + 1074).toNat := by omega
      have k4 : ((a + 1074).toNat + 1) * two52 ≤ (b + 1074).toNat * two52 := Nat.mul_le_mul_right _ k3
      rw [Nat.succ_mul] at k4
      have k5 : (2 : Nat) ^ 53 = two52 + two52 := by decide
      have k6 : (2 : Nat) ^ 52 = two52 := by decide
      omega
/-- of two worths the greater one's rung is no lesser -/
theorem rung_mono {m n : Nat} {p q : Int} (b : Int) (hp : b ≤ p) (hq : b ≤ q) (h : m * 2 ^ (p - b).toNat ≤ n * 2 ^ (q - b).toNat) : rung m p ≤ rung n q := by
  have e1 : rung m p = rung (m * 2 ^ (p - b).toNat) b := by rw [rung_shift]; congr 1; omega
  have e2 : rung n q = rung (n * 2 ^ (q - b).toNat) b := by rw [rung_shift]; congr 1; omega
  rw [e1, e2]
  exact rung_mono_at h b
/-- a normal number's worth: no rounding -/
theorem exact_room {a m : Nat} (h5 : a ≤ 2045) (h2 : m < 2 * two52) : a * two52 + m ≤ infR := by
  have h6 : a * two52 ≤ 2045 * two52 := Nat.mul_le_mul_right _ h5
  have h7 : 2045 * two52 + 2 * two52 = infR := by decide
  omega
theorem rung_exact {m : Nat} {p : Int} (h1 : two52 ≤ m) (h2 : m < 2 * two52) (h3 : -1074 ≤ p) (h4 : p ≤ 971) : rung m p = (p + 1074).toNat * two52 + m := by
  have h0 : m ≠ 0 := by unfold two52 at h1; omega
  have a := (Nat.le_log2 (k := 52) h0).2 h1
  have b := (Nat.log2_lt (k := 53) h0).2 h2
  have hl : m.log2 = 52 := by omega
  unfold rung
  rw [if_neg h0, hl]
  have e : max (p + ((52 : Nat) : Int) - 52) (-1074) = p := by omega
  rw [e]
  have e1 : (p - p).toNat = 0 := by omega
  rw [e1, cut_none, Nat.pow_zero, Nat.mul_one]
  exact Nat.min_eq_left (exact_room (by omega) h2)
/-- a small number's worth: no rounding -/
theorem rung_sub {m : Nat} (h2 : m < two52) : rung m (-1074) = m := by
  by_cases h0 : m = 0
  · subst h0; rfl
  · have b := (Nat.log2_lt (k := 52) h0).2 h2
    unfold rung
    rw [if_neg h0]
    have e : max ((-1074 : Int) + (m.log2 : Int) - 52) (-1074) = -1074 := by omega
    rw [e]
    simp only [Int.sub_self, Int.toNat_zero, cut_none, Nat.pow_zero, Nat.mul_one]
    have e2 : ((-1074 : Int) + 1074).toNat * two52 + m = m := by
      rw [show ((-1074 : Int) + 1074).toNat = 0 from by decide]; omega
    rw [e2]
    refine Nat.min_eq_left ?_
    unfold two52 infR at *
    omega
end Go.Proofs.YtgdlcoicejgdkaaDoor
