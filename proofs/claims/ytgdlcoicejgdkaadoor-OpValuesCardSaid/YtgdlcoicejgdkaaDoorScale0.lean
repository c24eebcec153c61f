/- how far a clock goes: plain facts over the model's Ieee. By an AI agent. -/
import Derived.Test.YtgdlcoicejgdkaaDoorMath3
namespace Go.Proofs.YtgdlcoicejgdkaaDoor
open Go.RowKit Ieee

/-- a whole number's float -/
theorem float_rung (a : Nat) : floatOfInt .f64 (a : Int) = rung a 0 := by
  show Ieee.double.write (.number (decide ((a : Int) < 0)) ((a : Int).natAbs) 0) = _
  rw [decide_eq_false (by omega), Int.natAbs_natCast]
  show Ieee.double.nearest false a 0 = _
  rw [nearest_rung]; simp
theorem nat_word {a : Nat} (h0 : a ≠ 0) (h : a < 2 ^ 53) : rung a 0 = (a.log2 + 1023) * two52 + (a * 2 ^ (52 - a.log2) - two52) ∧ two52 ≤ a * 2 ^ (52 - a.log2) ∧ a * 2 ^ (52 - a.log2) < 2 * two52 ∧ a.log2 ≤ 52 := by
  have hl : a.log2 < 53 := (Nat.log2_lt h0).2 h
  have h1 : two52 ≤ a * 2 ^ (52 - a.log2) := by
    calc two52 = 2 ^ a.log2 * 2 ^ (52 - a.log2) := by rw [← Nat.pow_add, show a.log2 + (52 - a.log2) = 52 by omega]; rfl
      _ ≤ a * 2 ^ (52 - a.log2) := Nat.mul_le_mul_right _ (Nat.log2_self_le h0)
  have h2 : a * 2 ^ (52 - a.log2) < 2 * two52 := by
    calc a * 2 ^ (52 - a.log2) < 2 ^ (a.log2 + 1) * 2 ^ (52 - a.log2) := Nat.mul_lt_mul_of_pos_right Nat.lt_log2_self (Nat.two_pow_pos _)
      _ = 2 * two52 := by rw [← Nat.pow_add, show a.log2 + 1 + (52 - a.log2) = 53 by omega]; rfl
  refine ⟨?_, h1, h2, by omega⟩
  have e := rung_shift a (52 - a.log2) (-((52 - a.log2 : Nat) : Int))
  rw [show -((52 - a.log2 : Nat) : Int) + ((52 - a.log2 : Nat) : Int) = 0 by omega] at e
  rw [← e, rung_exact h1 h2 (by omega) (by omega)]
  rw [show (-((52 - a.log2 : Nat) : Int) + 1074).toNat = a.log2 + 1022 by omega]
  have hs : (a.log2 + 1023) * two52 = (a.log2 + 1022) * two52 + two52 := by rw [show a.log2 + 1023 = (a.log2 + 1022) + 1 by omega, Nat.succ_mul]
  rw [hs]
  generalize (a.log2 + 1022) * two52 = Z
  omega
theorem read_natF {a : Nat} (h0 : a ≠ 0) (h : a < 2 ^ 53) : Ieee.double.read (rung a 0) = .number false (a * 2 ^ (52 - a.log2)) (-((52 - a.log2 : Nat) : Int)) := by
  obtain ⟨e, h1, h2, hl⟩ := nat_word h0 h
  have hf : a * 2 ^ (52 - a.log2) - two52 < two52 := by omega
  have p1 : ((a.log2 + 1023) * two52 + (a * 2 ^ (52 - a.log2) - two52)) / two52 = a.log2 + 1023 := by
    rw [Nat.add_comm, Nat.add_mul_div_right _ _ (by decide), Nat.div_eq_of_lt hf]; omega
  have p2 : ((a.log2 + 1023) * two52 + (a * 2 ^ (52 - a.log2) - two52)) % two52 = a * 2 ^ (52 - a.log2) - two52 := by
    rw [Nat.add_comm, Nat.add_mul_mod_self_right, Nat.mod_eq_of_lt hf]
  have hge : two52 ≤ (a.log2 + 1023) * two52 + (a * 2 ^ (52 - a.log2) - two52) := Nat.le_trans (Nat.le_mul_of_pos_left two52 (show 0 < a.log2 + 1023 by omega)) (Nat.le_add_right _ _)
  have hlt : (a.log2 + 1023) * two52 + (a * 2 ^ (52 - a.log2) - two52) < infR := by
    have h6 : (a.log2 + 1023) * two52 ≤ 1075 * two52 := Nat.mul_le_mul_right _ (by omega)
    have h7 : 1076 * two52 ≤ infR := by decide
    have h8 : 1075 * two52 + two52 = 1076 * two52 := by decide
    omega
  have e3 : two52 + (a * 2 ^ (52 - a.log2) - two52) = a * 2 ^ (52 - a.log2) := by omega
  have e4 : ((a.log2 + 1023 : Nat) : Int) - 1075 = -((52 - a.log2 : Nat) : Int) := by omega
  rw [e, read_normal hge hlt, p1, p2, e3, e4]

/-- a rung's digits and their place -/
def digS (r : Nat) : Nat := if r < two52 then r else two52 + r % two52
def digP (r : Nat) : Int := if r < two52 then -1074 else ((r / two52 : Nat) : Int) - 1075
theorem read_rung {r : Nat} (h : r < infR) : Ieee.double.read r = .number false (digS r) (digP r) := by
  unfold digS digP
  by_cases hs : r < two52
  · rw [if_pos hs, if_pos hs]; exact read_small hs
  · rw [if_neg hs, if_neg hs]; exact read_normal (by omega) h
theorem digP_ge (r : Nat) : -1074 ≤ digP r := by
  unfold digP
  split
  · omega
  · rename_i h
    have : 1 ≤ r / two52 := by rw [Nat.le_div_iff_mul_le (by decide)]; omega
    omega
theorem uval_dig (r : Nat) : uval r = digS r * 2 ^ (digP r + 1074).toNat := by
  unfold uval digS digP
  by_cases hs : r < two52
  · rw [if_pos hs, if_pos hs, if_pos hs]; simp
  · rw [if_neg hs, if_neg hs, if_neg hs]
    congr 2; omega
theorem uval_mono {r s : Nat} (h : r ≤ s) : uval r ≤ uval s := by
  rcases Nat.lt_or_eq_of_le h with h | h
  · exact Nat.le_of_lt (uval_lt h)
  · rw [h]; exact Nat.le_refl _

/-- so many times a number -/
def farR (c y : Nat) : Nat := rung (c * digS y) (digP y)
theorem mul_far {c y : Nat} (h0 : c ≠ 0) (h : c < 2 ^ 53) (hy : y < infR) : floatBits .mul .f64 (rung c 0) y = some (farR c y) := by
  rw [mul_of (read_natF h0 h) (read_rung hy)]
  unfold farR
  congr 1
  rw [Nat.mul_right_comm, rung_shift]
  congr 1
  omega
theorem far_mono_n {c d : Nat} (h : c ≤ d) (y : Nat) : farR c y ≤ farR d y := rung_mono_at (Nat.mul_le_mul_right _ h) _
theorem far_mono_y (c : Nat) {x y : Nat} (h : x ≤ y) : farR c x ≤ farR c y := by
  refine rung_mono (-1074) (digP_ge x) (digP_ge y) ?_
  rw [show digP x - -1074 = digP x + 1074 by omega, show digP y - -1074 = digP y + 1074 by omega, Nat.mul_assoc, Nat.mul_assoc, ← uval_dig, ← uval_dig]
  exact Nat.mul_le_mul_left _ (uval_mono h)

/-- the word of 2^48 -/
def w48 : Nat := 4823355200913801216
def bigK : Nat := 1074
/-- the whole part -/
def floorR (r : Nat) : Nat := uval r / 2 ^ bigK
theorem floor_mono {r s : Nat} (h : r ≤ s) : floorR r ≤ floorR s := Nat.div_le_div_right (uval_mono h)
theorem floor_48 : floorR w48 = 281474976710656 := by decide +kernel
theorem cut_zero_down (s : Bool) (n d : Nat) : Toward.zero.cut s n d = n / 2 ^ d := by
  unfold Toward.cut
  simp only [Nat.one_shiftLeft]
  by_cases h : d ≤ n.log2 + 2
  · rw [Nat.min_eq_left h]; simp
  · rw [Nat.min_eq_right (by omega)]
    have h1 : n < 2 ^ (n.log2 + 1) := Nat.lt_log2_self
    have h2 : 2 ^ (n.log2 + 1) ≤ 2 ^ (n.log2 + 2) := Nat.pow_le_pow_right (by decide) (by omega)
    have h3 : 2 ^ (n.log2 + 2) ≤ 2 ^ d := Nat.pow_le_pow_right (by decide) (by omega)
    rw [Nat.div_eq_of_lt (show n < 2 ^ (n.log2 + 2) by omega), Nat.div_eq_of_lt (show n < 2 ^ d by omega)]
    simp
theorem floor_parts (K m : Nat) (p : Int) (hp : -(K : Int) ≤ p) : m * 2 ^ (p + K).toNat / 2 ^ K = m * 2 ^ p.toNat / 2 ^ (-p).toNat := by
  by_cases h : 0 ≤ p
  · have e1 : (p + K).toNat = p.toNat + K := by omega
    have e2 : (-p).toNat = 0 := by omega
    rw [e1, e2, Nat.pow_add, ← Nat.mul_assoc, Nat.mul_div_cancel _ (Nat.two_pow_pos _), Nat.pow_zero, Nat.div_one]
  · have e2 : p.toNat = 0 := by omega
    have e3 : (2 : Nat) ^ K = 2 ^ (-p).toNat * 2 ^ (p + K).toNat := by rw [← Nat.pow_add]; congr 1; omega
    rw [e2, e3, Nat.pow_zero, Nat.mul_one, Nat.mul_div_mul_right _ _ (Nat.two_pow_pos _)]
theorem to_int_floor {r : Nat} (h : r < w48) : floatToIntVal .f64 r .i64 = some (floorR r : Int) := by
  have hinf : r < infR := by unfold w48 at h; unfold infR; omega
  unfold floatToIntVal
  have hd : FloatKind.f64.decode r = .number false (digS r) (digP r) := read_rung hinf
  rw [hd]
  have ht : (Datum.number false (digS r) (digP r)).toInt .zero = some (floorR r : Int) := by
    unfold Datum.toInt Datum.integral
    simp only [cut_zero_down, signed, Nat.shiftLeft_eq]
    unfold floorR
    rw [uval_dig, show (digP r + 1074) = digP r + (bigK : Int) from rfl, floor_parts bigK _ _ (digP_ge r)]
    simp
  rw [ht]
  have hb : (floorR r : Int) ≤ 281474976710656 := by
    have := floor_mono (Nat.le_of_lt h)
    rw [floor_48] at this
    omega
  have hb2 : IntKind.i64.min ≤ (floorR r : Int) ∧ (floorR r : Int) ≤ IntKind.i64.max := by
    have h1 : IntKind.i64.min = -9223372036854775808 := by decide
    have h3 : IntKind.i64.max = 9223372036854775807 := by decide
    rw [h1, h3]; omega
  simp only [if_pos hb2]

/-- a time, within its range -/
def clampT (n : Int) : Int := min (max n 0) 281474976710656
theorem clampT_bd (n : Int) : 0 ≤ clampT n ∧ clampT n ≤ 281474976710656 := by unfold clampT; omega
/-- is it nought or below? (and no NaN) -/
def underB (y : Nat) : Bool := decide (y % two63 = 0) || decide (two63 ≤ y)
/-- real.Scale -/
def scaleV (n : Int) (y : Nat) : Int :=
  if nanB y then clampT n
  else if clampT n = 0 ∨ underB y = true then 0
  else if y = infR ∨ w48 ≤ farR (clampT n).toNat y then 281474976710656
  else (floorR (farR (clampT n).toNat y) : Int)
theorem scaleV_bd (n : Int) (y : Nat) : 0 ≤ scaleV n y ∧ scaleV n y ≤ 281474976710656 := by
  have hc := clampT_bd n
  unfold scaleV
  split
  · exact hc
  · split
    · omega
    · split
      · omega
      · rename_i h
        have h2 : farR (clampT n).toNat y ≤ w48 := by
          by_cases h3 : w48 ≤ farR (clampT n).toNat y
          · exact absurd (.inr h3) h
          · omega
        have := floor_mono h2
        rw [floor_48] at this
        omega
theorem clampT_mono {n m : Int} (h : n ≤ m) : clampT n ≤ clampT m := by unfold clampT; omega
theorem scaleV_mono_n {n m : Int} (h : n ≤ m) (y : Nat) : scaleV n y ≤ scaleV m y := by
  have h1 := clampT_mono h
  have hn := clampT_bd n
  have hm := clampT_bd m
  by_cases a : nanB y = true
  · unfold scaleV; rw [if_pos a, if_pos a]; exact h1
  · by_cases b : clampT n = 0 ∨ underB y = true
    · have : scaleV n y = 0 := by unfold scaleV; rw [if_neg a, if_pos b]
      rw [this]; exact (scaleV_bd m y).1
    · have b' : ¬ (clampT m = 0 ∨ underB y = true) := by
        rintro (k | k)
        · exact b (.inl (by omega))
        · exact b (.inr k)
      by_cases c : y = infR ∨ w48 ≤ farR (clampT m).toNat y
      · have : scaleV m y = 281474976710656 := by unfold scaleV; rw [if_neg a, if_neg b', if_pos c]
        rw [this]; exact (scaleV_bd n y).2
      · have hf : farR (clampT n).toNat y ≤ farR (clampT m).toNat y := far_mono_n (by omega) y
        have c' : ¬ (y = infR ∨ w48 ≤ farR (clampT n).toNat y) := by
          rintro (k | k)
          · exact c (.inl k)
          · exact c (.inr (by omega))
        unfold scaleV
        rw [if_neg a, if_neg b, if_neg c', if_neg a, if_neg b', if_neg c]
        exact_mod_cast floor_mono hf
theorem scaleV_mono_y (n : Int) {x y : Nat} (nx : nanB x = false) (ny : nanB y = false) (h : sval x ≤ sval y) : scaleV n x ≤ scaleV n y := by
  have a : ¬ nanB x = true := by rw [nx]; simp
  have a' : ¬ nanB y = true := by rw [ny]; simp
  by_cases b : clampT n = 0 ∨ underB x = true
  · have : scaleV n x = 0 := by unfold scaleV; rw [if_neg a, if_pos b]
    rw [this]; exact (scaleV_bd n y).1
  · have hux : x < two63 ∧ x % two63 ≠ 0 := by
      have : ¬ underB x = true := fun k => b (.inr k)
      simp only [underB, Bool.or_eq_true, decide_eq_true_eq] at this
      omega
    have hxm : x % two63 = x := Nat.mod_eq_of_lt hux.1
    have hpos : 0 < uval x := by
      have := uval_lt (show 0 < x by omega)
      rwa [show uval 0 = 0 from by decide] at this
    have hsx : sval x = (uval x : Int) := by unfold sval; rw [if_neg (by omega), hxm]
    rw [hsx] at h
    have hy63 : y < two63 := by
      by_cases k : two63 ≤ y
      · unfold sval at h; rw [if_pos k] at h; omega
      · omega
    have hym : y % two63 = y := Nat.mod_eq_of_lt hy63
    have hsy : sval y = (uval y : Int) := by unfold sval; rw [if_neg (by omega), hym]
    rw [hsy] at h
    have hxy : x ≤ y := by
      by_cases k : x ≤ y
      · exact k
      · have := uval_lt (show y < x by omega); omega
    have b' : ¬ (clampT n = 0 ∨ underB y = true) := by
      rintro (k | k)
      · exact b (.inl k)
      · simp only [underB, Bool.or_eq_true, decide_eq_true_eq] at k; omega
    by_cases c : y = infR ∨ w48 ≤ farR (clampT n).toNat y
    · have : scaleV n y = 281474976710656 := by unfold scaleV; rw [if_neg a', if_neg b', if_pos c]
      rw [this]; exact (scaleV_bd n x).2
    · have hf : farR (clampT n).toNat x ≤ farR (clampT n).toNat y := far_mono_y _ hxy
      have hyi : y ≤ infR := by simpa [nanB, hym] using ny
      have c' : ¬ (x = infR ∨ w48 ≤ farR (clampT n).toNat x) := by
        rintro (k | k)
        · exact c (.inl (by omega))
        · exact c (.inr (by omega))
      unfold scaleV
      rw [if_neg a, if_neg b, if_neg c', if_neg a', if_neg b', if_neg c]
      exact_mod_cast floor_mono hf
theorem far_one (c : Nat) : farR c 4607182418800017408 = rung c 0 := by
  unfold farR
  have e : digS 4607182418800017408 = 2 ^ 52 := by decide +kernel
  have e2 : digP 4607182418800017408 = -52 := by decide +kernel
  rw [e, e2, rung_shift]; rfl
theorem floor_nat {c : Nat} (h0 : c ≠ 0) (h : c < 2 ^ 53) : floorR (rung c 0) = c := by
  obtain ⟨e, h1, h2, hl⟩ := nat_word h0 h
  have hf : c * 2 ^ (52 - c.log2) - two52 < two52 := by omega
  have p1 : ((c.log2 + 1023) * two52 + (c * 2 ^ (52 - c.log2) - two52)) / two52 = c.log2 + 1023 := by
    rw [Nat.add_comm, Nat.add_mul_div_right _ _ (by decide), Nat.div_eq_of_lt hf]; omega
  have p2 : ((c.log2 + 1023) * two52 + (c * 2 ^ (52 - c.log2) - two52)) % two52 = c * 2 ^ (52 - c.log2) - two52 := by
    rw [Nat.add_comm, Nat.add_mul_mod_self_right, Nat.mod_eq_of_lt hf]
  have hge : two52 ≤ (c.log2 + 1023) * two52 + (c * 2 ^ (52 - c.log2) - two52) := Nat.le_trans (Nat.le_mul_of_pos_left two52 (show 0 < c.log2 + 1023 by omega)) (Nat.le_add_right _ _)
  unfold floorR uval
  rw [e, if_neg (by omega), p1, p2, show two52 + (c * 2 ^ (52 - c.log2) - two52) = c * 2 ^ (52 - c.log2) by omega, Nat.mul_assoc, ← Nat.pow_add]
  rw [show 52 - c.log2 + (c.log2 + 1023 - 1) = bigK by unfold bigK; omega]
  exact Nat.mul_div_cancel _ (Nat.two_pow_pos _)
theorem scaleV_one (n : Int) : scaleV n 4607182418800017408 = clampT n := by
  have hc := clampT_bd n
  unfold scaleV
  rw [show nanB 4607182418800017408 = false from by decide +kernel, if_neg (by simp), show underB 4607182418800017408 = false from by decide +kernel]
  by_cases h : clampT n = 0
  · rw [if_pos (.inl h), h]
  · rw [if_neg (by simp [h]), far_one]
    have hf := floor_nat (c := (clampT n).toNat) (by omega) (by omega)
    by_cases k : w48 ≤ rung (clampT n).toNat 0
    · rw [if_pos (.inr k)]
      have := floor_mono k
      rw [floor_48, hf] at this
      omega
    · rw [if_neg (by rintro (k2 | k2); · revert k2; decide
                     · exact k k2), hf]
      omega
end Go.Proofs.YtgdlcoicejgdkaaDoor
