/- quotients of whole numbers: plain facts over the model's Ieee. By an AI agent. -/
import Derived.Test.YtafoagllbajfnaaDoorRatio
import Derived.Test.YtafoagllbajfnaaDoorScale0
namespace Go.Proofs.YtafoagllbajfnaaDoor
open Ieee Go.RowKit

def sgW (s : Bool) (r : Nat) : Nat := (if s then two63 else 0) + r
theorem wordI (a : Int) : floatOfInt .f64 a = sgW (decide (a < 0)) (rung a.natAbs 0) := by
  show Ieee.double.write (.number (decide (a < 0)) a.natAbs 0) = _
  show Ieee.double.nearest _ _ 0 = _
  rw [nearest_rung]; rfl
theorem rungI {n : Nat} (h0 : n ≠ 0) (h : n ≤ two63) : 1023 * two52 ≤ rung n 0 ∧ rung n 0 ≤ 1086 * two52 :=
  ⟨by rw [← show rung 1 0 = 1023 * two52 from by decide +kernel]; exact rung_mono_at (by omega) 0, by rw [← show rung two63 0 = 1086 * two52 from by decide +kernel]; exact rung_mono_at h 0⟩
theorem read_sign {r : Nat} (s : Bool) (h : r < infR) : Ieee.double.read (sgW s r) = .number s (digS r) (digP r) := by
  have hm : sgW s r % two63 = r := by cases s <;> simp [sgW] <;> (unfold infR two63 at *; omega)
  have hn : (sgW s r / two63 % 2 == 1) = s := by cases s <;> simp [sgW] <;> (unfold infR two63 at *; omega)
  unfold Format.read
  rw [d_signWeight, d_binade, d_infRung, d_leastPlace]
  simp only [hm, hn]
  unfold digS digP
  by_cases hs : r < two52
  · rw [if_pos hs, if_pos hs, if_pos hs]
  · rw [if_neg hs, if_neg hs, if_neg hs, if_pos h]
    have hq : 1 ≤ r / two52 := by rw [Nat.le_div_iff_mul_le (by decide)]; omega
    have e : (-1074 : Int) + ((r / two52 - 1 : Nat) : Int) = ((r / two52 : Nat) : Int) - 1075 := by omega
    rw [e]
theorem digI {n : Nat} (h0 : n ≠ 0) (h : n ≤ two63) : two52 ≤ digS (rung n 0) ∧ digS (rung n 0) < 2 * two52 ∧ -52 ≤ digP (rung n 0) ∧ digP (rung n 0) ≤ 11 ∧ rung n 0 < infR := by
  obtain ⟨h1, h2⟩ := rungI h0 h
  generalize rung n 0 = r at *
  unfold digS digP infR
  rw [if_neg (by unfold two52 at *; omega), if_neg (by unfold two52 at *; omega)]
  unfold two52 at *
  refine ⟨?_, ?_, ?_, ?_, ?_⟩ <;> omega
theorem readI {a : Int} (h0 : a ≠ 0) (h : a.natAbs ≤ two63) : ∃ m p, Ieee.double.read (floatOfInt .f64 a) = .number (decide (a < 0)) m p ∧ two52 ≤ m ∧ m < 2 * two52 ∧ -52 ≤ p ∧ p ≤ 11 := by
  obtain ⟨h1, h2, h3, h4, h5⟩ := digI (show a.natAbs ≠ 0 by omega) h
  exact ⟨_, _, by rw [wordI, read_sign _ h5], h1, h2, h3, h4⟩
theorem log_52 {v : Nat} (h1 : two52 ≤ v) (h2 : v < 2 * two52) : v.log2 = 52 := by
  have h0 : v ≠ 0 := by have : 0 < two52 := by decide
                        omega
  have a1 : v.log2 < 53 := (Nat.log2_lt h0).2 (by have : 2 * two52 = 2 ^ 53 := by decide
                                                  omega)
  have a2 : ¬ v.log2 < 52 := fun k => by
    have := (Nat.log2_lt h0).1 k
    have : two52 = 2 ^ 52 := by decide
    omega
  omega
theorem read_zero : Ieee.double.read (floatOfInt .f64 0) = .number false 0 (-1074) := by decide +kernel
theorem write_sg (s : Bool) (m : Nat) (p : Int) : Ieee.double.write (.number s m p) = sgW s (rung m p) := by
  show Ieee.double.nearest _ _ _ = _
  rw [nearest_rung]; rfl
theorem quoI {a b : Int} (ha0 : a ≠ 0) (ha : a.natAbs ≤ two63) (hb0 : b ≠ 0) (hb : b.natAbs ≤ two63) :
    ∃ r, floatBits .quo .f64 (floatOfInt .f64 a) (floatOfInt .f64 b) = some (sgW (decide (a < 0) ^^ decide (b < 0)) r) ∧ r ≠ 0 ∧ r ≤ infR := by
  obtain ⟨m, p, e1, m1, m2, p1, p2⟩ := readI ha0 ha
  obtain ⟨n, q, e2, n1, n2, q1, q2⟩ := readI hb0 hb
  have hn : n ≠ 0 := by have : 0 < two52 := by decide
                        omega
  have hd : floatBits .quo .f64 (floatOfInt .f64 a) (floatOfInt .f64 b) = Ieee.double.div (floatOfInt .f64 a) (floatOfInt .f64 b) := rfl
  rw [hd]
  unfold Format.div
  rw [e1, e2]
  simp only [Datum.quotient, if_neg hn, log_52 m1 m2, log_52 n1 n2, Option.map_some, write_sg]
  refine ⟨_, rfl, ?_, rung_le_inf _ _⟩
  have em : Ieee.double.fractionBits + 2 + 52 - 52 = 54 := rfl
  rw [em, Nat.shiftLeft_eq]
  have hq : 1 ≤ m * 2 ^ 54 / n := by
    rw [Nat.le_div_iff_mul_le (Nat.pos_of_ne_zero hn)]
    have : two52 * 2 ^ 54 ≤ m * 2 ^ 54 := Nat.mul_le_mul_right _ m1
    have h3 : 2 * two52 ≤ two52 * 2 ^ 54 := by decide
    omega
  generalize m * 2 ^ 54 / n = u at *
  generalize (m * 2 ^ 54 % n != 0).toNat = v
  have hr : rung 1 (-118) ≤ rung (2 * u + v) (p - q - ((54 : Nat) : Int) - 1) := by
    refine rung_mono (-118) (by omega) (by omega) ?_
    have : 1 ≤ 2 ^ (p - q - ((54 : Nat) : Int) - 1 - -118).toNat := Nat.two_pow_pos _
    calc 1 * 2 ^ ((-118 : Int) - -118).toNat = 1 * 1 := by rfl
      _ ≤ (2 * u + v) * 2 ^ (p - q - ((54 : Nat) : Int) - 1 - -118).toNat := Nat.mul_le_mul (by omega) this
  have h0 : rung 1 (-118) ≠ 0 := by decide +kernel
  omega
theorem quoSelf {a : Int} (ha0 : a ≠ 0) (ha : a.natAbs ≤ two63) : floatBits .quo .f64 (floatOfInt .f64 a) (floatOfInt .f64 a) = some 4607182418800017408 := by
  obtain ⟨m, p, e, m1, m2, _, _⟩ := readI ha0 ha
  have hm : m ≠ 0 := by have : 0 < two52 := by decide
                        omega
  show Ieee.double.div _ _ = _
  unfold Format.div
  rw [e]
  simp only [Datum.quotient, if_neg hm, Option.map_some, write_sg, Bool.xor_self]
  have e1 : Ieee.double.fractionBits + 2 + m.log2 - m.log2 = 54 := by show 52 + 2 + m.log2 - m.log2 = 54; omega
  rw [e1, Nat.shiftLeft_eq, Nat.mul_div_cancel_left _ (Nat.pos_of_ne_zero hm), Nat.mul_mod_right]
  have e2 : p - p - ((54 : Nat) : Int) - 1 = -55 := by omega
  rw [e2]
  decide +kernel
theorem quoZero {b : Int} (hb0 : b ≠ 0) (hb : b.natAbs ≤ two63) : floatBits .quo .f64 (floatOfInt .f64 0) (floatOfInt .f64 b) = some (sgW (decide (b < 0)) 0) := by
  obtain ⟨m, p, e, m1, m2, _, _⟩ := readI hb0 hb
  have hm : m ≠ 0 := by have : 0 < two52 := by decide
                        omega
  show Ieee.double.div _ _ = _
  unfold Format.div
  rw [e, read_zero]
  simp only [Datum.quotient, if_neg hm, Option.map_some, write_sg, Bool.false_xor, Nat.zero_shiftLeft, Nat.zero_div, Nat.zero_mod]
  simp [rung]
theorem quoInf {a : Int} (ha0 : a ≠ 0) (ha : a.natAbs ≤ two63) : floatBits .quo .f64 (floatOfInt .f64 a) (floatOfInt .f64 0) = some (sgW (decide (a < 0)) infR) := by
  obtain ⟨m, p, e, m1, m2, _, _⟩ := readI ha0 ha
  have hm : m ≠ 0 := by have : 0 < two52 := by decide
                        omega
  show Ieee.double.div _ _ = _
  unfold Format.div
  rw [e, read_zero]
  simp only [Datum.quotient, if_neg hm, if_true, Option.map_some, Bool.xor_false]
  show some (Ieee.double.word _ _) = _
  unfold Format.word sgW
  rw [d_signWeight, d_infRung]
  cases decide (a < 0) <;> simp
theorem quoNan : floatBits .quo .f64 (floatOfInt .f64 0) (floatOfInt .f64 0) = none := by decide +kernel

theorem sg_lt {s : Bool} {r : Nat} (h : r ≤ infR) : sgW s r < two64 := by
  cases s <;> simp [sgW] <;> (unfold infR at *; unfold two64; (try unfold two63); omega)
theorem sg_nan {s : Bool} {r : Nat} (h : r ≤ infR) : nanB (sgW s r) = false := by
  unfold nanB
  rw [decide_eq_false_iff_not]
  cases s <;> simp [sgW] <;> (unfold infR two63 at *; omega)
theorem sg_val {s : Bool} {r : Nat} (h : r ≤ infR) : sval (sgW s r) = if s then -(uval r : Int) else uval r := by
  have hm : sgW s r % two63 = r := by cases s <;> simp [sgW] <;> (unfold infR two63 at *; omega)
  unfold sval
  rw [hm]
  cases s
  · rw [if_neg (by simp [sgW]; unfold infR two63 at *; omega)]; rfl
  · rw [if_pos (by simp [sgW])]; rfl
theorem sg_self {s : Bool} {r : Nat} (h : r ≤ infR) : Ieee.double.order (sgW s r) (sgW s r) = some .eq := by
  rw [order_eq (sg_lt h) (sg_lt h) (sg_nan h) (sg_nan h), Int.compare_eq_eq.2 rfl]
theorem uval_pos {r : Nat} (h : r ≠ 0) : 0 < uval r := by
  have := uval_lt (show 0 < r by omega)
  omega
theorem sg_pos {r : Nat} (h0 : r ≠ 0) (h : r ≤ infR) : Ieee.double.order (sgW false r) 0 = some .gt := by
  rw [order_eq (sg_lt h) (by decide) (sg_nan h) (by decide +kernel), sg_val h, show sval 0 = 0 from by decide +kernel]
  have := uval_pos h0
  rw [Int.compare_eq_gt.2 (by simp; omega)]
theorem sg_neg {r : Nat} (h0 : r ≠ 0) (h : r ≤ infR) : Ieee.double.order (sgW true r) 0 = some .lt := by
  rw [order_eq (sg_lt h) (by decide) (sg_nan h) (by decide +kernel), sg_val h, show sval 0 = 0 from by decide +kernel]
  have := uval_pos h0
  rw [Int.compare_eq_lt.2 (by simp; omega)]

/-- what the law asks of the three quotients -/
structure RatG (a b : Int) (x y z : Nat) : Prop where
  y1 : a = 0 → (FloatKind.f64.format.order y y == some .eq) = false
  y2 : 0 < a → (FloatKind.f64.format.order y 9214871658872686752 == some .gt) = true
  y3 : a < 0 → (FloatKind.f64.format.order y 18438243695727462560 == some .lt) = true
  x1 : b ≠ 0 → (FloatKind.f64.format.order x x == some .eq) = true
  x2 : a = 0 → b ≠ 0 → (FloatKind.f64.format.order x 0 == some .eq) = true
  x3 : 0 < a → 0 < b → (FloatKind.f64.format.order x 0 == some .gt) = true
  x4 : a < 0 → 0 < b → (FloatKind.f64.format.order x 0 == some .lt) = true
theorem fres_some {r x : Nat} (h : FRes (some r) x) : x = r := by
  rcases h.2 with ⟨s, e, rfl⟩ | ⟨e, _⟩
  · exact (Option.some.inj e).symm
  · cases e
theorem fres_none {x : Nat} (h : FRes none x) : nanB x = true := by
  rcases h.2 with ⟨s, e, rfl⟩ | ⟨_, h⟩
  · cases e
  · exact h
theorem ratG {a b : Int} {x y : Nat} (ha : a.natAbs ≤ two63) (hb : b.natAbs ≤ two63)
    (hx : FRes (floatBits .quo .f64 (floatOfInt .f64 a) (floatOfInt .f64 b)) x)
    (hy : FRes (floatBits .quo .f64 (floatOfInt .f64 a) (floatOfInt .f64 0)) y) (z : Nat) : RatG a b x y z := by
  refine ⟨?_, ?_, ?_, ?_, ?_, ?_, ?_⟩
  · rintro rfl
    rw [quoNan] at hy
    have : Ieee.double.order y y = none := order_nan (.inl (fres_none hy))
    show (Ieee.double.order y y == _) = _
    rw [this]; rfl
  · intro h
    rw [quoInf (by omega) ha] at hy
    rw [fres_some hy, decide_eq_false (by omega)]
    decide +kernel
  · intro h
    rw [quoInf (by omega) ha] at hy
    rw [fres_some hy, decide_eq_true (by omega)]
    decide +kernel
  · intro h
    show (Ieee.double.order x x == _) = _
    by_cases h0 : a = 0
    · subst h0
      rw [quoZero h hb] at hx
      rw [fres_some hx, sg_self (by decide)]; rfl
    · obtain ⟨r, e, h1, h2⟩ := quoI h0 ha h hb
      rw [e] at hx
      rw [fres_some hx, sg_self h2]; rfl
  · rintro rfl h
    rw [quoZero h hb] at hx
    rw [fres_some hx]
    cases decide (b < 0) <;> decide +kernel
  · intro h k
    show (Ieee.double.order x 0 == _) = _
    obtain ⟨r, e, h1, h2⟩ := quoI (show a ≠ 0 by omega) ha (show b ≠ 0 by omega) hb
    rw [e, decide_eq_false (show ¬ a < 0 by omega), decide_eq_false (show ¬ b < 0 by omega)] at hx
    rw [fres_some hx]
    rw [show (false ^^ false) = false from rfl, sg_pos h1 h2]; rfl
  · intro h k
    show (Ieee.double.order x 0 == _) = _
    obtain ⟨r, e, h1, h2⟩ := quoI (show a ≠ 0 by omega) ha (show b ≠ 0 by omega) hb
    rw [e, decide_eq_true (show a < 0 by omega), decide_eq_false (show ¬ b < 0 by omega)] at hx
    rw [fres_some hx]
    rw [show (true ^^ false) = true from rfl, sg_neg h1 h2]; rfl
end Go.Proofs.YtafoagllbajfnaaDoor
