/- float64 words, their order and their key. Plain facts over the model's Ieee. By an AI agent. -/
import Derived.Test.YtgdlcoicejgdkaaDoorRows
import Derived.Laws.FloatBits
namespace Go.Proofs.YtgdlcoicejgdkaaDoor
open Ieee

def two63 : Nat := 9223372036854775808
def two64 : Nat := 18446744073709551616
def two52 : Nat := 4503599627370496
def infR : Nat := 9218868437227405312
theorem d_binade : Ieee.double.binade = two52 := by decide +kernel
theorem d_infRung : Ieee.double.infRung = infR := by decide +kernel
theorem d_signWeight : Ieee.double.signWeight = two63 := by decide +kernel
theorem d_leastPlace : Ieee.double.leastPlace = -1074 := by decide +kernel

/-- is it no number? -/
def nanB (x : Nat) : Bool := decide (infR < x % two63)
/-- the word in the numbers' order -/
def fkey (x : Nat) : Nat := if nanB x then 0 else if two63 ≤ x then two64 - 1 - x else x + two63
/-- a rung's worth, in units of the least number -/
def uval (r : Nat) : Nat := if r < two52 then r else (two52 + r % two52) * 2 ^ (r / two52 - 1)
/-- a word's worth -/
def sval (x : Nat) : Int := if two63 ≤ x then -(uval (x % two63) : Int) else (uval (x % two63) : Int)

theorem uval_lt {r s : Nat} (h : r < s) : uval r < uval s := by
  unfold uval
  have hp : ∀ k : Nat, 1 ≤ 2 ^ k := fun k => Nat.one_le_two_pow
  by_cases h1 : s < two52
  · rw [if_pos (by omega), if_pos h1]; exact h
  · rw [if_neg h1]
    have hs : two52 ≤ (two52 + s % two52) * 2 ^ (s / two52 - 1) := by
      calc two52 ≤ two52 + s % two52 := by omega
        _ ≤ (two52 + s % two52) * 2 ^ (s / two52 - 1) := Nat.le_mul_of_pos_right _ (hp _)
    by_cases h2 : r < two52
    · rw [if_pos h2]; omega
    · rw [if_neg h2]
      have hr1 : 1 ≤ r / two52 := by unfold two52 at *; omega
      have hs1 : 1 ≤ s / two52 := by unfold two52 at *; omega
      have hle : r / two52 ≤ s / two52 := Nat.div_le_div_right (by omega)
      rcases Nat.lt_or_ge (r / two52) (s / two52) with hlt | hge
      · have e1 : (two52 + r % two52) * 2 ^ (r / two52 - 1) < two52 * 2 ^ (r / two52) := by
          have e : 2 ^ (r / two52) = 2 * 2 ^ (r / two52 - 1) := by
            rw [← Nat.pow_succ']; congr 1; omega
          rw [e, ← Nat.mul_assoc]
          exact Nat.mul_lt_mul_of_pos_right (by unfold two52 at *; omega) (hp _)
        have e2 : two52 * 2 ^ (r / two52) ≤ two52 * 2 ^ (s / two52 - 1) := Nat.mul_le_mul_left _ (Nat.pow_le_pow_right (by decide) (by omega))
        have e3 : two52 * 2 ^ (s / two52 - 1) ≤ (two52 + s % two52) * 2 ^ (s / two52 - 1) := Nat.mul_le_mul_right _ (by omega)
        omega
      · have e : r / two52 = s / two52 := by omega
        rw [e]
        refine Nat.mul_lt_mul_of_pos_right ?_ (hp _)
        have := Nat.div_add_mod r two52
        have := Nat.div_add_mod s two52
        rw [e] at *
        omega
theorem uval_lt_iff {r s : Nat} : uval r < uval s ↔ r < s := by
  refine ⟨fun h => ?_, uval_lt⟩
  rcases Nat.lt_trichotomy r s with h1 | h1 | h1
  · exact h1
  · subst h1; omega
  · have := uval_lt h1; omega
theorem uval_inj {r s : Nat} (h : uval r = uval s) : r = s := by
  rcases Nat.lt_trichotomy r s with h1 | h1 | h1
  · have := uval_lt h1; omega
  · exact h1
  · have := uval_lt h1; omega

theorem neg_of {x : Nat} (hx : x < two64) : (x / two63 % 2 == 1) = decide (two63 ≤ x) := by
  unfold two63 two64 at *
  rw [Bool.eq_iff_iff, beq_iff_eq, decide_eq_true_eq]; omega

/-- what a word stands for -/
theorem read_fin {x : Nat} (hx : x < two64) (h : x % two63 < infR) : ∃ (m : Nat) (p : Int), Ieee.double.read x = .number (decide (two63 ≤ x)) m p ∧ -1074 ≤ p ∧ m * 2 ^ (p + 1074).toNat = uval (x % two63) := by
  unfold Format.read
  rw [d_signWeight, d_binade, d_infRung, d_leastPlace, neg_of hx]
  simp only
  by_cases h1 : x % two63 < two52
  · rw [if_pos h1]
    exact ⟨_, _, rfl, by omega, by simp [uval, h1]⟩
  · rw [if_neg h1, if_pos h]
    refine ⟨_, _, rfl, by omega, ?_⟩
    rw [uval, if_neg h1]
    congr 2
    omega
theorem read_inf {x : Nat} (hx : x < two64) (h : x % two63 = infR) : Ieee.double.read x = .infinity (decide (two63 ≤ x)) := by
  unfold Format.read
  rw [d_signWeight, d_binade, d_infRung, d_leastPlace, neg_of hx]
  simp only
  rw [if_neg (by rw [h]; decide), if_neg (by omega), if_pos h]
theorem read_nan' {x : Nat} (h : nanB x = true) : ∃ s f, Ieee.double.read x = .nan s f := by
  have h' : infR < x % two63 := by simpa [nanB] using h
  unfold Format.read
  rw [d_signWeight, d_binade, d_infRung, d_leastPlace]
  simp only
  have hlt : two52 ≤ infR := by decide
  rw [if_neg (by omega), if_neg (by omega), if_neg (by omega)]
  exact ⟨_, _, rfl⟩

theorem signed_eq (s : Bool) (m up : Nat) : signed s m up = (if s then -1 else 1) * ((m * 2 ^ up : Nat) : Int) := by
  unfold signed
  rw [Nat.shiftLeft_eq]
  cases s <;> simp
theorem compare_scale (a b : Int) (c : Nat) : compare (a * (2 ^ c : Nat)) (b * (2 ^ c : Nat)) = compare a b := by
  have hc : (0 : Int) < ((2 ^ c : Nat) : Int) := by exact_mod_cast Nat.two_pow_pos c
  rcases Int.lt_trichotomy a b with h | h | h
  · rw [Int.compare_eq_lt.2 h, Int.compare_eq_lt.2 (Int.mul_lt_mul_of_pos_right h hc)]
  · subst h; simp
  · rw [Int.compare_eq_gt.2 h, Int.compare_eq_gt.2 (Int.mul_lt_mul_of_pos_right h hc)]

theorem fin_or_inf {x : Nat} (h : nanB x = false) : x % two63 < infR ∨ x % two63 = infR := by
  simp [nanB] at h; omega

theorem order_fin {x y : Nat} (hx : x < two64) (hy : y < two64) (h1 : x % two63 < infR) (h2 : y % two63 < infR) : Ieee.double.order x y = some (compare (sval x) (sval y)) := by
  obtain ⟨m, i, e1, p1, u1⟩ := read_fin hx h1
  obtain ⟨n, j, e2, p2, u2⟩ := read_fin hy h2
  unfold Format.order
  rw [e1, e2]
  simp only [Datum.order]
  congr 1
  have hb : -1074 ≤ min i j := by omega
  have k1 : (i - min i j).toNat + (min i j + 1074).toNat = (i + 1074).toNat := by omega
  have k2 : (j - min i j).toNat + (min i j + 1074).toNat = (j + 1074).toNat := by omega
  rw [← compare_scale _ _ (min i j + 1074).toNat, signed_eq, signed_eq]
  have g1 : ((if decide (two63 ≤ x) = true then -1 else 1) * ((m * 2 ^ (i - min i j).toNat : Nat) : Int)) * ((2 ^ (min i j + 1074).toNat : Nat) : Int) = sval x := by
    rw [Int.mul_assoc, ← Int.natCast_mul, Nat.mul_assoc, ← Nat.pow_add, k1, u1]
    unfold sval
    by_cases h : two63 ≤ x <;> simp [h]
  have g2 : ((if decide (two63 ≤ y) = true then -1 else 1) * ((n * 2 ^ (j - min i j).toNat : Nat) : Int)) * ((2 ^ (min i j + 1074).toNat : Nat) : Int) = sval y := by
    rw [Int.mul_assoc, ← Int.natCast_mul, Nat.mul_assoc, ← Nat.pow_add, k2, u2]
    unfold sval
    by_cases h : two63 ≤ y <;> simp [h]
  rw [g1, g2]

theorem order_eq {x y : Nat} (hx : x < two64) (hy : y < two64) (nx : nanB x = false) (ny : nanB y = false) : Ieee.double.order x y = some (compare (sval x) (sval y)) := by
  rcases fin_or_inf nx with h1 | h1 <;> rcases fin_or_inf ny with h2 | h2
  · exact order_fin hx hy h1 h2
  · obtain ⟨m, i, e1, p1, u1⟩ := read_fin hx h1
    unfold Format.order
    rw [e1, read_inf hy h2]
    simp only [Datum.order]
    have hlt := uval_lt h1
    congr 1
    unfold sval
    rw [h2]
    by_cases hn : two63 ≤ y
    · simp only [hn, decide_true, if_true]
      symm; rw [Int.compare_eq_gt]; split <;> omega
    · simp only [hn, decide_false, if_false, Bool.false_eq_true]
      symm; rw [Int.compare_eq_lt]; split <;> omega
  · obtain ⟨m, i, e1, p1, u1⟩ := read_fin hy h2
    unfold Format.order
    rw [e1, read_inf hx h1]
    simp only [Datum.order]
    have hlt := uval_lt h2
    congr 1
    unfold sval
    rw [h1]
    by_cases hn : two63 ≤ x
    · simp only [hn, decide_true, if_true]
      symm; rw [Int.compare_eq_lt]; split <;> omega
    · simp only [hn, decide_false, if_false, Bool.false_eq_true]
      symm; rw [Int.compare_eq_gt]; split <;> omega
  · unfold Format.order
    rw [read_inf hx h1, read_inf hy h2]
    simp only [Datum.order]
    congr 1
    have hpos : 0 < uval infR := by decide +kernel
    unfold sval
    rw [h1, h2]
    by_cases hn : two63 ≤ x <;> by_cases hm : two63 ≤ y <;> simp [hn, hm]
    · rw [Int.compare_eq_lt.2 (by omega)]; rfl
    · rw [Int.compare_eq_gt.2 (by omega)]; rfl
theorem order_nan {x y : Nat} (h : nanB x = true ∨ nanB y = true) : Ieee.double.order x y = none := by
  unfold Format.order
  rcases h with h | h
  · obtain ⟨s, f, e⟩ := read_nan' h
    rw [e]; rfl
  · obtain ⟨s, f, e⟩ := read_nan' h
    rw [e]
    cases Ieee.double.read x <;> rfl

theorem fkey_num {x : Nat} (h : nanB x = false) : fkey x = if two63 ≤ x then two64 - 1 - x else x + two63 := by simp [fkey, h]
theorem key_lt_of_sval {x y : Nat} (hx : x < two64) (hy : y < two64) (nx : nanB x = false) (ny : nanB y = false) (h : sval x < sval y) : fkey x < fkey y := by
  unfold sval at h
  rw [fkey_num nx, fkey_num ny]
  by_cases h1 : two63 ≤ x <;> by_cases h2 : two63 ≤ y
  · rw [if_pos h1, if_pos h2] at h ⊢
    have : uval (y % two63) < uval (x % two63) := by omega
    rw [uval_lt_iff] at this
    unfold two63 two64 at *; omega
  · rw [if_pos h1, if_neg h2]; unfold two63 two64 at *; omega
  · rw [if_neg h1, if_pos h2] at h
    omega
  · rw [if_neg h1, if_neg h2] at h ⊢
    have : uval (x % two63) < uval (y % two63) := by omega
    rw [uval_lt_iff] at this
    unfold two63 two64 at *; omega
theorem key_lt {x y : Nat} (hx : x < two64) (hy : y < two64) (h : Ieee.double.order x y = some .lt) : fkey x < fkey y := by
  cases nx : nanB x
  · cases ny : nanB y
    · rw [order_eq hx hy nx ny] at h
      exact key_lt_of_sval hx hy nx ny (Int.compare_eq_lt.1 (Option.some.inj h))
    · rw [order_nan (.inr ny)] at h; cases h
  · rw [order_nan (.inl nx)] at h; cases h
theorem key_gt {x y : Nat} (hx : x < two64) (hy : y < two64) (h : Ieee.double.order x y = some .gt) : fkey y < fkey x := by
  cases nx : nanB x
  · cases ny : nanB y
    · rw [order_eq hx hy nx ny] at h
      exact key_lt_of_sval hy hx ny nx (Int.compare_eq_gt.1 (Option.some.inj h))
    · rw [order_nan (.inr ny)] at h; cases h
  · rw [order_nan (.inl nx)] at h; cases h
/-- 'x != x' -/
theorem self_nan {x : Nat} (hx : x < two64) : (Ieee.double.order x x != some .eq) = nanB x := by
  cases nx : nanB x
  · rw [order_eq hx hx nx nx]; simp
  · rw [order_nan (.inl nx)]; rfl
theorem fkey_lt {x : Nat} (hx : x < two64) : fkey x < two64 := by
  unfold fkey
  split
  · decide
  · split <;> (unfold two63 two64 at *; omega)
end Go.Proofs.YtgdlcoicejgdkaaDoor
