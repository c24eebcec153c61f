/- how far a place lags: one less its part: between nought and one, or no number. By an AI agent. -/
import Derived.Test.YtpfpefapdcdkeaaFloat6
import Derived.Test.YtpfpefapdcdkeaaGossip6
namespace Go.Proofs.Ytpfpefapdcdkeaa
open Ieee Go.RowKit

theorem nearest_nonneg (m : Nat) (p : Int) (hp : p ≤ 0) (h : m ≤ 2 ^ (-p).toNat) : Ieee.double.nearest false m p ≤ oneF := nearest_le_one m p hp h

theorem le_one_fin {q : Nat} (h : q ≤ oneF) : q < two64 ∧ q % two63 = q ∧ q % two63 < infR ∧ nanB q = false ∧ ¬ two63 ≤ q := by
  have hq : q % two63 = q := Nat.mod_eq_of_lt (by unfold oneF two63 at *; omega)
  refine ⟨by unfold oneF two64 at *; omega, hq, by rw [hq]; unfold oneF infR at *; omega, ?_, by unfold oneF two63 at *; omega⟩
  unfold nanB
  rw [hq]
  exact decide_eq_false (by unfold oneF infR at *; omega)

theorem uval_le {r s : Nat} (h : r ≤ s) : uval r ≤ uval s := by
  rcases Nat.lt_or_eq_of_le h with h1 | rfl
  · exact Nat.le_of_lt (uval_lt h1)
  · exact Nat.le_refl _

set_option exponentiation.threshold 3000 in
theorem uval_one : uval oneF = 2 ^ 1074 := by decide +kernel

/-- one less what is at most one is at most one -/
theorem sub_le_one (q : Nat) (hq : q ≤ oneF) : ∃ r, floatBits .sub .f64 oneF q = some r ∧ r ≤ oneF := by
  obtain ⟨h64, hm, hf, hn, hs⟩ := le_one_fin hq
  obtain ⟨m, p, e, hp, hu⟩ := read_fin h64 hf
  rw [hm] at hu
  rw [decide_eq_false hs] at e
  have hle : m * 2 ^ (p + 1074).toNat ≤ 2 ^ 1074 := by
    rw [hu, ← uval_one]; exact uval_le hq
  show ∃ r, Ieee.double.sub oneF q = some r ∧ r ≤ oneF
  unfold Format.sub
  rw [e, show Ieee.double.read oneF = .number false two52 (-52) from by decide +kernel]
  simp only [Datum.opposite, Datum.sum, Option.map_some, Bool.not_false]
  generalize hb : min (-52 : Int) p = base
  have hb1 : base ≤ -52 := by omega
  have hb2 : base ≤ p := by omega
  have hb3 : -1074 ≤ base := by omega
  have k1 : two52 * 2 ^ (-52 - base).toNat = 2 ^ (-base).toNat := by
    rw [show two52 = 2 ^ 52 from by decide, ← Nat.pow_add]; congr 1; omega
  have k2 : m * 2 ^ (p - base).toNat ≤ 2 ^ (-base).toNat := by
    have e1 : (p + 1074).toNat = (p - base).toNat + (base + 1074).toNat := by omega
    have e2 : 1074 = (-base).toNat + (base + 1074).toNat := by omega
    rw [e1, e2, Nat.pow_add, Nat.pow_add, ← Nat.mul_assoc] at hle
    exact Nat.le_of_mul_le_mul_right hle (Nat.two_pow_pos _)
  have s1 : signed false two52 (-52 - base).toNat = ((2 ^ (-base).toNat : Nat) : Int) := by
    rw [signed_eq, k1]; simp
  have s2 : signed true m (p - base).toNat = -((m * 2 ^ (p - base).toNat : Nat) : Int) := by
    rw [signed_eq]; simp
  rw [s1, s2]
  obtain ⟨A, hA⟩ : ∃ A : Nat, A = 2 ^ (-base).toNat := ⟨_, rfl⟩
  rw [← hA] at k2 ⊢
  generalize m * 2 ^ (p - base).toNat = C at *
  refine ⟨_, rfl, ?_⟩
  have hneg : (if (A : Int) + -(C : Int) = 0 then false && true else decide ((A : Int) + -(C : Int) < 0)) = false := by
    split
    · rfl
    · exact decide_eq_false (by omega)
  show Ieee.double.write (.number _ _ _) ≤ _
  rw [hneg]
  refine nearest_nonneg _ _ (by omega) ?_
  rw [← hA]
  omega

/-- a key of a number between nought and one, or of none -/
def InOne (k : Nat) : Prop := k = 0 ∨ two63 ≤ k ∧ k ≤ oneF + two63

theorem inOne_max {a b : Nat} (h : InOne a) (k : InOne b) : InOne (max a b) := by
  unfold InOne at *
  omega

theorem kOf_inOne (t b : Int) (h0 : 0 ≤ t) (hle : t ≤ b) (hb : b < 281474976710656) : InOne (kOf t b) := by
  have key : ∀ q, floatBits .quo .f64 (floatOfInt .f64 t) (floatOfInt .f64 b) = some q → q ≤ oneF → InOne (kOf t b) := fun q hq hqo => by
    obtain ⟨r, hr, hro⟩ := sub_le_one q hqo
    unfold kOf
    rw [hq]; simp only; rw [hr]; simp only
    obtain ⟨_, _, _, hn, hs⟩ := le_one_fin hro
    rw [fkey_num hn, if_neg hs]
    exact .inr ⟨by omega, by omega⟩
  obtain ⟨t', rfl⟩ : ∃ t' : Nat, t = t' := ⟨t.toNat, by omega⟩
  obtain ⟨b', rfl⟩ : ∃ b' : Nat, b = b' := ⟨b.toNat, by omega⟩
  by_cases hb0 : b' = 0
  · obtain rfl : t' = 0 := by omega
    subst hb0
    left
    decide +kernel
  · by_cases ht0 : t' = 0
    · subst ht0
      exact key 0 (quo_zero b' hb0 (by omega)) (by decide)
    · obtain ⟨mag, place, h1, h2, h3⟩ := quo_le_one t' b' ht0 (by omega) (by omega)
      exact key _ h3 (nearest_nonneg _ _ h1 h2)

theorem lagK_inOne (s b : List Int) (k : Nat) (h : ∀ i, i < k → InOne (kOf (nth s i) (nth b i))) : InOne (lagK s b k) := by
  induction k with
  | zero => left; rfl
  | succ k ih =>
    rw [lagK_succ]
    exact inOne_max (ih fun i hi => h i (by omega)) (h k (by omega))

/-- the number of such a key -/
theorem inOne_word {x : Nat} (hx : x < two64) (h : InOne (fkey x)) : nanB x = true ∨ nanB x = false ∧ x ≤ oneF := by
  rcases h with h | ⟨h1, h2⟩
  · exact .inl (fkey_zero hx h)
  · cases hn : nanB x
    · right
      refine ⟨rfl, ?_⟩
      rw [fkey_num hn] at h1 h2
      by_cases hs : two63 ≤ x
      · rw [if_pos hs] at h1
        unfold two63 two64 at *
        omega
      · rw [if_neg hs] at h2
        omega
    · exact .inl rfl
end Go.Proofs.Ytpfpefapdcdkeaa
