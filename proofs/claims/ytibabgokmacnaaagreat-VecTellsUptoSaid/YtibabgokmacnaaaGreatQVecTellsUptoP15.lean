import Derived.Test.YtibabgokmacnaaaGreatQVecTellsUptoP7

/- the one word of what is no number. By an AI agent. -/
section
namespace Go.Proofs.YtibabgokmacnaaaGreat
open Go.RowKit

def nanW : Nat := 9221120237041090561
def canon (x : Nat) : Nat := if nanB x then nanW else x
theorem canon_key (x : Nat) : fkey (canon x) = fkey x := by
  cases h : nanB x
  · have : canon x = x := by unfold canon; rw [h]; rfl
    rw [this]
  · have : canon x = nanW := by unfold canon; rw [h]; rfl
    have h2 : fkey x = 0 := by unfold fkey; rw [h]; rfl
    rw [this, h2]
    decide +kernel
end Go.Proofs.YtibabgokmacnaaaGreat
end

/- real.Get: plain facts. By an AI agent. -/
section
namespace Go.Proofs.YtibabgokmacnaaaGreat
open Go.RowKit

theorem wraps_u64' (n : Int) (h₀ : 0 ≤ n) (h₁ : n < 2 ^ 64) : IntKind.u64.wrap n = n := by rw [IntKind.wrap_u64]; omega
theorem or_u8 (a b : Int) (h0 : 0 ≤ a) (h1 : a * 256 + 255 < 18446744073709551616) (h2 : 0 ≤ b) (h3 : b < 256) : bits .or .u64 (a * 256) b = a * 256 + b :=
  bits_join .u64 64 (by decide) wraps_u64' 8 _ _ (by omega) (by omega) (by omega) h2 (by omega) (by omega)
theorem top_test (u : Nat) (h : u < two64) : u.testBit 63 = decide (two63 ≤ u) := by
  rw [Nat.testBit_eq_decide_div_mod_eq]
  congr 1
  unfold two63 two64 at *
  apply propext
  omega
theorem and_bit (u : Nat) (h : u < two64) : u &&& 2 ^ 63 = if two63 ≤ u then 2 ^ 63 else 0 := by
  apply Nat.eq_of_testBit_eq
  intro i
  rw [Nat.testBit_and, Nat.testBit_two_pow]
  by_cases k : 63 = i
  · subst k
    rw [top_test u h]
    by_cases q : two63 ≤ u
    · rw [if_pos q, decide_eq_true q, Nat.testBit_two_pow_self]; rfl
    · rw [if_neg q, decide_eq_false q]; simp
  · rw [decide_eq_false k, Bool.and_false]
    split
    · rw [Nat.testBit_two_pow, decide_eq_false k]
    · simp
theorem and_top (u : Nat) (h : u < two64) : bits .and .u64 (u : Int) 9223372036854775808 = if two63 ≤ u then 9223372036854775808 else 0 := by
  rw [show (9223372036854775808 : Int) = ((9223372036854775808 : Nat) : Int) from rfl, u64_and_nat _ _ h (by decide), show (9223372036854775808 : Nat) = 2 ^ 63 from rfl, and_bit u h]
  by_cases k : two63 ≤ u
  · rw [if_pos k, if_pos k]
  · rw [if_neg k, if_neg k]; rfl
theorem andNot_top (u : Nat) (h : u < two64) (k : two63 ≤ u) : bits .andNot .u64 (u : Int) 9223372036854775808 = ((u - two63 : Nat) : Int) := by
  have e : u % 2 ^ 63 = u - two63 := by unfold two63 two64 at *; omega
  rw [show (9223372036854775808 : Int) = ((9223372036854775808 : Nat) : Int) from rfl, u64_andNot_nat _ _ h (by decide), show 18446744073709551615 - 9223372036854775808 = 2 ^ 63 - 1 from rfl, Nat.and_two_pow_sub_one_eq_mod, e]

/-- what eight bytes are -/
def backW (u : Nat) : Nat := if two63 ≤ u then u - two63 else two64 - 1 - u
def getR (u : Nat) : Nat × Int := if u = 0 then (nanW, 0) else if nanB (backW u) then (0, 4) else (backW u, 0)
theorem backW_lt {u : Nat} (h : u < two64) : backW u < two64 := by unfold backW two63 two64 at *; split <;> omega
theorem getR_back {x : Nat} (hx : x < two64) : getR (fkey x) = (canon x, 0) := by
  unfold canon
  cases h : nanB x
  · have hk := fkey_num h
    have hi : x % two63 ≤ infR := by
      unfold nanB at h
      rw [decide_eq_false_iff_not] at h; omega
    have e : fkey x ≠ 0 ∧ backW (fkey x) = x := by
      rw [hk]
      unfold backW
      by_cases k : two63 ≤ x
      · rw [if_pos k]
        refine ⟨by unfold infR two63 two64 at *; omega, ?_⟩
        rw [if_neg (by unfold two63 two64 at *; omega)]
        unfold two63 two64 at *; omega
      · rw [if_neg k]
        refine ⟨by unfold two63; omega, ?_⟩
        rw [if_pos (by omega)]; omega
    unfold getR
    rw [if_neg e.1, e.2, h]; rfl
  · unfold getR fkey
    rw [h]; rfl
theorem getN_put8 (u : Nat) (h : u < two64) : getN (bytesN8 u) = u := by
  have hl := bytesN8_len u
  have hp := put8_at u
  generalize bytesN8 u = l at *
  match l, hl with
  | [b0, b1, b2, b3, b4, b5, b6, b7], _ =>
    have h0 := hp 0 (by decide)
    have h1 := hp 1 (by decide)
    have h2 := hp 2 (by decide)
    have h3 := hp 3 (by decide)
    have h4 := hp 4 (by decide)
    have h5 := hp 5 (by decide)
    have h6 := hp 6 (by decide)
    have h7 := hp 7 (by decide)
    simp only [List.drop_succ_cons, List.drop_zero, List.head?_cons, Option.map_some, Option.some.injEq] at h0 h1 h2 h3 h4 h5 h6 h7
    simp only [getN, List.foldl_cons, List.foldl_nil]
    unfold two64 at h
    omega
end Go.Proofs.YtibabgokmacnaaaGreat
end
