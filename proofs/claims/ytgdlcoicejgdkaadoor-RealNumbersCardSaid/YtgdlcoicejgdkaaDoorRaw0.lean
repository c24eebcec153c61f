/- Numbers as bytes and as digits: plain facts. By an AI agent. -/
import Derived.Test.YtgdlcoicejgdkaaDoorBase
namespace Go.Proofs.YtgdlcoicejgdkaaDoor
open Go.RowKit

/-- the j-th of n bytes of v, the greatest first -/
def byteAt (v : Int) (n j : Nat) : Int := v / 2 ^ (8 * (n - 1 - j)) % 256
def putN (v : Int) (n k : Nat) : List Int := (List.range n).map (fun j => if n - k ≤ j then byteAt v n j else 0)

theorem putN_len (v : Int) (n k : Nat) : (putN v n k).length = n := by simp [putN]
theorem putN_zero (v : Int) (n : Nat) : putN v n 0 = List.replicate n 0 := by
  apply List.ext_getElem (by simp [putN])
  intro i h1 h2
  simp [putN] at h1
  simp [putN]; omega
theorem putN_set (v : Int) (n k : Nat) (hk : k < n) : (putN v n k).set (n - 1 - k) (byteAt v n (n - 1 - k)) = putN v n (k + 1) := by
  apply List.ext_getElem (by simp [putN])
  intro i h1 h2
  simp [putN] at h1
  rw [List.getElem_set]
  simp only [putN, List.getElem_map, List.getElem_range]
  by_cases e : n - 1 - k = i
  · subst e; rw [if_pos rfl, if_pos (by omega)]
  · rw [if_neg e]
    by_cases h : n - k ≤ i
    · rw [if_pos h, if_pos (by omega)]
    · rw [if_neg h, if_neg (by omega)]

/-- the number of some bytes -/
def getN (l : List UInt8) : Int := l.foldl (fun v b => v * 256 + b.toNat) 0

theorem getN_bound (l : List UInt8) : 0 ≤ getN l ∧ getN l < 256 ^ l.length := by
  unfold getN
  suffices h : ∀ (l : List UInt8) (a : Int) (m : Nat), 0 ≤ a → a < 256 ^ m → 0 ≤ l.foldl (fun v b => v * 256 + (b.toNat : Int)) a ∧ l.foldl (fun v b => v * 256 + (b.toNat : Int)) a < 256 ^ (m + l.length) by
    simpa using h l 0 0 (by omega) (by simp)
  intro l
  induction l with
  | nil => intro a m h0 h1; exact ⟨h0, by simpa using h1⟩
  | cons b l ih =>
    intro a m h0 h1
    have hb : b.toNat < 256 := UInt8.toNat_lt b
    have := ih (a * 256 + b.toNat) (m + 1) (by omega) (by rw [Int.pow_succ]; omega)
    simp only [List.foldl_cons, List.length_cons]
    rw [show m + (l.length + 1) = m + 1 + l.length by omega]
    exact this
theorem getN_snoc (l : List UInt8) (b : UInt8) : getN (l ++ [b]) = getN l * 256 + b.toNat := by simp [getN]

theorem wraps_i64 (n : Int) (h₀ : 0 ≤ n) (h₁ : n < 2 ^ 63) : IntKind.i64.wrap n = n := by rw [IntKind.wrap_i64]; omega
theorem or_shl8 (a b : Int) (h0 : 0 ≤ a) (h1 : a < 281474976710656) (h2 : 0 ≤ b) (h3 : b < 256) : bits .or .i64 (a * 256) (wrap64 b) = a * 256 + b := by
  have e2 : wrap64 b = b := by unfold wrap64; omega
  rw [e2]
  exact bits_join .i64 63 (by decide) wraps_i64 8 _ _ (by omega) (by omega) (by omega) h2 (by omega) (by omega)

theorem getN_take {s : ByteArray} {k : Nat} (h : k < s.size) : getN (s.data.toList.take (k + 1)) = getN (s.data.toList.take k) * 256 + s[k].toNat := by
  have h' : k < s.data.toList.length := by simpa using h
  rw [List.take_succ_eq_append_getElem h', getN_snoc]
  rfl


/-! ### digits -/
def decD (u : Nat) : List Int := if u < 10 then [48 + (u : Int)] else decD (u / 10) ++ [48 + ((u % 10 : Nat) : Int)]
  termination_by u
  decreasing_by omega

theorem decD_small {u : Nat} (h : u < 10) : decD u = [48 + (u : Int)] := by rw [decD, if_pos h]
theorem decD_big {u : Nat} (h : ¬ u < 10) : decD u = decD (u / 10) ++ [48 + ((u % 10 : Nat) : Int)] := by rw [decD, if_neg h]
theorem decD_len (k : Nat) : ∀ u, u < 10 ^ (k + 1) → 1 ≤ (decD u).length ∧ (decD u).length ≤ k + 1 := by
  induction k with
  | zero => intro u h; rw [decD_small (by simpa using h)]; simp
  | succ k ih =>
    intro u h
    by_cases hu : u < 10
    · rw [decD_small hu]; simp
    · rw [decD_big hu]
      have := ih (u / 10) (by rw [Nat.pow_succ] at h; omega)
      simp; omega
theorem decD_pos (u : Nat) : 1 ≤ (decD u).length := by
  by_cases hu : u < 10
  · rw [decD_small hu]; simp
  · rw [decD_big hu]; simp
theorem decD_digit (u : Nat) : ∀ x ∈ decD u, 48 ≤ x ∧ x ≤ 57 := by
  induction u using Nat.strongRecOn with
  | _ u ih =>
    by_cases hu : u < 10
    · rw [decD_small hu]; intro x hx; simp at hx; omega
    · rw [decD_big hu]
      intro x hx
      rcases List.mem_append.1 hx with h | h
      · exact ih (u / 10) (by omega) x h
      · simp at h; omega
/-- a number's decimal digits -/
def digL (v : Int) : List Int := if v < 0 then 45 :: decD v.natAbs else decD v.natAbs

theorem digL_len (v : Int) (h0 : -9223372036854775808 ≤ v) (h1 : v ≤ 9223372036854775807) : 1 ≤ (digL v).length ∧ (digL v).length ≤ 20 := by
  have h := decD_len 18 v.natAbs (by omega)
  unfold digL
  split
  · simp; omega
  · omega

theorem drop_set_pred {xs t : List Int} {i : Nat} (hi : 1 ≤ i) (hl : i ≤ xs.length) (h : xs.drop i = t) (x : Int) : (xs.set (i - 1) x).drop (i - 1) = x :: t := by
  have h1 : i - 1 < (xs.set (i - 1) x).length := by simp; omega
  rw [List.drop_eq_getElem_cons h1, List.getElem_set_self]
  congr 1
  rw [show i - 1 + 1 = i by omega, List.drop_set_of_lt (by omega), h]

end Go.Proofs.YtgdlcoicejgdkaaDoor
