/- GossipLags: the plain law. By an AI agent. -/
import Derived.Test.YtpfpefapdcdkeaaGossip6
import Derived.Test.YtpfpefapdcdkeaaFloat3
import Derived.Test.YtpfpefapdcdkeaaLawC
namespace Go.Proofs.Ytpfpefapdcdkeaa
open Go.RowKit

/-- m rows of xs, then rows of noughts -/
def RA (n m : Nat) (xs : List Int) : List (List Int) := List.replicate m xs ++ List.replicate (n - m) (zeroL n)
theorem RA_zero (n : Nat) (xs : List Int) : RA n 0 xs = List.replicate n (zeroL n) := by simp [RA]
theorem RA_len {n m : Nat} (h : m ≤ n) (xs : List Int) : (RA n m xs).length = n := by simp [RA]; omega

section
variable {n : Nat} {xs : List Int} (hl : xs.length = n) (h0 : ∀ x ∈ xs, 0 ≤ x)
include hl
omit hl in
theorem join_self : joinL xs xs = xs := getD_ext (join_len' rfl) fun j hj => by
  rw [join_len' rfl] at hj; rw [join_nth rfl hj]; omega
omit hl in
theorem meet_self : meetL xs xs = xs := getD_ext (meet_len' rfl) fun j hj => by
  rw [meet_len' rfl] at hj; rw [meet_nth rfl hj]; omega
omit hl in
theorem zlen : (zeroL n).length = n := by simp [zeroL]
omit hl in
theorem znth (j : Nat) : nth (zeroL n) j = 0 := by
  unfold nth zeroL
  by_cases h : j < n
  · simp [List.getD, h]
  · simp [List.getD, h]
include h0
theorem nth0 (j : Nat) : 0 ≤ nth xs j := by
  by_cases hj : j < xs.length
  · rw [nth_eq hj]; exact h0 _ (List.getElem_mem hj)
  · simp [nth, List.getD, List.getElem?_eq_none (by omega : xs.length ≤ j)]
theorem join_z1 : joinL (zeroL n) xs = xs := by
  have hz : (zeroL n).length = xs.length := by rw [zlen, hl]
  refine getD_ext ((join_len' hz).trans hz) fun j hj => ?_
  rw [join_len' hz] at hj
  have := nth0 hl h0 j
  rw [join_nth hz hj, znth]; omega
theorem join_z2 : joinL xs (zeroL n) = xs := by
  have hz : xs.length = (zeroL n).length := by rw [zlen, hl]
  refine getD_ext (join_len' hz) fun j hj => ?_
  rw [join_len' hz] at hj
  have := nth0 hl h0 j
  rw [join_nth hz hj, znth]; omega
theorem meet_z : meetL xs (zeroL n) = zeroL n := by
  have hz : xs.length = (zeroL n).length := by rw [zlen, hl]
  refine getD_ext ((meet_len' hz).trans hz) fun j hj => ?_
  rw [meet_len' hz] at hj
  have := nth0 hl h0 j
  rw [meet_nth hz hj, znth]; omega
omit hl h0 in
theorem meet_zz : meetL (zeroL n) (zeroL n) = zeroL n := meet_self

omit hl h0 in
theorem fold_rep {f : List Int → List Int → List Int} {a b : List Int} (h : f a b = a) (c : Nat) : (List.replicate c b).foldl f a = a := by
  induction c with
  | zero => rfl
  | succ c ih => rw [List.replicate_succ, List.foldl_cons, h, ih]
omit hl h0 in
theorem RA_first {m : Nat} (hm : 1 ≤ m) : nthR (RA n m xs) 0 = xs := by
  obtain ⟨k, rfl⟩ : ∃ k, m = k + 1 := ⟨m - 1, by omega⟩
  simp [nthR, RA, List.replicate_succ]
theorem RA_max {m : Nat} (hm : 1 ≤ m) : allL max (RA n m xs) = xs := by
  show (RA n m xs).foldl joinL (nthR (RA n m xs) 0) = xs
  rw [RA_first hm, RA, List.foldl_append, fold_rep (join_self), fold_rep (join_z2 hl h0)]
omit hl h0 in
theorem RA_min : 1 ≤ n → allL min (RA n n xs) = xs := fun h1 => by
  show (RA n n xs).foldl meetL (nthR (RA n n xs) 0) = xs
  rw [RA_first h1, RA, Nat.sub_self, List.replicate_zero, List.append_nil, fold_rep (meet_self)]
theorem RA_min1 : 2 ≤ n → allL min (RA n 1 xs) = zeroL n := fun h1 => by
  show (RA n 1 xs).foldl meetL (nthR (RA n 1 xs) 0) = zeroL n
  obtain ⟨k, hk⟩ : ∃ k, n - 1 = k + 1 := ⟨n - 2, by omega⟩
  rw [RA_first (Nat.le_refl 1), RA, List.foldl_append, fold_rep (meet_self), hk, List.replicate_succ, List.foldl_cons, meet_z hl h0, fold_rep (meet_zz)]
omit hl h0 in
theorem RA_nth {m k : Nat} (hk : k < n) : nthR (RA n m xs) k = if k < m then xs else zeroL n := by
  unfold nthR RA
  by_cases h : k < m
  · rw [if_pos h]; simp [List.getD, List.getElem?_append_left, h]
  · rw [if_neg h]
    have : k - m < n - m := by omega
    simp [List.getD, List.getElem?_append_right, this, (by omega : m ≤ k)]
theorem RA_set {m k : Nat} (hm : m ≤ n) (hk : k ≤ m) (hkn : k < n) : (RA n m xs).set k (joinL (nthR (RA n m xs) k) xs) = RA n (max m (k + 1)) xs := by
  rw [RA_nth hkn]
  by_cases h : k < m
  · rw [if_pos h, join_self, show max m (k + 1) = m by omega]
    have hlen : k < (RA n m xs).length := by rw [RA_len hm]; exact hkn
    have e : (RA n m xs)[k] = xs := by
      simp [RA, List.getElem_append_left, h]
    have e2 := List.set_getElem_self hlen
    rw [e] at e2
    exact e2
  · have hkm : k = m := by omega
    subst hkm
    rw [if_neg h, join_z1 hl h0, show max k (k + 1) = k + 1 by omega]
    unfold RA
    obtain ⟨c, hc⟩ : ∃ c, n - k = c + 1 := ⟨n - k - 1, by omega⟩
    rw [hc, show n - (k + 1) = c by omega, List.replicate_succ, List.replicate_succ', List.set_append_right _ _ (by simp)]
    simp
end

/-- is some number above nought? -/
def anyP (xs : List Int) (k : Nat) : Bool := (List.range k).any fun j => decide (0 < nth xs j)
theorem anyP_succ (xs : List Int) (k : Nat) : anyP xs (k + 1) = (anyP xs k || decide (0 < nth xs k)) := by
  simp [anyP, List.range_succ]

theorem lagK_eq {s b : List Int} {K : Nat} (xs : List Int) (n : Nat) (h : ∀ j, j < n → kOf (nth s j) (nth b j) = if 0 < nth xs j then K else 0) : ∀ k, k ≤ n → lagK s b k = if anyP xs k = true then K else 0 := by
  intro k
  induction k with
  | zero => intro _; rfl
  | succ k ih =>
    intro hk
    rw [lagK_succ, ih (by omega), h k (by omega), anyP_succ]
    by_cases h1 : anyP xs k = true <;> by_cases h2 : 0 < nth xs k <;> simp [h1, h2]

theorem kOf_self (x : Int) (h0 : 0 ≤ x) (h : x < 281474976710656) : kOf x x = if 0 < x then two63 else 0 := by
  obtain ⟨a, rfl⟩ := Int.eq_ofNat_of_zero_le h0
  by_cases ha : a = 0
  · subst ha; rw [if_neg (by simp)]; decide +kernel
  · rw [if_pos (by omega)]
    unfold kOf
    rw [quo_self a ha (by omega)]
    decide +kernel
theorem kOf_zero (x : Int) (h0 : 0 ≤ x) (h : x < 281474976710656) : kOf 0 x = if 0 < x then fkey oneF else 0 := by
  obtain ⟨a, rfl⟩ := Int.eq_ofNat_of_zero_le h0
  by_cases ha : a = 0
  · subst ha; rw [if_neg (by simp)]; decide +kernel
  · rw [if_pos (by omega)]
    unfold kOf
    rw [quo_zero a ha (by omega)]
    decide +kernel
end Go.Proofs.Ytpfpefapdcdkeaa
