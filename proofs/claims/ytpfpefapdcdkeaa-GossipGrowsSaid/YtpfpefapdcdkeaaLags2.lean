/- GossipLags: the walk. By an AI agent. -/
import Derived.Test.YtpfpefapdcdkeaaLags1
import Derived.Deep.DeepCutAuto
namespace Go.Proofs.Ytpfpefapdcdkeaa
open Go.RowKit

theorem valid_bad {xs : List Int} {k : Nat} (hk : k < xs.length) (h : badT (nth xs k) = true) : validL xs = false := by
  have : xs.any badT = true := List.any_eq_true.2 ⟨nth xs k, by rw [nth_eq hk]; exact List.getElem_mem hk, h⟩
  simp [validL, this]
theorem valid_good {xs : List Int} (h : ∀ j, j < xs.length → badT (nth xs j) = false) : validL xs = (decide (1 ≤ xs.length) && decide (xs.length ≤ 8)) := by
  have : xs.any badT = false := by
    rw [List.any_eq_false]
    intro x hx
    obtain ⟨j, hj, rfl⟩ := List.getElem_of_mem hx
    have := h j hj
    rw [nth_eq hj] at this
    simp [this]
  simp [validL, this]

set_option maxHeartbeats 800000 in
theorem rvalid_any (a : Option Addr) (n ca : Nat) (xs : List Int) (w : World) (hx : IA w a n xs) :
    Calls Try.prog 10 #[.slice a n ca] w fun e w' => e = .returned (.bool (validL xs)) ∧ w = w' := by
  have hx1 := hx.cap
  have HX := Lib.hid hx.len
  go_enter Try.func10, Try.ntmps10
  go_wp2
  go_loop [3] (fun i => ∃ k : Nat, k ≤ n ∧ i = .int .i64 k ∧ ∀ j, j < k → badT (nth xs j) = false) (fun i => n - (intOf i).toNat)
  case atStart => exact ⟨0, Nat.zero_le _, rfl, fun j h => by omega⟩
  case round =>
    obtain ⟨k, hk, rfl, hle⟩ := hrel
    have HLE := Lib.hid hle; clear hle
    by_cases hlt : k < n
    · obtain ⟨ba, oa, rfl, hca⟩ := hx.cells k hlt
      have ha := hca k hlt
      clear hca
      have hkx : k < xs.length := by rw [HX.out]; exact hlt
      by_cases h0 : nth xs k < 0
      · have HB := Lib.hid (valid_bad hkx (show badT (nth xs k) = true by simp [badT, h0]))
        go_wp2
        go_ret
        exact ⟨ret_bool HB.out.symm, rfl⟩
      · by_cases h1 : 281474976710656 ≤ nth xs k
        · have HB := Lib.hid (valid_bad hkx (show badT (nth xs k) = true by simp [badT, h1]))
          go_wp2
          go_ret
          exact ⟨ret_bool HB.out.symm, rfl⟩
        · have HB := Lib.hid (show badT (nth xs k) = false by simp [badT]; omega)
          go_wp2
          go_round
          case rel => exact ⟨k + 1, by omega, by go_num, fun j hj => by
            by_cases e : j = k
            · subst e; exact HB.out
            · exact HLE.out j (by omega)⟩
          case measure => simp [intOf]; omega
    · have HV := Lib.hid (valid_good (xs := xs) (fun j hj => HLE.out j (by rw [HX.out] at hj; omega)))
      by_cases h1 : (1 : Int) ≤ n
      · by_cases h8 : (n : Int) ≤ 8
        · go_wp2
          go_ret
          exact ⟨ret_bool (by rw [HV.out, HX.out]; simp; omega), rfl⟩
        · go_wp2
          go_ret
          exact ⟨ret_bool (by rw [HV.out, HX.out]; simp; omega), rfl⟩
      · go_wp2
        go_ret
        exact ⟨ret_bool (by rw [HV.out, HX.out]; simp; omega), rfl⟩
section
variable {n : Nat} {xs : List Int} (hl : xs.length = n) (h0 : ∀ x ∈ xs, 0 ≤ x) (hb : ∀ x ∈ xs, x < 281474976710656) (h1 : 1 ≤ n)
include hl h0 hb h1
omit h1 in
theorem lag_self : lagK xs xs n = if anyP xs n = true then two63 else 0 :=
  lagK_eq xs n (fun j hj => by
    have hm : nth xs j ∈ xs := by rw [nth_eq (by omega)]; exact List.getElem_mem _
    exact kOf_self _ (h0 _ hm) (hb _ hm)) n (Nat.le_refl n)
theorem lags_y : lagK (allL min (RA n n xs)) (allL max (RA n n xs)) (allL min (RA n n xs)).length = if anyP xs n = true then two63 else 0 := by
  rw [RA_min h1, RA_max hl h0 h1, hl]
  exact lag_self hl h0 hb
theorem lags_x : lagK (allL min (RA n 1 xs)) (allL max (RA n 1 xs)) (allL min (RA n 1 xs)).length = if anyP xs n = true then (if 2 ≤ n then fkey oneF else two63) else 0 := by
  by_cases h2 : 2 ≤ n
  · rw [RA_min1 hl h0 h2, RA_max hl h0 (Nat.le_refl 1), zlen, if_pos h2]
    exact lagK_eq xs n (fun j hj => by
      have hm : nth xs j ∈ xs := by rw [nth_eq (by omega)]; exact List.getElem_mem _
      rw [znth]
      exact kOf_zero _ (h0 _ hm) (hb _ hm)) n (Nat.le_refl n)
  · obtain rfl : n = 1 := by omega
    rw [if_neg h2]
    exact lags_y hl h0 hb h1
omit hb in
theorem lags_xlen : (allL min (RA n 1 xs)).length = (allL max (RA n 1 xs)).length := by
  by_cases h2 : 2 ≤ n
  · rw [RA_min1 hl h0 h2, RA_max hl h0 (Nat.le_refl 1), zlen, hl]
  · obtain rfl : n = 1 := by omega
    rw [RA_min h1, RA_max hl h0 h1]
omit hb in
theorem lags_ylen : (allL min (RA n n xs)).length = (allL max (RA n n xs)).length := by
  rw [RA_min h1, RA_max hl h0 h1]
end

set_option maxHeartbeats 1600000 in
set_option maxRecDepth 100000 in
theorem lags_no (n : Int) (ad : Option Addr) (m c : Nat) (xs : List Int) (w : World) (hx : IA w ad m xs) (h : ¬ (1 ≤ n ∧ n ≤ 8 ∧ (m : Int) = n ∧ validL xs = true)) :
    Calls Try.prog 3 #[.int .i64 n, .slice ad m c] w fun e w' => e = .returned (.bool true) ∧ Bl w w' := by
  have hm := hx.cap
  by_cases h1 : n < 1
  · go_enter Try.func3, Try.ntmps3
    go_wp2_with fail
    refine (alive20_any _).mono ?_
    rintro e w1 ⟨rfl, hb1⟩
    go_wp2_with fail
    go_ret
    exact ⟨rfl, hb1⟩
  · by_cases h8 : 8 < n
    · go_enter Try.func3, Try.ntmps3
      go_wp2_with fail
      refine (alive20_any _).mono ?_
      rintro e w1 ⟨rfl, hb1⟩
      go_wp2_with fail
      go_ret
      exact ⟨rfl, hb1⟩
    · by_cases hn : (m : Int) = n
      · have hv : validL xs = false := by
          rw [Bool.eq_false_iff]; exact fun hv => h ⟨by omega, by omega, hn, hv⟩
        have q : ((m : Int) != n) = false := by simp [hn]
        clear h hn
        go_enter Try.func3, Try.ntmps3
        go_wp2_with fail
        refine (rvalid_any ad m c xs _ hx).mono ?_
        rintro e w1 ⟨rfl, rfl⟩
        rw [hv]
        go_wp2_with fail
        refine (alive20_any _).mono ?_
        rintro e w1 ⟨rfl, hb1⟩
        go_wp2_with fail
        go_ret
        exact ⟨rfl, hb1⟩
      · have q : ((m : Int) != n) = true := by simp [hn]
        clear h hn
        go_enter Try.func3, Try.ntmps3
        go_wp2_with fail
        refine (alive20_any _).mono ?_
        rintro e w1 ⟨rfl, hb1⟩
        go_wp2_with fail
        go_ret
        exact ⟨rfl, hb1⟩
end Go.Proofs.Ytpfpefapdcdkeaa
