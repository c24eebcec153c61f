/- real.Same, real.Min; what the order keys of numbers tell. By an AI agent. -/
import Derived.Test.YtgdlcoicejgdkaaDoorReal2
namespace Go.Proofs.YtgdlcoicejgdkaaDoor
open Go.RowKit

theorem fkey_inj' {x y : Nat} (hx : x < two64) (hy : y < two64) (h : fkey x = fkey y) (h0 : fkey y ≠ 0) : x = y := by
  unfold fkey at h h0
  unfold two63 two64 at *
  split at h <;> split at h <;> (try split at h) <;> (try split at h) <;> simp_all <;> omega
theorem fkey_zero' {x : Nat} (hx : x < two64) (h : fkey x = 0) : nanB x = true := by
  cases hn : nanB x
  · exfalso
    rw [fkey_num hn] at h
    have h2 : x % two63 ≤ infR := by simpa [nanB] using hn
    unfold two63 two64 infR at *
    split at h <;> omega
  · rfl
theorem rmax_key' (x y : Nat) : fkey (rmax x y) = max (fkey x) (fkey y) := by
  unfold rmax cmpN
  by_cases h : fkey x < fkey y
  · rw [if_pos h, if_pos (by decide)]; omega
  · rw [if_neg h, if_neg (by split <;> decide)]; omega
theorem rmax_lt' {x y : Nat} (hx : x < two64) (hy : y < two64) : rmax x y < two64 := by
  unfold rmax; split <;> assumption

/-- the earlier number -/
def rmin (x y : Nat) : Nat := if 0 < cmpN (fkey x) (fkey y) then y else x
theorem rmin_key (x y : Nat) : fkey (rmin x y) = min (fkey x) (fkey y) := by
  unfold rmin cmpN
  by_cases h : fkey x < fkey y
  · rw [if_pos h, if_neg (by decide)]; omega
  · rw [if_neg h]
    by_cases h2 : fkey y < fkey x
    · rw [if_pos h2, if_pos (by decide)]; omega
    · rw [if_neg h2, if_neg (by decide)]; omega
theorem rmin_lt {x y : Nat} (hx : x < two64) (hy : y < two64) : rmin x y < two64 := by
  unfold rmin; split <;> assumption
theorem rmin_any (x y : Nat) (w : World) (hx : x < two64) (hy : y < two64) : Calls Tryd.prog 57 #[.float .f64 x, .float .f64 y] w fun e w' => e = .returned (.float .f64 (rmin x y)) ∧ Bl w w' := by
  by_cases h : 0 < cmpN (fkey x) (fkey y)
  · have HR := Lib.hid (show rmin x y = y from if_pos h)
    go_enter Tryd.func57, Tryd.ntmps57
    go_wp2_with fail
    refine (rcompare_any x y _ hx hy).mono ?_
    rintro e w1 ⟨rfl, hb1⟩
    go_wp2_with fail
    go_ret
    exact ⟨congrArg (fun b => Ending.returned (.float .f64 b)) HR.out.symm, hb1⟩
  · have HR := Lib.hid (show rmin x y = x from if_neg h)
    go_enter Tryd.func57, Tryd.ntmps57
    go_wp2_with fail
    refine (rcompare_any x y _ hx hy).mono ?_
    rintro e w1 ⟨rfl, hb1⟩
    go_wp2_with fail
    go_ret
    exact ⟨congrArg (fun b => Ending.returned (.float .f64 b)) HR.out.symm, hb1⟩

theorem cmpN_zero (a b : Nat) : (cmpN a b == 0) = decide (a = b) := by
  unfold cmpN
  by_cases h : a < b
  · rw [if_pos h, decide_eq_false (by omega)]; rfl
  · rw [if_neg h]
    by_cases h2 : b < a
    · rw [if_pos h2, decide_eq_false (by omega)]; rfl
    · rw [if_neg h2, decide_eq_true (by omega)]; rfl
theorem rsameF_any (x y : Nat) (w : World) (hx : x < two64) (hy : y < two64) : Calls Tryd.prog 52 #[.float .f64 x, .float .f64 y] w fun e w' => e = .returned (.bool (decide (fkey x = fkey y))) ∧ Bl w w' := by
  have HZ := Lib.hid (cmpN_zero (fkey x) (fkey y))
  go_enter Tryd.func52, Tryd.ntmps52
  go_wp2_with fail
  refine (rcompare_any x y _ hx hy).mono ?_
  rintro e w1 ⟨rfl, hb1⟩
  go_wp2_with fail
  go_ret
  exact ⟨ret_bool HZ.out, hb1⟩
end Go.Proofs.YtgdlcoicejgdkaaDoor
