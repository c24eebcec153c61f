/- real.Scale. By an AI agent. -/
import Derived.Test.YtgdlcoicejgdkaaDoorScale0
import Derived.Outline
namespace Go.Proofs.YtgdlcoicejgdkaaDoor
open Go.RowKit Ieee

theorem zero_cmp {y : Nat} (hy : y < two64) (hn : nanB y = false) :
    (FloatKind.f64.format.order y 0 == some .lt) = (decide (y % two63 ≠ 0) && decide (two63 ≤ y)) ∧ (FloatKind.f64.format.order y 0 == some .eq) = decide (y % two63 = 0) := by
  have e : FloatKind.f64.format.order y 0 = some (compare (sval y) (sval 0)) := order_eq hy (by decide) hn (by decide)
  rw [e, show sval 0 = 0 from by decide]
  by_cases h : y % two63 = 0
  · have : sval y = 0 := by
      unfold sval
      rw [h]
      split <;> rfl
    rw [this, decide_eq_true h, decide_eq_false (by simp [h])]
    exact ⟨rfl, rfl⟩
  · have hu : 0 < uval (y % two63) := by
      have := uval_lt (show 0 < y % two63 by omega)
      rwa [show uval 0 = 0 from by decide] at this
    rw [decide_eq_false h, decide_eq_true h]
    unfold sval
    by_cases h2 : two63 ≤ y
    · rw [if_pos h2, decide_eq_true h2, Int.compare_eq_lt.2 (by omega)]; exact ⟨rfl, rfl⟩
    · rw [if_neg h2, decide_eq_false h2, Int.compare_eq_gt.2 (by omega)]; exact ⟨rfl, rfl⟩
theorem far_order {r : Nat} (h : r ≤ infR) : (FloatKind.f64.format.order r 4823355200913801216 == some .gt) = decide (w48 < r) ∧ (FloatKind.f64.format.order r 4823355200913801216 == some .eq) = decide (r = w48) := by
  have e : FloatKind.f64.format.order r w48 = some (compare r w48) := order_pos (by unfold infR two63 at *; omega) (by decide) (nan_small h) (by decide +kernel)
  rw [show (4823355200913801216 : Nat) = w48 from rfl, e]
  rcases Nat.lt_trichotomy r w48 with k | k | k
  · rw [Nat.compare_eq_lt.2 k, decide_eq_false (by omega), decide_eq_false (by omega)]; exact ⟨rfl, rfl⟩
  · subst k; exact ⟨by decide +kernel, by decide +kernel⟩
  · rw [Nat.compare_eq_gt.2 k, decide_eq_true k, decide_eq_false (by omega)]; exact ⟨rfl, rfl⟩
theorem mul_inf {c : Nat} (h0 : c ≠ 0) (h : c < 2 ^ 53) : floatBits .mul .f64 (rung c 0) infR = some infR := by
  show Ieee.double.mul _ _ = _
  unfold Format.mul
  rw [read_natF h0 h, show Ieee.double.read infR = .infinity false from by decide +kernel]
  have h1 := (nat_word h0 h).2.1
  have h2 : c * 2 ^ (52 - c.log2) ≠ 0 := by unfold two52 at h1; omega
  simp only [Datum.product]
  first | (rw [if_neg h2]; decide +kernel) | (simp [h2]; decide +kernel)

set_option maxRecDepth 100000 in
theorem scale_any (n : Int) (y : Nat) (w : World) (hn : -9223372036854775808 ≤ n ∧ n ≤ 9223372036854775807) (hy : y < two64) :
    Calls Tryd.prog 61 #[.int .i64 n, .float .f64 y] w fun e w' => e = .returned (.int .i64 (scaleV n y)) ∧ w = w' := by
  have q1 : (FloatKind.f64.format.order y y != some .eq) = nanB y := self_nan hy
  cases hnan : nanB y
  · rw [hnan] at q1
    obtain ⟨qlt, qeq⟩ := zero_cmp hy hnan
    have hc := clampT_bd n
    by_cases hz : clampT n = 0
    · have HS := Lib.hid (show scaleV n y = 0 from by unfold scaleV; rw [hnan, if_neg (by simp), if_pos (.inl hz)])
      have hz' : min (max n 0) 281474976710656 = 0 := hz
      clear hz qlt qeq hc hnan
      go_enter Tryd.func61, Tryd.ntmps61
      go_wp2_with fail
      all_goals (go_ret; exact ⟨ret_int HS.out.symm, rfl⟩)
    · obtain ⟨c, hcn⟩ : ∃ c : Nat, clampT n = (c : Int) := ⟨(clampT n).toNat, by omega⟩
      have hc0 : c ≠ 0 := by omega
      have hc53 : c < 2 ^ 53 := by omega
      have hcz : ((c : Int) == 0) = false := by simpa using hc0
      have hz' : min (max n 0) 281474976710656 = (c : Int) := hcn
      have hz2 : ¬ (c : Int) = 0 := by omega
      cases hu : underB y
      · have hp : y % two63 ≠ 0 ∧ ¬ two63 ≤ y := by
          simp only [underB, Bool.or_eq_false_iff, decide_eq_false_iff_not] at hu
          exact hu
        have hm : y % two63 = y := Nat.mod_eq_of_lt (by omega)
        have hyi : y ≤ infR := by simpa [nanB, hm] using hnan
        rw [decide_eq_false hp.2, Bool.and_false] at qlt
        rw [decide_eq_false hp.1] at qeq
        have HF := Lib.hid (float_rung c)
        obtain ⟨r, hr, hri, hsr⟩ : ∃ r, floatBits .mul .f64 (rung c 0) y = some r ∧ r ≤ infR ∧ scaleV n y = if w48 ≤ r then 281474976710656 else (floorR r : Int) := by
          by_cases hi : y = infR
          · refine ⟨infR, by rw [hi]; exact mul_inf hc0 hc53, Nat.le_refl _, ?_⟩
            unfold scaleV
            rw [hnan, if_neg (by simp), hu, if_neg (by simp [hz]), if_pos (.inl hi), if_pos (by decide)]
          · refine ⟨farR c y, mul_far hc0 hc53 (by omega), rung_le_inf _ _, ?_⟩
            unfold scaleV
            rw [hnan, if_neg (by simp), hu, if_neg (by simp [hz]), hcn, Int.toNat_natCast]
            by_cases k : w48 ≤ farR c y
            · rw [if_pos (.inr k), if_pos k]
            · rw [if_neg (by rintro (k2 | k2); · exact hi k2
                             · exact k k2), if_neg k]
        obtain ⟨qg, qe⟩ := far_order hri
        have hmul : ∀ W : World, (binOp .mul 26 (.float .f64 (rung c 0)) (.float .f64 y)).run Tryd.prog W = .ok (.float .f64 r) W := fun W => run_float_arith W .mul 26 .f64 _ y r hr
        have hfl : floatOfInt .f64 (c : Int) = rung c 0 := float_rung c
        by_cases k : w48 ≤ r
        · have HS := Lib.hid (hsr.trans (if_pos k))
          have qge : ((FloatKind.f64.format.order r 4823355200913801216 == some .gt) || (FloatKind.f64.format.order r 4823355200913801216 == some .eq)) = true := by
            rw [qg, qe]; simp; omega
          generalize rung c 0 = F at *
          clear hz hc hcn hc53 hr hri hm hyi hp hu hnan hsr qg qe HF hy
          go_enter Tryd.func61, Tryd.ntmps61
          go_wp2_with fail
          go_ret
          exact ⟨ret_int HS.out.symm, rfl⟩
        · have HS := Lib.hid (hsr.trans (if_neg k))
          have qg1 : (FloatKind.f64.format.order r 4823355200913801216 == some .gt) = false := by rw [qg]; simp; omega
          have qe1 : (FloatKind.f64.format.order r 4823355200913801216 == some .eq) = false := by rw [qe]; simp; omega
          have hcv : ∀ W, (convert 26 3 (.float .f64 r)).run Tryd.prog W = .ok (.int .i64 (floorR r)) W := fun W =>
            run_convert_float_int W 26 3 .f64 .i64 _ _ (by rw [Tryd.underlying26]; rfl) Tryd.underlying3 (to_int_floor (by omega))
          generalize rung c 0 = F at *
          generalize floorR r = R at *
          clear hz hc hcn hc53 hr hri hm hyi hp hu hnan hsr qg qe HF hy
          go_enter Tryd.func61, Tryd.ntmps61
          go_wp2_with fail
          go_ret
          exact ⟨ret_int HS.out.symm, rfl⟩
      · have HS := Lib.hid (show scaleV n y = 0 from by unfold scaleV; rw [hnan, if_neg (by simp), if_pos (.inr hu)])
        have qu : (FloatKind.f64.format.order y 0 == some .lt) = true ∨ (FloatKind.f64.format.order y 0 == some .eq) = true := by
          rw [qlt, qeq]
          simp only [underB, Bool.or_eq_true, decide_eq_true_eq] at hu
          by_cases k : y % two63 = 0
          · right; simp [k]
          · left; simp [k]; omega
        clear hz hc qlt qeq hu hnan
        rcases qu with qu | qu
        all_goals
          go_enter Tryd.func61, Tryd.ntmps61
          go_wp2_with fail
          all_goals (go_ret; exact ⟨ret_int HS.out.symm, rfl⟩)
  · rw [hnan] at q1
    have HS := Lib.hid (show scaleV n y = min (max n 0) 281474976710656 from by unfold scaleV; rw [hnan]; rfl)
    go_enter Tryd.func61, Tryd.ntmps61
    go_wp2_with fail
    go_ret
    exact ⟨ret_int HS.out.symm, rfl⟩
end Go.Proofs.YtgdlcoicejgdkaaDoor
