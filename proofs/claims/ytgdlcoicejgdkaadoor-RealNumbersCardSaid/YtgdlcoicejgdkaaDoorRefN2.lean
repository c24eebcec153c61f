/- The document's own answer to chapter 2: a whole part, a text; plain facts. By an AI agent. -/
import Derived.Test.YtgdlcoicejgdkaaDoorRefN1
namespace Go.Proofs.YtgdlcoicejgdkaaDoor
open Go.RowKit Ieee

/-! ### rounded down -/
theorem cut_down (n d : Nat) : Toward.down.cut false n d = n / 2 ^ d := by
  rw [← cut_zero_down false n d]; rfl
theorem floorR_lt {r : Nat} (h : r < w48) : floorR r < 281474976710656 := by
  have h1 := uval_lt h
  have h2 := floor_48
  unfold floorR at *
  have h3 : uval w48 = 281474976710656 * 2 ^ bigK := by decide +kernel
  rw [h3] at h1
  exact (Nat.div_lt_iff_lt_mul (Nat.two_pow_pos _)).2 h1
theorem floor_word {r : Nat} (h : r < w48) : FloatKind.f64.encode ((FloatKind.f64.decode r).integral .down) = rung (floorR r) 0 := by
  have hinf : r < infR := by unfold w48 at h; unfold infR; omega
  have hd : FloatKind.f64.decode r = .number false (digS r) (digP r) := read_rung hinf
  rw [hd]
  have e : (Datum.number false (digS r) (digP r)).integral .down = .number false (floorR r) 0 := by
    unfold Datum.integral
    simp only [cut_down, Nat.shiftLeft_eq]
    unfold floorR
    rw [uval_dig, show (digP r + 1074) = digP r + (bigK : Int) from rfl, floor_parts bigK _ _ (digP_ge r)]
  rw [e]
  show Ieee.double.nearest false (floorR r) 0 = _
  rw [nearest_rung]; simp
theorem floor_back {r : Nat} (h : r < w48) : floatToIntVal .f64 (rung (floorR r) 0) .i64 = some (floorR r : Int) := by
  have hk := floorR_lt h
  generalize floorR r = k at *
  have hw : rung k 0 < w48 := by
    have h1 := rung_mono_at (m := k) (n := 281474976710655) (by omega) 0
    have h2 : rung 281474976710655 0 < w48 := by decide +kernel
    omega
  rw [to_int_floor hw]
  congr 2
  by_cases h0 : k = 0
  · subst h0; decide +kernel
  · exact floor_nat h0 (by omega)
end Go.Proofs.YtgdlcoicejgdkaaDoor
