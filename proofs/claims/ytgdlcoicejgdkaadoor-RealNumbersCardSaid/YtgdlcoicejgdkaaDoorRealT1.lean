/- real.parts; math/bits.Len64. By an AI agent. -/
import Derived.Test.YtgdlcoicejgdkaaDoorMath3
namespace Go.Proofs.YtgdlcoicejgdkaaDoor
open Go.RowKit Ieee

/-- a number's odd digits, and their place -/
def tzS (r : Nat) : Nat := Lib.ctz 64 (normS r)
def oddM (r : Nat) : Nat := normS r / 2 ^ tzS r
def oddE (r : Nat) : Int := normP r + tzS r

theorem cut_zero_way (s : Bool) (n : Nat) : Toward.zero.cut s n 0 = n := by
  unfold Toward.cut; simp
theorem to_int_whole (S : Nat) (h1 : two52 ≤ S) (h2 : S < 2 * two52) : floatToIntVal .f64 (1074 * two52 + S) .u64 = some (S : Int) := by
  have hf : S - two52 < two52 := by omega
  have e : 1074 * two52 + S = 1075 * two52 + (S - two52) := by
    have h3 : 1075 * two52 = 1074 * two52 + two52 := Nat.succ_mul 1074 two52
    rw [h3]
    generalize 1074 * two52 = Z
    omega
  obtain ⟨p1, p2⟩ := word_parts 1075 (S - two52) hf
  have hge : two52 ≤ 1075 * two52 + (S - two52) := by
    exact Nat.le_trans (Nat.le_mul_of_pos_left two52 (show 0 < 1075 by decide)) (Nat.le_add_right _ _)
  unfold floatToIntVal
  rw [e]
  have hr : FloatKind.f64.decode (1075 * two52 + (S - two52)) = .number false S 0 := by
    have hd : ∀ z, FloatKind.f64.decode z = Ieee.double.read z := fun _ => rfl
    rw [hd, read_normal hge (word_lt_inf 1075 _ hf (by decide)), p1, p2]
    have e5 : two52 + (S - two52) = S := by omega
    have e6 : ((1075 : Nat) : Int) - 1075 = 0 := by omega
    rw [e5, e6]
  rw [hr]
  have ht : (Datum.number false S 0).toInt .zero = some (S : Int) := by
    unfold Datum.toInt Datum.integral
    simp only [Int.toNat_zero, Nat.shiftLeft_zero, Int.neg_zero, cut_zero_way, signed]
    simp
  rw [ht]
  have hb : IntKind.u64.min ≤ (S : Int) ∧ (S : Int) ≤ IntKind.u64.max := by
    have : IntKind.u64.min = 0 := by decide
    have h3 : IntKind.u64.max = 18446744073709551615 := by decide
    rw [this, h3]
    unfold two52 at h2
    omega
  simp only [if_pos hb]

theorem tz_bound {r : Nat} (h0 : r ≠ 0) : tzS r < 53 ∧ ∃ m, normS r = 2 ^ tzS r * (2 * m + 1) := by
  have h1 := normS_ge h0
  have h2 := normS_lt h0
  have hn : normS r ≠ 0 := by unfold two52 at h1; omega
  have hl : normS r < 2 ^ 64 := by unfold two52 at h2; omega
  have e : tzS r = Lib.ctzFrom 64 (normS r) := by unfold tzS Lib.ctz; rw [if_neg hn]
  obtain ⟨m, hm, _⟩ := Lib.ctzFrom_spec 64 (normS r) (by omega) hl
  rw [← e] at hm
  refine ⟨?_, m, hm⟩
  have hle : 2 ^ tzS r ≤ normS r := by
    calc 2 ^ tzS r ≤ 2 ^ tzS r * (2 * m + 1) := Nat.le_mul_of_pos_right _ (by omega)
      _ = normS r := hm.symm
  have hlt : 2 ^ tzS r < 2 ^ 53 := by
    have : 2 * two52 = 2 ^ 53 := by decide
    omega
  exact (Nat.pow_lt_pow_iff_right (by decide)).1 hlt
theorem oddM_odd {r : Nat} (h0 : r ≠ 0) : oddM r % 2 = 1 ∧ normS r = oddM r * 2 ^ tzS r ∧ oddM r < 2 * two52 := by
  obtain ⟨hk, m, hm⟩ := tz_bound h0
  have h2 := normS_lt h0
  have e : oddM r = 2 * m + 1 := by
    unfold oddM
    conv => lhs; rw [hm]
    exact Nat.mul_div_cancel_left _ (Nat.two_pow_pos _)
  refine ⟨by rw [e]; omega, by rw [e, Nat.mul_comm]; exact hm, ?_⟩
  have : oddM r ≤ normS r := Nat.div_le_self _ _
  omega
theorem normP_bd {r : Nat} (h0 : r ≠ 0) (h : r < infR) : -1126 ≤ normP r ∧ normP r ≤ 971 := by
  unfold normP
  split
  · rename_i hs
    have := log2_sub h0 hs
    omega
  · have hq : r / two52 < 2047 := by rw [Nat.div_lt_iff_lt_mul (by decide)]; exact h
    generalize r / two52 = q at *
    omega

set_option maxHeartbeats 800000 in
set_option maxRecDepth 100000 in
theorem parts_any (x : Nat) (w : World) (hx : x < two64) (h0 : x % two63 ≠ 0) (h : x % two63 < infR) (hT : Tab w) :
    Calls Tryd.prog 107 #[.float .f64 x] w fun e w' => e = .returned (.tuple #[.int .i64 (oddM (x % two63)), .int .i64 (oddE (x % two63))]) ∧ w = w' := by
  generalize hr : x % two63 = r at *
  have h1 := normS_ge h0
  have h2 := normS_lt h0
  have hp := normP_bd h0 h
  obtain ⟨hk, m, hm⟩ := tz_bound h0
  have hS64 : normS r < two64 := by unfold two52 at h2; unfold two64; omega
  have hS0 : normS r ≠ 0 := by unfold two52 at h1; omega
  have HF := Lib.hid (fun w => frexp_any r w h0 h)
  have hl := fun w => ldexp_any 1022 (normS r - two52) 53 w (by decide) (by decide) (by omega) (by decide)
  have e1 : rung (two52 + (normS r - two52)) (53 + ((1022 : Nat) : Int) - 1075) = 1074 * two52 + normS r := by
    have e0 : two52 + (normS r - two52) = normS r := by omega
    rw [e0, rung_exact h1 h2 (by omega) (by omega)]
    rfl
  rw [e1, show 1022 * two52 = 4602678819172646912 from by decide] at hl
  have HL := Lib.hid hl
  have hcv : ∀ w, (convert 26 83 (.float .f64 (1074 * two52 + normS r))).run Tryd.prog w = .ok (.int .u64 (normS r)) w := fun w =>
    run_convert_float_int w 26 83 .f64 .u64 _ _ (by rw [Tryd.underlying26]; rfl) Tryd.underlying83 (to_int_whole _ h1 h2)
  have HT := Lib.hid (tz_any (normS r) hS64 hS0 w hT)
  have eM : ((normS r : Nat) : Int) / 2 ^ tzS r = (oddM r : Int) := by unfold oddM; simp
  have hMb := (oddM_odd h0).2.2
  have hM63 : (oddM r : Int) ≤ 9223372036854775807 := by unfold two52 at hMb; omega
  have EE := Lib.hid (show oddE r = normP r + (tzS r : Int) from rfl)
  have htz : Lib.ctz 64 (normS r) = tzS r := rfl
  rw [htz] at HT
  clear e1 hl hm h1 h2 hS64 hS0 h0 h
  generalize normS r = S at *
  generalize tzS r = k at *
  generalize oddM r = M at *
  generalize normP r = P at *
  go_enter Tryd.func107, Tryd.ntmps107
  go_wp2_with fail
  refine (abs_any x _ hx).mono ?_
  rintro e w' ⟨rfl, rfl⟩
  rw [hr]
  go_wp2_with fail
  refine (HF.out _).mono ?_
  rintro e w' ⟨rfl, rfl⟩
  go_wp2_with fail
  refine (HL.out _).mono ?_
  rintro e w' ⟨rfl, rfl⟩
  go_wp2_with fail
  refine (HT.out).mono ?_
  rintro e w' ⟨rfl, rfl⟩
  go_wp2_with fail
  rw [EE.out]
  go_ret2
  exact ⟨rfl, rfl⟩

/-- the shelf's contract of Len64, at this dump -/
def len_ren : Go.Shelf.Ren := ⟨fun | 129 => 108 | n => n, fun | 3 => 3 | 4 => 4 | 5 => 5 | 9 => 9 | 46 => 84 | 53 => 83 | n => n, fun | n => n⟩
theorem len_lays : Go.Proofs.Lays.n129 Tryd.prog len_ren := {
  mixed := by kernel_rfl
  f129 := Tryd.func108.trans (congrArg some (by kernel_rfl))
  t3 := Tryd.underlying3
  a3 := Tryd.isAgg3
  z3 := Tryd.sizeOf3
  v3 := Tryd.zeroValue3
  t4 := Tryd.underlying4
  a4 := Tryd.isAgg4
  z4 := Tryd.sizeOf4
  v4 := Tryd.zeroValue4
  t5 := Tryd.underlying5
  a5 := Tryd.isAgg5
  z5 := Tryd.sizeOf5
  v5 := Tryd.zeroValue5
  t9 := Tryd.underlying9
  a9 := Tryd.isAgg9
  z9 := Tryd.sizeOf9
  v9 := Tryd.zeroValue9
  t46 := Tryd.underlying84
  a46 := Tryd.isAgg84
  z46 := Tryd.sizeOf84
  v46 := Tryd.zeroValue84
  t53 := Tryd.underlying83
  a53 := Tryd.isAgg83
  z53 := Tryd.sizeOf83
  v53 := Tryd.zeroValue83 }
theorem len64_any (x : Nat) (w : World) (hx : x < two64) : Calls Tryd.prog 108 #[.int .u64 x] w fun e w' => e = .returned (.int .i64 (Lib.bitLen x)) ∧ w = w' := by
  refine (Go.Proofs.Any.bits_Len64 len_lays (x : Int) w (by omega) (by unfold two64 at hx; omega)).mono ?_
  rintro e w' ⟨rfl, rfl⟩
  exact ⟨rfl, rfl⟩
end Go.Proofs.YtgdlcoicejgdkaaDoor
