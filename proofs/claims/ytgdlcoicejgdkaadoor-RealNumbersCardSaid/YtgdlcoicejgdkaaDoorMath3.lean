/- math.Ldexp of a normal number. By an AI agent. -/
import Derived.Test.YtgdlcoicejgdkaaDoorMath2
namespace Go.Proofs.YtgdlcoicejgdkaaDoor
open Go.RowKit Ieee

theorem rung_tiny {m : Nat} {p : Int} (h2 : m < 2 * two52) (hp : p ≤ -1128) : rung m p = 0 := by
  by_cases h0 : m = 0
  · subst h0; rfl
  · unfold rung
    rw [if_neg h0]
    have b := (Nat.log2_lt (k := 53) h0).2 h2
    have e : max (p + (m.log2 : Int) - 52) (-1074) = -1074 := by omega
    rw [e]
    have e1 : (p - -1074).toNat = 0 := by omega
    obtain ⟨d, hd⟩ : ∃ d : Nat, (-1074 - p).toNat = 54 + d := ⟨(-1074 - p).toNat - 54, by omega⟩
    rw [e1, hd, Nat.pow_zero, Nat.mul_one, cut_full]
    have hb : 2 ^ 54 ≤ 2 ^ (54 + d) := Nat.pow_le_pow_right (by decide) (by omega)
    have h3 : (2 : Nat) ^ 54 = 4 * two52 := by decide
    have hm : m % 2 ^ (54 + d) = m := Nat.mod_eq_of_lt (by omega)
    have hq : m / 2 ^ (54 + d) = 0 := Nat.div_eq_of_lt (by omega)
    unfold halfUp
    rw [hm, hq, decide_eq_false (by omega)]
    simp
theorem rung_huge {m : Nat} {p : Int} (h1 : two52 ≤ m) (h2 : m < 2 * two52) (hp : 972 ≤ p) : rung m p = infR := by
  have h0 : m ≠ 0 := by unfold two52 at h1; omega
  have a := (Nat.le_log2 (k := 52) h0).2 h1
  have b := (Nat.log2_lt (k := 53) h0).2 h2
  have hl : m.log2 = 52 := by omega
  unfold rung
  rw [if_neg h0, hl]
  have e : max (p + ((52 : Nat) : Int) - 52) (-1074) = p := by omega
  rw [e]
  have e1 : (p - p).toNat = 0 := by omega
  rw [e1, cut_none, Nat.pow_zero, Nat.mul_one]
  refine Nat.min_eq_right ?_
  have h5 : 2046 * two52 ≤ (p + 1074).toNat * two52 := Nat.mul_le_mul_right _ (by omega)
  have h6 : 2046 * two52 + two52 = infR := by decide
  omega

theorem top_bits (x : Nat) (hx : x < two64) : bits .and .u64 (x : Int) 9223372036854775808 = ((x / two63 * two63 : Nat) : Int) := by
  rw [show (9223372036854775808 : Int) = ((9223372036854775808 : Nat) : Int) from rfl, u64_and_nat x _ hx (by decide)]
  congr 1
  rw [show 9223372036854775808 = 2 ^ 63 from by decide, nat_bit]
  rw [Nat.mod_eq_of_lt (by unfold two64 at hx; omega)]
  rfl
theorem copysign_pos (x y : Nat) (w : World) (hx : x < two63) (hy : y < two63) : Calls Tryd.prog 78 #[.float .f64 x, .float .f64 y] w fun e w' => e = .returned (.float .f64 x) ∧ w = w' := by
  have hx64 : x < two64 := by unfold two63 two64 at *; omega
  have hy64 : y < two64 := by unfold two63 two64 at *; omega
  have hrx := run_bits x
  have hry := run_bits y
  have hfb := run_frombits
  have e1 := abs_bits x hx64
  rw [Nat.mod_eq_of_lt hx] at e1
  have e2 := top_bits y hy64
  rw [Nat.div_eq_of_lt hy, Nat.zero_mul] at e2
  have e3 : bits .or .u64 (x : Int) 0 = (x : Int) := by
    rw [show (0 : Int) = ((0 : Nat) : Int) from rfl, u64_or_nat x _ hx64 (by decide)]
    simp
  go_enter Tryd.func78, Tryd.ntmps78
  go_wp2_with fail
  go_ret
  exact ⟨rfl, rfl⟩
theorem inf_pos (w : World) : Calls Tryd.prog 85 #[.int .i64 1] w fun e w' => e = .returned (.float .f64 infR) ∧ w = w' := by
  have hfb := run_frombits
  go_enter Tryd.func85, Tryd.ntmps85
  go_wp2_with fail
  go_ret
  exact ⟨rfl, rfl⟩
theorem lt_zero_no {r : Nat} (h : r < infR) : (FloatKind.f64.format.order r 0 == some .lt) = false := by
  rw [order_pos (by unfold infR two63 at *; omega) (by decide) (pos_nan h) (by decide)]
  rcases Nat.eq_zero_or_pos r with rfl | h1
  · decide
  · rw [Nat.compare_eq_gt.2 h1]; rfl
theorem join_word (f q : Nat) (hf : f < two52) (hq : q < 2048) : bits .or .u64 (f : Int) ((q * two52 : Nat) : Int) = ((q * two52 + f : Nat) : Int) := by
  have hb : q * two52 ≤ 2047 * two52 := Nat.mul_le_mul_right _ (by omega)
  have hc : 2047 * two52 < 18446744073709551616 := by decide
  rw [u64_or_nat f _ (by unfold two52 at hf; omega) (by omega), Nat.or_comm]
  congr 1
  exact nat_join 52 _ f (by rw [show two52 = 2 ^ 52 from by decide]; exact Nat.mul_mod_left _ _) hf
theorem word_parts (q f : Nat) (hf : f < two52) : (q * two52 + f) / two52 = q ∧ (q * two52 + f) % two52 = f := by
  have hp : 0 < two52 := by decide
  constructor
  · rw [Nat.add_comm, Nat.add_mul_div_right _ _ hp, Nat.div_eq_of_lt hf]; omega
  · rw [Nat.add_comm, Nat.add_mul_mod_self_right, Nat.mod_eq_of_lt hf]
theorem word_lt_inf (q f : Nat) (hf : f < two52) (hq : q ≤ 2046) : q * two52 + f < infR := by
  have h5 : q * two52 ≤ 2046 * two52 := Nat.mul_le_mul_right _ hq
  have h6 : 2046 * two52 + two52 = infR := by decide
  omega
theorem mul_word (c : Nat) (j : Int) (hc : Ieee.double.read c = .number false two52 j) (q f : Nat) (hf : f < two52) (h1 : 1 ≤ q) (hq : q ≤ 2046) : floatBits .mul .f64 c (q * two52 + f) = some (rung (two52 + f) (j + 52 + ((q : Int) - 1075))) := by
  obtain ⟨p1, p2⟩ := word_parts q f hf
  have hge : two52 ≤ q * two52 + f := by
    have : 1 * two52 ≤ q * two52 := Nat.mul_le_mul_right _ h1
    omega
  rw [mul_of hc (read_normal hge (word_lt_inf q f hf hq)), p1, p2, Nat.mul_comm]
  congr 1
  have e := rung_shift (two52 + f) 52 (j + ((q : Int) - 1075))
  rw [show (2 : Nat) ^ 52 = two52 from by decide] at e
  rw [e]
  congr 1
  omega

set_option maxHeartbeats 1600000 in
set_option maxRecDepth 100000 in
theorem ldexp_core (Q F : Nat) (e : Int) (w : World) (h1 : 1 ≤ Q) (h2 : Q ≤ 2046) (hF : F < two52) (he : -1000000 ≤ e ∧ e ≤ 1000000) :
    Calls Tryd.prog 133 #[.float .f64 (Q * two52 + F), .int .i64 e] w fun r w' => r = .returned (.float .f64 (rung (two52 + F) (e + Q - 1075))) ∧ w = w' := by
  obtain ⟨p1, p2⟩ := word_parts Q F hF
  have hyi := word_lt_inf Q F hF h2
  have hge : two52 ≤ Q * two52 + F := by
    have : 1 * two52 ≤ Q * two52 := Nat.mul_le_mul_right _ h1
    omega
  have HW : normW (Q * two52 + F) = Q * two52 + F := by unfold normW; rw [if_neg (by omega)]
  have HC : ¬ (Q * two52 + F < two52) := by omega
  have h0 : Q * two52 + F ≠ 0 := by unfold two52 at hge ⊢; omega
  have HN := fun w => normalize_any (Q * two52 + F) w h0 hyi
  simp only [HW, if_neg HC] at HN
  have HN := Lib.hid HN
  have hx : Q * two52 + F < two64 := by unfold infR two64 at *; omega
  have hx63 : Q * two52 + F < two63 := by unfold infR two63 at *; omega
  have hz := eq_zero_no h0 hyi
  have hlt := lt_zero_no hyi
  have hi : infB (Q * two52 + F) = false := by
    unfold infB; rw [Nat.mod_eq_of_lt hx63]; exact decide_eq_false (by omega)
  have hn : nanB (Q * two52 + F) = false := pos_nan hyi
  have hrb := run_bits (Q * two52 + F)
  have hfb := run_frombits
  have e1 : ((Q * two52 + F : Nat) : Int) / 4503599627370496 = (Q : Int) := by
    have : ((Q * two52 + F : Nat) : Int) / 4503599627370496 = (((Q * two52 + F) / two52 : Nat) : Int) := by unfold two52; omega
    rw [this, p1]
  have e2 : bits .and .i64 (Q : Int) 2047 = (Q : Int) := by
    have := bits_mask .i64 63 (by decide) wraps_i64 11 (by decide) (Q : Int) (by omega) (by omega)
    rw [show ((2 : Int) ^ 11 - 1) = 2047 from by decide] at this
    rw [this]; omega
  have e3 := frac_bits _ hx63
  rw [p2] at e3
  clear p1 p2 hge HW HC h0 hyi hx63
  have HCS := Lib.hid (fun w => copysign_pos 0 (Q * two52 + F) w (by decide) (by have := word_lt_inf Q F hF h2; unfold infR two63 at *; omega))
  generalize hy : Q * two52 + F = y at *
  clear hy
  by_cases hA : e + ((Q : Int) - 1023) < -1075
  · rw [rung_tiny (by omega) (by omega)]
    go_enter Tryd.func133, Tryd.ntmps133
    go_wp2_with fail
    refine (isInf_any y _ hx).mono ?_
    rintro e w' ⟨rfl, rfl⟩
    rw [hi]
    go_wp2_with fail
    refine (isNaN_any y _ hx).mono ?_
    rintro e w' ⟨rfl, rfl⟩
    rw [hn]
    go_wp2_with fail
    refine (HN.out _).mono ?_
    rintro e w' ⟨rfl, rfl⟩
    go_wp2_with fail
    refine (HCS.out _).mono ?_
    rintro e w' ⟨rfl, rfl⟩
    go_wp2_with fail
    go_ret
    exact ⟨rfl, rfl⟩
  by_cases hB : 1023 < e + ((Q : Int) - 1023)
  · rw [rung_huge (by omega) (by omega) (by omega)]
    go_enter Tryd.func133, Tryd.ntmps133
    go_wp2_with fail
    refine (isInf_any y _ hx).mono ?_
    rintro e w' ⟨rfl, rfl⟩
    rw [hi]
    go_wp2_with fail
    refine (isNaN_any y _ hx).mono ?_
    rintro e w' ⟨rfl, rfl⟩
    rw [hn]
    go_wp2_with fail
    refine (HN.out _).mono ?_
    rintro e w' ⟨rfl, rfl⟩
    go_wp2_with fail
    refine (inf_pos _).mono ?_
    rintro e w' ⟨rfl, rfl⟩
    go_wp2_with fail
    go_ret
    exact ⟨rfl, rfl⟩
  by_cases hC : e + ((Q : Int) - 1023) < -1022
  · obtain ⟨q, hq⟩ : ∃ q : Nat, e + ((Q : Int) - 1023) + 53 + 1023 = (q : Int) := ⟨(e + ((Q : Int) - 1023) + 53 + 1023).toNat, by omega⟩
    have hqb : 1 ≤ q ∧ q ≤ 2046 := by omega
    have e5 : bits .or .u64 (F : Int) ((q : Int) * 4503599627370496) = ((q * two52 + F : Nat) : Int) := by
      rw [← join_word F q hF (by omega), Int.natCast_mul]; rfl
    have hmul : ∀ w, (binOp .mul 26 (.float .f64 4368491638549381120) (.float .f64 (q * two52 + F))).run Tryd.prog w = .ok (.float .f64 (rung (two52 + F) (e + Q - 1075))) w := fun w =>
      run_float_arith w .mul 26 .f64 _ _ _ (by
        rw [mul_word 4368491638549381120 (-105) (by decide +kernel) q F hF hqb.1 hqb.2]
        congr 2; omega)
    have HQ := Lib.hid hqb
    clear hqb
    generalize rung (two52 + F) (e + Q - 1075) = R at *
    go_enter Tryd.func133, Tryd.ntmps133
    go_wp2_with fail
    refine (isInf_any y _ hx).mono ?_
    rintro e w' ⟨rfl, rfl⟩
    rw [hi]
    go_wp2_with fail
    refine (isNaN_any y _ hx).mono ?_
    rintro e w' ⟨rfl, rfl⟩
    rw [hn]
    go_wp2_with fail
    refine (HN.out _).mono ?_
    rintro e w' ⟨rfl, rfl⟩
    go_wp2_with fail
    go_ret
    exact ⟨rfl, rfl⟩
  · obtain ⟨q, hq⟩ : ∃ q : Nat, e + ((Q : Int) - 1023) + 1023 = (q : Int) := ⟨(e + ((Q : Int) - 1023) + 1023).toNat, by omega⟩
    have hqb : 1 ≤ q ∧ q ≤ 2046 := by omega
    have e5 : bits .or .u64 (F : Int) ((q : Int) * 4503599627370496) = ((q * two52 + F : Nat) : Int) := by
      rw [← join_word F q hF (by omega), Int.natCast_mul]; rfl
    have hmul : ∀ w, (binOp .mul 26 (.float .f64 4607182418800017408) (.float .f64 (q * two52 + F))).run Tryd.prog w = .ok (.float .f64 (rung (two52 + F) (e + Q - 1075))) w := fun w =>
      run_float_arith w .mul 26 .f64 _ _ _ (by
        rw [mul_word 4607182418800017408 (-52) (by decide +kernel) q F hF hqb.1 hqb.2]
        congr 2; omega)
    have HQ := Lib.hid hqb
    clear hqb
    generalize rung (two52 + F) (e + Q - 1075) = R at *
    go_enter Tryd.func133, Tryd.ntmps133
    go_wp2_with fail
    refine (isInf_any y _ hx).mono ?_
    rintro e w' ⟨rfl, rfl⟩
    rw [hi]
    go_wp2_with fail
    refine (isNaN_any y _ hx).mono ?_
    rintro e w' ⟨rfl, rfl⟩
    rw [hn]
    go_wp2_with fail
    refine (HN.out _).mono ?_
    rintro e w' ⟨rfl, rfl⟩
    go_wp2_with fail
    go_ret
    exact ⟨rfl, rfl⟩

theorem ldexp_any (Q F : Nat) (e : Int) (w : World) (h1 : 1 ≤ Q) (h2 : Q ≤ 2046) (hF : F < two52) (he : -1000000 ≤ e ∧ e ≤ 1000000) :
    Calls Tryd.prog 88 #[.float .f64 (Q * two52 + F), .int .i64 e] w fun r w' => r = .returned (.float .f64 (rung (two52 + F) (e + Q - 1075))) ∧ w = w' := by
  go_enter Tryd.func88, Tryd.ntmps88
  go_wp2_with fail
  refine (ldexp_core Q F e _ h1 h2 hF he).mono ?_
  rintro e w' ⟨rfl, rfl⟩
  go_wp2_with fail
  go_ret
  exact ⟨rfl, rfl⟩
end Go.Proofs.YtgdlcoicejgdkaaDoor
