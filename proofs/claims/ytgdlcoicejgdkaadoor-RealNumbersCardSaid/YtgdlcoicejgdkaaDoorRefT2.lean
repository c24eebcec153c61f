/- bedrockref2.Text: the walks of finite numbers (printed by a program). · bedrockref2.Text is real.Text: each number. By an AI agent. -/
import Derived.Test.YtgdlcoicejgdkaaDoorRefD
import Derived.Test.YtgdlcoicejgdkaaDoorRefW6
set_option linter.unusedVariables false
namespace Go.Proofs.YtgdlcoicejgdkaaDoor
open Go.RowKit Ieee

theorem pow_step {M V i : Nat} (h : V = M * 2 ^ i) : V * 2 = M * 2 ^ (i + 1) := by rw [h, Nat.pow_succ, Nat.mul_assoc]
theorem pow_small {M V i : Nat} (h0 : 0 < M) (h : V = M * 2 ^ i) (hV : V < 18014398509481984) : i < 54 := by
  have h1 : 2 ^ i ≤ V := by rw [h]; exact Nat.le_mul_of_pos_left _ h0
  have h2 : 2 ^ i < 2 ^ 54 := by
    have e : (2 : Nat) ^ 54 = 18014398509481984 := by decide
    omega
  exact (Nat.pow_lt_pow_iff_right (by decide)).1 h2
theorem pow_up {M V i : Nat} {E : Int} (h : V = M * 2 ^ i) (hi : (i : Int) ≤ E) : V ≤ M * 2 ^ E.toNat := by
  rw [h]; exact Nat.mul_le_mul_left _ (Nat.pow_le_pow_right (by decide) (by omega))
theorem pow_at {M V i : Nat} {E : Int} (h : V = M * 2 ^ i) (hi : (i : Int) = E) : V = M * 2 ^ E.toNat := by
  rw [h, ← hi, Int.toNat_natCast]

set_option maxHeartbeats 1600000 in
set_option maxRecDepth 100000 in
theorem reftext_zero_pos (x R : Nat) (w : World) (N : Hid (∀ w, Calls Tryd.prog 82 #[.float .f64 x] w fun e w' => e = .returned (.bool false) ∧ w = w')) (o1 : (FloatKind.f64.format.order x 9218868437227405311 == some .gt) = false) (o2 : (FloatKind.f64.format.order x 18442240474082181119 == some .lt) = false) (hx : x < 9223372036854775808) (ex : x = R) (eF : (R : Int) % 4503599627370496 = 0) (eQ : (R : Int) / 4503599627370496 = 0) :
    Calls Tryd.prog 54 #[.float .f64 x] w fun e w' => ∃ s : ByteArray, e = .returned (.string s) ∧ SB s [48] ∧ Bl w w' := by
  have hrb := run_bits x
  subst ex
  have qx : decide ((9223372036854775808 : Int) ≤ (x : Int)) = false := by simp; omega
  go_enter Tryd.func54, Tryd.ntmps54
  go_wp2_with fail
  refine (N.out _).mono ?_
  rintro e w1 ⟨rfl, rfl⟩
  go_upto_region 12 with fail
  try rw [eF]
  try rw [eQ]
  go_wp2_with fail
  go_ret
  exact ⟨_, rfl, rfl, Bl.refl _⟩

set_option maxHeartbeats 1600000 in
set_option maxRecDepth 100000 in
theorem reftext_part_pos_sub (x R F Q M z A0 B : Nat) (E : Int) (w : World) (N : Hid (∀ w, Calls Tryd.prog 82 #[.float .f64 x] w fun e w' => e = .returned (.bool false) ∧ w = w')) (o1 : (FloatKind.f64.format.order x 9218868437227405311 == some .gt) = false) (o2 : (FloatKind.f64.format.order x 18442240474082181119 == some .lt) = false) (hx : x < 9223372036854775808) (ex : x = R) (eF : (R : Int) % 4503599627370496 = (F : Int)) (hF : F < 4503599627370496) (eQ : (R : Int) / 4503599627370496 = 0) (HA0 : Hid (A0 = M * 2 ^ (z - 0))) (G : Hid (OddOf M z B 0)) (eA : F = A0) (eE : -1074 + (z : Int) = E) (HP0 : Hid (E < 0 ∨ 9007199254740992 ≤ M * 2 ^ E.toNat)) (s1 s2 : ByteArray) (z1 : s1.size ≤ 20) (z2 : s2.size ≤ 20) (DM : Hid (∀ w, Calls Tryd.prog 99 #[.int .i64 (M : Int)] w fun e w' => e = .returned (.string s1) ∧ Bl w w')) (DE : Hid (∀ w, Calls Tryd.prog 99 #[.int .i64 E] w fun e w' => e = .returned (.string s2) ∧ Bl w w')) :
    Calls Tryd.prog 54 #[.float .f64 x] w fun e w' => e = .returned (.string (s1 ++ ⟨#[112]⟩ ++ s2)) ∧ Bl w w' := by
  have hrb := run_bits x
  subst ex
  have qx : decide ((9223372036854775808 : Int) ≤ (x : Int)) = false := by simp; omega
  go_enter Tryd.func54, Tryd.ntmps54
  go_wp2_with fail
  refine (N.out _).mono ?_
  rintro e w1 ⟨rfl, rfl⟩
  go_upto_region 12 with fail
  try rw [eF]
  try rw [eQ]
  obtain ⟨a00, _, _, _⟩ := G.out.step (Nat.zero_le _) HA0.out
  subst eA
  have qF : ((F : Int) == 0) = false := by simp; omega
  have HB := Bl.refl w
  go_wp2_with fail
  go_loop [5, 6] (fun m e => ∃ j A : Nat, j ≤ z ∧ m = .int .i64 A ∧ e = .int .i64 (-1074 + (j : Int)) ∧ A = M * 2 ^ (z - j)) (fun _ e => z - (intOf e - -1074).toNat)
  case atStart => exact ⟨0, F, Nat.zero_le _, by go_num, by go_num, HA0.out⟩
  case round =>
    obtain ⟨j, A, hj, rfl, rfl, hA⟩ := hrel
    obtain ⟨a0, a1, a2, a3⟩ := G.out.step hj hA
    have HA := Lib.hid hA
    clear hA
    have zz := G.out.z52
    by_cases hjz : j < z
    · obtain ⟨b1, b2⟩ := a2 hjz
      have B2 := Lib.hid b2
      have qe : ((A : Int) % 2 == 0) = true := by simp; omega
      clear a2 a3 b1 b2
      go_wp2_with fail
      go_round
      case rel => exact ⟨j + 1, A / 2, by omega, rfl, by go_num, B2.out⟩
      case measure => simp [intOf]; omega
    · obtain rfl : j = z := by omega
      obtain rfl : A = M := a3 rfl
      have oo := G.out.odd
      have qe : ((A : Int) % 2 == 0) = false := by simp; omega
      clear a2 a3 HA oo hjz
      rw [eE]
      have bE1 : -1074 ≤ E := by omega
      have bE2 : E ≤ 1100 := by omega
      clear eE
      go_wp2_with fail
      go_loop [7, 8] (fun v i => ∃ n V : Nat, v = .int .i64 V ∧ i = .int .i64 n ∧ V = A * 2 ^ n ∧ ((n : Int) ≤ E ∨ n = 0) ∧ V < 18014398509481984) (fun _ i => 54 - (intOf i).toNat)
      case atStart => exact ⟨0, A, rfl, rfl, by simp, .inr rfl, by omega⟩
      case round =>
        obtain ⟨n, V, rfl, rfl, hV, hn, hV54⟩ := hrel
        have n54 := pow_small a0 hV hV54
        have HV := Lib.hid hV
        have HN := Lib.hid hn
        clear hV hn
        by_cases hnE : (n : Int) < E
        · have q1 : decide ((n : Int) < E) = true := decide_eq_true hnE
          by_cases hV53 : V < 9007199254740992
          · have q2 : decide ((V : Int) < 9007199254740992) = true := decide_eq_true (by omega)
            have HP := Lib.hid (pow_step HV.out)
            go_wp2_with fail
            go_round
            case rel => exact ⟨n + 1, V * 2, by go_num, by go_num, HP.out, .inl (by omega), by omega⟩
            case measure => simp [intOf]; omega
          · have q2 : decide ((V : Int) < 9007199254740992) = false := decide_eq_false (by omega)
            have qE : decide ((0 : Int) ≤ E) = true := decide_eq_true (by omega)
            go_wp2_with fail
            refine (DM.out _).mono ?_
            rintro e w1 ⟨rfl, hb1⟩
            replace HB := HB.trans hb1
            clear hb1
            go_wp2_with fail
            refine (DE.out _).mono ?_
            rintro e w1 ⟨rfl, hb1⟩
            replace HB := HB.trans hb1
            clear hb1
            go_wp2_with fail
            go_ret
            exact ⟨rfl, HB⟩
        · have q1 : decide ((n : Int) < E) = false := decide_eq_false hnE
          by_cases hE0 : 0 ≤ E
          · have hnE2 : (n : Int) = E := by rcases HN.out with h | h <;> omega
            have e := pow_at HV.out hnE2
            have q2 : decide ((V : Int) < 9007199254740992) = false := decide_eq_false (by rcases HP0.out with h | h <;> omega)
            have qE : decide ((0 : Int) ≤ E) = true := decide_eq_true hE0
            clear e hnE2
            go_wp2_with fail
            refine (DM.out _).mono ?_
            rintro e w1 ⟨rfl, hb1⟩
            replace HB := HB.trans hb1
            clear hb1
            go_wp2_with fail
            refine (DE.out _).mono ?_
            rintro e w1 ⟨rfl, hb1⟩
            replace HB := HB.trans hb1
            clear hb1
            go_wp2_with fail
            go_ret
            exact ⟨rfl, HB⟩
          · have qE : decide ((0 : Int) ≤ E) = false := decide_eq_false hE0
            go_wp2_with fail
            refine (DM.out _).mono ?_
            rintro e w1 ⟨rfl, hb1⟩
            replace HB := HB.trans hb1
            clear hb1
            go_wp2_with fail
            refine (DE.out _).mono ?_
            rintro e w1 ⟨rfl, hb1⟩
            replace HB := HB.trans hb1
            clear hb1
            go_wp2_with fail
            go_ret
            exact ⟨rfl, HB⟩

set_option maxHeartbeats 1600000 in
set_option maxRecDepth 100000 in
theorem reftext_whole_pos (x R F Q M z A0 B : Nat) (E : Int) (w : World) (N : Hid (∀ w, Calls Tryd.prog 82 #[.float .f64 x] w fun e w' => e = .returned (.bool false) ∧ w = w')) (o1 : (FloatKind.f64.format.order x 9218868437227405311 == some .gt) = false) (o2 : (FloatKind.f64.format.order x 18442240474082181119 == some .lt) = false) (hx : x < 9223372036854775808) (ex : x = R) (eF : (R : Int) % 4503599627370496 = (F : Int)) (hF : F < 4503599627370496) (eQ : (R : Int) / 4503599627370496 = (Q : Int)) (hQ : 0 < Q) (hQ2 : Q ≤ 2046) (HA0 : Hid (A0 = M * 2 ^ (z - 0))) (G : Hid (OddOf M z B 0)) (eA : F + 4503599627370496 = A0) (eE : ((Q : Int) - 1075) + (z : Int) = E) (HW : Hid (0 ≤ E ∧ M * 2 ^ E.toNat < 9007199254740992)) (s1 : ByteArray) (z1 : s1.size ≤ 20) (DV : Hid (∀ w, Calls Tryd.prog 99 #[.int .i64 ((M * 2 ^ E.toNat : Nat) : Int)] w fun e w' => e = .returned (.string s1) ∧ Bl w w')) :
    Calls Tryd.prog 54 #[.float .f64 x] w fun e w' => e = .returned (.string s1) ∧ Bl w w' := by
  have hrb := run_bits x
  subst ex
  have qx : decide ((9223372036854775808 : Int) ≤ (x : Int)) = false := by simp; omega
  have qQ : ((Q : Int) == 0) = false := by simp; omega
  go_enter Tryd.func54, Tryd.ntmps54
  go_wp2_with fail
  refine (N.out _).mono ?_
  rintro e w1 ⟨rfl, rfl⟩
  go_upto_region 12 with fail
  try rw [eF]
  try rw [eQ]
  subst eA
  have HB := Bl.refl w
  go_wp2_with fail
  go_loop [5, 6] (fun m e => ∃ j A : Nat, j ≤ z ∧ m = .int .i64 A ∧ e = .int .i64 (((Q : Int) - 1075) + (j : Int)) ∧ A = M * 2 ^ (z - j)) (fun _ e => z - (intOf e - ((Q : Int) - 1075)).toNat)
  case atStart => exact ⟨0, F + 4503599627370496, Nat.zero_le _, by go_num, by go_num, HA0.out⟩
  case round =>
    obtain ⟨j, A, hj, rfl, rfl, hA⟩ := hrel
    obtain ⟨a0, a1, a2, a3⟩ := G.out.step hj hA
    have HA := Lib.hid hA
    clear hA
    have zz := G.out.z52
    by_cases hjz : j < z
    · obtain ⟨b1, b2⟩ := a2 hjz
      have B2 := Lib.hid b2
      have qe : ((A : Int) % 2 == 0) = true := by simp; omega
      clear a2 a3 b1 b2
      go_wp2_with fail
      go_round
      case rel => exact ⟨j + 1, A / 2, by omega, rfl, by go_num, B2.out⟩
      case measure => simp [intOf]; omega
    · obtain rfl : j = z := by omega
      obtain rfl : A = M := a3 rfl
      have oo := G.out.odd
      have qe : ((A : Int) % 2 == 0) = false := by simp; omega
      clear a2 a3 HA oo hjz
      rw [eE]
      have bE1 : -1074 ≤ E := by omega
      have bE2 : E ≤ 1100 := by omega
      clear eE
      go_wp2_with fail
      go_loop [7, 8] (fun v i => ∃ n V : Nat, v = .int .i64 V ∧ i = .int .i64 n ∧ V = A * 2 ^ n ∧ ((n : Int) ≤ E ∨ n = 0) ∧ V < 18014398509481984) (fun _ i => 54 - (intOf i).toNat)
      case atStart => exact ⟨0, A, rfl, rfl, by simp, .inr rfl, by omega⟩
      case round =>
        obtain ⟨n, V, rfl, rfl, hV, hn, hV54⟩ := hrel
        have n54 := pow_small a0 hV hV54
        have HV := Lib.hid hV
        have HN := Lib.hid hn
        clear hV hn
        by_cases hnE : (n : Int) < E
        · have q1 : decide ((n : Int) < E) = true := decide_eq_true hnE
          by_cases hV53 : V < 9007199254740992
          · have q2 : decide ((V : Int) < 9007199254740992) = true := decide_eq_true (by omega)
            have HP := Lib.hid (pow_step HV.out)
            go_wp2_with fail
            go_round
            case rel => exact ⟨n + 1, V * 2, by go_num, by go_num, HP.out, .inl (by omega), by omega⟩
            case measure => simp [intOf]; omega
          · have q2 : decide ((V : Int) < 9007199254740992) = false := decide_eq_false (by omega)
            exact absurd (pow_up HV.out (Int.le_of_lt hnE)) (by have := HW.out.2; omega)
        · have q1 : decide ((n : Int) < E) = false := decide_eq_false hnE
          have hE0 := HW.out.1
          have hnE2 : (n : Int) = E := by rcases HN.out with h | h <;> omega
          have e := pow_at HV.out hnE2
          have q2 : decide ((V : Int) < 9007199254740992) = true := decide_eq_true (by have := HW.out.2; omega)
          have qE : decide ((0 : Int) ≤ E) = true := decide_eq_true hE0
          rw [← e] at DV
          clear e hnE2
          go_wp2_with fail
          refine (DV.out _).mono ?_
          rintro e w1 ⟨rfl, hb1⟩
          replace HB := HB.trans hb1
          clear hb1
          go_wp2_with fail
          go_ret
          exact ⟨rfl, HB⟩

set_option maxHeartbeats 1600000 in
set_option maxRecDepth 100000 in
theorem reftext_part_pos_norm (x R F Q M z A0 B : Nat) (E : Int) (w : World) (N : Hid (∀ w, Calls Tryd.prog 82 #[.float .f64 x] w fun e w' => e = .returned (.bool false) ∧ w = w')) (o1 : (FloatKind.f64.format.order x 9218868437227405311 == some .gt) = false) (o2 : (FloatKind.f64.format.order x 18442240474082181119 == some .lt) = false) (hx : x < 9223372036854775808) (ex : x = R) (eF : (R : Int) % 4503599627370496 = (F : Int)) (hF : F < 4503599627370496) (eQ : (R : Int) / 4503599627370496 = (Q : Int)) (hQ : 0 < Q) (hQ2 : Q ≤ 2046) (HA0 : Hid (A0 = M * 2 ^ (z - 0))) (G : Hid (OddOf M z B 0)) (eA : F + 4503599627370496 = A0) (eE : ((Q : Int) - 1075) + (z : Int) = E) (HP0 : Hid (E < 0 ∨ 9007199254740992 ≤ M * 2 ^ E.toNat)) (s1 s2 : ByteArray) (z1 : s1.size ≤ 20) (z2 : s2.size ≤ 20) (DM : Hid (∀ w, Calls Tryd.prog 99 #[.int .i64 (M : Int)] w fun e w' => e = .returned (.string s1) ∧ Bl w w')) (DE : Hid (∀ w, Calls Tryd.prog 99 #[.int .i64 E] w fun e w' => e = .returned (.string s2) ∧ Bl w w')) :
    Calls Tryd.prog 54 #[.float .f64 x] w fun e w' => e = .returned (.string (s1 ++ ⟨#[112]⟩ ++ s2)) ∧ Bl w w' := by
  have hrb := run_bits x
  subst ex
  have qx : decide ((9223372036854775808 : Int) ≤ (x : Int)) = false := by simp; omega
  have qQ : ((Q : Int) == 0) = false := by simp; omega
  go_enter Tryd.func54, Tryd.ntmps54
  go_wp2_with fail
  refine (N.out _).mono ?_
  rintro e w1 ⟨rfl, rfl⟩
  go_upto_region 12 with fail
  try rw [eF]
  try rw [eQ]
  subst eA
  have HB := Bl.refl w
  go_wp2_with fail
  go_loop [5, 6] (fun m e => ∃ j A : Nat, j ≤ z ∧ m = .int .i64 A ∧ e = .int .i64 (((Q : Int) - 1075) + (j : Int)) ∧ A = M * 2 ^ (z - j)) (fun _ e => z - (intOf e - ((Q : Int) - 1075)).toNat)
  case atStart => exact ⟨0, F + 4503599627370496, Nat.zero_le _, by go_num, by go_num, HA0.out⟩
  case round =>
    obtain ⟨j, A, hj, rfl, rfl, hA⟩ := hrel
    obtain ⟨a0, a1, a2, a3⟩ := G.out.step hj hA
    have HA := Lib.hid hA
    clear hA
    have zz := G.out.z52
    by_cases hjz : j < z
    · obtain ⟨b1, b2⟩ := a2 hjz
      have B2 := Lib.hid b2
      have qe : ((A : Int) % 2 == 0) = true := by simp; omega
      clear a2 a3 b1 b2
      go_wp2_with fail
      go_round
      case rel => exact ⟨j + 1, A / 2, by omega, rfl, by go_num, B2.out⟩
      case measure => simp [intOf]; omega
    · obtain rfl : j = z := by omega
      obtain rfl : A = M := a3 rfl
      have oo := G.out.odd
      have qe : ((A : Int) % 2 == 0) = false := by simp; omega
      clear a2 a3 HA oo hjz
      rw [eE]
      have bE1 : -1074 ≤ E := by omega
      have bE2 : E ≤ 1100 := by omega
      clear eE
      go_wp2_with fail
      go_loop [7, 8] (fun v i => ∃ n V : Nat, v = .int .i64 V ∧ i = .int .i64 n ∧ V = A * 2 ^ n ∧ ((n : Int) ≤ E ∨ n = 0) ∧ V < 18014398509481984) (fun _ i => 54 - (intOf i).toNat)
      case atStart => exact ⟨0, A, rfl, rfl, by simp, .inr rfl, by omega⟩
      case round =>
        obtain ⟨n, V, rfl, rfl, hV, hn, hV54⟩ := hrel
        have n54 := pow_small a0 hV hV54
        have HV := Lib.hid hV
        have HN := Lib.hid hn
        clear hV hn
        by_cases hnE : (n : Int) < E
        · have q1 : decide ((n : Int) < E) = true := decide_eq_true hnE
          by_cases hV53 : V < 9007199254740992
          · have q2 : decide ((V : Int) < 9007199254740992) = true := decide_eq_true (by omega)
            have HP := Lib.hid (pow_step HV.out)
            go_wp2_with fail
            go_round
            case rel => exact ⟨n + 1, V * 2, by go_num, by go_num, HP.out, .inl (by omega), by omega⟩
            case measure => simp [intOf]; omega
          · have q2 : decide ((V : Int) < 9007199254740992) = false := decide_eq_false (by omega)
            have qE : decide ((0 : Int) ≤ E) = true := decide_eq_true (by omega)
            go_wp2_with fail
            refine (DM.out _).mono ?_
            rintro e w1 ⟨rfl, hb1⟩
            replace HB := HB.trans hb1
            clear hb1
            go_wp2_with fail
            refine (DE.out _).mono ?_
            rintro e w1 ⟨rfl, hb1⟩
            replace HB := HB.trans hb1
            clear hb1
            go_wp2_with fail
            go_ret
            exact ⟨rfl, HB⟩
        · have q1 : decide ((n : Int) < E) = false := decide_eq_false hnE
          by_cases hE0 : 0 ≤ E
          · have hnE2 : (n : Int) = E := by rcases HN.out with h | h <;> omega
            have e := pow_at HV.out hnE2
            have q2 : decide ((V : Int) < 9007199254740992) = false := decide_eq_false (by rcases HP0.out with h | h <;> omega)
            have qE : decide ((0 : Int) ≤ E) = true := decide_eq_true hE0
            clear e hnE2
            go_wp2_with fail
            refine (DM.out _).mono ?_
            rintro e w1 ⟨rfl, hb1⟩
            replace HB := HB.trans hb1
            clear hb1
            go_wp2_with fail
            refine (DE.out _).mono ?_
            rintro e w1 ⟨rfl, hb1⟩
            replace HB := HB.trans hb1
            clear hb1
            go_wp2_with fail
            go_ret
            exact ⟨rfl, HB⟩
          · have qE : decide ((0 : Int) ≤ E) = false := decide_eq_false hE0
            go_wp2_with fail
            refine (DM.out _).mono ?_
            rintro e w1 ⟨rfl, hb1⟩
            replace HB := HB.trans hb1
            clear hb1
            go_wp2_with fail
            refine (DE.out _).mono ?_
            rintro e w1 ⟨rfl, hb1⟩
            replace HB := HB.trans hb1
            clear hb1
            go_wp2_with fail
            go_ret
            exact ⟨rfl, HB⟩

set_option maxHeartbeats 1600000 in
set_option maxRecDepth 100000 in
theorem reftext_zero_neg (x R : Nat) (w : World) (N : Hid (∀ w, Calls Tryd.prog 82 #[.float .f64 x] w fun e w' => e = .returned (.bool false) ∧ w = w')) (o1 : (FloatKind.f64.format.order x 9218868437227405311 == some .gt) = false) (o2 : (FloatKind.f64.format.order x 18442240474082181119 == some .lt) = false) (hx : 9223372036854775808 ≤ x) (hx2 : x < 18446744073709551616) (ex : (x : Int) - 9223372036854775808 = (R : Int)) (eF : (R : Int) % 4503599627370496 = 0) (eQ : (R : Int) / 4503599627370496 = 0) :
    Calls Tryd.prog 54 #[.float .f64 x] w fun e w' => ∃ s : ByteArray, e = .returned (.string s) ∧ SB s [45, 48] ∧ Bl w w' := by
  have hrb := run_bits x
  have qx : decide ((9223372036854775808 : Int) ≤ (x : Int)) = true := by simp; omega
  go_enter Tryd.func54, Tryd.ntmps54
  go_wp2_with fail
  refine (N.out _).mono ?_
  rintro e w1 ⟨rfl, rfl⟩
  go_upto_region 12 with fail
  try rw [eF]
  try rw [eQ]
  go_wp2_with fail
  go_ret
  exact ⟨_, rfl, rfl, Bl.refl _⟩

set_option maxHeartbeats 1600000 in
set_option maxRecDepth 100000 in
theorem reftext_part_neg_sub (x R F Q M z A0 B : Nat) (E : Int) (w : World) (N : Hid (∀ w, Calls Tryd.prog 82 #[.float .f64 x] w fun e w' => e = .returned (.bool false) ∧ w = w')) (o1 : (FloatKind.f64.format.order x 9218868437227405311 == some .gt) = false) (o2 : (FloatKind.f64.format.order x 18442240474082181119 == some .lt) = false) (hx : 9223372036854775808 ≤ x) (hx2 : x < 18446744073709551616) (ex : (x : Int) - 9223372036854775808 = (R : Int)) (eF : (R : Int) % 4503599627370496 = (F : Int)) (hF : F < 4503599627370496) (eQ : (R : Int) / 4503599627370496 = 0) (HA0 : Hid (A0 = M * 2 ^ (z - 0))) (G : Hid (OddOf M z B 0)) (eA : F = A0) (eE : -1074 + (z : Int) = E) (HP0 : Hid (E < 0 ∨ 9007199254740992 ≤ M * 2 ^ E.toNat)) (s1 s2 : ByteArray) (z1 : s1.size ≤ 20) (z2 : s2.size ≤ 20) (DM : Hid (∀ w, Calls Tryd.prog 99 #[.int .i64 (M : Int)] w fun e w' => e = .returned (.string s1) ∧ Bl w w')) (DE : Hid (∀ w, Calls Tryd.prog 99 #[.int .i64 E] w fun e w' => e = .returned (.string s2) ∧ Bl w w')) :
    Calls Tryd.prog 54 #[.float .f64 x] w fun e w' => e = .returned (.string (⟨#[45]⟩ ++ s1 ++ ⟨#[112]⟩ ++ s2)) ∧ Bl w w' := by
  have hrb := run_bits x
  have qx : decide ((9223372036854775808 : Int) ≤ (x : Int)) = true := by simp; omega
  go_enter Tryd.func54, Tryd.ntmps54
  go_wp2_with fail
  refine (N.out _).mono ?_
  rintro e w1 ⟨rfl, rfl⟩
  go_upto_region 12 with fail
  try rw [eF]
  try rw [eQ]
  obtain ⟨a00, _, _, _⟩ := G.out.step (Nat.zero_le _) HA0.out
  subst eA
  have qF : ((F : Int) == 0) = false := by simp; omega
  have HB := Bl.refl w
  go_wp2_with fail
  go_loop [5, 6] (fun m e => ∃ j A : Nat, j ≤ z ∧ m = .int .i64 A ∧ e = .int .i64 (-1074 + (j : Int)) ∧ A = M * 2 ^ (z - j)) (fun _ e => z - (intOf e - -1074).toNat)
  case atStart => exact ⟨0, F, Nat.zero_le _, by go_num, by go_num, HA0.out⟩
  case round =>
    obtain ⟨j, A, hj, rfl, rfl, hA⟩ := hrel
    obtain ⟨a0, a1, a2, a3⟩ := G.out.step hj hA
    have HA := Lib.hid hA
    clear hA
    have zz := G.out.z52
    by_cases hjz : j < z
    · obtain ⟨b1, b2⟩ := a2 hjz
      have B2 := Lib.hid b2
      have qe : ((A : Int) % 2 == 0) = true := by simp; omega
      clear a2 a3 b1 b2
      go_wp2_with fail
      go_round
      case rel => exact ⟨j + 1, A / 2, by omega, rfl, by go_num, B2.out⟩
      case measure => simp [intOf]; omega
    · obtain rfl : j = z := by omega
      obtain rfl : A = M := a3 rfl
      have oo := G.out.odd
      have qe : ((A : Int) % 2 == 0) = false := by simp; omega
      clear a2 a3 HA oo hjz
      rw [eE]
      have bE1 : -1074 ≤ E := by omega
      have bE2 : E ≤ 1100 := by omega
      clear eE
      go_wp2_with fail
      go_loop [7, 8] (fun v i => ∃ n V : Nat, v = .int .i64 V ∧ i = .int .i64 n ∧ V = A * 2 ^ n ∧ ((n : Int) ≤ E ∨ n = 0) ∧ V < 18014398509481984) (fun _ i => 54 - (intOf i).toNat)
      case atStart => exact ⟨0, A, rfl, rfl, by simp, .inr rfl, by omega⟩
      case round =>
        obtain ⟨n, V, rfl, rfl, hV, hn, hV54⟩ := hrel
        have n54 := pow_small a0 hV hV54
        have HV := Lib.hid hV
        have HN := Lib.hid hn
        clear hV hn
        by_cases hnE : (n : Int) < E
        · have q1 : decide ((n : Int) < E) = true := decide_eq_true hnE
          by_cases hV53 : V < 9007199254740992
          · have q2 : decide ((V : Int) < 9007199254740992) = true := decide_eq_true (by omega)
            have HP := Lib.hid (pow_step HV.out)
            go_wp2_with fail
            go_round
            case rel => exact ⟨n + 1, V * 2, by go_num, by go_num, HP.out, .inl (by omega), by omega⟩
            case measure => simp [intOf]; omega
          · have q2 : decide ((V : Int) < 9007199254740992) = false := decide_eq_false (by omega)
            have qE : decide ((0 : Int) ≤ E) = true := decide_eq_true (by omega)
            go_wp2_with fail
            refine (DM.out _).mono ?_
            rintro e w1 ⟨rfl, hb1⟩
            replace HB := HB.trans hb1
            clear hb1
            go_wp2_with fail
            refine (DE.out _).mono ?_
            rintro e w1 ⟨rfl, hb1⟩
            replace HB := HB.trans hb1
            clear hb1
            go_wp2_with fail
            go_ret
            exact ⟨rfl, HB⟩
        · have q1 : decide ((n : Int) < E) = false := decide_eq_false hnE
          by_cases hE0 : 0 ≤ E
          · have hnE2 : (n : Int) = E := by rcases HN.out with h | h <;> omega
            have e := pow_at HV.out hnE2
            have q2 : decide ((V : Int) < 9007199254740992) = false := decide_eq_false (by rcases HP0.out with h | h <;> omega)
            have qE : decide ((0 : Int) ≤ E) = true := decide_eq_true hE0
            clear e hnE2
            go_wp2_with fail
            refine (DM.out _).mono ?_
            rintro e w1 ⟨rfl, hb1⟩
            replace HB := HB.trans hb1
            clear hb1
            go_wp2_with fail
            refine (DE.out _).mono ?_
            rintro e w1 ⟨rfl, hb1⟩
            replace HB := HB.trans hb1
            clear hb1
            go_wp2_with fail
            go_ret
            exact ⟨rfl, HB⟩
          · have qE : decide ((0 : Int) ≤ E) = false := decide_eq_false hE0
            go_wp2_with fail
            refine (DM.out _).mono ?_
            rintro e w1 ⟨rfl, hb1⟩
            replace HB := HB.trans hb1
            clear hb1
            go_wp2_with fail
            refine (DE.out _).mono ?_
            rintro e w1 ⟨rfl, hb1⟩
            replace HB := HB.trans hb1
            clear hb1
            go_wp2_with fail
            go_ret
            exact ⟨rfl, HB⟩

set_option maxHeartbeats 1600000 in
set_option maxRecDepth 100000 in
theorem reftext_whole_neg (x R F Q M z A0 B : Nat) (E : Int) (w : World) (N : Hid (∀ w, Calls Tryd.prog 82 #[.float .f64 x] w fun e w' => e = .returned (.bool false) ∧ w = w')) (o1 : (FloatKind.f64.format.order x 9218868437227405311 == some .gt) = false) (o2 : (FloatKind.f64.format.order x 18442240474082181119 == some .lt) = false) (hx : 9223372036854775808 ≤ x) (hx2 : x < 18446744073709551616) (ex : (x : Int) - 9223372036854775808 = (R : Int)) (eF : (R : Int) % 4503599627370496 = (F : Int)) (hF : F < 4503599627370496) (eQ : (R : Int) / 4503599627370496 = (Q : Int)) (hQ : 0 < Q) (hQ2 : Q ≤ 2046) (HA0 : Hid (A0 = M * 2 ^ (z - 0))) (G : Hid (OddOf M z B 0)) (eA : F + 4503599627370496 = A0) (eE : ((Q : Int) - 1075) + (z : Int) = E) (HW : Hid (0 ≤ E ∧ M * 2 ^ E.toNat < 9007199254740992)) (s1 : ByteArray) (z1 : s1.size ≤ 20) (DV : Hid (∀ w, Calls Tryd.prog 99 #[.int .i64 ((M * 2 ^ E.toNat : Nat) : Int)] w fun e w' => e = .returned (.string s1) ∧ Bl w w')) :
    Calls Tryd.prog 54 #[.float .f64 x] w fun e w' => e = .returned (.string (⟨#[45]⟩ ++ s1)) ∧ Bl w w' := by
  have hrb := run_bits x
  have qx : decide ((9223372036854775808 : Int) ≤ (x : Int)) = true := by simp; omega
  have qQ : ((Q : Int) == 0) = false := by simp; omega
  go_enter Tryd.func54, Tryd.ntmps54
  go_wp2_with fail
  refine (N.out _).mono ?_
  rintro e w1 ⟨rfl, rfl⟩
  go_upto_region 12 with fail
  try rw [eF]
  try rw [eQ]
  subst eA
  have HB := Bl.refl w
  go_wp2_with fail
  go_loop [5, 6] (fun m e => ∃ j A : Nat, j ≤ z ∧ m = .int .i64 A ∧ e = .int .i64 (((Q : Int) - 1075) + (j : Int)) ∧ A = M * 2 ^ (z - j)) (fun _ e => z - (intOf e - ((Q : Int) - 1075)).toNat)
  case atStart => exact ⟨0, F + 4503599627370496, Nat.zero_le _, by go_num, by go_num, HA0.out⟩
  case round =>
    obtain ⟨j, A, hj, rfl, rfl, hA⟩ := hrel
    obtain ⟨a0, a1, a2, a3⟩ := G.out.step hj hA
    have HA := Lib.hid hA
    clear hA
    have zz := G.out.z52
    by_cases hjz : j < z
    · obtain ⟨b1, b2⟩ := a2 hjz
      have B2 := Lib.hid b2
      have qe : ((A : Int) % 2 == 0) = true := by simp; omega
      clear a2 a3 b1 b2
      go_wp2_with fail
      go_round
      case rel => exact ⟨j + 1, A / 2, by omega, rfl, by go_num, B2.out⟩
      case measure => simp [intOf]; omega
    · obtain rfl : j = z := by omega
      obtain rfl : A = M := a3 rfl
      have oo := G.out.odd
      have qe : ((A : Int) % 2 == 0) = false := by simp; omega
      clear a2 a3 HA oo hjz
      rw [eE]
      have bE1 : -1074 ≤ E := by omega
      have bE2 : E ≤ 1100 := by omega
      clear eE
      go_wp2_with fail
      go_loop [7, 8] (fun v i => ∃ n V : Nat, v = .int .i64 V ∧ i = .int .i64 n ∧ V = A * 2 ^ n ∧ ((n : Int) ≤ E ∨ n = 0) ∧ V < 18014398509481984) (fun _ i => 54 - (intOf i).toNat)
      case atStart => exact ⟨0, A, rfl, rfl, by simp, .inr rfl, by omega⟩
      case round =>
        obtain ⟨n, V, rfl, rfl, hV, hn, hV54⟩ := hrel
        have n54 := pow_small a0 hV hV54
        have HV := Lib.hid hV
        have HN := Lib.hid hn
        clear hV hn
        by_cases hnE : (n : Int) < E
        · have q1 : decide ((n : Int) < E) = true := decide_eq_true hnE
          by_cases hV53 : V < 9007199254740992
          · have q2 : decide ((V : Int) < 9007199254740992) = true := decide_eq_true (by omega)
            have HP := Lib.hid (pow_step HV.out)
            go_wp2_with fail
            go_round
            case rel => exact ⟨n + 1, V * 2, by go_num, by go_num, HP.out, .inl (by omega), by omega⟩
            case measure => simp [intOf]; omega
          · have q2 : decide ((V : Int) < 9007199254740992) = false := decide_eq_false (by omega)
            exact absurd (pow_up HV.out (Int.le_of_lt hnE)) (by have := HW.out.2; omega)
        · have q1 : decide ((n : Int) < E) = false := decide_eq_false hnE
          have hE0 := HW.out.1
          have hnE2 : (n : Int) = E := by rcases HN.out with h | h <;> omega
          have e := pow_at HV.out hnE2
          have q2 : decide ((V : Int) < 9007199254740992) = true := decide_eq_true (by have := HW.out.2; omega)
          have qE : decide ((0 : Int) ≤ E) = true := decide_eq_true hE0
          rw [← e] at DV
          clear e hnE2
          go_wp2_with fail
          refine (DV.out _).mono ?_
          rintro e w1 ⟨rfl, hb1⟩
          replace HB := HB.trans hb1
          clear hb1
          go_wp2_with fail
          go_ret
          exact ⟨rfl, HB⟩

set_option maxHeartbeats 1600000 in
set_option maxRecDepth 100000 in
theorem reftext_part_neg_norm (x R F Q M z A0 B : Nat) (E : Int) (w : World) (N : Hid (∀ w, Calls Tryd.prog 82 #[.float .f64 x] w fun e w' => e = .returned (.bool false) ∧ w = w')) (o1 : (FloatKind.f64.format.order x 9218868437227405311 == some .gt) = false) (o2 : (FloatKind.f64.format.order x 18442240474082181119 == some .lt) = false) (hx : 9223372036854775808 ≤ x) (hx2 : x < 18446744073709551616) (ex : (x : Int) - 9223372036854775808 = (R : Int)) (eF : (R : Int) % 4503599627370496 = (F : Int)) (hF : F < 4503599627370496) (eQ : (R : Int) / 4503599627370496 = (Q : Int)) (hQ : 0 < Q) (hQ2 : Q ≤ 2046) (HA0 : Hid (A0 = M * 2 ^ (z - 0))) (G : Hid (OddOf M z B 0)) (eA : F + 4503599627370496 = A0) (eE : ((Q : Int) - 1075) + (z : Int) = E) (HP0 : Hid (E < 0 ∨ 9007199254740992 ≤ M * 2 ^ E.toNat)) (s1 s2 : ByteArray) (z1 : s1.size ≤ 20) (z2 : s2.size ≤ 20) (DM : Hid (∀ w, Calls Tryd.prog 99 #[.int .i64 (M : Int)] w fun e w' => e = .returned (.string s1) ∧ Bl w w')) (DE : Hid (∀ w, Calls Tryd.prog 99 #[.int .i64 E] w fun e w' => e = .returned (.string s2) ∧ Bl w w')) :
    Calls Tryd.prog 54 #[.float .f64 x] w fun e w' => e = .returned (.string (⟨#[45]⟩ ++ s1 ++ ⟨#[112]⟩ ++ s2)) ∧ Bl w w' := by
  have hrb := run_bits x
  have qx : decide ((9223372036854775808 : Int) ≤ (x : Int)) = true := by simp; omega
  have qQ : ((Q : Int) == 0) = false := by simp; omega
  go_enter Tryd.func54, Tryd.ntmps54
  go_wp2_with fail
  refine (N.out _).mono ?_
  rintro e w1 ⟨rfl, rfl⟩
  go_upto_region 12 with fail
  try rw [eF]
  try rw [eQ]
  subst eA
  have HB := Bl.refl w
  go_wp2_with fail
  go_loop [5, 6] (fun m e => ∃ j A : Nat, j ≤ z ∧ m = .int .i64 A ∧ e = .int .i64 (((Q : Int) - 1075) + (j : Int)) ∧ A = M * 2 ^ (z - j)) (fun _ e => z - (intOf e - ((Q : Int) - 1075)).toNat)
  case atStart => exact ⟨0, F + 4503599627370496, Nat.zero_le _, by go_num, by go_num, HA0.out⟩
  case round =>
    obtain ⟨j, A, hj, rfl, rfl, hA⟩ := hrel
    obtain ⟨a0, a1, a2, a3⟩ := G.out.step hj hA
    have HA := Lib.hid hA
    clear hA
    have zz := G.out.z52
    by_cases hjz : j < z
    · obtain ⟨b1, b2⟩ := a2 hjz
      have B2 := Lib.hid b2
      have qe : ((A : Int) % 2 == 0) = true := by simp; omega
      clear a2 a3 b1 b2
      go_wp2_with fail
      go_round
      case rel => exact ⟨j + 1, A / 2, by omega, rfl, by go_num, B2.out⟩
      case measure => simp [intOf]; omega
    · obtain rfl : j = z := by omega
      obtain rfl : A = M := a3 rfl
      have oo := G.out.odd
      have qe : ((A : Int) % 2 == 0) = false := by simp; omega
      clear a2 a3 HA oo hjz
      rw [eE]
      have bE1 : -1074 ≤ E := by omega
      have bE2 : E ≤ 1100 := by omega
      clear eE
      go_wp2_with fail
      go_loop [7, 8] (fun v i => ∃ n V : Nat, v = .int .i64 V ∧ i = .int .i64 n ∧ V = A * 2 ^ n ∧ ((n : Int) ≤ E ∨ n = 0) ∧ V < 18014398509481984) (fun _ i => 54 - (intOf i).toNat)
      case atStart => exact ⟨0, A, rfl, rfl, by simp, .inr rfl, by omega⟩
      case round =>
        obtain ⟨n, V, rfl, rfl, hV, hn, hV54⟩ := hrel
        have n54 := pow_small a0 hV hV54
        have HV := Lib.hid hV
        have HN := Lib.hid hn
        clear hV hn
        by_cases hnE : (n : Int) < E
        · have q1 : decide ((n : Int) < E) = true := decide_eq_true hnE
          by_cases hV53 : V < 9007199254740992
          · have q2 : decide ((V : Int) < 9007199254740992) = true := decide_eq_true (by omega)
            have HP := Lib.hid (pow_step HV.out)
            go_wp2_with fail
            go_round
            case rel => exact ⟨n + 1, V * 2, by go_num, by go_num, HP.out, .inl (by omega), by omega⟩
            case measure => simp [intOf]; omega
          · have q2 : decide ((V : Int) < 9007199254740992) = false := decide_eq_false (by omega)
            have qE : decide ((0 : Int) ≤ E) = true := decide_eq_true (by omega)
            go_wp2_with fail
            refine (DM.out _).mono ?_
            rintro e w1 ⟨rfl, hb1⟩
            replace HB := HB.trans hb1
            clear hb1
            go_wp2_with fail
            refine (DE.out _).mono ?_
            rintro e w1 ⟨rfl, hb1⟩
            replace HB := HB.trans hb1
            clear hb1
            go_wp2_with fail
            go_ret
            exact ⟨rfl, HB⟩
        · have q1 : decide ((n : Int) < E) = false := decide_eq_false hnE
          by_cases hE0 : 0 ≤ E
          · have hnE2 : (n : Int) = E := by rcases HN.out with h | h <;> omega
            have e := pow_at HV.out hnE2
            have q2 : decide ((V : Int) < 9007199254740992) = false := decide_eq_false (by rcases HP0.out with h | h <;> omega)
            have qE : decide ((0 : Int) ≤ E) = true := decide_eq_true hE0
            clear e hnE2
            go_wp2_with fail
            refine (DM.out _).mono ?_
            rintro e w1 ⟨rfl, hb1⟩
            replace HB := HB.trans hb1
            clear hb1
            go_wp2_with fail
            refine (DE.out _).mono ?_
            rintro e w1 ⟨rfl, hb1⟩
            replace HB := HB.trans hb1
            clear hb1
            go_wp2_with fail
            go_ret
            exact ⟨rfl, HB⟩
          · have qE : decide ((0 : Int) ≤ E) = false := decide_eq_false hE0
            go_wp2_with fail
            refine (DM.out _).mono ?_
            rintro e w1 ⟨rfl, hb1⟩
            replace HB := HB.trans hb1
            clear hb1
            go_wp2_with fail
            refine (DE.out _).mono ?_
            rintro e w1 ⟨rfl, hb1⟩
            replace HB := HB.trans hb1
            clear hb1
            go_wp2_with fail
            go_ret
            exact ⟨rfl, HB⟩

end Go.Proofs.YtgdlcoicejgdkaaDoor

namespace Go.Proofs.YtgdlcoicejgdkaaDoor
open Go.RowKit Ieee

theorem ord_max {x : Nat} (hx : x < two64) (hn : nanB x = false) : (FloatKind.f64.format.order x 9218868437227405311 == some .gt) = decide (x = infR) ∧ (FloatKind.f64.format.order x 18442240474082181119 == some .lt) = decide (x = infR + two63) := by
  have hi : x % two63 ≤ infR := by simpa [nanB] using hn
  have e1 : FloatKind.f64.format.order x 9218868437227405311 = some (compare (sval x) (sval 9218868437227405311)) := order_eq hx (by decide) hn (by decide)
  have e2 : FloatKind.f64.format.order x 18442240474082181119 = some (compare (sval x) (sval 18442240474082181119)) := order_eq hx (by decide) hn (by decide)
  have s1 : sval 9218868437227405311 = (uval 9218868437227405311 : Int) := by unfold sval; rw [if_neg (by decide), show 9218868437227405311 % two63 = 9218868437227405311 from by decide]
  have s2 : sval 18442240474082181119 = -(uval 9218868437227405311 : Int) := by unfold sval; rw [if_pos (by decide), show 18442240474082181119 % two63 = 9218868437227405311 from by decide]
  have hp : 0 < uval 9218868437227405311 := by
    have := uval_lt (show 0 < 9218868437227405311 by decide)
    rwa [show uval 0 = 0 from by decide] at this
  have hinf : infR = 9218868437227405311 + 1 := rfl
  have sx : sval x = if two63 ≤ x then -(uval (x % two63) : Int) else (uval (x % two63) : Int) := rfl
  have cmp : uval 9218868437227405311 < uval (x % two63) ↔ x % two63 = infR := by
    constructor
    · intro h
      by_cases k : x % two63 ≤ 9218868437227405311
      · have := uval_mono k; omega
      · omega
    · intro h
      exact uval_lt (by omega)
  have m1 : (x % two63 = infR ∧ ¬ two63 ≤ x) ↔ x = infR := by unfold infR two63 two64 at *; omega
  have m2 : (x % two63 = infR ∧ two63 ≤ x) ↔ x = infR + two63 := by unfold infR two63 two64 at *; omega
  rw [e1, e2, s1, s2, sx]
  constructor
  · by_cases k : x = infR
    · obtain ⟨k1, k2⟩ := m1.2 k
      rw [decide_eq_true k, if_neg k2, Int.compare_eq_gt.2 (by have := cmp.2 k1; omega)]; rfl
    · rw [decide_eq_false k, beq_eq_false_iff_ne]
      intro h
      have h2 := Int.compare_eq_gt.1 (Option.some.inj h)
      apply k
      rw [← m1]
      by_cases k2 : two63 ≤ x
      · rw [if_pos k2] at h2; omega
      · rw [if_neg k2] at h2; exact ⟨cmp.1 (by omega), k2⟩
  · by_cases k : x = infR + two63
    · obtain ⟨k1, k2⟩ := m2.2 k
      rw [decide_eq_true k, if_pos k2, Int.compare_eq_lt.2 (by have := cmp.2 k1; omega)]; rfl
    · rw [decide_eq_false k, beq_eq_false_iff_ne]
      intro h
      have h2 := Int.compare_eq_lt.1 (Option.some.inj h)
      apply k
      rw [← m2]
      by_cases k2 : two63 ≤ x
      · rw [if_pos k2] at h2; exact ⟨cmp.1 (by omega), k2⟩
      · rw [if_neg k2] at h2; omega

theorem reftext_nan (x : Nat) (w : World) (N : Hid (∀ w, Calls Tryd.prog 82 #[.float .f64 x] w fun e w' => e = .returned (.bool true) ∧ w = w')) :
    Calls Tryd.prog 54 #[.float .f64 x] w fun e w' => ∃ s : ByteArray, e = .returned (.string s) ∧ SB s [110, 97, 110] ∧ Bl w w' := by
  go_enter Tryd.func54, Tryd.ntmps54
  go_wp2_with fail
  refine (N.out _).mono ?_
  rintro e w1 ⟨rfl, rfl⟩
  go_wp2_with fail
  go_ret
  exact ⟨_, rfl, rfl, Bl.refl _⟩
theorem reftext_inf (x : Nat) (w : World) (N : Hid (∀ w, Calls Tryd.prog 82 #[.float .f64 x] w fun e w' => e = .returned (.bool false) ∧ w = w'))
    (o1 : (FloatKind.f64.format.order x 9218868437227405311 == some .gt) = true) :
    Calls Tryd.prog 54 #[.float .f64 x] w fun e w' => ∃ s : ByteArray, e = .returned (.string s) ∧ SB s [105, 110, 102] ∧ Bl w w' := by
  go_enter Tryd.func54, Tryd.ntmps54
  go_wp2_with fail
  refine (N.out _).mono ?_
  rintro e w1 ⟨rfl, rfl⟩
  go_wp2_with fail
  go_ret
  exact ⟨_, rfl, rfl, Bl.refl _⟩
theorem reftext_minf (x : Nat) (w : World) (N : Hid (∀ w, Calls Tryd.prog 82 #[.float .f64 x] w fun e w' => e = .returned (.bool false) ∧ w = w'))
    (o1 : (FloatKind.f64.format.order x 9218868437227405311 == some .gt) = false) (o2 : (FloatKind.f64.format.order x 18442240474082181119 == some .lt) = true) :
    Calls Tryd.prog 54 #[.float .f64 x] w fun e w' => ∃ s : ByteArray, e = .returned (.string s) ∧ SB s [45, 105, 110, 102] ∧ Bl w w' := by
  go_enter Tryd.func54, Tryd.ntmps54
  go_wp2_with fail
  refine (N.out _).mono ?_
  rintro e w1 ⟨rfl, rfl⟩
  go_wp2_with fail
  go_ret
  exact ⟨_, rfl, rfl, Bl.refl _⟩

theorem ref_digits (v : Int) (h0 : -9223372036854775808 ≤ v) (h1 : v ≤ 9223372036854775807) : ∃ s : ByteArray, s.size ≤ 20 ∧ SB s (bytesD v) ∧ ∀ w, Calls Tryd.prog 99 #[.int .i64 v] w fun e w' => e = .returned (.string s) ∧ Bl w w' :=
  ⟨_, dig_size v h0 h1, SB.dig v, fun w => refDigits_any v w h0 h1⟩
theorem sb_minus : SB ⟨#[45]⟩ [45] := rfl
theorem sb_p : SB ⟨#[112]⟩ [112] := rfl
theorem refText_fin (x R : Nat) (sg : Bool) (w : World) (hx : x < two64) (hn : nanB x = false) (hsg : if sg then (two63 ≤ x ∧ x = two63 + R) else (x < two63 ∧ x = R)) (hR0 : R ≠ 0) (hR : R < infR)
    (o1 : (FloatKind.f64.format.order x 9218868437227405311 == some .gt) = false) (o2 : (FloatKind.f64.format.order x 18442240474082181119 == some .lt) = false) :
    Calls Tryd.prog 54 #[.float .f64 x] w fun e w' => ∃ s : ByteArray, e = .returned (.string s) ∧ SB s ((if sg then [45] else []) ++ numL (oddM R) (oddE R)) ∧ Bl w w' := by
  have N := fun w => refNan_any x w hx
  rw [hn] at N
  have h53 : digS R < 9007199254740992 := by unfold digS two52; split <;> omega
  have hd0 : digS R ≠ 0 := by
    unfold digS; split
    · exact hR0
    · unfold two52; omega
  obtain ⟨M, z, hM, G, hM0, hM53⟩ := odd_of (e0 := 0) hd0 h53 (by omega)
  obtain ⟨k1, k2⟩ := odd_dig hR0 G.odd hM
  rw [k1, k2]
  have hz := G.z52
  have hF : R % 4503599627370496 < 4503599627370496 := Nat.mod_lt _ (by decide)
  have hA0 : digS R = M * 2 ^ (z - 0) := by rw [Nat.sub_zero]; exact hM
  obtain ⟨s1, z1, sb1, dM⟩ := ref_digits (M : Int) (by omega) (by omega)
  have pge := digP_ge R
  have ple : digP R ≤ 971 := by unfold digP two52; unfold infR at hR; split <;> omega
  obtain ⟨s2, z2, sb2, dE⟩ := ref_digits (digP R + (z : Int)) (by omega) (by omega)
  by_cases hw : wholeB M (digP R + (z : Int)) = true
  · have hE0 : 0 ≤ digP R + (z : Int) := by
      simp only [wholeB, Bool.and_eq_true, decide_eq_true_eq] at hw
      exact hw.1
    have hlt : M * 2 ^ (digP R + (z : Int)).toNat < 9007199254740992 := by
      rw [whole_iff hM0 hM53 hE0] at hw
      exact of_decide_eq_true hw
    have hq : ¬ R < 4503599627370496 := by
      intro h
      have : digP R = -1074 := by unfold digP two52; rw [if_pos h]
      omega
    have ep : digP R = ((R / 4503599627370496 : Nat) : Int) - 1075 := by unfold digP two52; rw [if_neg hq]
    have es : R % 4503599627370496 + 4503599627370496 = digS R := by unfold digS two52; rw [if_neg hq]; omega
    obtain ⟨s3, z3, sb3, dV⟩ := ref_digits ((M * 2 ^ (digP R + (z : Int)).toNat : Nat) : Int) (by omega) (by omega)
    have e0 : numL M (digP R + (z : Int)) = bytesD ((M * 2 ^ (digP R + (z : Int)).toNat : Nat) : Int) := by unfold numL; rw [if_pos hw]
    rw [e0]
    cases sg
    · obtain ⟨hs1, hs2⟩ := hsg
      refine (reftext_whole_pos x R (R % 4503599627370496) (R / 4503599627370496) M z (digS R) _ _ w (Lib.hid N) o1 o2 hs1 hs2 (by omega) hF (by omega) (by omega) (by unfold infR at hR; omega) (Lib.hid hA0) (Lib.hid G) es (by rw [← ep]) (Lib.hid ⟨hE0, hlt⟩) s3 z3 (Lib.hid dV)).mono ?_
      rintro e w' ⟨rfl, hb⟩
      exact ⟨_, rfl, sb3, hb⟩
    · obtain ⟨hs1, hs2⟩ := hsg
      refine (reftext_whole_neg x R (R % 4503599627370496) (R / 4503599627370496) M z (digS R) _ _ w (Lib.hid N) o1 o2 hs1 hx (by unfold two63 at hs2; omega) (by omega) hF (by omega) (by omega) (by unfold infR at hR; omega) (Lib.hid hA0) (Lib.hid G) es (by rw [← ep]) (Lib.hid ⟨hE0, hlt⟩) s3 z3 (Lib.hid dV)).mono ?_
      rintro e w' ⟨rfl, hb⟩
      exact ⟨_, rfl, SB.append sb_minus sb3, hb⟩
  · have hP : digP R + (z : Int) < 0 ∨ 9007199254740992 ≤ M * 2 ^ (digP R + (z : Int)).toNat := by
      by_cases hE0 : 0 ≤ digP R + (z : Int)
      · right
        rw [whole_iff hM0 hM53 hE0] at hw
        simpa using hw
      · exact .inl (by omega)
    have e0 : numL M (digP R + (z : Int)) = bytesD M ++ ([112] ++ bytesD (digP R + (z : Int))) := by unfold numL; rw [if_neg hw]
    rw [e0, ← List.append_assoc]
    by_cases hq : R < 4503599627370496
    · have ep : digP R = -1074 := by unfold digP two52; rw [if_pos hq]
      have es : R % 4503599627370496 = digS R := by unfold digS two52; rw [if_pos hq]; omega
      cases sg
      · obtain ⟨hs1, hs2⟩ := hsg
        refine (reftext_part_pos_sub x R (R % 4503599627370496) 0 M z (digS R) _ _ w (Lib.hid N) o1 o2 hs1 hs2 (by omega) hF (by omega) (Lib.hid hA0) (Lib.hid G) es (by rw [← ep]) (Lib.hid hP) s1 s2 z1 z2 (Lib.hid dM) (Lib.hid dE)).mono ?_
        rintro e w' ⟨rfl, hb⟩
        refine ⟨_, rfl, ?_, hb⟩
        have := SB.append (SB.append sb1 sb_p) sb2
        simpa using this
      · obtain ⟨hs1, hs2⟩ := hsg
        refine (reftext_part_neg_sub x R (R % 4503599627370496) 0 M z (digS R) _ _ w (Lib.hid N) o1 o2 hs1 hx (by unfold two63 at hs2; omega) (by omega) hF (by omega) (Lib.hid hA0) (Lib.hid G) es (by rw [← ep]) (Lib.hid hP) s1 s2 z1 z2 (Lib.hid dM) (Lib.hid dE)).mono ?_
        rintro e w' ⟨rfl, hb⟩
        refine ⟨_, rfl, ?_, hb⟩
        have := SB.append (SB.append (SB.append sb_minus sb1) sb_p) sb2
        simpa using this
    · have ep : digP R = ((R / 4503599627370496 : Nat) : Int) - 1075 := by unfold digP two52; rw [if_neg hq]
      have es : R % 4503599627370496 + 4503599627370496 = digS R := by unfold digS two52; rw [if_neg hq]; omega
      cases sg
      · obtain ⟨hs1, hs2⟩ := hsg
        refine (reftext_part_pos_norm x R (R % 4503599627370496) (R / 4503599627370496) M z (digS R) _ _ w (Lib.hid N) o1 o2 hs1 hs2 (by omega) hF (by omega) (by omega) (by unfold infR at hR; omega) (Lib.hid hA0) (Lib.hid G) es (by rw [← ep]) (Lib.hid hP) s1 s2 z1 z2 (Lib.hid dM) (Lib.hid dE)).mono ?_
        rintro e w' ⟨rfl, hb⟩
        refine ⟨_, rfl, ?_, hb⟩
        have := SB.append (SB.append sb1 sb_p) sb2
        simpa using this
      · obtain ⟨hs1, hs2⟩ := hsg
        refine (reftext_part_neg_norm x R (R % 4503599627370496) (R / 4503599627370496) M z (digS R) _ _ w (Lib.hid N) o1 o2 hs1 hx (by unfold two63 at hs2; omega) (by omega) hF (by omega) (by omega) (by unfold infR at hR; omega) (Lib.hid hA0) (Lib.hid G) es (by rw [← ep]) (Lib.hid hP) s1 s2 z1 z2 (Lib.hid dM) (Lib.hid dE)).mono ?_
        rintro e w' ⟨rfl, hb⟩
        refine ⟨_, rfl, ?_, hb⟩
        have := SB.append (SB.append (SB.append sb_minus sb1) sb_p) sb2
        simpa using this
/-- bedrockref2.Text is real.Text -/
theorem refText_any (x : Nat) (w : World) (hx : x < two64) : Calls Tryd.prog 54 #[.float .f64 x] w fun e w' => ∃ s : ByteArray, e = .returned (.string s) ∧ SB s (textF x) ∧ Bl w w' := by
  have N := fun w => refNan_any x w hx
  cases hn : nanB x
  · rw [hn] at N
    obtain ⟨o1, o2⟩ := ord_max hx hn
    have hi : x % two63 ≤ infR := by simpa [nanB] using hn
    by_cases k1 : x = infR
    · rw [decide_eq_true k1] at o1
      have e : textF x = [105, 110, 102] := by rw [k1]; decide +kernel
      rw [e]
      exact reftext_inf x w (Lib.hid N) o1
    · rw [decide_eq_false k1] at o1
      by_cases k2 : x = infR + two63
      · rw [decide_eq_true k2] at o2
        have e : textF x = [45, 105, 110, 102] := by rw [k2]; decide +kernel
        rw [e]
        exact reftext_minf x w (Lib.hid N) o1 o2
      · rw [decide_eq_false k2] at o2
        have hR : x % two63 < infR := by unfold infR two63 two64 at *; omega
        by_cases h0 : x % two63 = 0
        · by_cases hs : two63 ≤ x
          · have e : x = two63 := by unfold two63 two64 at *; omega
            subst e
            exact reftext_zero_neg two63 0 w (Lib.hid N) o1 o2 (by decide) (by decide) (by decide) (by decide) (by decide)
          · have e : x = 0 := by unfold two63 two64 at *; omega
            subst e
            exact reftext_zero_pos 0 0 w (Lib.hid N) o1 o2 (by decide) rfl (by decide) (by decide)
        · have e : textF x = signL x ++ numL (oddM (x % two63)) (oddE (x % two63)) := by unfold textF; rw [hn, if_neg (by simp), if_neg h0, if_neg (by omega)]
          rw [e]
          by_cases hs : two63 ≤ x
          · rw [signL, if_pos hs]
            exact refText_fin x (x % two63) true w hx hn ⟨hs, by unfold two63 two64 at *; omega⟩ h0 hR o1 o2
          · rw [signL, if_neg hs]
            exact refText_fin x (x % two63) false w hx hn ⟨by omega, by unfold two63 two64 at *; omega⟩ h0 hR o1 o2
  · rw [hn] at N
    have e : textF x = [110, 97, 110] := by unfold textF; rw [hn, if_pos rfl]
    rw [e]
    exact reftext_nan x w (Lib.hid N)
end Go.Proofs.YtgdlcoicejgdkaaDoor
