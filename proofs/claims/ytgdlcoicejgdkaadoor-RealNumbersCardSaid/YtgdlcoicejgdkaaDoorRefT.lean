/- bedrockref2.Text: the walks of finite numbers (printed by a program). By an AI agent. -/
import Derived.Test.YtgdlcoicejgdkaaDoorRefD
import Derived.Test.YtgdlcoicejgdkaaDoorRefW6
set_option linter.unusedVariables false
namespace Go.Proofs.YtgdlcoicejgdkaaDoor
open Go.RowKit Ieee

theorem pow_step {M V i : Nat} (h : V = M * 2 ^ i) : V * 2 = M * 2 ^ (i + 1) := by rw [h, Nat.pow_succ, Nat.mul_assoc]
theorem pow_small {M V i : Nat} (h0 : 0 < M) (h : V = M * 2 ^ i) (hV : V < 18014398509481984) : i < 54 := by
  have h1 : 2 ^ i ≤ V := by rw [h]; exact Nat.le_mul_of_pos_left _ h0
  have h2 : 2 ^ i < 2 ^ 54 := by
    have e : (2 : Nat) ^ 54 = 18014398509481984 := by decide
    omega
  exact (Nat.pow_lt_pow_iff_right (by decide)).1 h2
theorem pow_up {M V i : Nat} {E : Int} (h : V = M * 2 ^ i) (hi : (i : Int) ≤ E) : V ≤ M * 2 ^ E.toNat := by
  rw [h]; exact Nat.mul_le_mul_left _ (Nat.pow_le_pow_right (by decide) (by omega))
theorem pow_at {M V i : Nat} {E : Int} (h : V = M * 2 ^ i) (hi : (i : Int) = E) : V = M * 2 ^ E.toNat := by
  rw [h, ← hi, Int.toNat_natCast]

set_option maxHeartbeats 1600000 in
set_option maxRecDepth 100000 in
theorem reftext_zero_pos (x R : Nat) (w : World) (N : Hid (∀ w, Calls Tryd.prog 82 #[.float .f64 x] w fun e w' => e = .returned (.bool false) ∧ w = w')) (o1 : (FloatKind.f64.format.order x 9218868437227405311 == some .gt) = false) (o2 : (FloatKind.f64.format.order x 18442240474082181119 == some .lt) = false) (hx : x < 9223372036854775808) (ex : x = R) (eF : (R : Int) % 4503599627370496 = 0) (eQ : (R : Int) / 4503599627370496 = 0) :
    Calls Tryd.prog 54 #[.float .f64 x] w fun e w' => ∃ s : ByteArray, e = .returned (.string s) ∧ SB s [48] ∧ Bl w w' := by
  have hrb := run_bits x
  subst ex
  have qx : decide ((9223372036854775808 : Int) ≤ (x : Int)) = false := by simp; omega
  go_enter Tryd.func54, Tryd.ntmps54
  go_wp2_with fail
  refine (N.out _).mono ?_
  rintro e w1 ⟨rfl, rfl⟩
  go_upto_region 12 with fail
  try rw [eF]
  try rw [eQ]
  go_wp2_with fail
  go_ret
  exact ⟨_, rfl, rfl, Bl.refl _⟩

set_option maxHeartbeats 1600000 in
set_option maxRecDepth 100000 in
theorem reftext_part_pos_sub (x R F Q M z A0 B : Nat) (E : Int) (w : World) (N : Hid (∀ w, Calls Tryd.prog 82 #[.float .f64 x] w fun e w' => e = .returned (.bool false) ∧ w = w')) (o1 : (FloatKind.f64.format.order x 9218868437227405311 == some .gt) = false) (o2 : (FloatKind.f64.format.order x 18442240474082181119 == some .lt) = false) (hx : x < 9223372036854775808) (ex : x = R) (eF : (R : Int) % 4503599627370496 = (F : Int)) (hF : F < 4503599627370496) (eQ : (R : Int) / 4503599627370496 = 0) (HA0 : Hid (A0 = M * 2 ^ (z - 0))) (G : Hid (OddOf M z B 0)) (eA : F = A0) (eE : -1074 + (z : Int) = E) (HP0 : Hid (E < 0 ∨ 9007199254740992 ≤ M * 2 ^ E.toNat)) (s1 s2 : ByteArray) (z1 : s1.size ≤ 20) (z2 : s2.size ≤ 20) (DM : Hid (∀ w, Calls Tryd.prog 99 #[.int .i64 (M : Int)] w fun e w' => e = .returned (.string s1) ∧ Bl w w')) (DE : Hid (∀ w, Calls Tryd.prog 99 #[.int .i64 E] w fun e w' => e = .returned (.string s2) ∧ Bl w w')) :
    Calls Tryd.prog 54 #[.float .f64 x] w fun e w' => e = .returned (.string (s1 ++ ⟨#[112]⟩ ++ s2)) ∧ Bl w w' := by
  have hrb := run_bits x
  subst ex
  have qx : decide ((9223372036854775808 : Int) ≤ (x : Int)) = false := by simp; omega
  go_enter Tryd.func54, Tryd.ntmps54
  go_wp2_with fail
  refine (N.out _).mono ?_
  rintro e w1 ⟨rfl, rfl⟩
  go_upto_region 12 with fail
  try rw [eF]
  try rw [eQ]
  obtain ⟨a00, _, _, _⟩ := G.out.step (Nat.zero_le _) HA0.out
  subst eA
  have qF : ((F : Int) == 0) = false := by simp; omega
  have HB := Bl.refl w
  go_wp2_with fail
  go_loop [5, 6] (fun m e => ∃ j A : Nat, j ≤ z ∧ m = .int .i64 A ∧ e = .int .i64 (-1074 + (j : Int)) ∧ A = M * 2 ^ (z - j)) (fun _ e => z - (intOf e - -1074).toNat)
  case atStart => exact ⟨0, F, Nat.zero_le _, by go_num, by go_num, HA0.out⟩
  case round =>
    obtain ⟨j, A, hj, rfl, rfl, hA⟩ := hrel
    obtain ⟨a0, a1, a2, a3⟩ := G.out.step hj hA
    have HA := Lib.hid hA
    clear hA
    have zz := G.out.z52
    by_cases hjz : j < z
    · obtain ⟨b1, b2⟩ := a2 hjz
      have B2 := Lib.hid b2
      have qe : ((A : Int) % 2 == 0) = true := by simp; omega
      clear a2 a3 b1 b2
      go_wp2_with fail
      go_round
      case rel => exact ⟨j + 1, A / 2, by omega, rfl, by go_num, B2.out⟩
      case measure => simp [intOf]; omega
    · obtain rfl : j = z := by omega
      obtain rfl : A = M := a3 rfl
      have oo := G.out.odd
      have qe : ((A : Int) % 2 == 0) = false := by simp; omega
      clear a2 a3 HA oo hjz
      rw [eE]
      have bE1 : -1074 ≤ E := by omega
      have bE2 : E ≤ 1100 := by omega
      clear eE
      go_wp2_with fail
      go_loop [7, 8] (fun v i => ∃ n V : Nat, v = .int .i64 V ∧ i = .int .i64 n ∧ V = A * 2 ^ n ∧ ((n : Int) ≤ E ∨ n = 0) ∧ V < 18014398509481984) (fun _ i => 54 - (intOf i).toNat)
      case atStart => exact ⟨0, A, rfl, rfl, by simp, .inr rfl, by omega⟩
      case round =>
        obtain ⟨n, V, rfl, rfl, hV, hn, hV54⟩ := hrel
        have n54 := pow_small a0 hV hV54
        have HV := Lib.hid hV
        have HN := Lib.hid hn
        clear hV hn
        by_cases hnE : (n : Int) < E
        · have q1 : decide ((n : Int) < E) = true := decide_eq_true hnE
          by_cases hV53 : V < 9007199254740992
          · have q2 : decide ((V : Int) < 9007199254740992) = true := decide_eq_true (by omega)
            have HP := Lib.hid (pow_step HV.out)
            go_wp2_with fail
            go_round
            case rel => exact ⟨n + 1, V * 2, by go_num, by go_num, HP.out, .inl (by omega), by omega⟩
            case measure => simp [intOf]; omega
          · have q2 : decide ((V : Int) < 9007199254740992) = false := decide_eq_false (by omega)
            have qE : decide ((0 : Int) ≤ E) = true := decide_eq_true (by omega)
            go_wp2_with fail
            refine (DM.out _).mono ?_
            rintro e w1 ⟨rfl, hb1⟩
            replace HB := HB.trans hb1
            clear hb1
            go_wp2_with fail
            refine (DE.out _).mono ?_
            rintro e w1 ⟨rfl, hb1⟩
            replace HB := HB.trans hb1
            clear hb1
            go_wp2_with fail
            go_ret
            exact ⟨rfl, HB⟩
        · have q1 : decide ((n : Int) < E) = false := decide_eq_false hnE
          by_cases hE0 : 0 ≤ E
          · have hnE2 : (n : Int) = E := by rcases HN.out with h | h <;> omega
            have e := pow_at HV.out hnE2
            have q2 : decide ((V : Int) < 9007199254740992) = false := decide_eq_false (by rcases HP0.out with h | h <;> omega)
            have qE : decide ((0 : Int) ≤ E) = true := decide_eq_true hE0
            clear e hnE2
            go_wp2_with fail
            refine (DM.out _).mono ?_
            rintro e w1 ⟨rfl, hb1⟩
            replace HB := HB.trans hb1
            clear hb1
            go_wp2_with fail
            refine (DE.out _).mono ?_
            rintro e w1 ⟨rfl, hb1⟩
            replace HB := HB.trans hb1
            clear hb1
            go_wp2_with fail
            go_ret
            exact ⟨rfl, HB⟩
          · have qE : decide ((0 : Int) ≤ E) = false := decide_eq_false hE0
            go_wp2_with fail
            refine (DM.out _).mono ?_
            rintro e w1 ⟨rfl, hb1⟩
            replace HB := HB.trans hb1
            clear hb1
            go_wp2_with fail
            refine (DE.out _).mono ?_
            rintro e w1 ⟨rfl, hb1⟩
            replace HB := HB.trans hb1
            clear hb1
            go_wp2_with fail
            go_ret
            exact ⟨rfl, HB⟩

set_option maxHeartbeats 1600000 in
set_option maxRecDepth 100000 in
theorem reftext_whole_pos (x R F Q M z A0 B : Nat) (E : Int) (w : World) (N : Hid (∀ w, Calls Tryd.prog 82 #[.float .f64 x] w fun e w' => e = .returned (.bool false) ∧ w = w')) (o1 : (FloatKind.f64.format.order x 9218868437227405311 == some .gt) = false) (o2 : (FloatKind.f64.format.order x 18442240474082181119 == some .lt) = false) (hx : x < 9223372036854775808) (ex : x = R) (eF : (R : Int) % 4503599627370496 = (F : Int)) (hF : F < 4503599627370496) (eQ : (R : Int) / 4503599627370496 = (Q : Int)) (hQ : 0 < Q) (hQ2 : Q ≤ 2046) (HA0 : Hid (A0 = M * 2 ^ (z - 0))) (G : Hid (OddOf M z B 0)) (eA : F + 4503599627370496 = A0) (eE : ((Q : Int) - 1075) + (z : Int) = E) (HW : Hid (0 ≤ E ∧ M * 2 ^ E.toNat < 9007199254740992)) (s1 : ByteArray) (z1 : s1.size ≤ 20) (DV : Hid (∀ w, Calls Tryd.prog 99 #[.int .i64 ((M * 2 ^ E.toNat : Nat) : Int)] w fun e w' => e = .returned (.string s1) ∧ Bl w w')) :
    Calls Tryd.prog 54 #[.float .f64 x] w fun e w' => e = .returned (.string s1) ∧ Bl w w' := by
  have hrb := run_bits x
  subst ex
  have qx : decide ((9223372036854775808 : Int) ≤ (x : Int)) = false := by simp; omega
  have qQ : ((Q : Int) == 0) = false := by simp; omega
  go_enter Tryd.func54, Tryd.ntmps54
  go_wp2_with fail
  refine (N.out _).mono ?_
  rintro e w1 ⟨rfl, rfl⟩
  go_upto_region 12 with fail
  try rw [eF]
  try rw [eQ]
  subst eA
  have HB := Bl.refl w
  go_wp2_with fail
  go_loop [5, 6] (fun m e => ∃ j A : Nat, j ≤ z ∧ m = .int .i64 A ∧ e = .int .i64 (((Q : Int) - 1075) + (j : Int)) ∧ A = M * 2 ^ (z - j)) (fun _ e => z - (intOf e - ((Q : Int) - 1075)).toNat)
  case atStart => exact ⟨0, F + 4503599627370496, Nat.zero_le _, by go_num, by go_num, HA0.out⟩
  case round =>
    obtain ⟨j, A, hj, rfl, rfl, hA⟩ := hrel
    obtain ⟨a0, a1, a2, a3⟩ := G.out.step hj hA
    have HA := Lib.hid hA
    clear hA
    have zz := G.out.z52
    by_cases hjz : j < z
    · obtain ⟨b1, b2⟩ := a2 hjz
      have B2 := Lib.hid b2
      have qe : ((A : Int) % 2 == 0) = true := by simp; omega
      clear a2 a3 b1 b2
      go_wp2_with fail
      go_round
      case rel => exact ⟨j + 1, A / 2, by omega, rfl, by go_num, B2.out⟩
      case measure => simp [intOf]; omega
    · obtain rfl : j = z := by omega
      obtain rfl : A = M := a3 rfl
      have oo := G.out.odd
      have qe : ((A : Int) % 2 == 0) = false := by simp; omega
      clear a2 a3 HA oo hjz
      rw [eE]
      have bE1 : -1074 ≤ E := by omega
      have bE2 : E ≤ 1100 := by omega
      clear eE
      go_wp2_with fail
      go_loop [7, 8] (fun v i => ∃ n V : Nat, v = .int .i64 V ∧ i = .int .i64 n ∧ V = A * 2 ^ n ∧ ((n : Int) ≤ E ∨ n = 0) ∧ V < 18014398509481984) (fun _ i => 54 - (intOf i).toNat)
      case atStart => exact ⟨0, A, rfl, rfl, by simp, .inr rfl, by omega⟩
      case round =>
        obtain ⟨n, V, rfl, rfl, hV, hn, hV54⟩ := hrel
        have n54 := pow_small a0 hV hV54
        have HV := Lib.hid hV
        have HN := Lib.hid hn
        clear hV hn
        by_cases hnE : (n : Int) < E
        · have q1 : decide ((n : Int) < E) = true := decide_eq_true hnE
          by_cases hV53 : V < 9007199254740992
          · have q2 : decide ((V : Int) < 9007199254740992) = true := decide_eq_true (by omega)
            have HP := Lib.hid (pow_step HV.out)
            go_wp2_with fail
            go_round
            case rel => exact ⟨n + 1, V * 2, by go_num, by go_num, HP.out, .inl (by omega), by omega⟩
            case measure => simp [intOf]; omega
          · have q2 : decide ((V : Int) < 9007199254740992) = false := decide_eq_false (by omega)
            exact absurd (pow_up HV.out (Int.le_of_lt hnE)) (by have := HW.out.2; omega)
        · have q1 : decide ((n : Int) < E) = false := decide_eq_false hnE
          have hE0 := HW.out.1
          have hnE2 : (n : Int) = E := by rcases HN.out with h | h <;> omega
          have e := pow_at HV.out hnE2
          have q2 : decide ((V : Int) < 9007199254740992) = true := decide_eq_true (by have := HW.out.2; omega)
          have qE : decide ((0 : Int) ≤ E) = true := decide_eq_true hE0
          rw [← e] at DV
          clear e hnE2
          go_wp2_with fail
          refine (DV.out _).mono ?_
          rintro e w1 ⟨rfl, hb1⟩
          replace HB := HB.trans hb1
          clear hb1
          go_wp2_with fail
          go_ret
          exact ⟨rfl, HB⟩

set_option maxHeartbeats 1600000 in
set_option maxRecDepth 100000 in
theorem reftext_part_pos_norm (x R F Q M z A0 B : Nat) (E : Int) (w : World) (N : Hid (∀ w, Calls Tryd.prog 82 #[.float .f64 x] w fun e w' => e = .returned (.bool false) ∧ w = w')) (o1 : (FloatKind.f64.format.order x 9218868437227405311 == some .gt) = false) (o2 : (FloatKind.f64.format.order x 18442240474082181119 == some .lt) = false) (hx : x < 9223372036854775808) (ex : x = R) (eF : (R : Int) % 4503599627370496 = (F : Int)) (hF : F < 4503599627370496) (eQ : (R : Int) / 4503599627370496 = (Q : Int)) (hQ : 0 < Q) (hQ2 : Q ≤ 2046) (HA0 : Hid (A0 = M * 2 ^ (z - 0))) (G : Hid (OddOf M z B 0)) (eA : F + 4503599627370496 = A0) (eE : ((Q : Int) - 1075) + (z : Int) = E) (HP0 : Hid (E < 0 ∨ 9007199254740992 ≤ M * 2 ^ E.toNat)) (s1 s2 : ByteArray) (z1 : s1.size ≤ 20) (z2 : s2.size ≤ 20) (DM : Hid (∀ w, Calls Tryd.prog 99 #[.int .i64 (M : Int)] w fun e w' => e = .returned (.string s1) ∧ Bl w w')) (DE : Hid (∀ w, Calls Tryd.prog 99 #[.int .i64 E] w fun e w' => e = .returned (.string s2) ∧ Bl w w')) :
    Calls Tryd.prog 54 #[.float .f64 x] w fun e w' => e = .returned (.string (s1 ++ ⟨#[112]⟩ ++ s2)) ∧ Bl w w' := by
  have hrb := run_bits x
  subst ex
  have qx : decide ((9223372036854775808 : Int) ≤ (x : Int)) = false := by simp; omega
  have qQ : ((Q : Int) == 0) = false := by simp; omega
  go_enter Tryd.func54, Tryd.ntmps54
  go_wp2_with fail
  refine (N.out _).mono ?_
  rintro e w1 ⟨rfl, rfl⟩
  go_upto_region 12 with fail
  try rw [eF]
  try rw [eQ]
  subst eA
  have HB := Bl.refl w
  go_wp2_with fail
  go_loop [5, 6] (fun m e => ∃ j A : Nat, j ≤ z ∧ m = .int .i64 A ∧ e = .int .i64 (((Q : Int) - 1075) + (j : Int)) ∧ A = M * 2 ^ (z - j)) (fun _ e => z - (intOf e - ((Q : Int) - 1075)).toNat)
  case atStart => exact ⟨0, F + 4503599627370496, Nat.zero_le _, by go_num, by go_num, HA0.out⟩
  case round =>
    obtain ⟨j, A, hj, rfl, rfl, hA⟩ := hrel
    obtain ⟨a0, a1, a2, a3⟩ := G.out.step hj hA
    have HA := Lib.hid hA
    clear hA
    have zz := G.out.z52
    by_cases hjz : j < z
    · obtain ⟨b1, b2⟩ := a2 hjz
      have B2 := Lib.hid b2
      have qe : ((A : Int) % 2 == 0) = true := by simp; omega
      clear a2 a3 b1 b2
      go_wp2_with fail
      go_round
      case rel => exact ⟨j + 1, A / 2, by omega, rfl, by go_num, B2.out⟩
      case measure => simp [intOf]; omega
    · obtain rfl : j = z := by omega
      obtain rfl : A = M := a3 rfl
      have oo := G.out.odd
      have qe : ((A : Int) % 2 == 0) = false := by simp; omega
      clear a2 a3 HA oo hjz
      rw [eE]
      have bE1 : -1074 ≤ E := by omega
      have bE2 : E ≤ 1100 := by omega
      clear eE
      go_wp2_with fail
      go_loop [7, 8] (fun v i => ∃ n V : Nat, v = .int .i64 V ∧ i = .int .i64 n ∧ V = A * 2 ^ n ∧ ((n : Int) ≤ E ∨ n = 0) ∧ V < 18014398509481984) (fun _ i => 54 - (intOf i).toNat)
      case atStart => exact ⟨0, A, rfl, rfl, by simp, .inr rfl, by omega⟩
      case round =>
        obtain ⟨n, V, rfl, rfl, hV, hn, hV54⟩ := hrel
        have n54 := pow_small a0 hV hV54
        have HV := Lib.hid hV
        have HN := Lib.hid hn
        clear hV hn
        by_cases hnE : (n : Int) < E
        · have q1 : decide ((n : Int) < E) = true := decide_eq_true hnE
          by_cases hV53 : V < 9007199254740992
          · have q2 : decide ((V : Int) < 9007199254740992) = true := decide_eq_true (by omega)
            have HP := Lib.hid (pow_step HV.out)
            go_wp2_with fail
            go_round
            case rel => exact ⟨n + 1, V * 2, by go_num, by go_num, HP.out, .inl (by omega), by omega⟩
            case measure => simp [intOf]; omega
          · have q2 : decide ((V : Int) < 9007199254740992) = false := decide_eq_false (by omega)
            have qE : decide ((0 : Int) ≤ E) = true := decide_eq_true (by omega)
            go_wp2_with fail
            refine (DM.out _).mono ?_
            rintro e w1 ⟨rfl, hb1⟩
            replace HB := HB.trans hb1
            clear hb1
            go_wp2_with fail
            refine (DE.out _).mono ?_
            rintro e w1 ⟨rfl, hb1⟩
            replace HB := HB.trans hb1
            clear hb1
            go_wp2_with fail
            go_ret
            exact ⟨rfl, HB⟩
        · have q1 : decide ((n : Int) < E) = false := decide_eq_false hnE
          by_cases hE0 : 0 ≤ E
          · have hnE2 : (n : Int) = E := by rcases HN.out with h | h <;> omega
            have e := pow_at HV.out hnE2
            have q2 : decide ((V : Int) < 9007199254740992) = false := decide_eq_false (by rcases HP0.out with h | h <;> omega)
            have qE : decide ((0 : Int) ≤ E) = true := decide_eq_true hE0
            clear e hnE2
            go_wp2_with fail
            refine (DM.out _).mono ?_
            rintro e w1 ⟨rfl, hb1⟩
            replace HB := HB.trans hb1
            clear hb1
            go_wp2_with fail
            refine (DE.out _).mono ?_
            rintro e w1 ⟨rfl, hb1⟩
            replace HB := HB.trans hb1
            clear hb1
            go_wp2_with fail
            go_ret
            exact ⟨rfl, HB⟩
          · have qE : decide ((0 : Int) ≤ E) = false := decide_eq_false hE0
            go_wp2_with fail
            refine (DM.out _).mono ?_
            rintro e w1 ⟨rfl, hb1⟩
            replace HB := HB.trans hb1
            clear hb1
            go_wp2_with fail
            refine (DE.out _).mono ?_
            rintro e w1 ⟨rfl, hb1⟩
            replace HB := HB.trans hb1
            clear hb1
            go_wp2_with fail
            go_ret
            exact ⟨rfl, HB⟩

set_option maxHeartbeats 1600000 in
set_option maxRecDepth 100000 in
theorem reftext_zero_neg (x R : Nat) (w : World) (N : Hid (∀ w, Calls Tryd.prog 82 #[.float .f64 x] w fun e w' => e = .returned (.bool false) ∧ w = w')) (o1 : (FloatKind.f64.format.order x 9218868437227405311 == some .gt) = false) (o2 : (FloatKind.f64.format.order x 18442240474082181119 == some .lt) = false) (hx : 9223372036854775808 ≤ x) (hx2 : x < 18446744073709551616) (ex : (x : Int) - 9223372036854775808 = (R : Int)) (eF : (R : Int) % 4503599627370496 = 0) (eQ : (R : Int) / 4503599627370496 = 0) :
    Calls Tryd.prog 54 #[.float .f64 x] w fun e w' => ∃ s : ByteArray, e = .returned (.string s) ∧ SB s [45, 48] ∧ Bl w w' := by
  have hrb := run_bits x
  have qx : decide ((9223372036854775808 : Int) ≤ (x : Int)) = true := by simp; omega
  go_enter Tryd.func54, Tryd.ntmps54
  go_wp2_with fail
  refine (N.out _).mono ?_
  rintro e w1 ⟨rfl, rfl⟩
  go_upto_region 12 with fail
  try rw [eF]
  try rw [eQ]
  go_wp2_with fail
  go_ret
  exact ⟨_, rfl, rfl, Bl.refl _⟩

set_option maxHeartbeats 1600000 in
set_option maxRecDepth 100000 in
theorem reftext_part_neg_sub (x R F Q M z A0 B : Nat) (E : Int) (w : World) (N : Hid (∀ w, Calls Tryd.prog 82 #[.float .f64 x] w fun e w' => e = .returned (.bool false) ∧ w = w')) (o1 : (FloatKind.f64.format.order x 9218868437227405311 == some .gt) = false) (o2 : (FloatKind.f64.format.order x 18442240474082181119 == some .lt) = false) (hx : 9223372036854775808 ≤ x) (hx2 : x < 18446744073709551616) (ex : (x : Int) - 9223372036854775808 = (R : Int)) (eF : (R : Int) % 4503599627370496 = (F : Int)) (hF : F < 4503599627370496) (eQ : (R : Int) / 4503599627370496 = 0) (HA0 : Hid (A0 = M * 2 ^ (z - 0))) (G : Hid (OddOf M z B 0)) (eA : F = A0) (eE : -1074 + (z : Int) = E) (HP0 : Hid (E < 0 ∨ 9007199254740992 ≤ M * 2 ^ E.toNat)) (s1 s2 : ByteArray) (z1 : s1.size ≤ 20) (z2 : s2.size ≤ 20) (DM : Hid (∀ w, Calls Tryd.prog 99 #[.int .i64 (M : Int)] w fun e w' => e = .returned (.string s1) ∧ Bl w w')) (DE : Hid (∀ w, Calls Tryd.prog 99 #[.int .i64 E] w fun e w' => e = .returned (.string s2) ∧ Bl w w')) :
    Calls Tryd.prog 54 #[.float .f64 x] w fun e w' => e = .returned (.string (⟨#[45]⟩ ++ s1 ++ ⟨#[112]⟩ ++ s2)) ∧ Bl w w' := by
  have hrb := run_bits x
  have qx : decide ((9223372036854775808 : Int) ≤ (x : Int)) = true := by simp; omega
  go_enter Tryd.func54, Tryd.ntmps54
  go_wp2_with fail
  refine (N.out _).mono ?_
  rintro e w1 ⟨rfl, rfl⟩
  go_upto_region 12 with fail
  try rw [eF]
  try rw [eQ]
  obtain ⟨a00, _, _, _⟩ := G.out.step (Nat.zero_le _) HA0.out
  subst eA
  have qF : ((F : Int) == 0) = false := by simp; omega
  have HB := Bl.refl w
  go_wp2_with fail
  go_loop [5, 6] (fun m e => ∃ j A : Nat, j ≤ z ∧ m = .int .i64 A ∧ e = .int .i64 (-1074 + (j : Int)) ∧ A = M * 2 ^ (z - j)) (fun _ e => z - (intOf e - -1074).toNat)
  case atStart => exact ⟨0, F, Nat.zero_le _, by go_num, by go_num, HA0.out⟩
  case round =>
    obtain ⟨j, A, hj, rfl, rfl, hA⟩ := hrel
    obtain ⟨a0, a1, a2, a3⟩ := G.out.step hj hA
    have HA := Lib.hid hA
    clear hA
    have zz := G.out.z52
    by_cases hjz : j < z
    · obtain ⟨b1, b2⟩ := a2 hjz
      have B2 := Lib.hid b2
      have qe : ((A : Int) % 2 == 0) = true := by simp; omega
      clear a2 a3 b1 b2
      go_wp2_with fail
      go_round
      case rel => exact ⟨j + 1, A / 2, by omega, rfl, by go_num, B2.out⟩
      case measure => simp [intOf]; omega
    · obtain rfl : j = z := by omega
      obtain rfl : A = M := a3 rfl
      have oo := G.out.odd
      have qe : ((A : Int) % 2 == 0) = false := by simp; omega
      clear a2 a3 HA oo hjz
      rw [eE]
      have bE1 : -1074 ≤ E := by omega
      have bE2 : E ≤ 1100 := by omega
      clear eE
      go_wp2_with fail
      go_loop [7, 8] (fun v i => ∃ n V : Nat, v = .int .i64 V ∧ i = .int .i64 n ∧ V = A * 2 ^ n ∧ ((n : Int) ≤ E ∨ n = 0) ∧ V < 18014398509481984) (fun _ i => 54 - (intOf i).toNat)
      case atStart => exact ⟨0, A, rfl, rfl, by simp, .inr rfl, by omega⟩
      case round =>
        obtain ⟨n, V, rfl, rfl, hV, hn, hV54⟩ := hrel
        have n54 := pow_small a0 hV hV54
        have HV := Lib.hid hV
        have HN := Lib.hid hn
        clear hV hn
        by_cases hnE : (n : Int) < E
        · have q1 : decide ((n : Int) < E) = true := decide_eq_true hnE
          by_cases hV53 : V < 9007199254740992
          · have q2 : decide ((V : Int) < 9007199254740992) = true := decide_eq_true (by omega)
            have HP := Lib.hid (pow_step HV.out)
            go_wp2_with fail
            go_round
            case rel => exact ⟨n + 1, V * 2, by go_num, by go_num, HP.out, .inl (by omega), by omega⟩
            case measure => simp [intOf]; omega
          · have q2 : decide ((V : Int) < 9007199254740992) = false := decide_eq_false (by omega)
            have qE : decide ((0 : Int) ≤ E) = true := decide_eq_true (by omega)
            go_wp2_with fail
            refine (DM.out _).mono ?_
            rintro e w1 ⟨rfl, hb1⟩
            replace HB := HB.trans hb1
            clear hb1
            go_wp2_with fail
            refine (DE.out _).mono ?_
            rintro e w1 ⟨rfl, hb1⟩
            replace HB := HB.trans hb1
            clear hb1
            go_wp2_with fail
            go_ret
            exact ⟨rfl, HB⟩
        · have q1 : decide ((n : Int) < E) = false := decide_eq_false hnE
          by_cases hE0 : 0 ≤ E
          · have hnE2 : (n : Int) = E := by rcases HN.out with h | h <;> omega
            have e := pow_at HV.out hnE2
            have q2 : decide ((V : Int) < 9007199254740992) = false := decide_eq_false (by rcases HP0.out with h | h <;> omega)
            have qE : decide ((0 : Int) ≤ E) = true := decide_eq_true hE0
            clear e hnE2
            go_wp2_with fail
            refine (DM.out _).mono ?_
            rintro e w1 ⟨rfl, hb1⟩
            replace HB := HB.trans hb1
            clear hb1
            go_wp2_with fail
            refine (DE.out _).mono ?_
            rintro e w1 ⟨rfl, hb1⟩
            replace HB := HB.trans hb1
            clear hb1
            go_wp2_with fail
            go_ret
            exact ⟨rfl, HB⟩
          · have qE : decide ((0 : Int) ≤ E) = false := decide_eq_false hE0
            go_wp2_with fail
            refine (DM.out _).mono ?_
            rintro e w1 ⟨rfl, hb1⟩
            replace HB := HB.trans hb1
            clear hb1
            go_wp2_with fail
            refine (DE.out _).mono ?_
            rintro e w1 ⟨rfl, hb1⟩
            replace HB := HB.trans hb1
            clear hb1
            go_wp2_with fail
            go_ret
            exact ⟨rfl, HB⟩

set_option maxHeartbeats 1600000 in
set_option maxRecDepth 100000 in
theorem reftext_whole_neg (x R F Q M z A0 B : Nat) (E : Int) (w : World) (N : Hid (∀ w, Calls Tryd.prog 82 #[.float .f64 x] w fun e w' => e = .returned (.bool false) ∧ w = w')) (o1 : (FloatKind.f64.format.order x 9218868437227405311 == some .gt) = false) (o2 : (FloatKind.f64.format.order x 18442240474082181119 == some .lt) = false) (hx : 9223372036854775808 ≤ x) (hx2 : x < 18446744073709551616) (ex : (x : Int) - 9223372036854775808 = (R : Int)) (eF : (R : Int) % 4503599627370496 = (F : Int)) (hF : F < 4503599627370496) (eQ : (R : Int) / 4503599627370496 = (Q : Int)) (hQ : 0 < Q) (hQ2 : Q ≤ 2046) (HA0 : Hid (A0 = M * 2 ^ (z - 0))) (G : Hid (OddOf M z B 0)) (eA : F + 4503599627370496 = A0) (eE : ((Q : Int) - 1075) + (z : Int) = E) (HW : Hid (0 ≤ E ∧ M * 2 ^ E.toNat < 9007199254740992)) (s1 : ByteArray) (z1 : s1.size ≤ 20) (DV : Hid (∀ w, Calls Tryd.prog 99 #[.int .i64 ((M * 2 ^ E.toNat : Nat) : Int)] w fun e w' => e = .returned (.string s1) ∧ Bl w w')) :
    Calls Tryd.prog 54 #[.float .f64 x] w fun e w' => e = .returned (.string (⟨#[45]⟩ ++ s1)) ∧ Bl w w' := by
  have hrb := run_bits x
  have qx : decide ((9223372036854775808 : Int) ≤ (x : Int)) = true := by simp; omega
  have qQ : ((Q : Int) == 0) = false := by simp; omega
  go_enter Tryd.func54, Tryd.ntmps54
  go_wp2_with fail
  refine (N.out _).mono ?_
  rintro e w1 ⟨rfl, rfl⟩
  go_upto_region 12 with fail
  try rw [eF]
  try rw [eQ]
  subst eA
  have HB := Bl.refl w
  go_wp2_with fail
  go_loop [5, 6] (fun m e => ∃ j A : Nat, j ≤ z ∧ m = .int .i64 A ∧ e = .int .i64 (((Q : Int) - 1075) + (j : Int)) ∧ A = M * 2 ^ (z - j)) (fun _ e => z - (intOf e - ((Q : Int) - 1075)).toNat)
  case atStart => exact ⟨0, F + 4503599627370496, Nat.zero_le _, by go_num, by go_num, HA0.out⟩
  case round =>
    obtain ⟨j, A, hj, rfl, rfl, hA⟩ := hrel
    obtain ⟨a0, a1, a2, a3⟩ := G.out.step hj hA
    have HA := Lib.hid hA
    clear hA
    have zz := G.out.z52
    by_cases hjz : j < z
    · obtain ⟨b1, b2⟩ := a2 hjz
      have B2 := Lib.hid b2
      have qe : ((A : Int) % 2 == 0) = true := by simp; omega
      clear a2 a3 b1 b2
      go_wp2_with fail
      go_round
      case rel => exact ⟨j + 1, A / 2, by omega, rfl, by go_num, B2.out⟩
      case measure => simp [intOf]; omega
    · obtain rfl : j = z := by omega
      obtain rfl : A = M := a3 rfl
      have oo := G.out.odd
      have qe : ((A : Int) % 2 == 0) = false := by simp; omega
      clear a2 a3 HA oo hjz
      rw [eE]
      have bE1 : -1074 ≤ E := by omega
      have bE2 : E ≤ 1100 := by omega
      clear eE
      go_wp2_with fail
      go_loop [7, 8] (fun v i => ∃ n V : Nat, v = .int .i64 V ∧ i = .int .i64 n ∧ V = A * 2 ^ n ∧ ((n : Int) ≤ E ∨ n = 0) ∧ V < 18014398509481984) (fun _ i => 54 - (intOf i).toNat)
      case atStart => exact ⟨0, A, rfl, rfl, by simp, .inr rfl, by omega⟩
      case round =>
        obtain ⟨n, V, rfl, rfl, hV, hn, hV54⟩ := hrel
        have n54 := pow_small a0 hV hV54
        have HV := Lib.hid hV
        have HN := Lib.hid hn
        clear hV hn
        by_cases hnE : (n : Int) < E
        · have q1 : decide ((n : Int) < E) = true := decide_eq_true hnE
          by_cases hV53 : V < 9007199254740992
          · have q2 : decide ((V : Int) < 9007199254740992) = true := decide_eq_true (by omega)
            have HP := Lib.hid (pow_step HV.out)
            go_wp2_with fail
            go_round
            case rel => exact ⟨n + 1, V * 2, by go_num, by go_num, HP.out, .inl (by omega), by omega⟩
            case measure => simp [intOf]; omega
          · have q2 : decide ((V : Int) < 9007199254740992) = false := decide_eq_false (by omega)
            exact absurd (pow_up HV.out (Int.le_of_lt hnE)) (by have := HW.out.2; omega)
        · have q1 : decide ((n : Int) < E) = false := decide_eq_false hnE
          have hE0 := HW.out.1
          have hnE2 : (n : Int) = E := by rcases HN.out with h | h <;> omega
          have e := pow_at HV.out hnE2
          have q2 : decide ((V : Int) < 9007199254740992) = true := decide_eq_true (by have := HW.out.2; omega)
          have qE : decide ((0 : Int) ≤ E) = true := decide_eq_true hE0
          rw [← e] at DV
          clear e hnE2
          go_wp2_with fail
          refine (DV.out _).mono ?_
          rintro e w1 ⟨rfl, hb1⟩
          replace HB := HB.trans hb1
          clear hb1
          go_wp2_with fail
          go_ret
          exact ⟨rfl, HB⟩

set_option maxHeartbeats 1600000 in
set_option maxRecDepth 100000 in
theorem reftext_part_neg_norm (x R F Q M z A0 B : Nat) (E : Int) (w : World) (N : Hid (∀ w, Calls Tryd.prog 82 #[.float .f64 x] w fun e w' => e = .returned (.bool false) ∧ w = w')) (o1 : (FloatKind.f64.format.order x 9218868437227405311 == some .gt) = false) (o2 : (FloatKind.f64.format.order x 18442240474082181119 == some .lt) = false) (hx : 9223372036854775808 ≤ x) (hx2 : x < 18446744073709551616) (ex : (x : Int) - 9223372036854775808 = (R : Int)) (eF : (R : Int) % 4503599627370496 = (F : Int)) (hF : F < 4503599627370496) (eQ : (R : Int) / 4503599627370496 = (Q : Int)) (hQ : 0 < Q) (hQ2 : Q ≤ 2046) (HA0 : Hid (A0 = M * 2 ^ (z - 0))) (G : Hid (OddOf M z B 0)) (eA : F + 4503599627370496 = A0) (eE : ((Q : Int) - 1075) + (z : Int) = E) (HP0 : Hid (E < 0 ∨ 9007199254740992 ≤ M * 2 ^ E.toNat)) (s1 s2 : ByteArray) (z1 : s1.size ≤ 20) (z2 : s2.size ≤ 20) (DM : Hid (∀ w, Calls Tryd.prog 99 #[.int .i64 (M : Int)] w fun e w' => e = .returned (.string s1) ∧ Bl w w')) (DE : Hid (∀ w, Calls Tryd.prog 99 #[.int .i64 E] w fun e w' => e = .returned (.string s2) ∧ Bl w w')) :
    Calls Tryd.prog 54 #[.float .f64 x] w fun e w' => e = .returned (.string (⟨#[45]⟩ ++ s1 ++ ⟨#[112]⟩ ++ s2)) ∧ Bl w w' := by
  have hrb := run_bits x
  have qx : decide ((9223372036854775808 : Int) ≤ (x : Int)) = true := by simp; omega
  have qQ : ((Q : Int) == 0) = false := by simp; omega
  go_enter Tryd.func54, Tryd.ntmps54
  go_wp2_with fail
  refine (N.out _).mono ?_
  rintro e w1 ⟨rfl, rfl⟩
  go_upto_region 12 with fail
  try rw [eF]
  try rw [eQ]
  subst eA
  have HB := Bl.refl w
  go_wp2_with fail
  go_loop [5, 6] (fun m e => ∃ j A : Nat, j ≤ z ∧ m = .int .i64 A ∧ e = .int .i64 (((Q : Int) - 1075) + (j : Int)) ∧ A = M * 2 ^ (z - j)) (fun _ e => z - (intOf e - ((Q : Int) - 1075)).toNat)
  case atStart => exact ⟨0, F + 4503599627370496, Nat.zero_le _, by go_num, by go_num, HA0.out⟩
  case round =>
    obtain ⟨j, A, hj, rfl, rfl, hA⟩ := hrel
    obtain ⟨a0, a1, a2, a3⟩ := G.out.step hj hA
    have HA := Lib.hid hA
    clear hA
    have zz := G.out.z52
    by_cases hjz : j < z
    · obtain ⟨b1, b2⟩ := a2 hjz
      have B2 := Lib.hid b2
      have qe : ((A : Int) % 2 == 0) = true := by simp; omega
      clear a2 a3 b1 b2
      go_wp2_with fail
      go_round
      case rel => exact ⟨j + 1, A / 2, by omega, rfl, by go_num, B2.out⟩
      case measure => simp [intOf]; omega
    · obtain rfl : j = z := by omega
      obtain rfl : A = M := a3 rfl
      have oo := G.out.odd
      have qe : ((A : Int) % 2 == 0) = false := by simp; omega
      clear a2 a3 HA oo hjz
      rw [eE]
      have bE1 : -1074 ≤ E := by omega
      have bE2 : E ≤ 1100 := by omega
      clear eE
      go_wp2_with fail
      go_loop [7, 8] (fun v i => ∃ n V : Nat, v = .int .i64 V ∧ i = .int .i64 n ∧ V = A * 2 ^ n ∧ ((n : Int) ≤ E ∨ n = 0) ∧ V < 18014398509481984) (fun _ i => 54 - (intOf i).toNat)
      case atStart => exact ⟨0, A, rfl, rfl, by simp, .inr rfl, by omega⟩
      case round =>
        obtain ⟨n, V, rfl, rfl, hV, hn, hV54⟩ := hrel
        have n54 := pow_small a0 hV hV54
        have HV := Lib.hid hV
        have HN := Lib.hid hn
        clear hV hn
        by_cases hnE : (n : Int) < E
        · have q1 : decide ((n : Int) < E) = true := decide_eq_true hnE
          by_cases hV53 : V < 9007199254740992
          · have q2 : decide ((V : Int) < 9007199254740992) = true := decide_eq_true (by omega)
            have HP := Lib.hid (pow_step HV.out)
            go_wp2_with fail
            go_round
            case rel => exact ⟨n + 1, V * 2, by go_num, by go_num, HP.out, .inl (by omega), by omega⟩
            case measure => simp [intOf]; omega
          · have q2 : decide ((V : Int) < 9007199254740992) = false := decide_eq_false (by omega)
            have qE : decide ((0 : Int) ≤ E) = true := decide_eq_true (by omega)
            go_wp2_with fail
            refine (DM.out _).mono ?_
            rintro e w1 ⟨rfl, hb1⟩
            replace HB := HB.trans hb1
            clear hb1
            go_wp2_with fail
            refine (DE.out _).mono ?_
            rintro e w1 ⟨rfl, hb1⟩
            replace HB := HB.trans hb1
            clear hb1
            go_wp2_with fail
            go_ret
            exact ⟨rfl, HB⟩
        · have q1 : decide ((n : Int) < E) = false := decide_eq_false hnE
          by_cases hE0 : 0 ≤ E
          · have hnE2 : (n : Int) = E := by rcases HN.out with h | h <;> omega
            have e := pow_at HV.out hnE2
            have q2 : decide ((V : Int) < 9007199254740992) = false := decide_eq_false (by rcases HP0.out with h | h <;> omega)
            have qE : decide ((0 : Int) ≤ E) = true := decide_eq_true hE0
            clear e hnE2
            go_wp2_with fail
            refine (DM.out _).mono ?_
            rintro e w1 ⟨rfl, hb1⟩
            replace HB := HB.trans hb1
            clear hb1
            go_wp2_with fail
            refine (DE.out _).mono ?_
            rintro e w1 ⟨rfl, hb1⟩
            replace HB := HB.trans hb1
            clear hb1
            go_wp2_with fail
            go_ret
            exact ⟨rfl, HB⟩
          · have qE : decide ((0 : Int) ≤ E) = false := decide_eq_false hE0
            go_wp2_with fail
            refine (DM.out _).mono ?_
            rintro e w1 ⟨rfl, hb1⟩
            replace HB := HB.trans hb1
            clear hb1
            go_wp2_with fail
            refine (DE.out _).mono ?_
            rintro e w1 ⟨rfl, hb1⟩
            replace HB := HB.trans hb1
            clear hb1
            go_wp2_with fail
            go_ret
            exact ⟨rfl, HB⟩

end Go.Proofs.YtgdlcoicejgdkaaDoor
