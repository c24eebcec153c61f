/- bedrockref2.Parse: the ends behind its digits (printed by a program). By an AI agent. -/
import Derived.Test.YtgdlcoicejgdkaaDoorRefW4
set_option linter.unusedVariables false
namespace Go.Proofs.YtgdlcoicejgdkaaDoor
open Go.RowKit

/-- digits that are odd, and how many there are -/
structure OddOf (M z B : Nat) (e0 : Int) : Prop where
  odd : M % 2 = 1
  lt : M * 2 ^ z < 9007199254740992
  bits : ∀ k, 2 ^ k ≤ M ↔ k < B
  b53 : B ≤ 53
  z52 : z ≤ 52
  e : -100000 ≤ e0 ∧ e0 ≤ 100000
theorem shl_le {M B n : Nat} (h : ∀ k, 2 ^ k ≤ M ↔ k < B) (hn : n ≤ 53) : decide (wrap64 ((2 : Int) ^ n) ≤ (M : Int)) = decide (n < B) := by
  have e : (2 : Int) ^ n = ((2 ^ n : Nat) : Int) := by simp
  have b : 2 ^ n ≤ 2 ^ 53 := Nat.pow_le_pow_right (by decide) hn
  have w : wrap64 ((2 : Int) ^ n) = ((2 ^ n : Nat) : Int) := by
    rw [e]
    generalize 2 ^ n = X at *
    unfold wrap64; omega
  rw [w]
  apply decide_eq_decide.2
  rw [← h n]
  omega
theorem OddOf.step {M z B : Nat} {e0 : Int} (h : OddOf M z B e0) {j A : Nat} (hj : j ≤ z) (hA : A = M * 2 ^ (z - j)) : 0 < A ∧ A < 9007199254740992 ∧ (j < z → A % 2 = 0 ∧ A / 2 = M * 2 ^ (z - (j + 1))) ∧ (j = z → A = M) := by
  have h0 : 0 < M := by have := h.odd; omega
  refine ⟨?_, ?_, ?_, ?_⟩
  · rw [hA]; exact Nat.mul_pos h0 (Nat.two_pow_pos _)
  · rw [hA]
    exact Nat.lt_of_le_of_lt (Nat.mul_le_mul_left _ (Nat.pow_le_pow_right (by decide) (by omega))) h.lt
  · intro hlt
    have e : A = M * 2 ^ (z - (j + 1)) * 2 := by
      rw [hA, show z - j = z - (j + 1) + 1 by omega, Nat.pow_succ, ← Nat.mul_assoc]
    rw [e]; omega
  · rintro rfl; rw [hA, Nat.sub_self, Nat.pow_zero, Nat.mul_one]

set_option maxHeartbeats 1600000 in
set_option maxRecDepth 100000 in
theorem refparse_far_p_below (s r : ByteArray) (D : Nat) (w : World) (h1 : (s.toList == [110, 97, 110]) = false) (h2 : (s.toList == [105, 110, 102]) = false) (h3 : (s.toList == [45, 105, 110, 102]) = false) (hsz : s.size ≤ 140737488351232) (hp : 0 < s.size) (q : ((s[0].toNat : Int) == 45) = true) (e : s.extract 1 s.size = r) (hrs : r.size ≤ 140737488351232) (hD : D ≤ r.size) (hdig : Hid (∀ k (_ : k < r.size), k < D → 48 ≤ r[k].toNat ∧ r[k].toNat ≤ 57)) (hlt : D < r.size) (q7 : (r[D].toNat : Int) = 112) (q5 : decide ((5 : Int) < (r.size : Int) - (D : Int) - 1) = false) (t : ByteArray) (ht : r.extract (D + 1) r.size = t) (d : ByteArray) (hd : r.extract 0 D = d) (tv : Int) (T : Hid (∀ w, Calls Tryd.prog 87 #[.string t] w fun e w' => e = .returned (.tuple #[.int .i64 tv, .int .i64 0]) ∧ Bl w w')) (M z B A0 : Nat) (HA0 : Hid (A0 = M * 2 ^ (z - 0))) (G : Hid (OddOf M z B tv)) (H : Hid (∀ w, Calls Tryd.prog 87 #[.string d] w fun e w' => e = .returned (.tuple #[.int .i64 A0, .int .i64 0]) ∧ Bl w w')) (q8 : decide ((1024 : Int) < (B : Int) + (tv + (z : Int))) = true) :
    Calls Tryd.prog 32 #[.string s] w fun e w' => e = .returned (.tuple #[.float .f64 (0), .int .i64 11]) ∧ Bl w w' := by
  go_enter Tryd.func32, Tryd.ntmps32
  go_wp2_with fail
  go_loop [5] (fun i => ∃ k : Nat, k ≤ D ∧ i = .int .i64 k) (fun i => D - (intOf i).toNat)
  case atStart => exact ⟨0, Nat.zero_le _, rfl⟩
  case round =>
    obtain ⟨k, hk, rfl⟩ := hrel
    by_cases hlt : k < D
    · have hkr : k < r.size := by omega
      obtain ⟨d1, d2⟩ := hdig.out k hkr hlt
      have q1 : decide ((48 : Int) ≤ (r[k].toNat : Int)) = true := by simp; omega
      have q2 : decide ((r[k].toNat : Int) ≤ 57) = true := by simp; omega
      go_wp2_with fail
      go_round
      case rel => exact ⟨k + 1, by omega, by go_num⟩
      case measure => simp [intOf]; omega
    · obtain rfl : k = D := by omega
      clear hlt
      have HB := Bl.refl w
      obtain ⟨a00, a01, _, _⟩ := G.out.step (Nat.zero_le _) HA0.out
      have qa : decide ((9007199254740992 : Int) ≤ (A0 : Int)) = false := by simp; omega
      have qb : decide ((0 : Int) < (A0 : Int)) = true := by simp; omega
      go_wp2_with fail
      refine (T.out _).mono ?_
      rintro e w1 ⟨rfl, hb1⟩
      replace HB := HB.trans hb1
      clear hb1
      go_wp2_with fail
      refine (H.out _).mono ?_
      rintro e w1 ⟨rfl, hb1⟩
      replace HB := HB.trans hb1
      clear hb1
      go_wp2_with fail
      go_loop [9, 6] (fun m e => ∃ j A : Nat, j ≤ z ∧ m = .int .i64 A ∧ e = .int .i64 (tv + (j : Int)) ∧ A = M * 2 ^ (z - j)) (fun _ e => z - (intOf e - (tv)).toNat)
      case atStart => exact ⟨0, A0, Nat.zero_le _, rfl, by go_num, HA0.out⟩
      case round =>
        obtain ⟨j, A, hj, rfl, rfl, hA⟩ := hrel
        obtain ⟨a0, a1, a2, a3⟩ := G.out.step hj hA
        have HA := Lib.hid hA
        clear hA
        have zz := G.out.z52
        obtain ⟨e1, e2⟩ := G.out.e
        by_cases hjz : j < z
        · obtain ⟨b1, b2⟩ := a2 hjz
          have B2 := Lib.hid b2
          have qe : ((A : Int) % 2 == 0) = true := by simp; omega
          clear a2 a3 b1 b2
          go_wp2_with fail
          go_round
          case rel => exact ⟨j + 1, A / 2, by omega, rfl, by go_num, B2.out⟩
          case measure => simp [intOf]; omega
        · obtain rfl : j = z := by omega
          obtain rfl : A = M := a3 rfl
          have oo := G.out.odd
          have qe : ((A : Int) % 2 == 0) = false := by simp; omega
          clear a2 a3 HA oo hjz
          have bb := G.out.b53
          go_wp2_with fail
          go_loop [12] (fun i => ∃ k : Nat, k ≤ B ∧ i = .int .i64 k) (fun i => B - (intOf i).toNat)
          case atStart => exact ⟨0, Nat.zero_le _, rfl⟩
          case round =>
            obtain ⟨n, hn, rfl⟩ := hrel
            have hn2 := G.out.bits n
            by_cases hnB : n < B
            · have q2 := hn2.2 hnB
              clear hn2
              have qk := shl_le G.out.bits (show n ≤ 53 by omega)
              rw [decide_eq_true hnB] at qk
              go_wp2_with fail
              go_round
              case rel => exact ⟨n + 1, by omega, by go_num⟩
              case measure => simp [intOf]; omega
            · obtain rfl : n = B := by omega
              have qk := shl_le G.out.bits (show n ≤ 53 by omega)
              rw [decide_eq_false hnB] at qk
              clear hn2 hnB hn
              go_wp2_with fail
              go_ret2
              exact ⟨rfl, HB⟩

set_option maxHeartbeats 1600000 in
set_option maxRecDepth 100000 in
theorem refparse_deep_p_below (s r : ByteArray) (D : Nat) (w : World) (h1 : (s.toList == [110, 97, 110]) = false) (h2 : (s.toList == [105, 110, 102]) = false) (h3 : (s.toList == [45, 105, 110, 102]) = false) (hsz : s.size ≤ 140737488351232) (hp : 0 < s.size) (q : ((s[0].toNat : Int) == 45) = true) (e : s.extract 1 s.size = r) (hrs : r.size ≤ 140737488351232) (hD : D ≤ r.size) (hdig : Hid (∀ k (_ : k < r.size), k < D → 48 ≤ r[k].toNat ∧ r[k].toNat ≤ 57)) (hlt : D < r.size) (q7 : (r[D].toNat : Int) = 112) (q5 : decide ((5 : Int) < (r.size : Int) - (D : Int) - 1) = false) (t : ByteArray) (ht : r.extract (D + 1) r.size = t) (d : ByteArray) (hd : r.extract 0 D = d) (tv : Int) (T : Hid (∀ w, Calls Tryd.prog 87 #[.string t] w fun e w' => e = .returned (.tuple #[.int .i64 tv, .int .i64 0]) ∧ Bl w w')) (M z B A0 : Nat) (HA0 : Hid (A0 = M * 2 ^ (z - 0))) (G : Hid (OddOf M z B tv)) (H : Hid (∀ w, Calls Tryd.prog 87 #[.string d] w fun e w' => e = .returned (.tuple #[.int .i64 A0, .int .i64 0]) ∧ Bl w w')) (q8 : decide ((1024 : Int) < (B : Int) + (tv + (z : Int))) = false) (q9 : decide ((tv + (z : Int)) < (-1074 : Int)) = true) :
    Calls Tryd.prog 32 #[.string s] w fun e w' => e = .returned (.tuple #[.float .f64 (0), .int .i64 11]) ∧ Bl w w' := by
  go_enter Tryd.func32, Tryd.ntmps32
  go_wp2_with fail
  go_loop [5] (fun i => ∃ k : Nat, k ≤ D ∧ i = .int .i64 k) (fun i => D - (intOf i).toNat)
  case atStart => exact ⟨0, Nat.zero_le _, rfl⟩
  case round =>
    obtain ⟨k, hk, rfl⟩ := hrel
    by_cases hlt : k < D
    · have hkr : k < r.size := by omega
      obtain ⟨d1, d2⟩ := hdig.out k hkr hlt
      have q1 : decide ((48 : Int) ≤ (r[k].toNat : Int)) = true := by simp; omega
      have q2 : decide ((r[k].toNat : Int) ≤ 57) = true := by simp; omega
      go_wp2_with fail
      go_round
      case rel => exact ⟨k + 1, by omega, by go_num⟩
      case measure => simp [intOf]; omega
    · obtain rfl : k = D := by omega
      clear hlt
      have HB := Bl.refl w
      obtain ⟨a00, a01, _, _⟩ := G.out.step (Nat.zero_le _) HA0.out
      have qa : decide ((9007199254740992 : Int) ≤ (A0 : Int)) = false := by simp; omega
      have qb : decide ((0 : Int) < (A0 : Int)) = true := by simp; omega
      go_wp2_with fail
      refine (T.out _).mono ?_
      rintro e w1 ⟨rfl, hb1⟩
      replace HB := HB.trans hb1
      clear hb1
      go_wp2_with fail
      refine (H.out _).mono ?_
      rintro e w1 ⟨rfl, hb1⟩
      replace HB := HB.trans hb1
      clear hb1
      go_wp2_with fail
      go_loop [9, 6] (fun m e => ∃ j A : Nat, j ≤ z ∧ m = .int .i64 A ∧ e = .int .i64 (tv + (j : Int)) ∧ A = M * 2 ^ (z - j)) (fun _ e => z - (intOf e - (tv)).toNat)
      case atStart => exact ⟨0, A0, Nat.zero_le _, rfl, by go_num, HA0.out⟩
      case round =>
        obtain ⟨j, A, hj, rfl, rfl, hA⟩ := hrel
        obtain ⟨a0, a1, a2, a3⟩ := G.out.step hj hA
        have HA := Lib.hid hA
        clear hA
        have zz := G.out.z52
        obtain ⟨e1, e2⟩ := G.out.e
        by_cases hjz : j < z
        · obtain ⟨b1, b2⟩ := a2 hjz
          have B2 := Lib.hid b2
          have qe : ((A : Int) % 2 == 0) = true := by simp; omega
          clear a2 a3 b1 b2
          go_wp2_with fail
          go_round
          case rel => exact ⟨j + 1, A / 2, by omega, rfl, by go_num, B2.out⟩
          case measure => simp [intOf]; omega
        · obtain rfl : j = z := by omega
          obtain rfl : A = M := a3 rfl
          have oo := G.out.odd
          have qe : ((A : Int) % 2 == 0) = false := by simp; omega
          clear a2 a3 HA oo hjz
          have bb := G.out.b53
          go_wp2_with fail
          go_loop [12] (fun i => ∃ k : Nat, k ≤ B ∧ i = .int .i64 k) (fun i => B - (intOf i).toNat)
          case atStart => exact ⟨0, Nat.zero_le _, rfl⟩
          case round =>
            obtain ⟨n, hn, rfl⟩ := hrel
            have hn2 := G.out.bits n
            by_cases hnB : n < B
            · have q2 := hn2.2 hnB
              clear hn2
              have qk := shl_le G.out.bits (show n ≤ 53 by omega)
              rw [decide_eq_true hnB] at qk
              go_wp2_with fail
              go_round
              case rel => exact ⟨n + 1, by omega, by go_num⟩
              case measure => simp [intOf]; omega
            · obtain rfl : n = B := by omega
              have qk := shl_le G.out.bits (show n ≤ 53 by omega)
              rw [decide_eq_false hnB] at qk
              clear hn2 hnB hn
              go_wp2_with fail
              go_ret2
              exact ⟨rfl, HB⟩

set_option maxHeartbeats 1600000 in
set_option maxRecDepth 100000 in
theorem refparse_fin_p_below (s r : ByteArray) (D : Nat) (w : World) (h1 : (s.toList == [110, 97, 110]) = false) (h2 : (s.toList == [105, 110, 102]) = false) (h3 : (s.toList == [45, 105, 110, 102]) = false) (hsz : s.size ≤ 140737488351232) (hp : 0 < s.size) (q : ((s[0].toNat : Int) == 45) = true) (e : s.extract 1 s.size = r) (hrs : r.size ≤ 140737488351232) (hD : D ≤ r.size) (hdig : Hid (∀ k (_ : k < r.size), k < D → 48 ≤ r[k].toNat ∧ r[k].toNat ≤ 57)) (hlt : D < r.size) (q7 : (r[D].toNat : Int) = 112) (q5 : decide ((5 : Int) < (r.size : Int) - (D : Int) - 1) = false) (t : ByteArray) (ht : r.extract (D + 1) r.size = t) (d : ByteArray) (hd : r.extract 0 D = d) (tv : Int) (T : Hid (∀ w, Calls Tryd.prog 87 #[.string t] w fun e w' => e = .returned (.tuple #[.int .i64 tv, .int .i64 0]) ∧ Bl w w')) (M z B A0 : Nat) (HA0 : Hid (A0 = M * 2 ^ (z - 0))) (G : Hid (OddOf M z B tv)) (H : Hid (∀ w, Calls Tryd.prog 87 #[.string d] w fun e w' => e = .returned (.tuple #[.int .i64 A0, .int .i64 0]) ∧ Bl w w')) (q8 : decide ((1024 : Int) < (B : Int) + (tv + (z : Int))) = false) (q9 : decide ((tv + (z : Int)) < (-1074 : Int)) = false) (x f : Nat) (hfl : floatOfInt .f64 (M : Int) = x) (hf : f < two63) (L : Hid (∀ w, Calls Tryd.prog 88 #[.float .f64 x, .int .i64 (tv + (z : Int))] w fun e w' => e = .returned (.float .f64 f) ∧ w = w')) :
    Calls Tryd.prog 32 #[.string s] w fun e w' => e = .returned (.tuple #[.float .f64 (f + two63), .int .i64 0]) ∧ Bl w w' := by
  go_enter Tryd.func32, Tryd.ntmps32
  go_wp2_with fail
  go_loop [5] (fun i => ∃ k : Nat, k ≤ D ∧ i = .int .i64 k) (fun i => D - (intOf i).toNat)
  case atStart => exact ⟨0, Nat.zero_le _, rfl⟩
  case round =>
    obtain ⟨k, hk, rfl⟩ := hrel
    by_cases hlt : k < D
    · have hkr : k < r.size := by omega
      obtain ⟨d1, d2⟩ := hdig.out k hkr hlt
      have q1 : decide ((48 : Int) ≤ (r[k].toNat : Int)) = true := by simp; omega
      have q2 : decide ((r[k].toNat : Int) ≤ 57) = true := by simp; omega
      go_wp2_with fail
      go_round
      case rel => exact ⟨k + 1, by omega, by go_num⟩
      case measure => simp [intOf]; omega
    · obtain rfl : k = D := by omega
      clear hlt
      have HB := Bl.refl w
      obtain ⟨a00, a01, _, _⟩ := G.out.step (Nat.zero_le _) HA0.out
      have qa : decide ((9007199254740992 : Int) ≤ (A0 : Int)) = false := by simp; omega
      have qb : decide ((0 : Int) < (A0 : Int)) = true := by simp; omega
      go_wp2_with fail
      refine (T.out _).mono ?_
      rintro e w1 ⟨rfl, hb1⟩
      replace HB := HB.trans hb1
      clear hb1
      go_wp2_with fail
      refine (H.out _).mono ?_
      rintro e w1 ⟨rfl, hb1⟩
      replace HB := HB.trans hb1
      clear hb1
      go_wp2_with fail
      go_loop [9, 6] (fun m e => ∃ j A : Nat, j ≤ z ∧ m = .int .i64 A ∧ e = .int .i64 (tv + (j : Int)) ∧ A = M * 2 ^ (z - j)) (fun _ e => z - (intOf e - (tv)).toNat)
      case atStart => exact ⟨0, A0, Nat.zero_le _, rfl, by go_num, HA0.out⟩
      case round =>
        obtain ⟨j, A, hj, rfl, rfl, hA⟩ := hrel
        obtain ⟨a0, a1, a2, a3⟩ := G.out.step hj hA
        have HA := Lib.hid hA
        clear hA
        have zz := G.out.z52
        obtain ⟨e1, e2⟩ := G.out.e
        by_cases hjz : j < z
        · obtain ⟨b1, b2⟩ := a2 hjz
          have B2 := Lib.hid b2
          have qe : ((A : Int) % 2 == 0) = true := by simp; omega
          clear a2 a3 b1 b2
          go_wp2_with fail
          go_round
          case rel => exact ⟨j + 1, A / 2, by omega, rfl, by go_num, B2.out⟩
          case measure => simp [intOf]; omega
        · obtain rfl : j = z := by omega
          obtain rfl : A = M := a3 rfl
          have oo := G.out.odd
          have qe : ((A : Int) % 2 == 0) = false := by simp; omega
          clear a2 a3 HA oo hjz
          have bb := G.out.b53
          go_wp2_with fail
          go_loop [12] (fun i => ∃ k : Nat, k ≤ B ∧ i = .int .i64 k) (fun i => B - (intOf i).toNat)
          case atStart => exact ⟨0, Nat.zero_le _, rfl⟩
          case round =>
            obtain ⟨n, hn, rfl⟩ := hrel
            have hn2 := G.out.bits n
            by_cases hnB : n < B
            · have q2 := hn2.2 hnB
              clear hn2
              have qk := shl_le G.out.bits (show n ≤ 53 by omega)
              rw [decide_eq_true hnB] at qk
              go_wp2_with fail
              go_round
              case rel => exact ⟨n + 1, by omega, by go_num⟩
              case measure => simp [intOf]; omega
            · obtain rfl : n = B := by omega
              have qk := shl_le G.out.bits (show n ≤ 53 by omega)
              rw [decide_eq_false hnB] at qk
              clear hn2 hnB hn
              go_wp2_with fail
              refine (L.out _).mono ?_
              rintro e w1 ⟨rfl, rfl⟩
              go_wp2_with fail
              refine (copysign_neg f _ hf).mono ?_
              rintro e w1 ⟨rfl, rfl⟩
              go_wp2_with fail
              go_ret2
              exact ⟨rfl, HB⟩

set_option maxHeartbeats 1600000 in
set_option maxRecDepth 100000 in
theorem refparse_far_n_below (s r : ByteArray) (D : Nat) (w : World) (h1 : (s.toList == [110, 97, 110]) = false) (h2 : (s.toList == [105, 110, 102]) = false) (h3 : (s.toList == [45, 105, 110, 102]) = false) (hsz : s.size ≤ 140737488351232) (hp : 0 < s.size) (q : ((s[0].toNat : Int) == 45) = true) (e : s.extract 1 s.size = r) (hrs : r.size ≤ 140737488351232) (hD : D ≤ r.size) (hdig : Hid (∀ k (_ : k < r.size), k < D → 48 ≤ r[k].toNat ∧ r[k].toNat ≤ 57)) (hlt : D = r.size) (M z B A0 : Nat) (HA0 : Hid (A0 = M * 2 ^ (z - 0))) (G : Hid (OddOf M z B 0)) (H : Hid (∀ w, Calls Tryd.prog 87 #[.string r] w fun e w' => e = .returned (.tuple #[.int .i64 A0, .int .i64 0]) ∧ Bl w w')) (q8 : decide ((1024 : Int) < (B : Int) + (z : Int)) = true) :
    Calls Tryd.prog 32 #[.string s] w fun e w' => e = .returned (.tuple #[.float .f64 (0), .int .i64 11]) ∧ Bl w w' := by
  go_enter Tryd.func32, Tryd.ntmps32
  go_wp2_with fail
  go_loop [5] (fun i => ∃ k : Nat, k ≤ D ∧ i = .int .i64 k) (fun i => D - (intOf i).toNat)
  case atStart => exact ⟨0, Nat.zero_le _, rfl⟩
  case round =>
    obtain ⟨k, hk, rfl⟩ := hrel
    by_cases hlt : k < D
    · have hkr : k < r.size := by omega
      obtain ⟨d1, d2⟩ := hdig.out k hkr hlt
      have q1 : decide ((48 : Int) ≤ (r[k].toNat : Int)) = true := by simp; omega
      have q2 : decide ((r[k].toNat : Int) ≤ 57) = true := by simp; omega
      go_wp2_with fail
      go_round
      case rel => exact ⟨k + 1, by omega, by go_num⟩
      case measure => simp [intOf]; omega
    · obtain rfl : k = D := by omega
      clear hlt
      have HB := Bl.refl w
      obtain ⟨a00, a01, _, _⟩ := G.out.step (Nat.zero_le _) HA0.out
      have qa : decide ((9007199254740992 : Int) ≤ (A0 : Int)) = false := by simp; omega
      have qb : decide ((0 : Int) < (A0 : Int)) = true := by simp; omega
      go_wp2_with fail
      refine (H.out _).mono ?_
      rintro e w1 ⟨rfl, hb1⟩
      replace HB := HB.trans hb1
      clear hb1
      go_wp2_with fail
      go_loop [9, 6] (fun m e => ∃ j A : Nat, j ≤ z ∧ m = .int .i64 A ∧ e = .int .i64 (0 + (j : Int)) ∧ A = M * 2 ^ (z - j)) (fun _ e => z - (intOf e - (0)).toNat)
      case atStart => exact ⟨0, A0, Nat.zero_le _, rfl, by go_num, HA0.out⟩
      case round =>
        obtain ⟨j, A, hj, rfl, rfl, hA⟩ := hrel
        obtain ⟨a0, a1, a2, a3⟩ := G.out.step hj hA
        have HA := Lib.hid hA
        clear hA
        have zz := G.out.z52
        obtain ⟨e1, e2⟩ := G.out.e
        by_cases hjz : j < z
        · obtain ⟨b1, b2⟩ := a2 hjz
          have B2 := Lib.hid b2
          have qe : ((A : Int) % 2 == 0) = true := by simp; omega
          clear a2 a3 b1 b2
          go_wp2_with fail
          go_round
          case rel => exact ⟨j + 1, A / 2, by omega, rfl, by go_num, B2.out⟩
          case measure => simp [intOf]; omega
        · obtain rfl : j = z := by omega
          obtain rfl : A = M := a3 rfl
          have oo := G.out.odd
          have qe : ((A : Int) % 2 == 0) = false := by simp; omega
          clear a2 a3 HA oo hjz
          have bb := G.out.b53
          go_wp2_with fail
          go_loop [12] (fun i => ∃ k : Nat, k ≤ B ∧ i = .int .i64 k) (fun i => B - (intOf i).toNat)
          case atStart => exact ⟨0, Nat.zero_le _, rfl⟩
          case round =>
            obtain ⟨n, hn, rfl⟩ := hrel
            have hn2 := G.out.bits n
            by_cases hnB : n < B
            · have q2 := hn2.2 hnB
              clear hn2
              have qk := shl_le G.out.bits (show n ≤ 53 by omega)
              rw [decide_eq_true hnB] at qk
              go_wp2_with fail
              go_round
              case rel => exact ⟨n + 1, by omega, by go_num⟩
              case measure => simp [intOf]; omega
            · obtain rfl : n = B := by omega
              have qk := shl_le G.out.bits (show n ≤ 53 by omega)
              rw [decide_eq_false hnB] at qk
              clear hn2 hnB hn
              go_wp2_with fail
              go_ret2
              exact ⟨rfl, HB⟩

set_option maxHeartbeats 1600000 in
set_option maxRecDepth 100000 in
theorem refparse_deep_n_below (s r : ByteArray) (D : Nat) (w : World) (h1 : (s.toList == [110, 97, 110]) = false) (h2 : (s.toList == [105, 110, 102]) = false) (h3 : (s.toList == [45, 105, 110, 102]) = false) (hsz : s.size ≤ 140737488351232) (hp : 0 < s.size) (q : ((s[0].toNat : Int) == 45) = true) (e : s.extract 1 s.size = r) (hrs : r.size ≤ 140737488351232) (hD : D ≤ r.size) (hdig : Hid (∀ k (_ : k < r.size), k < D → 48 ≤ r[k].toNat ∧ r[k].toNat ≤ 57)) (hlt : D = r.size) (M z B A0 : Nat) (HA0 : Hid (A0 = M * 2 ^ (z - 0))) (G : Hid (OddOf M z B 0)) (H : Hid (∀ w, Calls Tryd.prog 87 #[.string r] w fun e w' => e = .returned (.tuple #[.int .i64 A0, .int .i64 0]) ∧ Bl w w')) (q8 : decide ((1024 : Int) < (B : Int) + (z : Int)) = false) (q9 : decide ((z : Int) < (-1074 : Int)) = true) :
    Calls Tryd.prog 32 #[.string s] w fun e w' => e = .returned (.tuple #[.float .f64 (0), .int .i64 11]) ∧ Bl w w' := by
  go_enter Tryd.func32, Tryd.ntmps32
  go_wp2_with fail
  go_loop [5] (fun i => ∃ k : Nat, k ≤ D ∧ i = .int .i64 k) (fun i => D - (intOf i).toNat)
  case atStart => exact ⟨0, Nat.zero_le _, rfl⟩
  case round =>
    obtain ⟨k, hk, rfl⟩ := hrel
    by_cases hlt : k < D
    · have hkr : k < r.size := by omega
      obtain ⟨d1, d2⟩ := hdig.out k hkr hlt
      have q1 : decide ((48 : Int) ≤ (r[k].toNat : Int)) = true := by simp; omega
      have q2 : decide ((r[k].toNat : Int) ≤ 57) = true := by simp; omega
      go_wp2_with fail
      go_round
      case rel => exact ⟨k + 1, by omega, by go_num⟩
      case measure => simp [intOf]; omega
    · obtain rfl : k = D := by omega
      clear hlt
      have HB := Bl.refl w
      obtain ⟨a00, a01, _, _⟩ := G.out.step (Nat.zero_le _) HA0.out
      have qa : decide ((9007199254740992 : Int) ≤ (A0 : Int)) = false := by simp; omega
      have qb : decide ((0 : Int) < (A0 : Int)) = true := by simp; omega
      go_wp2_with fail
      refine (H.out _).mono ?_
      rintro e w1 ⟨rfl, hb1⟩
      replace HB := HB.trans hb1
      clear hb1
      go_wp2_with fail
      go_loop [9, 6] (fun m e => ∃ j A : Nat, j ≤ z ∧ m = .int .i64 A ∧ e = .int .i64 (0 + (j : Int)) ∧ A = M * 2 ^ (z - j)) (fun _ e => z - (intOf e - (0)).toNat)
      case atStart => exact ⟨0, A0, Nat.zero_le _, rfl, by go_num, HA0.out⟩
      case round =>
        obtain ⟨j, A, hj, rfl, rfl, hA⟩ := hrel
        obtain ⟨a0, a1, a2, a3⟩ := G.out.step hj hA
        have HA := Lib.hid hA
        clear hA
        have zz := G.out.z52
        obtain ⟨e1, e2⟩ := G.out.e
        by_cases hjz : j < z
        · obtain ⟨b1, b2⟩ := a2 hjz
          have B2 := Lib.hid b2
          have qe : ((A : Int) % 2 == 0) = true := by simp; omega
          clear a2 a3 b1 b2
          go_wp2_with fail
          go_round
          case rel => exact ⟨j + 1, A / 2, by omega, rfl, by go_num, B2.out⟩
          case measure => simp [intOf]; omega
        · obtain rfl : j = z := by omega
          obtain rfl : A = M := a3 rfl
          have oo := G.out.odd
          have qe : ((A : Int) % 2 == 0) = false := by simp; omega
          clear a2 a3 HA oo hjz
          have bb := G.out.b53
          go_wp2_with fail
          go_loop [12] (fun i => ∃ k : Nat, k ≤ B ∧ i = .int .i64 k) (fun i => B - (intOf i).toNat)
          case atStart => exact ⟨0, Nat.zero_le _, rfl⟩
          case round =>
            obtain ⟨n, hn, rfl⟩ := hrel
            have hn2 := G.out.bits n
            by_cases hnB : n < B
            · have q2 := hn2.2 hnB
              clear hn2
              have qk := shl_le G.out.bits (show n ≤ 53 by omega)
              rw [decide_eq_true hnB] at qk
              go_wp2_with fail
              go_round
              case rel => exact ⟨n + 1, by omega, by go_num⟩
              case measure => simp [intOf]; omega
            · obtain rfl : n = B := by omega
              have qk := shl_le G.out.bits (show n ≤ 53 by omega)
              rw [decide_eq_false hnB] at qk
              clear hn2 hnB hn
              go_wp2_with fail
              go_ret2
              exact ⟨rfl, HB⟩

set_option maxHeartbeats 1600000 in
set_option maxRecDepth 100000 in
theorem refparse_fin_n_below (s r : ByteArray) (D : Nat) (w : World) (h1 : (s.toList == [110, 97, 110]) = false) (h2 : (s.toList == [105, 110, 102]) = false) (h3 : (s.toList == [45, 105, 110, 102]) = false) (hsz : s.size ≤ 140737488351232) (hp : 0 < s.size) (q : ((s[0].toNat : Int) == 45) = true) (e : s.extract 1 s.size = r) (hrs : r.size ≤ 140737488351232) (hD : D ≤ r.size) (hdig : Hid (∀ k (_ : k < r.size), k < D → 48 ≤ r[k].toNat ∧ r[k].toNat ≤ 57)) (hlt : D = r.size) (M z B A0 : Nat) (HA0 : Hid (A0 = M * 2 ^ (z - 0))) (G : Hid (OddOf M z B 0)) (H : Hid (∀ w, Calls Tryd.prog 87 #[.string r] w fun e w' => e = .returned (.tuple #[.int .i64 A0, .int .i64 0]) ∧ Bl w w')) (q8 : decide ((1024 : Int) < (B : Int) + (z : Int)) = false) (q9 : decide ((z : Int) < (-1074 : Int)) = false) (x f : Nat) (hfl : floatOfInt .f64 (M : Int) = x) (hf : f < two63) (L : Hid (∀ w, Calls Tryd.prog 88 #[.float .f64 x, .int .i64 (z : Int)] w fun e w' => e = .returned (.float .f64 f) ∧ w = w')) :
    Calls Tryd.prog 32 #[.string s] w fun e w' => e = .returned (.tuple #[.float .f64 (f + two63), .int .i64 0]) ∧ Bl w w' := by
  go_enter Tryd.func32, Tryd.ntmps32
  go_wp2_with fail
  go_loop [5] (fun i => ∃ k : Nat, k ≤ D ∧ i = .int .i64 k) (fun i => D - (intOf i).toNat)
  case atStart => exact ⟨0, Nat.zero_le _, rfl⟩
  case round =>
    obtain ⟨k, hk, rfl⟩ := hrel
    by_cases hlt : k < D
    · have hkr : k < r.size := by omega
      obtain ⟨d1, d2⟩ := hdig.out k hkr hlt
      have q1 : decide ((48 : Int) ≤ (r[k].toNat : Int)) = true := by simp; omega
      have q2 : decide ((r[k].toNat : Int) ≤ 57) = true := by simp; omega
      go_wp2_with fail
      go_round
      case rel => exact ⟨k + 1, by omega, by go_num⟩
      case measure => simp [intOf]; omega
    · obtain rfl : k = D := by omega
      clear hlt
      have HB := Bl.refl w
      obtain ⟨a00, a01, _, _⟩ := G.out.step (Nat.zero_le _) HA0.out
      have qa : decide ((9007199254740992 : Int) ≤ (A0 : Int)) = false := by simp; omega
      have qb : decide ((0 : Int) < (A0 : Int)) = true := by simp; omega
      go_wp2_with fail
      refine (H.out _).mono ?_
      rintro e w1 ⟨rfl, hb1⟩
      replace HB := HB.trans hb1
      clear hb1
      go_wp2_with fail
      go_loop [9, 6] (fun m e => ∃ j A : Nat, j ≤ z ∧ m = .int .i64 A ∧ e = .int .i64 (0 + (j : Int)) ∧ A = M * 2 ^ (z - j)) (fun _ e => z - (intOf e - (0)).toNat)
      case atStart => exact ⟨0, A0, Nat.zero_le _, rfl, by go_num, HA0.out⟩
      case round =>
        obtain ⟨j, A, hj, rfl, rfl, hA⟩ := hrel
        obtain ⟨a0, a1, a2, a3⟩ := G.out.step hj hA
        have HA := Lib.hid hA
        clear hA
        have zz := G.out.z52
        obtain ⟨e1, e2⟩ := G.out.e
        by_cases hjz : j < z
        · obtain ⟨b1, b2⟩ := a2 hjz
          have B2 := Lib.hid b2
          have qe : ((A : Int) % 2 == 0) = true := by simp; omega
          clear a2 a3 b1 b2
          go_wp2_with fail
          go_round
          case rel => exact ⟨j + 1, A / 2, by omega, rfl, by go_num, B2.out⟩
          case measure => simp [intOf]; omega
        · obtain rfl : j = z := by omega
          obtain rfl : A = M := a3 rfl
          have oo := G.out.odd
          have qe : ((A : Int) % 2 == 0) = false := by simp; omega
          clear a2 a3 HA oo hjz
          have bb := G.out.b53
          go_wp2_with fail
          go_loop [12] (fun i => ∃ k : Nat, k ≤ B ∧ i = .int .i64 k) (fun i => B - (intOf i).toNat)
          case atStart => exact ⟨0, Nat.zero_le _, rfl⟩
          case round =>
            obtain ⟨n, hn, rfl⟩ := hrel
            have hn2 := G.out.bits n
            by_cases hnB : n < B
            · have q2 := hn2.2 hnB
              clear hn2
              have qk := shl_le G.out.bits (show n ≤ 53 by omega)
              rw [decide_eq_true hnB] at qk
              go_wp2_with fail
              go_round
              case rel => exact ⟨n + 1, by omega, by go_num⟩
              case measure => simp [intOf]; omega
            · obtain rfl : n = B := by omega
              have qk := shl_le G.out.bits (show n ≤ 53 by omega)
              rw [decide_eq_false hnB] at qk
              clear hn2 hnB hn
              go_wp2_with fail
              refine (L.out _).mono ?_
              rintro e w1 ⟨rfl, rfl⟩
              go_wp2_with fail
              refine (copysign_neg f _ hf).mono ?_
              rintro e w1 ⟨rfl, rfl⟩
              go_wp2_with fail
              go_ret2
              exact ⟨rfl, HB⟩

set_option maxHeartbeats 1600000 in
set_option maxRecDepth 100000 in
theorem refparse_far_p_plain (s r : ByteArray) (D : Nat) (w : World) (h1 : (s.toList == [110, 97, 110]) = false) (h2 : (s.toList == [105, 110, 102]) = false) (h3 : (s.toList == [45, 105, 110, 102]) = false) (hsz : s.size ≤ 140737488351232) (hp : 0 < s.size) (q : ((s[0].toNat : Int) == 45) = false) (e : s = r) (hD : D ≤ r.size) (hdig : Hid (∀ k (_ : k < r.size), k < D → 48 ≤ r[k].toNat ∧ r[k].toNat ≤ 57)) (hlt : D < r.size) (q7 : (r[D].toNat : Int) = 112) (q5 : decide ((5 : Int) < (r.size : Int) - (D : Int) - 1) = false) (t : ByteArray) (ht : r.extract (D + 1) r.size = t) (d : ByteArray) (hd : r.extract 0 D = d) (tv : Int) (T : Hid (∀ w, Calls Tryd.prog 87 #[.string t] w fun e w' => e = .returned (.tuple #[.int .i64 tv, .int .i64 0]) ∧ Bl w w')) (M z B A0 : Nat) (HA0 : Hid (A0 = M * 2 ^ (z - 0))) (G : Hid (OddOf M z B tv)) (H : Hid (∀ w, Calls Tryd.prog 87 #[.string d] w fun e w' => e = .returned (.tuple #[.int .i64 A0, .int .i64 0]) ∧ Bl w w')) (q8 : decide ((1024 : Int) < (B : Int) + (tv + (z : Int))) = true) :
    Calls Tryd.prog 32 #[.string s] w fun e w' => e = .returned (.tuple #[.float .f64 (0), .int .i64 11]) ∧ Bl w w' := by
  subst e
  have hrs := hsz
  go_enter Tryd.func32, Tryd.ntmps32
  go_wp2_with fail
  go_loop [5] (fun i => ∃ k : Nat, k ≤ D ∧ i = .int .i64 k) (fun i => D - (intOf i).toNat)
  case atStart => exact ⟨0, Nat.zero_le _, rfl⟩
  case round =>
    obtain ⟨k, hk, rfl⟩ := hrel
    by_cases hlt : k < D
    · have hkr : k < s.size := by omega
      obtain ⟨d1, d2⟩ := hdig.out k hkr hlt
      have q1 : decide ((48 : Int) ≤ (s[k].toNat : Int)) = true := by simp; omega
      have q2 : decide ((s[k].toNat : Int) ≤ 57) = true := by simp; omega
      go_wp2_with fail
      go_round
      case rel => exact ⟨k + 1, by omega, by go_num⟩
      case measure => simp [intOf]; omega
    · obtain rfl : k = D := by omega
      clear hlt
      have HB := Bl.refl w
      obtain ⟨a00, a01, _, _⟩ := G.out.step (Nat.zero_le _) HA0.out
      have qa : decide ((9007199254740992 : Int) ≤ (A0 : Int)) = false := by simp; omega
      have qb : decide ((0 : Int) < (A0 : Int)) = true := by simp; omega
      go_wp2_with fail
      refine (T.out _).mono ?_
      rintro e w1 ⟨rfl, hb1⟩
      replace HB := HB.trans hb1
      clear hb1
      go_wp2_with fail
      refine (H.out _).mono ?_
      rintro e w1 ⟨rfl, hb1⟩
      replace HB := HB.trans hb1
      clear hb1
      go_wp2_with fail
      go_loop [9, 6] (fun m e => ∃ j A : Nat, j ≤ z ∧ m = .int .i64 A ∧ e = .int .i64 (tv + (j : Int)) ∧ A = M * 2 ^ (z - j)) (fun _ e => z - (intOf e - (tv)).toNat)
      case atStart => exact ⟨0, A0, Nat.zero_le _, rfl, by go_num, HA0.out⟩
      case round =>
        obtain ⟨j, A, hj, rfl, rfl, hA⟩ := hrel
        obtain ⟨a0, a1, a2, a3⟩ := G.out.step hj hA
        have HA := Lib.hid hA
        clear hA
        have zz := G.out.z52
        obtain ⟨e1, e2⟩ := G.out.e
        by_cases hjz : j < z
        · obtain ⟨b1, b2⟩ := a2 hjz
          have B2 := Lib.hid b2
          have qe : ((A : Int) % 2 == 0) = true := by simp; omega
          clear a2 a3 b1 b2
          go_wp2_with fail
          go_round
          case rel => exact ⟨j + 1, A / 2, by omega, rfl, by go_num, B2.out⟩
          case measure => simp [intOf]; omega
        · obtain rfl : j = z := by omega
          obtain rfl : A = M := a3 rfl
          have oo := G.out.odd
          have qe : ((A : Int) % 2 == 0) = false := by simp; omega
          clear a2 a3 HA oo hjz
          have bb := G.out.b53
          go_wp2_with fail
          go_loop [12] (fun i => ∃ k : Nat, k ≤ B ∧ i = .int .i64 k) (fun i => B - (intOf i).toNat)
          case atStart => exact ⟨0, Nat.zero_le _, rfl⟩
          case round =>
            obtain ⟨n, hn, rfl⟩ := hrel
            have hn2 := G.out.bits n
            by_cases hnB : n < B
            · have q2 := hn2.2 hnB
              clear hn2
              have qk := shl_le G.out.bits (show n ≤ 53 by omega)
              rw [decide_eq_true hnB] at qk
              go_wp2_with fail
              go_round
              case rel => exact ⟨n + 1, by omega, by go_num⟩
              case measure => simp [intOf]; omega
            · obtain rfl : n = B := by omega
              have qk := shl_le G.out.bits (show n ≤ 53 by omega)
              rw [decide_eq_false hnB] at qk
              clear hn2 hnB hn
              go_wp2_with fail
              go_ret2
              exact ⟨rfl, HB⟩

set_option maxHeartbeats 1600000 in
set_option maxRecDepth 100000 in
theorem refparse_deep_p_plain (s r : ByteArray) (D : Nat) (w : World) (h1 : (s.toList == [110, 97, 110]) = false) (h2 : (s.toList == [105, 110, 102]) = false) (h3 : (s.toList == [45, 105, 110, 102]) = false) (hsz : s.size ≤ 140737488351232) (hp : 0 < s.size) (q : ((s[0].toNat : Int) == 45) = false) (e : s = r) (hD : D ≤ r.size) (hdig : Hid (∀ k (_ : k < r.size), k < D → 48 ≤ r[k].toNat ∧ r[k].toNat ≤ 57)) (hlt : D < r.size) (q7 : (r[D].toNat : Int) = 112) (q5 : decide ((5 : Int) < (r.size : Int) - (D : Int) - 1) = false) (t : ByteArray) (ht : r.extract (D + 1) r.size = t) (d : ByteArray) (hd : r.extract 0 D = d) (tv : Int) (T : Hid (∀ w, Calls Tryd.prog 87 #[.string t] w fun e w' => e = .returned (.tuple #[.int .i64 tv, .int .i64 0]) ∧ Bl w w')) (M z B A0 : Nat) (HA0 : Hid (A0 = M * 2 ^ (z - 0))) (G : Hid (OddOf M z B tv)) (H : Hid (∀ w, Calls Tryd.prog 87 #[.string d] w fun e w' => e = .returned (.tuple #[.int .i64 A0, .int .i64 0]) ∧ Bl w w')) (q8 : decide ((1024 : Int) < (B : Int) + (tv + (z : Int))) = false) (q9 : decide ((tv + (z : Int)) < (-1074 : Int)) = true) :
    Calls Tryd.prog 32 #[.string s] w fun e w' => e = .returned (.tuple #[.float .f64 (0), .int .i64 11]) ∧ Bl w w' := by
  subst e
  have hrs := hsz
  go_enter Tryd.func32, Tryd.ntmps32
  go_wp2_with fail
  go_loop [5] (fun i => ∃ k : Nat, k ≤ D ∧ i = .int .i64 k) (fun i => D - (intOf i).toNat)
  case atStart => exact ⟨0, Nat.zero_le _, rfl⟩
  case round =>
    obtain ⟨k, hk, rfl⟩ := hrel
    by_cases hlt : k < D
    · have hkr : k < s.size := by omega
      obtain ⟨d1, d2⟩ := hdig.out k hkr hlt
      have q1 : decide ((48 : Int) ≤ (s[k].toNat : Int)) = true := by simp; omega
      have q2 : decide ((s[k].toNat : Int) ≤ 57) = true := by simp; omega
      go_wp2_with fail
      go_round
      case rel => exact ⟨k + 1, by omega, by go_num⟩
      case measure => simp [intOf]; omega
    · obtain rfl : k = D := by omega
      clear hlt
      have HB := Bl.refl w
      obtain ⟨a00, a01, _, _⟩ := G.out.step (Nat.zero_le _) HA0.out
      have qa : decide ((9007199254740992 : Int) ≤ (A0 : Int)) = false := by simp; omega
      have qb : decide ((0 : Int) < (A0 : Int)) = true := by simp; omega
      go_wp2_with fail
      refine (T.out _).mono ?_
      rintro e w1 ⟨rfl, hb1⟩
      replace HB := HB.trans hb1
      clear hb1
      go_wp2_with fail
      refine (H.out _).mono ?_
      rintro e w1 ⟨rfl, hb1⟩
      replace HB := HB.trans hb1
      clear hb1
      go_wp2_with fail
      go_loop [9, 6] (fun m e => ∃ j A : Nat, j ≤ z ∧ m = .int .i64 A ∧ e = .int .i64 (tv + (j : Int)) ∧ A = M * 2 ^ (z - j)) (fun _ e => z - (intOf e - (tv)).toNat)
      case atStart => exact ⟨0, A0, Nat.zero_le _, rfl, by go_num, HA0.out⟩
      case round =>
        obtain ⟨j, A, hj, rfl, rfl, hA⟩ := hrel
        obtain ⟨a0, a1, a2, a3⟩ := G.out.step hj hA
        have HA := Lib.hid hA
        clear hA
        have zz := G.out.z52
        obtain ⟨e1, e2⟩ := G.out.e
        by_cases hjz : j < z
        · obtain ⟨b1, b2⟩ := a2 hjz
          have B2 := Lib.hid b2
          have qe : ((A : Int) % 2 == 0) = true := by simp; omega
          clear a2 a3 b1 b2
          go_wp2_with fail
          go_round
          case rel => exact ⟨j + 1, A / 2, by omega, rfl, by go_num, B2.out⟩
          case measure => simp [intOf]; omega
        · obtain rfl : j = z := by omega
          obtain rfl : A = M := a3 rfl
          have oo := G.out.odd
          have qe : ((A : Int) % 2 == 0) = false := by simp; omega
          clear a2 a3 HA oo hjz
          have bb := G.out.b53
          go_wp2_with fail
          go_loop [12] (fun i => ∃ k : Nat, k ≤ B ∧ i = .int .i64 k) (fun i => B - (intOf i).toNat)
          case atStart => exact ⟨0, Nat.zero_le _, rfl⟩
          case round =>
            obtain ⟨n, hn, rfl⟩ := hrel
            have hn2 := G.out.bits n
            by_cases hnB : n < B
            · have q2 := hn2.2 hnB
              clear hn2
              have qk := shl_le G.out.bits (show n ≤ 53 by omega)
              rw [decide_eq_true hnB] at qk
              go_wp2_with fail
              go_round
              case rel => exact ⟨n + 1, by omega, by go_num⟩
              case measure => simp [intOf]; omega
            · obtain rfl : n = B := by omega
              have qk := shl_le G.out.bits (show n ≤ 53 by omega)
              rw [decide_eq_false hnB] at qk
              clear hn2 hnB hn
              go_wp2_with fail
              go_ret2
              exact ⟨rfl, HB⟩

set_option maxHeartbeats 1600000 in
set_option maxRecDepth 100000 in
theorem refparse_fin_p_plain (s r : ByteArray) (D : Nat) (w : World) (h1 : (s.toList == [110, 97, 110]) = false) (h2 : (s.toList == [105, 110, 102]) = false) (h3 : (s.toList == [45, 105, 110, 102]) = false) (hsz : s.size ≤ 140737488351232) (hp : 0 < s.size) (q : ((s[0].toNat : Int) == 45) = false) (e : s = r) (hD : D ≤ r.size) (hdig : Hid (∀ k (_ : k < r.size), k < D → 48 ≤ r[k].toNat ∧ r[k].toNat ≤ 57)) (hlt : D < r.size) (q7 : (r[D].toNat : Int) = 112) (q5 : decide ((5 : Int) < (r.size : Int) - (D : Int) - 1) = false) (t : ByteArray) (ht : r.extract (D + 1) r.size = t) (d : ByteArray) (hd : r.extract 0 D = d) (tv : Int) (T : Hid (∀ w, Calls Tryd.prog 87 #[.string t] w fun e w' => e = .returned (.tuple #[.int .i64 tv, .int .i64 0]) ∧ Bl w w')) (M z B A0 : Nat) (HA0 : Hid (A0 = M * 2 ^ (z - 0))) (G : Hid (OddOf M z B tv)) (H : Hid (∀ w, Calls Tryd.prog 87 #[.string d] w fun e w' => e = .returned (.tuple #[.int .i64 A0, .int .i64 0]) ∧ Bl w w')) (q8 : decide ((1024 : Int) < (B : Int) + (tv + (z : Int))) = false) (q9 : decide ((tv + (z : Int)) < (-1074 : Int)) = false) (x f : Nat) (hfl : floatOfInt .f64 (M : Int) = x) (hf : f < two63) (L : Hid (∀ w, Calls Tryd.prog 88 #[.float .f64 x, .int .i64 (tv + (z : Int))] w fun e w' => e = .returned (.float .f64 f) ∧ w = w')) :
    Calls Tryd.prog 32 #[.string s] w fun e w' => e = .returned (.tuple #[.float .f64 (f), .int .i64 0]) ∧ Bl w w' := by
  subst e
  have hrs := hsz
  go_enter Tryd.func32, Tryd.ntmps32
  go_wp2_with fail
  go_loop [5] (fun i => ∃ k : Nat, k ≤ D ∧ i = .int .i64 k) (fun i => D - (intOf i).toNat)
  case atStart => exact ⟨0, Nat.zero_le _, rfl⟩
  case round =>
    obtain ⟨k, hk, rfl⟩ := hrel
    by_cases hlt : k < D
    · have hkr : k < s.size := by omega
      obtain ⟨d1, d2⟩ := hdig.out k hkr hlt
      have q1 : decide ((48 : Int) ≤ (s[k].toNat : Int)) = true := by simp; omega
      have q2 : decide ((s[k].toNat : Int) ≤ 57) = true := by simp; omega
      go_wp2_with fail
      go_round
      case rel => exact ⟨k + 1, by omega, by go_num⟩
      case measure => simp [intOf]; omega
    · obtain rfl : k = D := by omega
      clear hlt
      have HB := Bl.refl w
      obtain ⟨a00, a01, _, _⟩ := G.out.step (Nat.zero_le _) HA0.out
      have qa : decide ((9007199254740992 : Int) ≤ (A0 : Int)) = false := by simp; omega
      have qb : decide ((0 : Int) < (A0 : Int)) = true := by simp; omega
      go_wp2_with fail
      refine (T.out _).mono ?_
      rintro e w1 ⟨rfl, hb1⟩
      replace HB := HB.trans hb1
      clear hb1
      go_wp2_with fail
      refine (H.out _).mono ?_
      rintro e w1 ⟨rfl, hb1⟩
      replace HB := HB.trans hb1
      clear hb1
      go_wp2_with fail
      go_loop [9, 6] (fun m e => ∃ j A : Nat, j ≤ z ∧ m = .int .i64 A ∧ e = .int .i64 (tv + (j : Int)) ∧ A = M * 2 ^ (z - j)) (fun _ e => z - (intOf e - (tv)).toNat)
      case atStart => exact ⟨0, A0, Nat.zero_le _, rfl, by go_num, HA0.out⟩
      case round =>
        obtain ⟨j, A, hj, rfl, rfl, hA⟩ := hrel
        obtain ⟨a0, a1, a2, a3⟩ := G.out.step hj hA
        have HA := Lib.hid hA
        clear hA
        have zz := G.out.z52
        obtain ⟨e1, e2⟩ := G.out.e
        by_cases hjz : j < z
        · obtain ⟨b1, b2⟩ := a2 hjz
          have B2 := Lib.hid b2
          have qe : ((A : Int) % 2 == 0) = true := by simp; omega
          clear a2 a3 b1 b2
          go_wp2_with fail
          go_round
          case rel => exact ⟨j + 1, A / 2, by omega, rfl, by go_num, B2.out⟩
          case measure => simp [intOf]; omega
        · obtain rfl : j = z := by omega
          obtain rfl : A = M := a3 rfl
          have oo := G.out.odd
          have qe : ((A : Int) % 2 == 0) = false := by simp; omega
          clear a2 a3 HA oo hjz
          have bb := G.out.b53
          go_wp2_with fail
          go_loop [12] (fun i => ∃ k : Nat, k ≤ B ∧ i = .int .i64 k) (fun i => B - (intOf i).toNat)
          case atStart => exact ⟨0, Nat.zero_le _, rfl⟩
          case round =>
            obtain ⟨n, hn, rfl⟩ := hrel
            have hn2 := G.out.bits n
            by_cases hnB : n < B
            · have q2 := hn2.2 hnB
              clear hn2
              have qk := shl_le G.out.bits (show n ≤ 53 by omega)
              rw [decide_eq_true hnB] at qk
              go_wp2_with fail
              go_round
              case rel => exact ⟨n + 1, by omega, by go_num⟩
              case measure => simp [intOf]; omega
            · obtain rfl : n = B := by omega
              have qk := shl_le G.out.bits (show n ≤ 53 by omega)
              rw [decide_eq_false hnB] at qk
              clear hn2 hnB hn
              go_wp2_with fail
              refine (L.out _).mono ?_
              rintro e w1 ⟨rfl, rfl⟩
              go_wp2_with fail
              go_ret2
              exact ⟨rfl, HB⟩

set_option maxHeartbeats 1600000 in
set_option maxRecDepth 100000 in
theorem refparse_far_n_plain (s r : ByteArray) (D : Nat) (w : World) (h1 : (s.toList == [110, 97, 110]) = false) (h2 : (s.toList == [105, 110, 102]) = false) (h3 : (s.toList == [45, 105, 110, 102]) = false) (hsz : s.size ≤ 140737488351232) (hp : 0 < s.size) (q : ((s[0].toNat : Int) == 45) = false) (e : s = r) (hD : D ≤ r.size) (hdig : Hid (∀ k (_ : k < r.size), k < D → 48 ≤ r[k].toNat ∧ r[k].toNat ≤ 57)) (hlt : D = r.size) (M z B A0 : Nat) (HA0 : Hid (A0 = M * 2 ^ (z - 0))) (G : Hid (OddOf M z B 0)) (H : Hid (∀ w, Calls Tryd.prog 87 #[.string r] w fun e w' => e = .returned (.tuple #[.int .i64 A0, .int .i64 0]) ∧ Bl w w')) (q8 : decide ((1024 : Int) < (B : Int) + (z : Int)) = true) :
    Calls Tryd.prog 32 #[.string s] w fun e w' => e = .returned (.tuple #[.float .f64 (0), .int .i64 11]) ∧ Bl w w' := by
  subst e
  have hrs := hsz
  go_enter Tryd.func32, Tryd.ntmps32
  go_wp2_with fail
  go_loop [5] (fun i => ∃ k : Nat, k ≤ D ∧ i = .int .i64 k) (fun i => D - (intOf i).toNat)
  case atStart => exact ⟨0, Nat.zero_le _, rfl⟩
  case round =>
    obtain ⟨k, hk, rfl⟩ := hrel
    by_cases hlt : k < D
    · have hkr : k < s.size := by omega
      obtain ⟨d1, d2⟩ := hdig.out k hkr hlt
      have q1 : decide ((48 : Int) ≤ (s[k].toNat : Int)) = true := by simp; omega
      have q2 : decide ((s[k].toNat : Int) ≤ 57) = true := by simp; omega
      go_wp2_with fail
      go_round
      case rel => exact ⟨k + 1, by omega, by go_num⟩
      case measure => simp [intOf]; omega
    · obtain rfl : k = D := by omega
      clear hlt
      have HB := Bl.refl w
      obtain ⟨a00, a01, _, _⟩ := G.out.step (Nat.zero_le _) HA0.out
      have qa : decide ((9007199254740992 : Int) ≤ (A0 : Int)) = false := by simp; omega
      have qb : decide ((0 : Int) < (A0 : Int)) = true := by simp; omega
      go_wp2_with fail
      refine (H.out _).mono ?_
      rintro e w1 ⟨rfl, hb1⟩
      replace HB := HB.trans hb1
      clear hb1
      go_wp2_with fail
      go_loop [9, 6] (fun m e => ∃ j A : Nat, j ≤ z ∧ m = .int .i64 A ∧ e = .int .i64 (0 + (j : Int)) ∧ A = M * 2 ^ (z - j)) (fun _ e => z - (intOf e - (0)).toNat)
      case atStart => exact ⟨0, A0, Nat.zero_le _, rfl, by go_num, HA0.out⟩
      case round =>
        obtain ⟨j, A, hj, rfl, rfl, hA⟩ := hrel
        obtain ⟨a0, a1, a2, a3⟩ := G.out.step hj hA
        have HA := Lib.hid hA
        clear hA
        have zz := G.out.z52
        obtain ⟨e1, e2⟩ := G.out.e
        by_cases hjz : j < z
        · obtain ⟨b1, b2⟩ := a2 hjz
          have B2 := Lib.hid b2
          have qe : ((A : Int) % 2 == 0) = true := by simp; omega
          clear a2 a3 b1 b2
          go_wp2_with fail
          go_round
          case rel => exact ⟨j + 1, A / 2, by omega, rfl, by go_num, B2.out⟩
          case measure => simp [intOf]; omega
        · obtain rfl : j = z := by omega
          obtain rfl : A = M := a3 rfl
          have oo := G.out.odd
          have qe : ((A : Int) % 2 == 0) = false := by simp; omega
          clear a2 a3 HA oo hjz
          have bb := G.out.b53
          go_wp2_with fail
          go_loop [12] (fun i => ∃ k : Nat, k ≤ B ∧ i = .int .i64 k) (fun i => B - (intOf i).toNat)
          case atStart => exact ⟨0, Nat.zero_le _, rfl⟩
          case round =>
            obtain ⟨n, hn, rfl⟩ := hrel
            have hn2 := G.out.bits n
            by_cases hnB : n < B
            · have q2 := hn2.2 hnB
              clear hn2
              have qk := shl_le G.out.bits (show n ≤ 53 by omega)
              rw [decide_eq_true hnB] at qk
              go_wp2_with fail
              go_round
              case rel => exact ⟨n + 1, by omega, by go_num⟩
              case measure => simp [intOf]; omega
            · obtain rfl : n = B := by omega
              have qk := shl_le G.out.bits (show n ≤ 53 by omega)
              rw [decide_eq_false hnB] at qk
              clear hn2 hnB hn
              go_wp2_with fail
              go_ret2
              exact ⟨rfl, HB⟩

set_option maxHeartbeats 1600000 in
set_option maxRecDepth 100000 in
theorem refparse_deep_n_plain (s r : ByteArray) (D : Nat) (w : World) (h1 : (s.toList == [110, 97, 110]) = false) (h2 : (s.toList == [105, 110, 102]) = false) (h3 : (s.toList == [45, 105, 110, 102]) = false) (hsz : s.size ≤ 140737488351232) (hp : 0 < s.size) (q : ((s[0].toNat : Int) == 45) = false) (e : s = r) (hD : D ≤ r.size) (hdig : Hid (∀ k (_ : k < r.size), k < D → 48 ≤ r[k].toNat ∧ r[k].toNat ≤ 57)) (hlt : D = r.size) (M z B A0 : Nat) (HA0 : Hid (A0 = M * 2 ^ (z - 0))) (G : Hid (OddOf M z B 0)) (H : Hid (∀ w, Calls Tryd.prog 87 #[.string r] w fun e w' => e = .returned (.tuple #[.int .i64 A0, .int .i64 0]) ∧ Bl w w')) (q8 : decide ((1024 : Int) < (B : Int) + (z : Int)) = false) (q9 : decide ((z : Int) < (-1074 : Int)) = true) :
    Calls Tryd.prog 32 #[.string s] w fun e w' => e = .returned (.tuple #[.float .f64 (0), .int .i64 11]) ∧ Bl w w' := by
  subst e
  have hrs := hsz
  go_enter Tryd.func32, Tryd.ntmps32
  go_wp2_with fail
  go_loop [5] (fun i => ∃ k : Nat, k ≤ D ∧ i = .int .i64 k) (fun i => D - (intOf i).toNat)
  case atStart => exact ⟨0, Nat.zero_le _, rfl⟩
  case round =>
    obtain ⟨k, hk, rfl⟩ := hrel
    by_cases hlt : k < D
    · have hkr : k < s.size := by omega
      obtain ⟨d1, d2⟩ := hdig.out k hkr hlt
      have q1 : decide ((48 : Int) ≤ (s[k].toNat : Int)) = true := by simp; omega
      have q2 : decide ((s[k].toNat : Int) ≤ 57) = true := by simp; omega
      go_wp2_with fail
      go_round
      case rel => exact ⟨k + 1, by omega, by go_num⟩
      case measure => simp [intOf]; omega
    · obtain rfl : k = D := by omega
      clear hlt
      have HB := Bl.refl w
      obtain ⟨a00, a01, _, _⟩ := G.out.step (Nat.zero_le _) HA0.out
      have qa : decide ((9007199254740992 : Int) ≤ (A0 : Int)) = false := by simp; omega
      have qb : decide ((0 : Int) < (A0 : Int)) = true := by simp; omega
      go_wp2_with fail
      refine (H.out _).mono ?_
      rintro e w1 ⟨rfl, hb1⟩
      replace HB := HB.trans hb1
      clear hb1
      go_wp2_with fail
      go_loop [9, 6] (fun m e => ∃ j A : Nat, j ≤ z ∧ m = .int .i64 A ∧ e = .int .i64 (0 + (j : Int)) ∧ A = M * 2 ^ (z - j)) (fun _ e => z - (intOf e - (0)).toNat)
      case atStart => exact ⟨0, A0, Nat.zero_le _, rfl, by go_num, HA0.out⟩
      case round =>
        obtain ⟨j, A, hj, rfl, rfl, hA⟩ := hrel
        obtain ⟨a0, a1, a2, a3⟩ := G.out.step hj hA
        have HA := Lib.hid hA
        clear hA
        have zz := G.out.z52
        obtain ⟨e1, e2⟩ := G.out.e
        by_cases hjz : j < z
        · obtain ⟨b1, b2⟩ := a2 hjz
          have B2 := Lib.hid b2
          have qe : ((A : Int) % 2 == 0) = true := by simp; omega
          clear a2 a3 b1 b2
          go_wp2_with fail
          go_round
          case rel => exact ⟨j + 1, A / 2, by omega, rfl, by go_num, B2.out⟩
          case measure => simp [intOf]; omega
        · obtain rfl : j = z := by omega
          obtain rfl : A = M := a3 rfl
          have oo := G.out.odd
          have qe : ((A : Int) % 2 == 0) = false := by simp; omega
          clear a2 a3 HA oo hjz
          have bb := G.out.b53
          go_wp2_with fail
          go_loop [12] (fun i => ∃ k : Nat, k ≤ B ∧ i = .int .i64 k) (fun i => B - (intOf i).toNat)
          case atStart => exact ⟨0, Nat.zero_le _, rfl⟩
          case round =>
            obtain ⟨n, hn, rfl⟩ := hrel
            have hn2 := G.out.bits n
            by_cases hnB : n < B
            · have q2 := hn2.2 hnB
              clear hn2
              have qk := shl_le G.out.bits (show n ≤ 53 by omega)
              rw [decide_eq_true hnB] at qk
              go_wp2_with fail
              go_round
              case rel => exact ⟨n + 1, by omega, by go_num⟩
              case measure => simp [intOf]; omega
            · obtain rfl : n = B := by omega
              have qk := shl_le G.out.bits (show n ≤ 53 by omega)
              rw [decide_eq_false hnB] at qk
              clear hn2 hnB hn
              go_wp2_with fail
              go_ret2
              exact ⟨rfl, HB⟩

set_option maxHeartbeats 1600000 in
set_option maxRecDepth 100000 in
theorem refparse_fin_n_plain (s r : ByteArray) (D : Nat) (w : World) (h1 : (s.toList == [110, 97, 110]) = false) (h2 : (s.toList == [105, 110, 102]) = false) (h3 : (s.toList == [45, 105, 110, 102]) = false) (hsz : s.size ≤ 140737488351232) (hp : 0 < s.size) (q : ((s[0].toNat : Int) == 45) = false) (e : s = r) (hD : D ≤ r.size) (hdig : Hid (∀ k (_ : k < r.size), k < D → 48 ≤ r[k].toNat ∧ r[k].toNat ≤ 57)) (hlt : D = r.size) (M z B A0 : Nat) (HA0 : Hid (A0 = M * 2 ^ (z - 0))) (G : Hid (OddOf M z B 0)) (H : Hid (∀ w, Calls Tryd.prog 87 #[.string r] w fun e w' => e = .returned (.tuple #[.int .i64 A0, .int .i64 0]) ∧ Bl w w')) (q8 : decide ((1024 : Int) < (B : Int) + (z : Int)) = false) (q9 : decide ((z : Int) < (-1074 : Int)) = false) (x f : Nat) (hfl : floatOfInt .f64 (M : Int) = x) (hf : f < two63) (L : Hid (∀ w, Calls Tryd.prog 88 #[.float .f64 x, .int .i64 (z : Int)] w fun e w' => e = .returned (.float .f64 f) ∧ w = w')) :
    Calls Tryd.prog 32 #[.string s] w fun e w' => e = .returned (.tuple #[.float .f64 (f), .int .i64 0]) ∧ Bl w w' := by
  subst e
  have hrs := hsz
  go_enter Tryd.func32, Tryd.ntmps32
  go_wp2_with fail
  go_loop [5] (fun i => ∃ k : Nat, k ≤ D ∧ i = .int .i64 k) (fun i => D - (intOf i).toNat)
  case atStart => exact ⟨0, Nat.zero_le _, rfl⟩
  case round =>
    obtain ⟨k, hk, rfl⟩ := hrel
    by_cases hlt : k < D
    · have hkr : k < s.size := by omega
      obtain ⟨d1, d2⟩ := hdig.out k hkr hlt
      have q1 : decide ((48 : Int) ≤ (s[k].toNat : Int)) = true := by simp; omega
      have q2 : decide ((s[k].toNat : Int) ≤ 57) = true := by simp; omega
      go_wp2_with fail
      go_round
      case rel => exact ⟨k + 1, by omega, by go_num⟩
      case measure => simp [intOf]; omega
    · obtain rfl : k = D := by omega
      clear hlt
      have HB := Bl.refl w
      obtain ⟨a00, a01, _, _⟩ := G.out.step (Nat.zero_le _) HA0.out
      have qa : decide ((9007199254740992 : Int) ≤ (A0 : Int)) = false := by simp; omega
      have qb : decide ((0 : Int) < (A0 : Int)) = true := by simp; omega
      go_wp2_with fail
      refine (H.out _).mono ?_
      rintro e w1 ⟨rfl, hb1⟩
      replace HB := HB.trans hb1
      clear hb1
      go_wp2_with fail
      go_loop [9, 6] (fun m e => ∃ j A : Nat, j ≤ z ∧ m = .int .i64 A ∧ e = .int .i64 (0 + (j : Int)) ∧ A = M * 2 ^ (z - j)) (fun _ e => z - (intOf e - (0)).toNat)
      case atStart => exact ⟨0, A0, Nat.zero_le _, rfl, by go_num, HA0.out⟩
      case round =>
        obtain ⟨j, A, hj, rfl, rfl, hA⟩ := hrel
        obtain ⟨a0, a1, a2, a3⟩ := G.out.step hj hA
        have HA := Lib.hid hA
        clear hA
        have zz := G.out.z52
        obtain ⟨e1, e2⟩ := G.out.e
        by_cases hjz : j < z
        · obtain ⟨b1, b2⟩ := a2 hjz
          have B2 := Lib.hid b2
          have qe : ((A : Int) % 2 == 0) = true := by simp; omega
          clear a2 a3 b1 b2
          go_wp2_with fail
          go_round
          case rel => exact ⟨j + 1, A / 2, by omega, rfl, by go_num, B2.out⟩
          case measure => simp [intOf]; omega
        · obtain rfl : j = z := by omega
          obtain rfl : A = M := a3 rfl
          have oo := G.out.odd
          have qe : ((A : Int) % 2 == 0) = false := by simp; omega
          clear a2 a3 HA oo hjz
          have bb := G.out.b53
          go_wp2_with fail
          go_loop [12] (fun i => ∃ k : Nat, k ≤ B ∧ i = .int .i64 k) (fun i => B - (intOf i).toNat)
          case atStart => exact ⟨0, Nat.zero_le _, rfl⟩
          case round =>
            obtain ⟨n, hn, rfl⟩ := hrel
            have hn2 := G.out.bits n
            by_cases hnB : n < B
            · have q2 := hn2.2 hnB
              clear hn2
              have qk := shl_le G.out.bits (show n ≤ 53 by omega)
              rw [decide_eq_true hnB] at qk
              go_wp2_with fail
              go_round
              case rel => exact ⟨n + 1, by omega, by go_num⟩
              case measure => simp [intOf]; omega
            · obtain rfl : n = B := by omega
              have qk := shl_le G.out.bits (show n ≤ 53 by omega)
              rw [decide_eq_false hnB] at qk
              clear hn2 hnB hn
              go_wp2_with fail
              refine (L.out _).mono ?_
              rintro e w1 ⟨rfl, rfl⟩
              go_wp2_with fail
              go_ret2
              exact ⟨rfl, HB⟩

theorem refparse_char (s r : ByteArray) (b : Bool) (D : Nat) (w : World) (h1 : (s.toList == [110, 97, 110]) = false) (h2 : (s.toList == [105, 110, 102]) = false) (h3 : (s.toList == [45, 105, 110, 102]) = false) (hsz : s.size ≤ 140737488351232) (hp : 0 < s.size) (hsg : SignOf s r b) (hrs : r.size ≤ 140737488351232) (hD : D ≤ r.size) (hdig : Hid (∀ k (_ : k < r.size), k < D → 48 ≤ r[k].toNat ∧ r[k].toNat ≤ 57)) (hlt : D < r.size) (q3 : decide ((48 : Int) ≤ (r[D].toNat : Int)) = false ∨ (decide ((48 : Int) ≤ (r[D].toNat : Int)) = true ∧ decide ((r[D].toNat : Int) ≤ 57) = false)) (q4 : ((r[D].toNat : Int) != 112) = true) :
    Calls Tryd.prog 32 #[.string s] w fun e w' => e = .returned (.tuple #[.float .f64 0, .int .i64 4]) ∧ Bl w w' := by
  cases hsg with
  | below _ q e => exact refparse_char_below s r D w h1 h2 h3 hsz hp q e hrs hD hdig hlt q3 q4
  | none e h => omega
  | plain e _ q => exact refparse_char_plain s r D w h1 h2 h3 hsz hp q e.symm hD hdig hlt q3 q4
theorem refparse_long (s r : ByteArray) (b : Bool) (D : Nat) (w : World) (h1 : (s.toList == [110, 97, 110]) = false) (h2 : (s.toList == [105, 110, 102]) = false) (h3 : (s.toList == [45, 105, 110, 102]) = false) (hsz : s.size ≤ 140737488351232) (hp : 0 < s.size) (hsg : SignOf s r b) (hrs : r.size ≤ 140737488351232) (hD : D ≤ r.size) (hdig : Hid (∀ k (_ : k < r.size), k < D → 48 ≤ r[k].toNat ∧ r[k].toNat ≤ 57)) (hlt : D < r.size) (q7 : (r[D].toNat : Int) = 112) (q5 : decide ((5 : Int) < (r.size : Int) - (D : Int) - 1) = true) :
    Calls Tryd.prog 32 #[.string s] w fun e w' => e = .returned (.tuple #[.float .f64 0, .int .i64 4]) ∧ Bl w w' := by
  cases hsg with
  | below _ q e => exact refparse_long_below s r D w h1 h2 h3 hsz hp q e hrs hD hdig hlt q7 q5
  | none e h => omega
  | plain e _ q => exact refparse_long_plain s r D w h1 h2 h3 hsz hp q e.symm hD hdig hlt q7 q5
theorem refparse_tail (s r : ByteArray) (b : Bool) (D : Nat) (w : World) (h1 : (s.toList == [110, 97, 110]) = false) (h2 : (s.toList == [105, 110, 102]) = false) (h3 : (s.toList == [45, 105, 110, 102]) = false) (hsz : s.size ≤ 140737488351232) (hp : 0 < s.size) (hsg : SignOf s r b) (hrs : r.size ≤ 140737488351232) (hD : D ≤ r.size) (hdig : Hid (∀ k (_ : k < r.size), k < D → 48 ≤ r[k].toNat ∧ r[k].toNat ≤ 57)) (hlt : D < r.size) (q7 : (r[D].toNat : Int) = 112) (q5 : decide ((5 : Int) < (r.size : Int) - (D : Int) - 1) = false) (t : ByteArray) (ht : r.extract (D + 1) r.size = t) (tv : Int) (T : Hid (∀ w, Calls Tryd.prog 87 #[.string t] w fun e w' => e = .returned (.tuple #[.int .i64 tv, .int .i64 4]) ∧ Bl w w')) :
    Calls Tryd.prog 32 #[.string s] w fun e w' => e = .returned (.tuple #[.float .f64 0, .int .i64 4]) ∧ Bl w w' := by
  cases hsg with
  | below _ q e => exact refparse_tail_below s r D w h1 h2 h3 hsz hp q e hrs hD hdig hlt q7 q5 t ht tv T
  | none e h => omega
  | plain e _ q => exact refparse_tail_plain s r D w h1 h2 h3 hsz hp q e.symm hD hdig hlt q7 q5 t ht tv T
theorem refparse_head_p (s r : ByteArray) (b : Bool) (D : Nat) (w : World) (h1 : (s.toList == [110, 97, 110]) = false) (h2 : (s.toList == [105, 110, 102]) = false) (h3 : (s.toList == [45, 105, 110, 102]) = false) (hsz : s.size ≤ 140737488351232) (hp : 0 < s.size) (hsg : SignOf s r b) (hrs : r.size ≤ 140737488351232) (hD : D ≤ r.size) (hdig : Hid (∀ k (_ : k < r.size), k < D → 48 ≤ r[k].toNat ∧ r[k].toNat ≤ 57)) (hlt : D < r.size) (q7 : (r[D].toNat : Int) = 112) (q5 : decide ((5 : Int) < (r.size : Int) - (D : Int) - 1) = false) (t : ByteArray) (ht : r.extract (D + 1) r.size = t) (d : ByteArray) (hd : r.extract 0 D = d) (tv : Int) (T : Hid (∀ w, Calls Tryd.prog 87 #[.string t] w fun e w' => e = .returned (.tuple #[.int .i64 tv, .int .i64 0]) ∧ Bl w w')) (hv : Int) (H : Hid (∀ w, Calls Tryd.prog 87 #[.string d] w fun e w' => e = .returned (.tuple #[.int .i64 hv, .int .i64 4]) ∧ Bl w w')) :
    Calls Tryd.prog 32 #[.string s] w fun e w' => e = .returned (.tuple #[.float .f64 0, .int .i64 4]) ∧ Bl w w' := by
  cases hsg with
  | below _ q e => exact refparse_head_p_below s r D w h1 h2 h3 hsz hp q e hrs hD hdig hlt q7 q5 t ht d hd tv T hv H
  | none e h => omega
  | plain e _ q => exact refparse_head_p_plain s r D w h1 h2 h3 hsz hp q e.symm hD hdig hlt q7 q5 t ht d hd tv T hv H
theorem refparse_over_p (s r : ByteArray) (b : Bool) (D : Nat) (w : World) (h1 : (s.toList == [110, 97, 110]) = false) (h2 : (s.toList == [105, 110, 102]) = false) (h3 : (s.toList == [45, 105, 110, 102]) = false) (hsz : s.size ≤ 140737488351232) (hp : 0 < s.size) (hsg : SignOf s r b) (hrs : r.size ≤ 140737488351232) (hD : D ≤ r.size) (hdig : Hid (∀ k (_ : k < r.size), k < D → 48 ≤ r[k].toNat ∧ r[k].toNat ≤ 57)) (hlt : D < r.size) (q7 : (r[D].toNat : Int) = 112) (q5 : decide ((5 : Int) < (r.size : Int) - (D : Int) - 1) = false) (t : ByteArray) (ht : r.extract (D + 1) r.size = t) (d : ByteArray) (hd : r.extract 0 D = d) (tv : Int) (T : Hid (∀ w, Calls Tryd.prog 87 #[.string t] w fun e w' => e = .returned (.tuple #[.int .i64 tv, .int .i64 0]) ∧ Bl w w')) (hv : Int) (q6 : decide ((9007199254740992 : Int) ≤ hv) = true) (H : Hid (∀ w, Calls Tryd.prog 87 #[.string d] w fun e w' => e = .returned (.tuple #[.int .i64 hv, .int .i64 0]) ∧ Bl w w')) :
    Calls Tryd.prog 32 #[.string s] w fun e w' => e = .returned (.tuple #[.float .f64 0, .int .i64 11]) ∧ Bl w w' := by
  cases hsg with
  | below _ q e => exact refparse_over_p_below s r D w h1 h2 h3 hsz hp q e hrs hD hdig hlt q7 q5 t ht d hd tv T hv q6 H
  | none e h => omega
  | plain e _ q => exact refparse_over_p_plain s r D w h1 h2 h3 hsz hp q e.symm hD hdig hlt q7 q5 t ht d hd tv T hv q6 H
theorem refparse_zero_p (s r : ByteArray) (b : Bool) (D : Nat) (w : World) (h1 : (s.toList == [110, 97, 110]) = false) (h2 : (s.toList == [105, 110, 102]) = false) (h3 : (s.toList == [45, 105, 110, 102]) = false) (hsz : s.size ≤ 140737488351232) (hp : 0 < s.size) (hsg : SignOf s r b) (hrs : r.size ≤ 140737488351232) (hD : D ≤ r.size) (hdig : Hid (∀ k (_ : k < r.size), k < D → 48 ≤ r[k].toNat ∧ r[k].toNat ≤ 57)) (hlt : D < r.size) (q7 : (r[D].toNat : Int) = 112) (q5 : decide ((5 : Int) < (r.size : Int) - (D : Int) - 1) = false) (t : ByteArray) (ht : r.extract (D + 1) r.size = t) (d : ByteArray) (hd : r.extract 0 D = d) (tv : Int) (T : Hid (∀ w, Calls Tryd.prog 87 #[.string t] w fun e w' => e = .returned (.tuple #[.int .i64 tv, .int .i64 0]) ∧ Bl w w')) (H : Hid (∀ w, Calls Tryd.prog 87 #[.string d] w fun e w' => e = .returned (.tuple #[.int .i64 0, .int .i64 0]) ∧ Bl w w')) :
    Calls Tryd.prog 32 #[.string s] w fun e w' => e = .returned (.tuple #[.float .f64 (withS b 0), .int .i64 0]) ∧ Bl w w' := by
  cases hsg with
  | below _ q e => exact refparse_zero_p_below s r D w h1 h2 h3 hsz hp q e hrs hD hdig hlt q7 q5 t ht d hd tv T H
  | none e h => omega
  | plain e _ q => exact refparse_zero_p_plain s r D w h1 h2 h3 hsz hp q e.symm hD hdig hlt q7 q5 t ht d hd tv T H
theorem refparse_head_n (s r : ByteArray) (b : Bool) (D : Nat) (w : World) (h1 : (s.toList == [110, 97, 110]) = false) (h2 : (s.toList == [105, 110, 102]) = false) (h3 : (s.toList == [45, 105, 110, 102]) = false) (hsz : s.size ≤ 140737488351232) (hp : 0 < s.size) (hsg : SignOf s r b) (hrs : r.size ≤ 140737488351232) (hD : D ≤ r.size) (hdig : Hid (∀ k (_ : k < r.size), k < D → 48 ≤ r[k].toNat ∧ r[k].toNat ≤ 57)) (hlt : D = r.size) (hv : Int) (H : Hid (∀ w, Calls Tryd.prog 87 #[.string r] w fun e w' => e = .returned (.tuple #[.int .i64 hv, .int .i64 4]) ∧ Bl w w')) :
    Calls Tryd.prog 32 #[.string s] w fun e w' => e = .returned (.tuple #[.float .f64 0, .int .i64 4]) ∧ Bl w w' := by
  cases hsg with
  | below _ q e => exact refparse_head_n_below s r D w h1 h2 h3 hsz hp q e hrs hD hdig hlt hv H
  | none e h => omega
  | plain e _ q => exact refparse_head_n_plain s r D w h1 h2 h3 hsz hp q e.symm hD hdig hlt hv H
theorem refparse_over_n (s r : ByteArray) (b : Bool) (D : Nat) (w : World) (h1 : (s.toList == [110, 97, 110]) = false) (h2 : (s.toList == [105, 110, 102]) = false) (h3 : (s.toList == [45, 105, 110, 102]) = false) (hsz : s.size ≤ 140737488351232) (hp : 0 < s.size) (hsg : SignOf s r b) (hrs : r.size ≤ 140737488351232) (hD : D ≤ r.size) (hdig : Hid (∀ k (_ : k < r.size), k < D → 48 ≤ r[k].toNat ∧ r[k].toNat ≤ 57)) (hlt : D = r.size) (hv : Int) (q6 : decide ((9007199254740992 : Int) ≤ hv) = true) (H : Hid (∀ w, Calls Tryd.prog 87 #[.string r] w fun e w' => e = .returned (.tuple #[.int .i64 hv, .int .i64 0]) ∧ Bl w w')) :
    Calls Tryd.prog 32 #[.string s] w fun e w' => e = .returned (.tuple #[.float .f64 0, .int .i64 11]) ∧ Bl w w' := by
  cases hsg with
  | below _ q e => exact refparse_over_n_below s r D w h1 h2 h3 hsz hp q e hrs hD hdig hlt hv q6 H
  | none e h => omega
  | plain e _ q => exact refparse_over_n_plain s r D w h1 h2 h3 hsz hp q e.symm hD hdig hlt hv q6 H
theorem refparse_zero_n (s r : ByteArray) (b : Bool) (D : Nat) (w : World) (h1 : (s.toList == [110, 97, 110]) = false) (h2 : (s.toList == [105, 110, 102]) = false) (h3 : (s.toList == [45, 105, 110, 102]) = false) (hsz : s.size ≤ 140737488351232) (hp : 0 < s.size) (hsg : SignOf s r b) (hrs : r.size ≤ 140737488351232) (hD : D ≤ r.size) (hdig : Hid (∀ k (_ : k < r.size), k < D → 48 ≤ r[k].toNat ∧ r[k].toNat ≤ 57)) (hlt : D = r.size) (H : Hid (∀ w, Calls Tryd.prog 87 #[.string r] w fun e w' => e = .returned (.tuple #[.int .i64 0, .int .i64 0]) ∧ Bl w w')) :
    Calls Tryd.prog 32 #[.string s] w fun e w' => e = .returned (.tuple #[.float .f64 (withS b 0), .int .i64 0]) ∧ Bl w w' := by
  cases hsg with
  | below _ q e => exact refparse_zero_n_below s r D w h1 h2 h3 hsz hp q e hrs hD hdig hlt H
  | none e h => omega
  | plain e _ q => exact refparse_zero_n_plain s r D w h1 h2 h3 hsz hp q e.symm hD hdig hlt H
theorem refparse_far_p (s r : ByteArray) (b : Bool) (D : Nat) (w : World) (h1 : (s.toList == [110, 97, 110]) = false) (h2 : (s.toList == [105, 110, 102]) = false) (h3 : (s.toList == [45, 105, 110, 102]) = false) (hsz : s.size ≤ 140737488351232) (hp : 0 < s.size) (hsg : SignOf s r b) (hrs : r.size ≤ 140737488351232) (hD : D ≤ r.size) (hdig : Hid (∀ k (_ : k < r.size), k < D → 48 ≤ r[k].toNat ∧ r[k].toNat ≤ 57)) (hlt : D < r.size) (q7 : (r[D].toNat : Int) = 112) (q5 : decide ((5 : Int) < (r.size : Int) - (D : Int) - 1) = false) (t : ByteArray) (ht : r.extract (D + 1) r.size = t) (d : ByteArray) (hd : r.extract 0 D = d) (tv : Int) (T : Hid (∀ w, Calls Tryd.prog 87 #[.string t] w fun e w' => e = .returned (.tuple #[.int .i64 tv, .int .i64 0]) ∧ Bl w w')) (M z B A0 : Nat) (HA0 : Hid (A0 = M * 2 ^ (z - 0))) (G : Hid (OddOf M z B tv)) (H : Hid (∀ w, Calls Tryd.prog 87 #[.string d] w fun e w' => e = .returned (.tuple #[.int .i64 A0, .int .i64 0]) ∧ Bl w w')) (q8 : decide ((1024 : Int) < (B : Int) + (tv + (z : Int))) = true) :
    Calls Tryd.prog 32 #[.string s] w fun e w' => e = .returned (.tuple #[.float .f64 0, .int .i64 11]) ∧ Bl w w' := by
  cases hsg with
  | below _ q e => exact refparse_far_p_below s r D w h1 h2 h3 hsz hp q e hrs hD hdig hlt q7 q5 t ht d hd tv T M z B A0 HA0 G H q8
  | none e h => omega
  | plain e _ q => exact refparse_far_p_plain s r D w h1 h2 h3 hsz hp q e.symm hD hdig hlt q7 q5 t ht d hd tv T M z B A0 HA0 G H q8
theorem refparse_deep_p (s r : ByteArray) (b : Bool) (D : Nat) (w : World) (h1 : (s.toList == [110, 97, 110]) = false) (h2 : (s.toList == [105, 110, 102]) = false) (h3 : (s.toList == [45, 105, 110, 102]) = false) (hsz : s.size ≤ 140737488351232) (hp : 0 < s.size) (hsg : SignOf s r b) (hrs : r.size ≤ 140737488351232) (hD : D ≤ r.size) (hdig : Hid (∀ k (_ : k < r.size), k < D → 48 ≤ r[k].toNat ∧ r[k].toNat ≤ 57)) (hlt : D < r.size) (q7 : (r[D].toNat : Int) = 112) (q5 : decide ((5 : Int) < (r.size : Int) - (D : Int) - 1) = false) (t : ByteArray) (ht : r.extract (D + 1) r.size = t) (d : ByteArray) (hd : r.extract 0 D = d) (tv : Int) (T : Hid (∀ w, Calls Tryd.prog 87 #[.string t] w fun e w' => e = .returned (.tuple #[.int .i64 tv, .int .i64 0]) ∧ Bl w w')) (M z B A0 : Nat) (HA0 : Hid (A0 = M * 2 ^ (z - 0))) (G : Hid (OddOf M z B tv)) (H : Hid (∀ w, Calls Tryd.prog 87 #[.string d] w fun e w' => e = .returned (.tuple #[.int .i64 A0, .int .i64 0]) ∧ Bl w w')) (q8 : decide ((1024 : Int) < (B : Int) + (tv + (z : Int))) = false) (q9 : decide ((tv + (z : Int)) < (-1074 : Int)) = true) :
    Calls Tryd.prog 32 #[.string s] w fun e w' => e = .returned (.tuple #[.float .f64 0, .int .i64 11]) ∧ Bl w w' := by
  cases hsg with
  | below _ q e => exact refparse_deep_p_below s r D w h1 h2 h3 hsz hp q e hrs hD hdig hlt q7 q5 t ht d hd tv T M z B A0 HA0 G H q8 q9
  | none e h => omega
  | plain e _ q => exact refparse_deep_p_plain s r D w h1 h2 h3 hsz hp q e.symm hD hdig hlt q7 q5 t ht d hd tv T M z B A0 HA0 G H q8 q9
theorem refparse_fin_p (s r : ByteArray) (b : Bool) (D : Nat) (w : World) (h1 : (s.toList == [110, 97, 110]) = false) (h2 : (s.toList == [105, 110, 102]) = false) (h3 : (s.toList == [45, 105, 110, 102]) = false) (hsz : s.size ≤ 140737488351232) (hp : 0 < s.size) (hsg : SignOf s r b) (hrs : r.size ≤ 140737488351232) (hD : D ≤ r.size) (hdig : Hid (∀ k (_ : k < r.size), k < D → 48 ≤ r[k].toNat ∧ r[k].toNat ≤ 57)) (hlt : D < r.size) (q7 : (r[D].toNat : Int) = 112) (q5 : decide ((5 : Int) < (r.size : Int) - (D : Int) - 1) = false) (t : ByteArray) (ht : r.extract (D + 1) r.size = t) (d : ByteArray) (hd : r.extract 0 D = d) (tv : Int) (T : Hid (∀ w, Calls Tryd.prog 87 #[.string t] w fun e w' => e = .returned (.tuple #[.int .i64 tv, .int .i64 0]) ∧ Bl w w')) (M z B A0 : Nat) (HA0 : Hid (A0 = M * 2 ^ (z - 0))) (G : Hid (OddOf M z B tv)) (H : Hid (∀ w, Calls Tryd.prog 87 #[.string d] w fun e w' => e = .returned (.tuple #[.int .i64 A0, .int .i64 0]) ∧ Bl w w')) (q8 : decide ((1024 : Int) < (B : Int) + (tv + (z : Int))) = false) (q9 : decide ((tv + (z : Int)) < (-1074 : Int)) = false) (x f : Nat) (hfl : floatOfInt .f64 (M : Int) = x) (hf : f < two63) (L : Hid (∀ w, Calls Tryd.prog 88 #[.float .f64 x, .int .i64 (tv + (z : Int))] w fun e w' => e = .returned (.float .f64 f) ∧ w = w')) :
    Calls Tryd.prog 32 #[.string s] w fun e w' => e = .returned (.tuple #[.float .f64 (withS b f), .int .i64 0]) ∧ Bl w w' := by
  cases hsg with
  | below _ q e => exact refparse_fin_p_below s r D w h1 h2 h3 hsz hp q e hrs hD hdig hlt q7 q5 t ht d hd tv T M z B A0 HA0 G H q8 q9 x f hfl hf L
  | none e h => omega
  | plain e _ q => exact refparse_fin_p_plain s r D w h1 h2 h3 hsz hp q e.symm hD hdig hlt q7 q5 t ht d hd tv T M z B A0 HA0 G H q8 q9 x f hfl hf L
theorem refparse_far_n (s r : ByteArray) (b : Bool) (D : Nat) (w : World) (h1 : (s.toList == [110, 97, 110]) = false) (h2 : (s.toList == [105, 110, 102]) = false) (h3 : (s.toList == [45, 105, 110, 102]) = false) (hsz : s.size ≤ 140737488351232) (hp : 0 < s.size) (hsg : SignOf s r b) (hrs : r.size ≤ 140737488351232) (hD : D ≤ r.size) (hdig : Hid (∀ k (_ : k < r.size), k < D → 48 ≤ r[k].toNat ∧ r[k].toNat ≤ 57)) (hlt : D = r.size) (M z B A0 : Nat) (HA0 : Hid (A0 = M * 2 ^ (z - 0))) (G : Hid (OddOf M z B 0)) (H : Hid (∀ w, Calls Tryd.prog 87 #[.string r] w fun e w' => e = .returned (.tuple #[.int .i64 A0, .int .i64 0]) ∧ Bl w w')) (q8 : decide ((1024 : Int) < (B : Int) + (z : Int)) = true) :
    Calls Tryd.prog 32 #[.string s] w fun e w' => e = .returned (.tuple #[.float .f64 0, .int .i64 11]) ∧ Bl w w' := by
  cases hsg with
  | below _ q e => exact refparse_far_n_below s r D w h1 h2 h3 hsz hp q e hrs hD hdig hlt M z B A0 HA0 G H q8
  | none e h => omega
  | plain e _ q => exact refparse_far_n_plain s r D w h1 h2 h3 hsz hp q e.symm hD hdig hlt M z B A0 HA0 G H q8
theorem refparse_deep_n (s r : ByteArray) (b : Bool) (D : Nat) (w : World) (h1 : (s.toList == [110, 97, 110]) = false) (h2 : (s.toList == [105, 110, 102]) = false) (h3 : (s.toList == [45, 105, 110, 102]) = false) (hsz : s.size ≤ 140737488351232) (hp : 0 < s.size) (hsg : SignOf s r b) (hrs : r.size ≤ 140737488351232) (hD : D ≤ r.size) (hdig : Hid (∀ k (_ : k < r.size), k < D → 48 ≤ r[k].toNat ∧ r[k].toNat ≤ 57)) (hlt : D = r.size) (M z B A0 : Nat) (HA0 : Hid (A0 = M * 2 ^ (z - 0))) (G : Hid (OddOf M z B 0)) (H : Hid (∀ w, Calls Tryd.prog 87 #[.string r] w fun e w' => e = .returned (.tuple #[.int .i64 A0, .int .i64 0]) ∧ Bl w w')) (q8 : decide ((1024 : Int) < (B : Int) + (z : Int)) = false) (q9 : decide ((z : Int) < (-1074 : Int)) = true) :
    Calls Tryd.prog 32 #[.string s] w fun e w' => e = .returned (.tuple #[.float .f64 0, .int .i64 11]) ∧ Bl w w' := by
  cases hsg with
  | below _ q e => exact refparse_deep_n_below s r D w h1 h2 h3 hsz hp q e hrs hD hdig hlt M z B A0 HA0 G H q8 q9
  | none e h => omega
  | plain e _ q => exact refparse_deep_n_plain s r D w h1 h2 h3 hsz hp q e.symm hD hdig hlt M z B A0 HA0 G H q8 q9
theorem refparse_fin_n (s r : ByteArray) (b : Bool) (D : Nat) (w : World) (h1 : (s.toList == [110, 97, 110]) = false) (h2 : (s.toList == [105, 110, 102]) = false) (h3 : (s.toList == [45, 105, 110, 102]) = false) (hsz : s.size ≤ 140737488351232) (hp : 0 < s.size) (hsg : SignOf s r b) (hrs : r.size ≤ 140737488351232) (hD : D ≤ r.size) (hdig : Hid (∀ k (_ : k < r.size), k < D → 48 ≤ r[k].toNat ∧ r[k].toNat ≤ 57)) (hlt : D = r.size) (M z B A0 : Nat) (HA0 : Hid (A0 = M * 2 ^ (z - 0))) (G : Hid (OddOf M z B 0)) (H : Hid (∀ w, Calls Tryd.prog 87 #[.string r] w fun e w' => e = .returned (.tuple #[.int .i64 A0, .int .i64 0]) ∧ Bl w w')) (q8 : decide ((1024 : Int) < (B : Int) + (z : Int)) = false) (q9 : decide ((z : Int) < (-1074 : Int)) = false) (x f : Nat) (hfl : floatOfInt .f64 (M : Int) = x) (hf : f < two63) (L : Hid (∀ w, Calls Tryd.prog 88 #[.float .f64 x, .int .i64 (z : Int)] w fun e w' => e = .returned (.float .f64 f) ∧ w = w')) :
    Calls Tryd.prog 32 #[.string s] w fun e w' => e = .returned (.tuple #[.float .f64 (withS b f), .int .i64 0]) ∧ Bl w w' := by
  cases hsg with
  | below _ q e => exact refparse_fin_n_below s r D w h1 h2 h3 hsz hp q e hrs hD hdig hlt M z B A0 HA0 G H q8 q9 x f hfl hf L
  | none e h => omega
  | plain e _ q => exact refparse_fin_n_plain s r D w h1 h2 h3 hsz hp q e.symm hD hdig hlt M z B A0 HA0 G H q8 q9 x f hfl hf L
end Go.Proofs.YtgdlcoicejgdkaaDoor
