/- bedrockref2.Parse: the ends ahead of its digits (printed by a program). By an AI agent. -/
import Derived.Test.YtgdlcoicejgdkaaDoorRefW2
import Derived.Test.YtgdlcoicejgdkaaDoorRefW3
import Derived.Outline
set_option linter.unusedVariables false
namespace Go.Proofs.YtgdlcoicejgdkaaDoor
open Go.RowKit

set_option maxHeartbeats 1600000 in
set_option maxRecDepth 100000 in
theorem refparse_char_below (s r : ByteArray) (D : Nat) (w : World) (h1 : (s.toList == [110, 97, 110]) = false) (h2 : (s.toList == [105, 110, 102]) = false) (h3 : (s.toList == [45, 105, 110, 102]) = false) (hsz : s.size ≤ 140737488351232) (hp : 0 < s.size) (q : ((s[0].toNat : Int) == 45) = true) (e : s.extract 1 s.size = r) (hrs : r.size ≤ 140737488351232) (hD : D ≤ r.size) (hdig : Hid (∀ k (_ : k < r.size), k < D → 48 ≤ r[k].toNat ∧ r[k].toNat ≤ 57)) (hlt : D < r.size) (q3 : decide ((48 : Int) ≤ (r[D].toNat : Int)) = false ∨ (decide ((48 : Int) ≤ (r[D].toNat : Int)) = true ∧ decide ((r[D].toNat : Int) ≤ 57) = false)) (q4 : ((r[D].toNat : Int) != 112) = true) :
    Calls Tryd.prog 32 #[.string s] w fun e w' => e = .returned (.tuple #[.float .f64 (0), .int .i64 4]) ∧ Bl w w' := by
  go_enter Tryd.func32, Tryd.ntmps32
  go_wp2_with fail
  go_loop [5] (fun i => ∃ k : Nat, k ≤ D ∧ i = .int .i64 k) (fun i => D - (intOf i).toNat)
  case atStart => exact ⟨0, Nat.zero_le _, rfl⟩
  case round =>
    obtain ⟨k, hk, rfl⟩ := hrel
    by_cases hlt : k < D
    · have hkr : k < r.size := by omega
      obtain ⟨d1, d2⟩ := hdig.out k hkr hlt
      have q1 : decide ((48 : Int) ≤ (r[k].toNat : Int)) = true := by simp; omega
      have q2 : decide ((r[k].toNat : Int) ≤ 57) = true := by simp; omega
      go_wp2_with fail
      go_round
      case rel => exact ⟨k + 1, by omega, by go_num⟩
      case measure => simp [intOf]; omega
    · obtain rfl : k = D := by omega
      clear hlt
      have HB := Bl.refl w
      rcases q3 with q3 | ⟨q3, q5⟩
      all_goals
        go_wp2_with fail
        go_ret2
        exact ⟨rfl, HB⟩

set_option maxHeartbeats 1600000 in
set_option maxRecDepth 100000 in
theorem refparse_long_below (s r : ByteArray) (D : Nat) (w : World) (h1 : (s.toList == [110, 97, 110]) = false) (h2 : (s.toList == [105, 110, 102]) = false) (h3 : (s.toList == [45, 105, 110, 102]) = false) (hsz : s.size ≤ 140737488351232) (hp : 0 < s.size) (q : ((s[0].toNat : Int) == 45) = true) (e : s.extract 1 s.size = r) (hrs : r.size ≤ 140737488351232) (hD : D ≤ r.size) (hdig : Hid (∀ k (_ : k < r.size), k < D → 48 ≤ r[k].toNat ∧ r[k].toNat ≤ 57)) (hlt : D < r.size) (q7 : (r[D].toNat : Int) = 112) (q5 : decide ((5 : Int) < (r.size : Int) - (D : Int) - 1) = true) :
    Calls Tryd.prog 32 #[.string s] w fun e w' => e = .returned (.tuple #[.float .f64 (0), .int .i64 4]) ∧ Bl w w' := by
  go_enter Tryd.func32, Tryd.ntmps32
  go_wp2_with fail
  go_loop [5] (fun i => ∃ k : Nat, k ≤ D ∧ i = .int .i64 k) (fun i => D - (intOf i).toNat)
  case atStart => exact ⟨0, Nat.zero_le _, rfl⟩
  case round =>
    obtain ⟨k, hk, rfl⟩ := hrel
    by_cases hlt : k < D
    · have hkr : k < r.size := by omega
      obtain ⟨d1, d2⟩ := hdig.out k hkr hlt
      have q1 : decide ((48 : Int) ≤ (r[k].toNat : Int)) = true := by simp; omega
      have q2 : decide ((r[k].toNat : Int) ≤ 57) = true := by simp; omega
      go_wp2_with fail
      go_round
      case rel => exact ⟨k + 1, by omega, by go_num⟩
      case measure => simp [intOf]; omega
    · obtain rfl : k = D := by omega
      clear hlt
      have HB := Bl.refl w
      go_wp2_with fail
      go_ret2
      exact ⟨rfl, HB⟩

set_option maxHeartbeats 1600000 in
set_option maxRecDepth 100000 in
theorem refparse_tail_below (s r : ByteArray) (D : Nat) (w : World) (h1 : (s.toList == [110, 97, 110]) = false) (h2 : (s.toList == [105, 110, 102]) = false) (h3 : (s.toList == [45, 105, 110, 102]) = false) (hsz : s.size ≤ 140737488351232) (hp : 0 < s.size) (q : ((s[0].toNat : Int) == 45) = true) (e : s.extract 1 s.size = r) (hrs : r.size ≤ 140737488351232) (hD : D ≤ r.size) (hdig : Hid (∀ k (_ : k < r.size), k < D → 48 ≤ r[k].toNat ∧ r[k].toNat ≤ 57)) (hlt : D < r.size) (q7 : (r[D].toNat : Int) = 112) (q5 : decide ((5 : Int) < (r.size : Int) - (D : Int) - 1) = false) (t : ByteArray) (ht : r.extract (D + 1) r.size = t) (tv : Int) (T : Hid (∀ w, Calls Tryd.prog 87 #[.string t] w fun e w' => e = .returned (.tuple #[.int .i64 tv, .int .i64 4]) ∧ Bl w w')) :
    Calls Tryd.prog 32 #[.string s] w fun e w' => e = .returned (.tuple #[.float .f64 (0), .int .i64 4]) ∧ Bl w w' := by
  go_enter Tryd.func32, Tryd.ntmps32
  go_wp2_with fail
  go_loop [5] (fun i => ∃ k : Nat, k ≤ D ∧ i = .int .i64 k) (fun i => D - (intOf i).toNat)
  case atStart => exact ⟨0, Nat.zero_le _, rfl⟩
  case round =>
    obtain ⟨k, hk, rfl⟩ := hrel
    by_cases hlt : k < D
    · have hkr : k < r.size := by omega
      obtain ⟨d1, d2⟩ := hdig.out k hkr hlt
      have q1 : decide ((48 : Int) ≤ (r[k].toNat : Int)) = true := by simp; omega
      have q2 : decide ((r[k].toNat : Int) ≤ 57) = true := by simp; omega
      go_wp2_with fail
      go_round
      case rel => exact ⟨k + 1, by omega, by go_num⟩
      case measure => simp [intOf]; omega
    · obtain rfl : k = D := by omega
      clear hlt
      have HB := Bl.refl w
      go_wp2_with fail
      refine (T.out _).mono ?_
      rintro e w1 ⟨rfl, hb1⟩
      replace HB := HB.trans hb1
      clear hb1
      go_wp2_with fail
      go_ret2
      exact ⟨rfl, HB⟩

set_option maxHeartbeats 1600000 in
set_option maxRecDepth 100000 in
theorem refparse_head_p_below (s r : ByteArray) (D : Nat) (w : World) (h1 : (s.toList == [110, 97, 110]) = false) (h2 : (s.toList == [105, 110, 102]) = false) (h3 : (s.toList == [45, 105, 110, 102]) = false) (hsz : s.size ≤ 140737488351232) (hp : 0 < s.size) (q : ((s[0].toNat : Int) == 45) = true) (e : s.extract 1 s.size = r) (hrs : r.size ≤ 140737488351232) (hD : D ≤ r.size) (hdig : Hid (∀ k (_ : k < r.size), k < D → 48 ≤ r[k].toNat ∧ r[k].toNat ≤ 57)) (hlt : D < r.size) (q7 : (r[D].toNat : Int) = 112) (q5 : decide ((5 : Int) < (r.size : Int) - (D : Int) - 1) = false) (t : ByteArray) (ht : r.extract (D + 1) r.size = t) (d : ByteArray) (hd : r.extract 0 D = d) (tv : Int) (T : Hid (∀ w, Calls Tryd.prog 87 #[.string t] w fun e w' => e = .returned (.tuple #[.int .i64 tv, .int .i64 0]) ∧ Bl w w')) (hv : Int) (H : Hid (∀ w, Calls Tryd.prog 87 #[.string d] w fun e w' => e = .returned (.tuple #[.int .i64 hv, .int .i64 4]) ∧ Bl w w')) :
    Calls Tryd.prog 32 #[.string s] w fun e w' => e = .returned (.tuple #[.float .f64 (0), .int .i64 4]) ∧ Bl w w' := by
  go_enter Tryd.func32, Tryd.ntmps32
  go_wp2_with fail
  go_loop [5] (fun i => ∃ k : Nat, k ≤ D ∧ i = .int .i64 k) (fun i => D - (intOf i).toNat)
  case atStart => exact ⟨0, Nat.zero_le _, rfl⟩
  case round =>
    obtain ⟨k, hk, rfl⟩ := hrel
    by_cases hlt : k < D
    · have hkr : k < r.size := by omega
      obtain ⟨d1, d2⟩ := hdig.out k hkr hlt
      have q1 : decide ((48 : Int) ≤ (r[k].toNat : Int)) = true := by simp; omega
      have q2 : decide ((r[k].toNat : Int) ≤ 57) = true := by simp; omega
      go_wp2_with fail
      go_round
      case rel => exact ⟨k + 1, by omega, by go_num⟩
      case measure => simp [intOf]; omega
    · obtain rfl : k = D := by omega
      clear hlt
      have HB := Bl.refl w
      go_wp2_with fail
      refine (T.out _).mono ?_
      rintro e w1 ⟨rfl, hb1⟩
      replace HB := HB.trans hb1
      clear hb1
      go_wp2_with fail
      refine (H.out _).mono ?_
      rintro e w1 ⟨rfl, hb1⟩
      replace HB := HB.trans hb1
      clear hb1
      go_wp2_with fail
      go_ret2
      exact ⟨rfl, HB⟩

set_option maxHeartbeats 1600000 in
set_option maxRecDepth 100000 in
theorem refparse_over_p_below (s r : ByteArray) (D : Nat) (w : World) (h1 : (s.toList == [110, 97, 110]) = false) (h2 : (s.toList == [105, 110, 102]) = false) (h3 : (s.toList == [45, 105, 110, 102]) = false) (hsz : s.size ≤ 140737488351232) (hp : 0 < s.size) (q : ((s[0].toNat : Int) == 45) = true) (e : s.extract 1 s.size = r) (hrs : r.size ≤ 140737488351232) (hD : D ≤ r.size) (hdig : Hid (∀ k (_ : k < r.size), k < D → 48 ≤ r[k].toNat ∧ r[k].toNat ≤ 57)) (hlt : D < r.size) (q7 : (r[D].toNat : Int) = 112) (q5 : decide ((5 : Int) < (r.size : Int) - (D : Int) - 1) = false) (t : ByteArray) (ht : r.extract (D + 1) r.size = t) (d : ByteArray) (hd : r.extract 0 D = d) (tv : Int) (T : Hid (∀ w, Calls Tryd.prog 87 #[.string t] w fun e w' => e = .returned (.tuple #[.int .i64 tv, .int .i64 0]) ∧ Bl w w')) (hv : Int) (q6 : decide ((9007199254740992 : Int) ≤ hv) = true) (H : Hid (∀ w, Calls Tryd.prog 87 #[.string d] w fun e w' => e = .returned (.tuple #[.int .i64 hv, .int .i64 0]) ∧ Bl w w')) :
    Calls Tryd.prog 32 #[.string s] w fun e w' => e = .returned (.tuple #[.float .f64 (0), .int .i64 11]) ∧ Bl w w' := by
  go_enter Tryd.func32, Tryd.ntmps32
  go_wp2_with fail
  go_loop [5] (fun i => ∃ k : Nat, k ≤ D ∧ i = .int .i64 k) (fun i => D - (intOf i).toNat)
  case atStart => exact ⟨0, Nat.zero_le _, rfl⟩
  case round =>
    obtain ⟨k, hk, rfl⟩ := hrel
    by_cases hlt : k < D
    · have hkr : k < r.size := by omega
      obtain ⟨d1, d2⟩ := hdig.out k hkr hlt
      have q1 : decide ((48 : Int) ≤ (r[k].toNat : Int)) = true := by simp; omega
      have q2 : decide ((r[k].toNat : Int) ≤ 57) = true := by simp; omega
      go_wp2_with fail
      go_round
      case rel => exact ⟨k + 1, by omega, by go_num⟩
      case measure => simp [intOf]; omega
    · obtain rfl : k = D := by omega
      clear hlt
      have HB := Bl.refl w
      go_wp2_with fail
      refine (T.out _).mono ?_
      rintro e w1 ⟨rfl, hb1⟩
      replace HB := HB.trans hb1
      clear hb1
      go_wp2_with fail
      refine (H.out _).mono ?_
      rintro e w1 ⟨rfl, hb1⟩
      replace HB := HB.trans hb1
      clear hb1
      go_wp2_with fail
      go_ret2
      exact ⟨rfl, HB⟩

set_option maxHeartbeats 1600000 in
set_option maxRecDepth 100000 in
theorem refparse_zero_p_below (s r : ByteArray) (D : Nat) (w : World) (h1 : (s.toList == [110, 97, 110]) = false) (h2 : (s.toList == [105, 110, 102]) = false) (h3 : (s.toList == [45, 105, 110, 102]) = false) (hsz : s.size ≤ 140737488351232) (hp : 0 < s.size) (q : ((s[0].toNat : Int) == 45) = true) (e : s.extract 1 s.size = r) (hrs : r.size ≤ 140737488351232) (hD : D ≤ r.size) (hdig : Hid (∀ k (_ : k < r.size), k < D → 48 ≤ r[k].toNat ∧ r[k].toNat ≤ 57)) (hlt : D < r.size) (q7 : (r[D].toNat : Int) = 112) (q5 : decide ((5 : Int) < (r.size : Int) - (D : Int) - 1) = false) (t : ByteArray) (ht : r.extract (D + 1) r.size = t) (d : ByteArray) (hd : r.extract 0 D = d) (tv : Int) (T : Hid (∀ w, Calls Tryd.prog 87 #[.string t] w fun e w' => e = .returned (.tuple #[.int .i64 tv, .int .i64 0]) ∧ Bl w w')) (H : Hid (∀ w, Calls Tryd.prog 87 #[.string d] w fun e w' => e = .returned (.tuple #[.int .i64 0, .int .i64 0]) ∧ Bl w w')) :
    Calls Tryd.prog 32 #[.string s] w fun e w' => e = .returned (.tuple #[.float .f64 (0 + two63), .int .i64 0]) ∧ Bl w w' := by
  go_enter Tryd.func32, Tryd.ntmps32
  go_wp2_with fail
  go_loop [5] (fun i => ∃ k : Nat, k ≤ D ∧ i = .int .i64 k) (fun i => D - (intOf i).toNat)
  case atStart => exact ⟨0, Nat.zero_le _, rfl⟩
  case round =>
    obtain ⟨k, hk, rfl⟩ := hrel
    by_cases hlt : k < D
    · have hkr : k < r.size := by omega
      obtain ⟨d1, d2⟩ := hdig.out k hkr hlt
      have q1 : decide ((48 : Int) ≤ (r[k].toNat : Int)) = true := by simp; omega
      have q2 : decide ((r[k].toNat : Int) ≤ 57) = true := by simp; omega
      go_wp2_with fail
      go_round
      case rel => exact ⟨k + 1, by omega, by go_num⟩
      case measure => simp [intOf]; omega
    · obtain rfl : k = D := by omega
      clear hlt
      have HB := Bl.refl w
      go_wp2_with fail
      refine (T.out _).mono ?_
      rintro e w1 ⟨rfl, hb1⟩
      replace HB := HB.trans hb1
      clear hb1
      go_wp2_with fail
      refine (H.out _).mono ?_
      rintro e w1 ⟨rfl, hb1⟩
      replace HB := HB.trans hb1
      clear hb1
      go_wp2_with fail
      refine (copysign_neg 0 _ (by decide)).mono ?_
      rintro e w1 ⟨rfl, rfl⟩
      go_wp2_with fail
      go_ret2
      exact ⟨rfl, HB⟩

set_option maxHeartbeats 1600000 in
set_option maxRecDepth 100000 in
theorem refparse_head_n_below (s r : ByteArray) (D : Nat) (w : World) (h1 : (s.toList == [110, 97, 110]) = false) (h2 : (s.toList == [105, 110, 102]) = false) (h3 : (s.toList == [45, 105, 110, 102]) = false) (hsz : s.size ≤ 140737488351232) (hp : 0 < s.size) (q : ((s[0].toNat : Int) == 45) = true) (e : s.extract 1 s.size = r) (hrs : r.size ≤ 140737488351232) (hD : D ≤ r.size) (hdig : Hid (∀ k (_ : k < r.size), k < D → 48 ≤ r[k].toNat ∧ r[k].toNat ≤ 57)) (hlt : D = r.size) (hv : Int) (H : Hid (∀ w, Calls Tryd.prog 87 #[.string r] w fun e w' => e = .returned (.tuple #[.int .i64 hv, .int .i64 4]) ∧ Bl w w')) :
    Calls Tryd.prog 32 #[.string s] w fun e w' => e = .returned (.tuple #[.float .f64 (0), .int .i64 4]) ∧ Bl w w' := by
  go_enter Tryd.func32, Tryd.ntmps32
  go_wp2_with fail
  go_loop [5] (fun i => ∃ k : Nat, k ≤ D ∧ i = .int .i64 k) (fun i => D - (intOf i).toNat)
  case atStart => exact ⟨0, Nat.zero_le _, rfl⟩
  case round =>
    obtain ⟨k, hk, rfl⟩ := hrel
    by_cases hlt : k < D
    · have hkr : k < r.size := by omega
      obtain ⟨d1, d2⟩ := hdig.out k hkr hlt
      have q1 : decide ((48 : Int) ≤ (r[k].toNat : Int)) = true := by simp; omega
      have q2 : decide ((r[k].toNat : Int) ≤ 57) = true := by simp; omega
      go_wp2_with fail
      go_round
      case rel => exact ⟨k + 1, by omega, by go_num⟩
      case measure => simp [intOf]; omega
    · obtain rfl : k = D := by omega
      clear hlt
      have HB := Bl.refl w
      go_wp2_with fail
      refine (H.out _).mono ?_
      rintro e w1 ⟨rfl, hb1⟩
      replace HB := HB.trans hb1
      clear hb1
      go_wp2_with fail
      go_ret2
      exact ⟨rfl, HB⟩

set_option maxHeartbeats 1600000 in
set_option maxRecDepth 100000 in
theorem refparse_over_n_below (s r : ByteArray) (D : Nat) (w : World) (h1 : (s.toList == [110, 97, 110]) = false) (h2 : (s.toList == [105, 110, 102]) = false) (h3 : (s.toList == [45, 105, 110, 102]) = false) (hsz : s.size ≤ 140737488351232) (hp : 0 < s.size) (q : ((s[0].toNat : Int) == 45) = true) (e : s.extract 1 s.size = r) (hrs : r.size ≤ 140737488351232) (hD : D ≤ r.size) (hdig : Hid (∀ k (_ : k < r.size), k < D → 48 ≤ r[k].toNat ∧ r[k].toNat ≤ 57)) (hlt : D = r.size) (hv : Int) (q6 : decide ((9007199254740992 : Int) ≤ hv) = true) (H : Hid (∀ w, Calls Tryd.prog 87 #[.string r] w fun e w' => e = .returned (.tuple #[.int .i64 hv, .int .i64 0]) ∧ Bl w w')) :
    Calls Tryd.prog 32 #[.string s] w fun e w' => e = .returned (.tuple #[.float .f64 (0), .int .i64 11]) ∧ Bl w w' := by
  go_enter Tryd.func32, Tryd.ntmps32
  go_wp2_with fail
  go_loop [5] (fun i => ∃ k : Nat, k ≤ D ∧ i = .int .i64 k) (fun i => D - (intOf i).toNat)
  case atStart => exact ⟨0, Nat.zero_le _, rfl⟩
  case round =>
    obtain ⟨k, hk, rfl⟩ := hrel
    by_cases hlt : k < D
    · have hkr : k < r.size := by omega
      obtain ⟨d1, d2⟩ := hdig.out k hkr hlt
      have q1 : decide ((48 : Int) ≤ (r[k].toNat : Int)) = true := by simp; omega
      have q2 : decide ((r[k].toNat : Int) ≤ 57) = true := by simp; omega
      go_wp2_with fail
      go_round
      case rel => exact ⟨k + 1, by omega, by go_num⟩
      case measure => simp [intOf]; omega
    · obtain rfl : k = D := by omega
      clear hlt
      have HB := Bl.refl w
      go_wp2_with fail
      refine (H.out _).mono ?_
      rintro e w1 ⟨rfl, hb1⟩
      replace HB := HB.trans hb1
      clear hb1
      go_wp2_with fail
      go_ret2
      exact ⟨rfl, HB⟩

set_option maxHeartbeats 1600000 in
set_option maxRecDepth 100000 in
theorem refparse_zero_n_below (s r : ByteArray) (D : Nat) (w : World) (h1 : (s.toList == [110, 97, 110]) = false) (h2 : (s.toList == [105, 110, 102]) = false) (h3 : (s.toList == [45, 105, 110, 102]) = false) (hsz : s.size ≤ 140737488351232) (hp : 0 < s.size) (q : ((s[0].toNat : Int) == 45) = true) (e : s.extract 1 s.size = r) (hrs : r.size ≤ 140737488351232) (hD : D ≤ r.size) (hdig : Hid (∀ k (_ : k < r.size), k < D → 48 ≤ r[k].toNat ∧ r[k].toNat ≤ 57)) (hlt : D = r.size) (H : Hid (∀ w, Calls Tryd.prog 87 #[.string r] w fun e w' => e = .returned (.tuple #[.int .i64 0, .int .i64 0]) ∧ Bl w w')) :
    Calls Tryd.prog 32 #[.string s] w fun e w' => e = .returned (.tuple #[.float .f64 (0 + two63), .int .i64 0]) ∧ Bl w w' := by
  go_enter Tryd.func32, Tryd.ntmps32
  go_wp2_with fail
  go_loop [5] (fun i => ∃ k : Nat, k ≤ D ∧ i = .int .i64 k) (fun i => D - (intOf i).toNat)
  case atStart => exact ⟨0, Nat.zero_le _, rfl⟩
  case round =>
    obtain ⟨k, hk, rfl⟩ := hrel
    by_cases hlt : k < D
    · have hkr : k < r.size := by omega
      obtain ⟨d1, d2⟩ := hdig.out k hkr hlt
      have q1 : decide ((48 : Int) ≤ (r[k].toNat : Int)) = true := by simp; omega
      have q2 : decide ((r[k].toNat : Int) ≤ 57) = true := by simp; omega
      go_wp2_with fail
      go_round
      case rel => exact ⟨k + 1, by omega, by go_num⟩
      case measure => simp [intOf]; omega
    · obtain rfl : k = D := by omega
      clear hlt
      have HB := Bl.refl w
      go_wp2_with fail
      refine (H.out _).mono ?_
      rintro e w1 ⟨rfl, hb1⟩
      replace HB := HB.trans hb1
      clear hb1
      go_wp2_with fail
      refine (copysign_neg 0 _ (by decide)).mono ?_
      rintro e w1 ⟨rfl, rfl⟩
      go_wp2_with fail
      go_ret2
      exact ⟨rfl, HB⟩

set_option maxHeartbeats 1600000 in
set_option maxRecDepth 100000 in
theorem refparse_char_plain (s r : ByteArray) (D : Nat) (w : World) (h1 : (s.toList == [110, 97, 110]) = false) (h2 : (s.toList == [105, 110, 102]) = false) (h3 : (s.toList == [45, 105, 110, 102]) = false) (hsz : s.size ≤ 140737488351232) (hp : 0 < s.size) (q : ((s[0].toNat : Int) == 45) = false) (e : s = r) (hD : D ≤ r.size) (hdig : Hid (∀ k (_ : k < r.size), k < D → 48 ≤ r[k].toNat ∧ r[k].toNat ≤ 57)) (hlt : D < r.size) (q3 : decide ((48 : Int) ≤ (r[D].toNat : Int)) = false ∨ (decide ((48 : Int) ≤ (r[D].toNat : Int)) = true ∧ decide ((r[D].toNat : Int) ≤ 57) = false)) (q4 : ((r[D].toNat : Int) != 112) = true) :
    Calls Tryd.prog 32 #[.string s] w fun e w' => e = .returned (.tuple #[.float .f64 (0), .int .i64 4]) ∧ Bl w w' := by
  subst e
  have hrs := hsz
  go_enter Tryd.func32, Tryd.ntmps32
  go_wp2_with fail
  go_loop [5] (fun i => ∃ k : Nat, k ≤ D ∧ i = .int .i64 k) (fun i => D - (intOf i).toNat)
  case atStart => exact ⟨0, Nat.zero_le _, rfl⟩
  case round =>
    obtain ⟨k, hk, rfl⟩ := hrel
    by_cases hlt : k < D
    · have hkr : k < s.size := by omega
      obtain ⟨d1, d2⟩ := hdig.out k hkr hlt
      have q1 : decide ((48 : Int) ≤ (s[k].toNat : Int)) = true := by simp; omega
      have q2 : decide ((s[k].toNat : Int) ≤ 57) = true := by simp; omega
      go_wp2_with fail
      go_round
      case rel => exact ⟨k + 1, by omega, by go_num⟩
      case measure => simp [intOf]; omega
    · obtain rfl : k = D := by omega
      clear hlt
      have HB := Bl.refl w
      rcases q3 with q3 | ⟨q3, q5⟩
      all_goals
        go_wp2_with fail
        go_ret2
        exact ⟨rfl, HB⟩

set_option maxHeartbeats 1600000 in
set_option maxRecDepth 100000 in
theorem refparse_long_plain (s r : ByteArray) (D : Nat) (w : World) (h1 : (s.toList == [110, 97, 110]) = false) (h2 : (s.toList == [105, 110, 102]) = false) (h3 : (s.toList == [45, 105, 110, 102]) = false) (hsz : s.size ≤ 140737488351232) (hp : 0 < s.size) (q : ((s[0].toNat : Int) == 45) = false) (e : s = r) (hD : D ≤ r.size) (hdig : Hid (∀ k (_ : k < r.size), k < D → 48 ≤ r[k].toNat ∧ r[k].toNat ≤ 57)) (hlt : D < r.size) (q7 : (r[D].toNat : Int) = 112) (q5 : decide ((5 : Int) < (r.size : Int) - (D : Int) - 1) = true) :
    Calls Tryd.prog 32 #[.string s] w fun e w' => e = .returned (.tuple #[.float .f64 (0), .int .i64 4]) ∧ Bl w w' := by
  subst e
  have hrs := hsz
  go_enter Tryd.func32, Tryd.ntmps32
  go_wp2_with fail
  go_loop [5] (fun i => ∃ k : Nat, k ≤ D ∧ i = .int .i64 k) (fun i => D - (intOf i).toNat)
  case atStart => exact ⟨0, Nat.zero_le _, rfl⟩
  case round =>
    obtain ⟨k, hk, rfl⟩ := hrel
    by_cases hlt : k < D
    · have hkr : k < s.size := by omega
      obtain ⟨d1, d2⟩ := hdig.out k hkr hlt
      have q1 : decide ((48 : Int) ≤ (s[k].toNat : Int)) = true := by simp; omega
      have q2 : decide ((s[k].toNat : Int) ≤ 57) = true := by simp; omega
      go_wp2_with fail
      go_round
      case rel => exact ⟨k + 1, by omega, by go_num⟩
      case measure => simp [intOf]; omega
    · obtain rfl : k = D := by omega
      clear hlt
      have HB := Bl.refl w
      go_wp2_with fail
      go_ret2
      exact ⟨rfl, HB⟩

set_option maxHeartbeats 1600000 in
set_option maxRecDepth 100000 in
theorem refparse_tail_plain (s r : ByteArray) (D : Nat) (w : World) (h1 : (s.toList == [110, 97, 110]) = false) (h2 : (s.toList == [105, 110, 102]) = false) (h3 : (s.toList == [45, 105, 110, 102]) = false) (hsz : s.size ≤ 140737488351232) (hp : 0 < s.size) (q : ((s[0].toNat : Int) == 45) = false) (e : s = r) (hD : D ≤ r.size) (hdig : Hid (∀ k (_ : k < r.size), k < D → 48 ≤ r[k].toNat ∧ r[k].toNat ≤ 57)) (hlt : D < r.size) (q7 : (r[D].toNat : Int) = 112) (q5 : decide ((5 : Int) < (r.size : Int) - (D : Int) - 1) = false) (t : ByteArray) (ht : r.extract (D + 1) r.size = t) (tv : Int) (T : Hid (∀ w, Calls Tryd.prog 87 #[.string t] w fun e w' => e = .returned (.tuple #[.int .i64 tv, .int .i64 4]) ∧ Bl w w')) :
    Calls Tryd.prog 32 #[.string s] w fun e w' => e = .returned (.tuple #[.float .f64 (0), .int .i64 4]) ∧ Bl w w' := by
  subst e
  have hrs := hsz
  go_enter Tryd.func32, Tryd.ntmps32
  go_wp2_with fail
  go_loop [5] (fun i => ∃ k : Nat, k ≤ D ∧ i = .int .i64 k) (fun i => D - (intOf i).toNat)
  case atStart => exact ⟨0, Nat.zero_le _, rfl⟩
  case round =>
    obtain ⟨k, hk, rfl⟩ := hrel
    by_cases hlt : k < D
    · have hkr : k < s.size := by omega
      obtain ⟨d1, d2⟩ := hdig.out k hkr hlt
      have q1 : decide ((48 : Int) ≤ (s[k].toNat : Int)) = true := by simp; omega
      have q2 : decide ((s[k].toNat : Int) ≤ 57) = true := by simp; omega
      go_wp2_with fail
      go_round
      case rel => exact ⟨k + 1, by omega, by go_num⟩
      case measure => simp [intOf]; omega
    · obtain rfl : k = D := by omega
      clear hlt
      have HB := Bl.refl w
      go_wp2_with fail
      refine (T.out _).mono ?_
      rintro e w1 ⟨rfl, hb1⟩
      replace HB := HB.trans hb1
      clear hb1
      go_wp2_with fail
      go_ret2
      exact ⟨rfl, HB⟩

set_option maxHeartbeats 1600000 in
set_option maxRecDepth 100000 in
theorem refparse_head_p_plain (s r : ByteArray) (D : Nat) (w : World) (h1 : (s.toList == [110, 97, 110]) = false) (h2 : (s.toList == [105, 110, 102]) = false) (h3 : (s.toList == [45, 105, 110, 102]) = false) (hsz : s.size ≤ 140737488351232) (hp : 0 < s.size) (q : ((s[0].toNat : Int) == 45) = false) (e : s = r) (hD : D ≤ r.size) (hdig : Hid (∀ k (_ : k < r.size), k < D → 48 ≤ r[k].toNat ∧ r[k].toNat ≤ 57)) (hlt : D < r.size) (q7 : (r[D].toNat : Int) = 112) (q5 : decide ((5 : Int) < (r.size : Int) - (D : Int) - 1) = false) (t : ByteArray) (ht : r.extract (D + 1) r.size = t) (d : ByteArray) (hd : r.extract 0 D = d) (tv : Int) (T : Hid (∀ w, Calls Tryd.prog 87 #[.string t] w fun e w' => e = .returned (.tuple #[.int .i64 tv, .int .i64 0]) ∧ Bl w w')) (hv : Int) (H : Hid (∀ w, Calls Tryd.prog 87 #[.string d] w fun e w' => e = .returned (.tuple #[.int .i64 hv, .int .i64 4]) ∧ Bl w w')) :
    Calls Tryd.prog 32 #[.string s] w fun e w' => e = .returned (.tuple #[.float .f64 (0), .int .i64 4]) ∧ Bl w w' := by
  subst e
  have hrs := hsz
  go_enter Tryd.func32, Tryd.ntmps32
  go_wp2_with fail
  go_loop [5] (fun i => ∃ k : Nat, k ≤ D ∧ i = .int .i64 k) (fun i => D - (intOf i).toNat)
  case atStart => exact ⟨0, Nat.zero_le _, rfl⟩
  case round =>
    obtain ⟨k, hk, rfl⟩ := hrel
    by_cases hlt : k < D
    · have hkr : k < s.size := by omega
      obtain ⟨d1, d2⟩ := hdig.out k hkr hlt
      have q1 : decide ((48 : Int) ≤ (s[k].toNat : Int)) = true := by simp; omega
      have q2 : decide ((s[k].toNat : Int) ≤ 57) = true := by simp; omega
      go_wp2_with fail
      go_round
      case rel => exact ⟨k + 1, by omega, by go_num⟩
      case measure => simp [intOf]; omega
    · obtain rfl : k = D := by omega
      clear hlt
      have HB := Bl.refl w
      go_wp2_with fail
      refine (T.out _).mono ?_
      rintro e w1 ⟨rfl, hb1⟩
      replace HB := HB.trans hb1
      clear hb1
      go_wp2_with fail
      refine (H.out _).mono ?_
      rintro e w1 ⟨rfl, hb1⟩
      replace HB := HB.trans hb1
      clear hb1
      go_wp2_with fail
      go_ret2
      exact ⟨rfl, HB⟩

set_option maxHeartbeats 1600000 in
set_option maxRecDepth 100000 in
theorem refparse_over_p_plain (s r : ByteArray) (D : Nat) (w : World) (h1 : (s.toList == [110, 97, 110]) = false) (h2 : (s.toList == [105, 110, 102]) = false) (h3 : (s.toList == [45, 105, 110, 102]) = false) (hsz : s.size ≤ 140737488351232) (hp : 0 < s.size) (q : ((s[0].toNat : Int) == 45) = false) (e : s = r) (hD : D ≤ r.size) (hdig : Hid (∀ k (_ : k < r.size), k < D → 48 ≤ r[k].toNat ∧ r[k].toNat ≤ 57)) (hlt : D < r.size) (q7 : (r[D].toNat : Int) = 112) (q5 : decide ((5 : Int) < (r.size : Int) - (D : Int) - 1) = false) (t : ByteArray) (ht : r.extract (D + 1) r.size = t) (d : ByteArray) (hd : r.extract 0 D = d) (tv : Int) (T : Hid (∀ w, Calls Tryd.prog 87 #[.string t] w fun e w' => e = .returned (.tuple #[.int .i64 tv, .int .i64 0]) ∧ Bl w w')) (hv : Int) (q6 : decide ((9007199254740992 : Int) ≤ hv) = true) (H : Hid (∀ w, Calls Tryd.prog 87 #[.string d] w fun e w' => e = .returned (.tuple #[.int .i64 hv, .int .i64 0]) ∧ Bl w w')) :
    Calls Tryd.prog 32 #[.string s] w fun e w' => e = .returned (.tuple #[.float .f64 (0), .int .i64 11]) ∧ Bl w w' := by
  subst e
  have hrs := hsz
  go_enter Tryd.func32, Tryd.ntmps32
  go_wp2_with fail
  go_loop [5] (fun i => ∃ k : Nat, k ≤ D ∧ i = .int .i64 k) (fun i => D - (intOf i).toNat)
  case atStart => exact ⟨0, Nat.zero_le _, rfl⟩
  case round =>
    obtain ⟨k, hk, rfl⟩ := hrel
    by_cases hlt : k < D
    · have hkr : k < s.size := by omega
      obtain ⟨d1, d2⟩ := hdig.out k hkr hlt
      have q1 : decide ((48 : Int) ≤ (s[k].toNat : Int)) = true := by simp; omega
      have q2 : decide ((s[k].toNat : Int) ≤ 57) = true := by simp; omega
      go_wp2_with fail
      go_round
      case rel => exact ⟨k + 1, by omega, by go_num⟩
      case measure => simp [intOf]; omega
    · obtain rfl : k = D := by omega
      clear hlt
      have HB := Bl.refl w
      go_wp2_with fail
      refine (T.out _).mono ?_
      rintro e w1 ⟨rfl, hb1⟩
      replace HB := HB.trans hb1
      clear hb1
      go_wp2_with fail
      refine (H.out _).mono ?_
      rintro e w1 ⟨rfl, hb1⟩
      replace HB := HB.trans hb1
      clear hb1
      go_wp2_with fail
      go_ret2
      exact ⟨rfl, HB⟩

set_option maxHeartbeats 1600000 in
set_option maxRecDepth 100000 in
theorem refparse_zero_p_plain (s r : ByteArray) (D : Nat) (w : World) (h1 : (s.toList == [110, 97, 110]) = false) (h2 : (s.toList == [105, 110, 102]) = false) (h3 : (s.toList == [45, 105, 110, 102]) = false) (hsz : s.size ≤ 140737488351232) (hp : 0 < s.size) (q : ((s[0].toNat : Int) == 45) = false) (e : s = r) (hD : D ≤ r.size) (hdig : Hid (∀ k (_ : k < r.size), k < D → 48 ≤ r[k].toNat ∧ r[k].toNat ≤ 57)) (hlt : D < r.size) (q7 : (r[D].toNat : Int) = 112) (q5 : decide ((5 : Int) < (r.size : Int) - (D : Int) - 1) = false) (t : ByteArray) (ht : r.extract (D + 1) r.size = t) (d : ByteArray) (hd : r.extract 0 D = d) (tv : Int) (T : Hid (∀ w, Calls Tryd.prog 87 #[.string t] w fun e w' => e = .returned (.tuple #[.int .i64 tv, .int .i64 0]) ∧ Bl w w')) (H : Hid (∀ w, Calls Tryd.prog 87 #[.string d] w fun e w' => e = .returned (.tuple #[.int .i64 0, .int .i64 0]) ∧ Bl w w')) :
    Calls Tryd.prog 32 #[.string s] w fun e w' => e = .returned (.tuple #[.float .f64 (0), .int .i64 0]) ∧ Bl w w' := by
  subst e
  have hrs := hsz
  go_enter Tryd.func32, Tryd.ntmps32
  go_wp2_with fail
  go_loop [5] (fun i => ∃ k : Nat, k ≤ D ∧ i = .int .i64 k) (fun i => D - (intOf i).toNat)
  case atStart => exact ⟨0, Nat.zero_le _, rfl⟩
  case round =>
    obtain ⟨k, hk, rfl⟩ := hrel
    by_cases hlt : k < D
    · have hkr : k < s.size := by omega
      obtain ⟨d1, d2⟩ := hdig.out k hkr hlt
      have q1 : decide ((48 : Int) ≤ (s[k].toNat : Int)) = true := by simp; omega
      have q2 : decide ((s[k].toNat : Int) ≤ 57) = true := by simp; omega
      go_wp2_with fail
      go_round
      case rel => exact ⟨k + 1, by omega, by go_num⟩
      case measure => simp [intOf]; omega
    · obtain rfl : k = D := by omega
      clear hlt
      have HB := Bl.refl w
      go_wp2_with fail
      refine (T.out _).mono ?_
      rintro e w1 ⟨rfl, hb1⟩
      replace HB := HB.trans hb1
      clear hb1
      go_wp2_with fail
      refine (H.out _).mono ?_
      rintro e w1 ⟨rfl, hb1⟩
      replace HB := HB.trans hb1
      clear hb1
      go_wp2_with fail
      go_ret2
      exact ⟨rfl, HB⟩

set_option maxHeartbeats 1600000 in
set_option maxRecDepth 100000 in
theorem refparse_head_n_plain (s r : ByteArray) (D : Nat) (w : World) (h1 : (s.toList == [110, 97, 110]) = false) (h2 : (s.toList == [105, 110, 102]) = false) (h3 : (s.toList == [45, 105, 110, 102]) = false) (hsz : s.size ≤ 140737488351232) (hp : 0 < s.size) (q : ((s[0].toNat : Int) == 45) = false) (e : s = r) (hD : D ≤ r.size) (hdig : Hid (∀ k (_ : k < r.size), k < D → 48 ≤ r[k].toNat ∧ r[k].toNat ≤ 57)) (hlt : D = r.size) (hv : Int) (H : Hid (∀ w, Calls Tryd.prog 87 #[.string r] w fun e w' => e = .returned (.tuple #[.int .i64 hv, .int .i64 4]) ∧ Bl w w')) :
    Calls Tryd.prog 32 #[.string s] w fun e w' => e = .returned (.tuple #[.float .f64 (0), .int .i64 4]) ∧ Bl w w' := by
  subst e
  have hrs := hsz
  go_enter Tryd.func32, Tryd.ntmps32
  go_wp2_with fail
  go_loop [5] (fun i => ∃ k : Nat, k ≤ D ∧ i = .int .i64 k) (fun i => D - (intOf i).toNat)
  case atStart => exact ⟨0, Nat.zero_le _, rfl⟩
  case round =>
    obtain ⟨k, hk, rfl⟩ := hrel
    by_cases hlt : k < D
    · have hkr : k < s.size := by omega
      obtain ⟨d1, d2⟩ := hdig.out k hkr hlt
      have q1 : decide ((48 : Int) ≤ (s[k].toNat : Int)) = true := by simp; omega
      have q2 : decide ((s[k].toNat : Int) ≤ 57) = true := by simp; omega
      go_wp2_with fail
      go_round
      case rel => exact ⟨k + 1, by omega, by go_num⟩
      case measure => simp [intOf]; omega
    · obtain rfl : k = D := by omega
      clear hlt
      have HB := Bl.refl w
      go_wp2_with fail
      refine (H.out _).mono ?_
      rintro e w1 ⟨rfl, hb1⟩
      replace HB := HB.trans hb1
      clear hb1
      go_wp2_with fail
      go_ret2
      exact ⟨rfl, HB⟩

set_option maxHeartbeats 1600000 in
set_option maxRecDepth 100000 in
theorem refparse_over_n_plain (s r : ByteArray) (D : Nat) (w : World) (h1 : (s.toList == [110, 97, 110]) = false) (h2 : (s.toList == [105, 110, 102]) = false) (h3 : (s.toList == [45, 105, 110, 102]) = false) (hsz : s.size ≤ 140737488351232) (hp : 0 < s.size) (q : ((s[0].toNat : Int) == 45) = false) (e : s = r) (hD : D ≤ r.size) (hdig : Hid (∀ k (_ : k < r.size), k < D → 48 ≤ r[k].toNat ∧ r[k].toNat ≤ 57)) (hlt : D = r.size) (hv : Int) (q6 : decide ((9007199254740992 : Int) ≤ hv) = true) (H : Hid (∀ w, Calls Tryd.prog 87 #[.string r] w fun e w' => e = .returned (.tuple #[.int .i64 hv, .int .i64 0]) ∧ Bl w w')) :
    Calls Tryd.prog 32 #[.string s] w fun e w' => e = .returned (.tuple #[.float .f64 (0), .int .i64 11]) ∧ Bl w w' := by
  subst e
  have hrs := hsz
  go_enter Tryd.func32, Tryd.ntmps32
  go_wp2_with fail
  go_loop [5] (fun i => ∃ k : Nat, k ≤ D ∧ i = .int .i64 k) (fun i => D - (intOf i).toNat)
  case atStart => exact ⟨0, Nat.zero_le _, rfl⟩
  case round =>
    obtain ⟨k, hk, rfl⟩ := hrel
    by_cases hlt : k < D
    · have hkr : k < s.size := by omega
      obtain ⟨d1, d2⟩ := hdig.out k hkr hlt
      have q1 : decide ((48 : Int) ≤ (s[k].toNat : Int)) = true := by simp; omega
      have q2 : decide ((s[k].toNat : Int) ≤ 57) = true := by simp; omega
      go_wp2_with fail
      go_round
      case rel => exact ⟨k + 1, by omega, by go_num⟩
      case measure => simp [intOf]; omega
    · obtain rfl : k = D := by omega
      clear hlt
      have HB := Bl.refl w
      go_wp2_with fail
      refine (H.out _).mono ?_
      rintro e w1 ⟨rfl, hb1⟩
      replace HB := HB.trans hb1
      clear hb1
      go_wp2_with fail
      go_ret2
      exact ⟨rfl, HB⟩

set_option maxHeartbeats 1600000 in
set_option maxRecDepth 100000 in
theorem refparse_zero_n_plain (s r : ByteArray) (D : Nat) (w : World) (h1 : (s.toList == [110, 97, 110]) = false) (h2 : (s.toList == [105, 110, 102]) = false) (h3 : (s.toList == [45, 105, 110, 102]) = false) (hsz : s.size ≤ 140737488351232) (hp : 0 < s.size) (q : ((s[0].toNat : Int) == 45) = false) (e : s = r) (hD : D ≤ r.size) (hdig : Hid (∀ k (_ : k < r.size), k < D → 48 ≤ r[k].toNat ∧ r[k].toNat ≤ 57)) (hlt : D = r.size) (H : Hid (∀ w, Calls Tryd.prog 87 #[.string r] w fun e w' => e = .returned (.tuple #[.int .i64 0, .int .i64 0]) ∧ Bl w w')) :
    Calls Tryd.prog 32 #[.string s] w fun e w' => e = .returned (.tuple #[.float .f64 (0), .int .i64 0]) ∧ Bl w w' := by
  subst e
  have hrs := hsz
  go_enter Tryd.func32, Tryd.ntmps32
  go_wp2_with fail
  go_loop [5] (fun i => ∃ k : Nat, k ≤ D ∧ i = .int .i64 k) (fun i => D - (intOf i).toNat)
  case atStart => exact ⟨0, Nat.zero_le _, rfl⟩
  case round =>
    obtain ⟨k, hk, rfl⟩ := hrel
    by_cases hlt : k < D
    · have hkr : k < s.size := by omega
      obtain ⟨d1, d2⟩ := hdig.out k hkr hlt
      have q1 : decide ((48 : Int) ≤ (s[k].toNat : Int)) = true := by simp; omega
      have q2 : decide ((s[k].toNat : Int) ≤ 57) = true := by simp; omega
      go_wp2_with fail
      go_round
      case rel => exact ⟨k + 1, by omega, by go_num⟩
      case measure => simp [intOf]; omega
    · obtain rfl : k = D := by omega
      clear hlt
      have HB := Bl.refl w
      go_wp2_with fail
      refine (H.out _).mono ?_
      rintro e w1 ⟨rfl, hb1⟩
      replace HB := HB.trans hb1
      clear hb1
      go_wp2_with fail
      go_ret2
      exact ⟨rfl, HB⟩

end Go.Proofs.YtgdlcoicejgdkaaDoor
