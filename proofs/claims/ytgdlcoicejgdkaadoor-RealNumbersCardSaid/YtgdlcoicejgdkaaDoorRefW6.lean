/- bedrockref2.Parse: the ends ahead of its digits (printed by a program). · bedrockref2.Parse: the ends behind its digits (printed by a program). · bedrockref2.Parse is real.Parse: each text. By an AI agent. -/
import Derived.Test.YtgdlcoicejgdkaaDoorRefW2
import Derived.Test.YtgdlcoicejgdkaaDoorRefW3
import Derived.Outline
import Derived.Test.YtgdlcoicejgdkaaDoorNum5
set_option linter.unusedVariables false
namespace Go.Proofs.YtgdlcoicejgdkaaDoor
open Go.RowKit

set_option maxHeartbeats 1600000 in
set_option maxRecDepth 100000 in
theorem refparse_char_below (s r : ByteArray) (D : Nat) (w : World) (h1 : (s.toList == [110, 97, 110]) = false) (h2 : (s.toList == [105, 110, 102]) = false) (h3 : (s.toList == [45, 105, 110, 102]) = false) (hsz : s.size ≤ 140737488351232) (hp : 0 < s.size) (q : ((s[0].toNat : Int) == 45) = true) (e : s.extract 1 s.size = r) (hrs : r.size ≤ 140737488351232) (hD : D ≤ r.size) (hdig : Hid (∀ k (_ : k < r.size), k < D → 48 ≤ r[k].toNat ∧ r[k].toNat ≤ 57)) (hlt : D < r.size) (q3 : decide ((48 : Int) ≤ (r[D].toNat : Int)) = false ∨ (decide ((48 : Int) ≤ (r[D].toNat : Int)) = true ∧ decide ((r[D].toNat : Int) ≤ 57) = false)) (q4 : ((r[D].toNat : Int) != 112) = true) :
    Calls Tryd.prog 32 #[.string s] w fun e w' => e = .returned (.tuple #[.float .f64 (0), .int .i64 4]) ∧ Bl w w' := by
  go_enter Tryd.func32, Tryd.ntmps32
  go_wp2_with fail
  go_loop [5] (fun i => ∃ k : Nat, k ≤ D ∧ i = .int .i64 k) (fun i => D - (intOf i).toNat)
  case atStart => exact ⟨0, Nat.zero_le _, rfl⟩
  case round =>
    obtain ⟨k, hk, rfl⟩ := hrel
    by_cases hlt : k < D
    · have hkr : k < r.size := by omega
      obtain ⟨d1, d2⟩ := hdig.out k hkr hlt
      have q1 : decide ((48 : Int) ≤ (r[k].toNat : Int)) = true := by simp; omega
      have q2 : decide ((r[k].toNat : Int) ≤ 57) = true := by simp; omega
      go_wp2_with fail
      go_round
      case rel => exact ⟨k + 1, by omega, by go_num⟩
      case measure => simp [intOf]; omega
    · obtain rfl : k = D := by omega
      clear hlt
      have HB := Bl.refl w
      rcases q3 with q3 | ⟨q3, q5⟩
      all_goals
        go_wp2_with fail
        go_ret2
        exact ⟨rfl, HB⟩

set_option maxHeartbeats 1600000 in
set_option maxRecDepth 100000 in
theorem refparse_long_below (s r : ByteArray) (D : Nat) (w : World) (h1 : (s.toList == [110, 97, 110]) = false) (h2 : (s.toList == [105, 110, 102]) = false) (h3 : (s.toList == [45, 105, 110, 102]) = false) (hsz : s.size ≤ 140737488351232) (hp : 0 < s.size) (q : ((s[0].toNat : Int) == 45) = true) (e : s.extract 1 s.size = r) (hrs : r.size ≤ 140737488351232) (hD : D ≤ r.size) (hdig : Hid (∀ k (_ : k < r.size), k < D → 48 ≤ r[k].toNat ∧ r[k].toNat ≤ 57)) (hlt : D < r.size) (q7 : (r[D].toNat : Int) = 112) (q5 : decide ((5 : Int) < (r.size : Int) - (D : Int) - 1) = true) :
    Calls Tryd.prog 32 #[.string s] w fun e w' => e = .returned (.tuple #[.float .f64 (0), .int .i64 4]) ∧ Bl w w' := by
  go_enter Tryd.func32, Tryd.ntmps32
  go_wp2_with fail
  go_loop [5] (fun i => ∃ k : Nat, k ≤ D ∧ i = .int .i64 k) (fun i => D - (intOf i).toNat)
  case atStart => exact ⟨0, Nat.zero_le _, rfl⟩
  case round =>
    obtain ⟨k, hk, rfl⟩ := hrel
    by_cases hlt : k < D
    · have hkr : k < r.size := by omega
      obtain ⟨d1, d2⟩ := hdig.out k hkr hlt
      have q1 : decide ((48 : Int) ≤ (r[k].toNat : Int)) = true := by simp; omega
      have q2 : decide ((r[k].toNat : Int) ≤ 57) = true := by simp; omega
      go_wp2_with fail
      go_round
      case rel => exact ⟨k + 1, by omega, by go_num⟩
      case measure => simp [intOf]; omega
    · obtain rfl : k = D := by omega
      clear hlt
      have HB := Bl.refl w
      go_wp2_with fail
      go_ret2
      exact ⟨rfl, HB⟩

set_option maxHeartbeats 1600000 in
set_option maxRecDepth 100000 in
theorem refparse_tail_below (s r : ByteArray) (D : Nat) (w : World) (h1 : (s.toList == [110, 97, 110]) = false) (h2 : (s.toList == [105, 110, 102]) = false) (h3 : (s.toList == [45, 105, 110, 102]) = false) (hsz : s.size ≤ 140737488351232) (hp : 0 < s.size) (q : ((s[0].toNat : Int) == 45) = true) (e : s.extract 1 s.size = r) (hrs : r.size ≤ 140737488351232) (hD : D ≤ r.size) (hdig : Hid (∀ k (_ : k < r.size), k < D → 48 ≤ r[k].toNat ∧ r[k].toNat ≤ 57)) (hlt : D < r.size) (q7 : (r[D].toNat : Int) = 112) (q5 : decide ((5 : Int) < (r.size : Int) - (D : Int) - 1) = false) (t : ByteArray) (ht : r.extract (D + 1) r.size = t) (tv : Int) (T : Hid (∀ w, Calls Tryd.prog 87 #[.string t] w fun e w' => e = .returned (.tuple #[.int .i64 tv, .int .i64 4]) ∧ Bl w w')) :
    Calls Tryd.prog 32 #[.string s] w fun e w' => e = .returned (.tuple #[.float .f64 (0), .int .i64 4]) ∧ Bl w w' := by
  go_enter Tryd.func32, Tryd.ntmps32
  go_wp2_with fail
  go_loop [5] (fun i => ∃ k : Nat, k ≤ D ∧ i = .int .i64 k) (fun i => D - (intOf i).toNat)
  case atStart => exact ⟨0, Nat.zero_le _, rfl⟩
  case round =>
    obtain ⟨k, hk, rfl⟩ := hrel
    by_cases hlt : k < D
    · have hkr : k < r.size := by omega
      obtain ⟨d1, d2⟩ := hdig.out k hkr hlt
      have q1 : decide ((48 : Int) ≤ (r[k].toNat : Int)) = true := by simp; omega
      have q2 : decide ((r[k].toNat : Int) ≤ 57) = true := by simp; omega
      go_wp2_with fail
      go_round
      case rel => exact ⟨k + 1, by omega, by go_num⟩
      case measure => simp [intOf]; omega
    · obtain rfl : k = D := by omega
      clear hlt
      have HB := Bl.refl w
      go_wp2_with fail
      refine (T.out _).mono ?_
      rintro e w1 ⟨rfl, hb1⟩
      replace HB := HB.trans hb1
      clear hb1
      go_wp2_with fail
      go_ret2
      exact ⟨rfl, HB⟩

set_option maxHeartbeats 1600000 in
set_option maxRecDepth 100000 in
theorem refparse_head_p_below (s r : ByteArray) (D : Nat) (w : World) (h1 : (s.toList == [110, 97, 110]) = false) (h2 : (s.toList == [105, 110, 102]) = false) (h3 : (s.toList == [45, 105, 110, 102]) = false) (hsz : s.size ≤ 140737488351232) (hp : 0 < s.size) (q : ((s[0].toNat : Int) == 45) = true) (e : s.extract 1 s.size = r) (hrs : r.size ≤ 140737488351232) (hD : D ≤ r.size) (hdig : Hid (∀ k (_ : k < r.size), k < D → 48 ≤ r[k].toNat ∧ r[k].toNat ≤ 57)) (hlt : D < r.size) (q7 : (r[D].toNat : Int) = 112) (q5 : decide ((5 : Int) < (r.size : Int) - (D : Int) - 1) = false) (t : ByteArray) (ht : r.extract (D + 1) r.size = t) (d : ByteArray) (hd : r.extract 0 D = d) (tv : Int) (T : Hid (∀ w, Calls Tryd.prog 87 #[.string t] w fun e w' => e = .returned (.tuple #[.int .i64 tv, .int .i64 0]) ∧ Bl w w')) (hv : Int) (H : Hid (∀ w, Calls Tryd.prog 87 #[.string d] w fun e w' => e = .returned (.tuple #[.int .i64 hv, .int .i64 4]) ∧ Bl w w')) :
    Calls Tryd.prog 32 #[.string s] w fun e w' => e = .returned (.tuple #[.float .f64 (0), .int .i64 4]) ∧ Bl w w' := by
  go_enter Tryd.func32, Tryd.ntmps32
  go_wp2_with fail
  go_loop [5] (fun i => ∃ k : Nat, k ≤ D ∧ i = .int .i64 k) (fun i => D - (intOf i).toNat)
  case atStart => exact ⟨0, Nat.zero_le _, rfl⟩
  case round =>
    obtain ⟨k, hk, rfl⟩ := hrel
    by_cases hlt : k < D
    · have hkr : k < r.size := by omega
      obtain ⟨d1, d2⟩ := hdig.out k hkr hlt
      have q1 : decide ((48 : Int) ≤ (r[k].toNat : Int)) = true := by simp; omega
      have q2 : decide ((r[k].toNat : Int) ≤ 57) = true := by simp; omega
      go_wp2_with fail
      go_round
      case rel => exact ⟨k + 1, by omega, by go_num⟩
      case measure => simp [intOf]; omega
    · obtain rfl : k = D := by omega
      clear hlt
      have HB := Bl.refl w
      go_wp2_with fail
      refine (T.out _).mono ?_
      rintro e w1 ⟨rfl, hb1⟩
      replace HB := HB.trans hb1
      clear hb1
      go_wp2_with fail
      refine (H.out _).mono ?_
      rintro e w1 ⟨rfl, hb1⟩
      replace HB := HB.trans hb1
      clear hb1
      go_wp2_with fail
      go_ret2
      exact ⟨rfl, HB⟩

set_option maxHeartbeats 1600000 in
set_option maxRecDepth 100000 in
theorem refparse_over_p_below (s r : ByteArray) (D : Nat) (w : World) (h1 : (s.toList == [110, 97, 110]) = false) (h2 : (s.toList == [105, 110, 102]) = false) (h3 : (s.toList == [45, 105, 110, 102]) = false) (hsz : s.size ≤ 140737488351232) (hp : 0 < s.size) (q : ((s[0].toNat : Int) == 45) = true) (e : s.extract 1 s.size = r) (hrs : r.size ≤ 140737488351232) (hD : D ≤ r.size) (hdig : Hid (∀ k (_ : k < r.size), k < D → 48 ≤ r[k].toNat ∧ r[k].toNat ≤ 57)) (hlt : D < r.size) (q7 : (r[D].toNat : Int) = 112) (q5 : decide ((5 : Int) < (r.size : Int) - (D : Int) - 1) = false) (t : ByteArray) (ht : r.extract (D + 1) r.size = t) (d : ByteArray) (hd : r.extract 0 D = d) (tv : Int) (T : Hid (∀ w, Calls Tryd.prog 87 #[.string t] w fun e w' => e = .returned (.tuple #[.int .i64 tv, .int .i64 0]) ∧ Bl w w')) (hv : Int) (q6 : decide ((9007199254740992 : Int) ≤ hv) = true) (H : Hid (∀ w, Calls Tryd.prog 87 #[.string d] w fun e w' => e = .returned (.tuple #[.int .i64 hv, .int .i64 0]) ∧ Bl w w')) :
    Calls Tryd.prog 32 #[.string s] w fun e w' => e = .returned (.tuple #[.float .f64 (0), .int .i64 11]) ∧ Bl w w' := by
  go_enter Tryd.func32, Tryd.ntmps32
  go_wp2_with fail
  go_loop [5] (fun i => ∃ k : Nat, k ≤ D ∧ i = .int .i64 k) (fun i => D - (intOf i).toNat)
  case atStart => exact ⟨0, Nat.zero_le _, rfl⟩
  case round =>
    obtain ⟨k, hk, rfl⟩ := hrel
    by_cases hlt : k < D
    · have hkr : k < r.size := by omega
      obtain ⟨d1, d2⟩ := hdig.out k hkr hlt
      have q1 : decide ((48 : Int) ≤ (r[k].toNat : Int)) = true := by simp; omega
      have q2 : decide ((r[k].toNat : Int) ≤ 57) = true := by simp; omega
      go_wp2_with fail
      go_round
      case rel => exact ⟨k + 1, by omega, by go_num⟩
      case measure => simp [intOf]; omega
    · obtain rfl : k = D := by omega
      clear hlt
      have HB := Bl.refl w
      go_wp2_with fail
      refine (T.out _).mono ?_
      rintro e w1 ⟨rfl, hb1⟩
      replace HB := HB.trans hb1
      clear hb1
      go_wp2_with fail
      refine (H.out _).mono ?_
      rintro e w1 ⟨rfl, hb1⟩
      replace HB := HB.trans hb1
      clear hb1
      go_wp2_with fail
      go_ret2
      exact ⟨rfl, HB⟩

set_option maxHeartbeats 1600000 in
set_option maxRecDepth 100000 in
theorem refparse_zero_p_below (s r : ByteArray) (D : Nat) (w : World) (h1 : (s.toList == [110, 97, 110]) = false) (h2 : (s.toList == [105, 110, 102]) = false) (h3 : (s.toList == [45, 105, 110, 102]) = false) (hsz : s.size ≤ 140737488351232) (hp : 0 < s.size) (q : ((s[0].toNat : Int) == 45) = true) (e : s.extract 1 s.size = r) (hrs : r.size ≤ 140737488351232) (hD : D ≤ r.size) (hdig : Hid (∀ k (_ : k < r.size), k < D → 48 ≤ r[k].toNat ∧ r[k].toNat ≤ 57)) (hlt : D < r.size) (q7 : (r[D].toNat : Int) = 112) (q5 : decide ((5 : Int) < (r.size : Int) - (D : Int) - 1) = false) (t : ByteArray) (ht : r.extract (D + 1) r.size = t) (d : ByteArray) (hd : r.extract 0 D = d) (tv : Int) (T : Hid (∀ w, Calls Tryd.prog 87 #[.string t] w fun e w' => e = .returned (.tuple #[.int .i64 tv, .int .i64 0]) ∧ Bl w w')) (H : Hid (∀ w, Calls Tryd.prog 87 #[.string d] w fun e w' => e = .returned (.tuple #[.int .i64 0, .int .i64 0]) ∧ Bl w w')) :
    Calls Tryd.prog 32 #[.string s] w fun e w' => e = .returned (.tuple #[.float .f64 (0 + two63), .int .i64 0]) ∧ Bl w w' := by
  go_enter Tryd.func32, Tryd.ntmps32
  go_wp2_with fail
  go_loop [5] (fun i => ∃ k : Nat, k ≤ D ∧ i = .int .i64 k) (fun i => D - (intOf i).toNat)
  case atStart => exact ⟨0, Nat.zero_le _, rfl⟩
  case round =>
    obtain ⟨k, hk, rfl⟩ := hrel
    by_cases hlt : k < D
    · have hkr : k < r.size := by omega
      obtain ⟨d1, d2⟩ := hdig.out k hkr hlt
      have q1 : decide ((48 : Int) ≤ (r[k].toNat : Int)) = true := by simp; omega
      have q2 : decide ((r[k].toNat : Int) ≤ 57) = true := by simp; omega
      go_wp2_with fail
      go_round
      case rel => exact ⟨k + 1, by omega, by go_num⟩
      case measure => simp [intOf]; omega
    · obtain rfl : k = D := by omega
      clear hlt
      have HB := Bl.refl w
      go_wp2_with fail
      refine (T.out _).mono ?_
      rintro e w1 ⟨rfl, hb1⟩
      replace HB := HB.trans hb1
      clear hb1
      go_wp2_with fail
      refine (H.out _).mono ?_
      rintro e w1 ⟨rfl, hb1⟩
      replace HB := HB.trans hb1
      clear hb1
      go_wp2_with fail
      refine (copysign_neg 0 _ (by decide)).mono ?_
      rintro e w1 ⟨rfl, rfl⟩
      go_wp2_with fail
      go_ret2
      exact ⟨rfl, HB⟩

set_option maxHeartbeats 1600000 in
set_option maxRecDepth 100000 in
theorem refparse_head_n_below (s r : ByteArray) (D : Nat) (w : World) (h1 : (s.toList == [110, 97, 110]) = false) (h2 : (s.toList == [105, 110, 102]) = false) (h3 : (s.toList == [45, 105, 110, 102]) = false) (hsz : s.size ≤ 140737488351232) (hp : 0 < s.size) (q : ((s[0].toNat : Int) == 45) = true) (e : s.extract 1 s.size = r) (hrs : r.size ≤ 140737488351232) (hD : D ≤ r.size) (hdig : Hid (∀ k (_ : k < r.size), k < D → 48 ≤ r[k].toNat ∧ r[k].toNat ≤ 57)) (hlt : D = r.size) (hv : Int) (H : Hid (∀ w, Calls Tryd.prog 87 #[.string r] w fun e w' => e = .returned (.tuple #[.int .i64 hv, .int .i64 4]) ∧ Bl w w')) :
    Calls Tryd.prog 32 #[.string s] w fun e w' => e = .returned (.tuple #[.float .f64 (0), .int .i64 4]) ∧ Bl w w' := by
  go_enter Tryd.func32, Tryd.ntmps32
  go_wp2_with fail
  go_loop [5] (fun i => ∃ k : Nat, k ≤ D ∧ i = .int .i64 k) (fun i => D - (intOf i).toNat)
  case atStart => exact ⟨0, Nat.zero_le _, rfl⟩
  case round =>
    obtain ⟨k, hk, rfl⟩ := hrel
    by_cases hlt : k < D
    · have hkr : k < r.size := by omega
      obtain ⟨d1, d2⟩ := hdig.out k hkr hlt
      have q1 : decide ((48 : Int) ≤ (r[k].toNat : Int)) = true := by simp; omega
      have q2 : decide ((r[k].toNat : Int) ≤ 57) = true := by simp; omega
      go_wp2_with fail
      go_round
      case rel => exact ⟨k + 1, by omega, by go_num⟩
      case measure => simp [intOf]; omega
    · obtain rfl : k = D := by omega
      clear hlt
      have HB := Bl.refl w
      go_wp2_with fail
      refine (H.out _).mono ?_
      rintro e w1 ⟨rfl, hb1⟩
      replace HB := HB.trans hb1
      clear hb1
      go_wp2_with fail
      go_ret2
      exact ⟨rfl, HB⟩

set_option maxHeartbeats 1600000 in
set_option maxRecDepth 100000 in
theorem refparse_over_n_below (s r : ByteArray) (D : Nat) (w : World) (h1 : (s.toList == [110, 97, 110]) = false) (h2 : (s.toList == [105, 110, 102]) = false) (h3 : (s.toList == [45, 105, 110, 102]) = false) (hsz : s.size ≤ 140737488351232) (hp : 0 < s.size) (q : ((s[0].toNat : Int) == 45) = true) (e : s.extract 1 s.size = r) (hrs : r.size ≤ 140737488351232) (hD : D ≤ r.size) (hdig : Hid (∀ k (_ : k < r.size), k < D → 48 ≤ r[k].toNat ∧ r[k].toNat ≤ 57)) (hlt : D = r.size) (hv : Int) (q6 : decide ((9007199254740992 : Int) ≤ hv) = true) (H : Hid (∀ w, Calls Tryd.prog 87 #[.string r] w fun e w' => e = .returned (.tuple #[.int .i64 hv, .int .i64 0]) ∧ Bl w w')) :
    Calls Tryd.prog 32 #[.string s] w fun e w' => e = .returned (.tuple #[.float .f64 (0), .int .i64 11]) ∧ Bl w w' := by
  go_enter Tryd.func32, Tryd.ntmps32
  go_wp2_with fail
  go_loop [5] (fun i => ∃ k : Nat, k ≤ D ∧ i = .int .i64 k) (fun i => D - (intOf i).toNat)
  case atStart => exact ⟨0, Nat.zero_le _, rfl⟩
  case round =>
    obtain ⟨k, hk, rfl⟩ := hrel
    by_cases hlt : k < D
    · have hkr : k < r.size := by omega
      obtain ⟨d1, d2⟩ := hdig.out k hkr hlt
      have q1 : decide ((48 : Int) ≤ (r[k].toNat : Int)) = true := by simp; omega
      have q2 : decide ((r[k].toNat : Int) ≤ 57) = true := by simp; omega
      go_wp2_with fail
      go_round
      case rel => exact ⟨k + 1, by omega, by go_num⟩
      case measure => simp [intOf]; omega
    · obtain rfl : k = D := by omega
      clear hlt
      have HB := Bl.refl w
      go_wp2_with fail
      refine (H.out _).mono ?_
      rintro e w1 ⟨rfl, hb1⟩
      replace HB := HB.trans hb1
      clear hb1
      go_wp2_with fail
      go_ret2
      exact ⟨rfl, HB⟩

set_option maxHeartbeats 1600000 in
set_option maxRecDepth 100000 in
theorem refparse_zero_n_below (s r : ByteArray) (D : Nat) (w : World) (h1 : (s.toList == [110, 97, 110]) = false) (h2 : (s.toList == [105, 110, 102]) = false) (h3 : (s.toList == [45, 105, 110, 102]) = false) (hsz : s.size ≤ 140737488351232) (hp : 0 < s.size) (q : ((s[0].toNat : Int) == 45) = true) (e : s.extract 1 s.size = r) (hrs : r.size ≤ 140737488351232) (hD : D ≤ r.size) (hdig : Hid (∀ k (_ : k < r.size), k < D → 48 ≤ r[k].toNat ∧ r[k].toNat ≤ 57)) (hlt : D = r.size) (H : Hid (∀ w, Calls Tryd.prog 87 #[.string r] w fun e w' => e = .returned (.tuple #[.int .i64 0, .int .i64 0]) ∧ Bl w w')) :
    Calls Tryd.prog 32 #[.string s] w fun e w' => e = .returned (.tuple #[.float .f64 (0 + two63), .int .i64 0]) ∧ Bl w w' := by
  go_enter Tryd.func32, Tryd.ntmps32
  go_wp2_with fail
  go_loop [5] (fun i => ∃ k : Nat, k ≤ D ∧ i = .int .i64 k) (fun i => D - (intOf i).toNat)
  case atStart => exact ⟨0, Nat.zero_le _, rfl⟩
  case round =>
    obtain ⟨k, hk, rfl⟩ := hrel
    by_cases hlt : k < D
    · have hkr : k < r.size := by omega
      obtain ⟨d1, d2⟩ := hdig.out k hkr hlt
      have q1 : decide ((48 : Int) ≤ (r[k].toNat : Int)) = true := by simp; omega
      have q2 : decide ((r[k].toNat : Int) ≤ 57) = true := by simp; omega
      go_wp2_with fail
      go_round
      case rel => exact ⟨k + 1, by omega, by go_num⟩
      case measure => simp [intOf]; omega
    · obtain rfl : k = D := by omega
      clear hlt
      have HB := Bl.refl w
      go_wp2_with fail
      refine (H.out _).mono ?_
      rintro e w1 ⟨rfl, hb1⟩
      replace HB := HB.trans hb1
      clear hb1
      go_wp2_with fail
      refine (copysign_neg 0 _ (by decide)).mono ?_
      rintro e w1 ⟨rfl, rfl⟩
      go_wp2_with fail
      go_ret2
      exact ⟨rfl, HB⟩

set_option maxHeartbeats 1600000 in
set_option maxRecDepth 100000 in
theorem refparse_char_plain (s r : ByteArray) (D : Nat) (w : World) (h1 : (s.toList == [110, 97, 110]) = false) (h2 : (s.toList == [105, 110, 102]) = false) (h3 : (s.toList == [45, 105, 110, 102]) = false) (hsz : s.size ≤ 140737488351232) (hp : 0 < s.size) (q : ((s[0].toNat : Int) == 45) = false) (e : s = r) (hD : D ≤ r.size) (hdig : Hid (∀ k (_ : k < r.size), k < D → 48 ≤ r[k].toNat ∧ r[k].toNat ≤ 57)) (hlt : D < r.size) (q3 : decide ((48 : Int) ≤ (r[D].toNat : Int)) = false ∨ (decide ((48 : Int) ≤ (r[D].toNat : Int)) = true ∧ decide ((r[D].toNat : Int) ≤ 57) = false)) (q4 : ((r[D].toNat : Int) != 112) = true) :
    Calls Tryd.prog 32 #[.string s] w fun e w' => e = .returned (.tuple #[.float .f64 (0), .int .i64 4]) ∧ Bl w w' := by
  subst e
  have hrs := hsz
  go_enter Tryd.func32, Tryd.ntmps32
  go_wp2_with fail
  go_loop [5] (fun i => ∃ k : Nat, k ≤ D ∧ i = .int .i64 k) (fun i => D - (intOf i).toNat)
  case atStart => exact ⟨0, Nat.zero_le _, rfl⟩
  case round =>
    obtain ⟨k, hk, rfl⟩ := hrel
    by_cases hlt : k < D
    · have hkr : k < s.size := by omega
      obtain ⟨d1, d2⟩ := hdig.out k hkr hlt
      have q1 : decide ((48 : Int) ≤ (s[k].toNat : Int)) = true := by simp; omega
      have q2 : decide ((s[k].toNat : Int) ≤ 57) = true := by simp; omega
      go_wp2_with fail
      go_round
      case rel => exact ⟨k + 1, by omega, by go_num⟩
      case measure => simp [intOf]; omega
    · obtain rfl : k = D := by omega
      clear hlt
      have HB := Bl.refl w
      rcases q3 with q3 | ⟨q3, q5⟩
      all_goals
        go_wp2_with fail
        go_ret2
        exact ⟨rfl, HB⟩

set_option maxHeartbeats 1600000 in
set_option maxRecDepth 100000 in
theorem refparse_long_plain (s r : ByteArray) (D : Nat) (w : World) (h1 : (s.toList == [110, 97, 110]) = false) (h2 : (s.toList == [105, 110, 102]) = false) (h3 : (s.toList == [45, 105, 110, 102]) = false) (hsz : s.size ≤ 140737488351232) (hp : 0 < s.size) (q : ((s[0].toNat : Int) == 45) = false) (e : s = r) (hD : D ≤ r.size) (hdig : Hid (∀ k (_ : k < r.size), k < D → 48 ≤ r[k].toNat ∧ r[k].toNat ≤ 57)) (hlt : D < r.size) (q7 : (r[D].toNat : Int) = 112) (q5 : decide ((5 : Int) < (r.size : Int) - (D : Int) - 1) = true) :
    Calls Tryd.prog 32 #[.string s] w fun e w' => e = .returned (.tuple #[.float .f64 (0), .int .i64 4]) ∧ Bl w w' := by
  subst e
  have hrs := hsz
  go_enter Tryd.func32, Tryd.ntmps32
  go_wp2_with fail
  go_loop [5] (fun i => ∃ k : Nat, k ≤ D ∧ i = .int .i64 k) (fun i => D - (intOf i).toNat)
  case atStart => exact ⟨0, Nat.zero_le _, rfl⟩
  case round =>
    obtain ⟨k, hk, rfl⟩ := hrel
    by_cases hlt : k < D
    · have hkr : k < s.size := by omega
      obtain ⟨d1, d2⟩ := hdig.out k hkr hlt
      have q1 : decide ((48 : Int) ≤ (s[k].toNat : Int)) = true := by simp; omega
      have q2 : decide ((s[k].toNat : Int) ≤ 57) = true := by simp; omega
      go_wp2_with fail
      go_round
      case rel => exact ⟨k + 1, by omega, by go_num⟩
      case measure => simp [intOf]; omega
    · obtain rfl : k = D := by omega
      clear hlt
      have HB := Bl.refl w
      go_wp2_with fail
      go_ret2
      exact ⟨rfl, HB⟩

set_option maxHeartbeats 1600000 in
set_option maxRecDepth 100000 in
theorem refparse_tail_plain (s r : ByteArray) (D : Nat) (w : World) (h1 : (s.toList == [110, 97, 110]) = false) (h2 : (s.toList == [105, 110, 102]) = false) (h3 : (s.toList == [45, 105, 110, 102]) = false) (hsz : s.size ≤ 140737488351232) (hp : 0 < s.size) (q : ((s[0].toNat : Int) == 45) = false) (e : s = r) (hD : D ≤ r.size) (hdig : Hid (∀ k (_ : k < r.size), k < D → 48 ≤ r[k].toNat ∧ r[k].toNat ≤ 57)) (hlt : D < r.size) (q7 : (r[D].toNat : Int) = 112) (q5 : decide ((5 : Int) < (r.size : Int) - (D : Int) - 1) = false) (t : ByteArray) (ht : r.extract (D + 1) r.size = t) (tv : Int) (T : Hid (∀ w, Calls Tryd.prog 87 #[.string t] w fun e w' => e = .returned (.tuple #[.int .i64 tv, .int .i64 4]) ∧ Bl w w')) :
    Calls Tryd.prog 32 #[.string s] w fun e w' => e = .returned (.tuple #[.float .f64 (0), .int .i64 4]) ∧ Bl w w' := by
  subst e
  have hrs := hsz
  go_enter Tryd.func32, Tryd.ntmps32
  go_wp2_with fail
  go_loop [5] (fun i => ∃ k : Nat, k ≤ D ∧ i = .int .i64 k) (fun i => D - (intOf i).toNat)
  case atStart => exact ⟨0, Nat.zero_le _, rfl⟩
  case round =>
    obtain ⟨k, hk, rfl⟩ := hrel
    by_cases hlt : k < D
    · have hkr : k < s.size := by omega
      obtain ⟨d1, d2⟩ := hdig.out k hkr hlt
      have q1 : decide ((48 : Int) ≤ (s[k].toNat : Int)) = true := by simp; omega
      have q2 : decide ((s[k].toNat : Int) ≤ 57) = true := by simp; omega
      go_wp2_with fail
      go_round
      case rel => exact ⟨k + 1, by omega, by go_num⟩
      case measure => simp [intOf]; omega
    · obtain rfl : k = D := by omega
      clear hlt
      have HB := Bl.refl w
      go_wp2_with fail
      refine (T.out _).mono ?_
      rintro e w1 ⟨rfl, hb1⟩
      replace HB := HB.trans hb1
      clear hb1
      go_wp2_with fail
      go_ret2
      exact ⟨rfl, HB⟩

set_option maxHeartbeats 1600000 in
set_option maxRecDepth 100000 in
theorem refparse_head_p_plain (s r : ByteArray) (D : Nat) (w : World) (h1 : (s.toList == [110, 97, 110]) = false) (h2 : (s.toList == [105, 110, 102]) = false) (h3 : (s.toList == [45, 105, 110, 102]) = false) (hsz : s.size ≤ 140737488351232) (hp : 0 < s.size) (q : ((s[0].toNat : Int) == 45) = false) (e : s = r) (hD : D ≤ r.size) (hdig : Hid (∀ k (_ : k < r.size), k < D → 48 ≤ r[k].toNat ∧ r[k].toNat ≤ 57)) (hlt : D < r.size) (q7 : (r[D].toNat : Int) = 112) (q5 : decide ((5 : Int) < (r.size : Int) - (D : Int) - 1) = false) (t : ByteArray) (ht : r.extract (D + 1) r.size = t) (d : ByteArray) (hd : r.extract 0 D = d) (tv : Int) (T : Hid (∀ w, Calls Tryd.prog 87 #[.string t] w fun e w' => e = .returned (.tuple #[.int .i64 tv, .int .i64 0]) ∧ Bl w w')) (hv : Int) (H : Hid (∀ w, Calls Tryd.prog 87 #[.string d] w fun e w' => e = .returned (.tuple #[.int .i64 hv, .int .i64 4]) ∧ Bl w w')) :
    Calls Tryd.prog 32 #[.string s] w fun e w' => e = .returned (.tuple #[.float .f64 (0), .int .i64 4]) ∧ Bl w w' := by
  subst e
  have hrs := hsz
  go_enter Tryd.func32, Tryd.ntmps32
  go_wp2_with fail
  go_loop [5] (fun i => ∃ k : Nat, k ≤ D ∧ i = .int .i64 k) (fun i => D - (intOf i).toNat)
  case atStart => exact ⟨0, Nat.zero_le _, rfl⟩
  case round =>
    obtain ⟨k, hk, rfl⟩ := hrel
    by_cases hlt : k < D
    · have hkr : k < s.size := by omega
      obtain ⟨d1, d2⟩ := hdig.out k hkr hlt
      have q1 : decide ((48 : Int) ≤ (s[k].toNat : Int)) = true := by simp; omega
      have q2 : decide ((s[k].toNat : Int) ≤ 57) = true := by simp; omega
      go_wp2_with fail
      go_round
      case rel => exact ⟨k + 1, by omega, by go_num⟩
      case measure => simp [intOf]; omega
    · obtain rfl : k = D := by omega
      clear hlt
      have HB := Bl.refl w
      go_wp2_with fail
      refine (T.out _).mono ?_
      rintro e w1 ⟨rfl, hb1⟩
      replace HB := HB.trans hb1
      clear hb1
      go_wp2_with fail
      refine (H.out _).mono ?_
      rintro e w1 ⟨rfl, hb1⟩
      replace HB := HB.trans hb1
      clear hb1
      go_wp2_with fail
      go_ret2
      exact ⟨rfl, HB⟩

set_option maxHeartbeats 1600000 in
set_option maxRecDepth 100000 in
theorem refparse_over_p_plain (s r : ByteArray) (D : Nat) (w : World) (h1 : (s.toList == [110, 97, 110]) = false) (h2 : (s.toList == [105, 110, 102]) = false) (h3 : (s.toList == [45, 105, 110, 102]) = false) (hsz : s.size ≤ 140737488351232) (hp : 0 < s.size) (q : ((s[0].toNat : Int) == 45) = false) (e : s = r) (hD : D ≤ r.size) (hdig : Hid (∀ k (_ : k < r.size), k < D → 48 ≤ r[k].toNat ∧ r[k].toNat ≤ 57)) (hlt : D < r.size) (q7 : (r[D].toNat : Int) = 112) (q5 : decide ((5 : Int) < (r.size : Int) - (D : Int) - 1) = false) (t : ByteArray) (ht : r.extract (D + 1) r.size = t) (d : ByteArray) (hd : r.extract 0 D = d) (tv : Int) (T : Hid (∀ w, Calls Tryd.prog 87 #[.string t] w fun e w' => e = .returned (.tuple #[.int .i64 tv, .int .i64 0]) ∧ Bl w w')) (hv : Int) (q6 : decide ((9007199254740992 : Int) ≤ hv) = true) (H : Hid (∀ w, Calls Tryd.prog 87 #[.string d] w fun e w' => e = .returned (.tuple #[.int .i64 hv, .int .i64 0]) ∧ Bl w w')) :
    Calls Tryd.prog 32 #[.string s] w fun e w' => e = .returned (.tuple #[.float .f64 (0), .int .i64 11]) ∧ Bl w w' := by
  subst e
  have hrs := hsz
  go_enter Tryd.func32, Tryd.ntmps32
  go_wp2_with fail
  go_loop [5] (fun i => ∃ k : Nat, k ≤ D ∧ i = .int .i64 k) (fun i => D - (intOf i).toNat)
  case atStart => exact ⟨0, Nat.zero_le _, rfl⟩
  case round =>
    obtain ⟨k, hk, rfl⟩ := hrel
    by_cases hlt : k < D
    · have hkr : k < s.size := by omega
      obtain ⟨d1, d2⟩ := hdig.out k hkr hlt
      have q1 : decide ((48 : Int) ≤ (s[k].toNat : Int)) = true := by simp; omega
      have q2 : decide ((s[k].toNat : Int) ≤ 57) = true := by simp; omega
      go_wp2_with fail
      go_round
      case rel => exact ⟨k + 1, by omega, by go_num⟩
      case measure => simp [intOf]; omega
    · obtain rfl : k = D := by omega
      clear hlt
      have HB := Bl.refl w
      go_wp2_with fail
      refine (T.out _).mono ?_
      rintro e w1 ⟨rfl, hb1⟩
      replace HB := HB.trans hb1
      clear hb1
      go_wp2_with fail
      refine (H.out _).mono ?_
      rintro e w1 ⟨rfl, hb1⟩
      replace HB := HB.trans hb1
      clear hb1
      go_wp2_with fail
      go_ret2
      exact ⟨rfl, HB⟩

set_option maxHeartbeats 1600000 in
set_option maxRecDepth 100000 in
theorem refparse_zero_p_plain (s r : ByteArray) (D : Nat) (w : World) (h1 : (s.toList == [110, 97, 110]) = false) (h2 : (s.toList == [105, 110, 102]) = false) (h3 : (s.toList == [45, 105, 110, 102]) = false) (hsz : s.size ≤ 140737488351232) (hp : 0 < s.size) (q : ((s[0].toNat : Int) == 45) = false) (e : s = r) (hD : D ≤ r.size) (hdig : Hid (∀ k (_ : k < r.size), k < D → 48 ≤ r[k].toNat ∧ r[k].toNat ≤ 57)) (hlt : D < r.size) (q7 : (r[D].toNat : Int) = 112) (q5 : decide ((5 : Int) < (r.size : Int) - (D : Int) - 1) = false) (t : ByteArray) (ht : r.extract (D + 1) r.size = t) (d : ByteArray) (hd : r.extract 0 D = d) (tv : Int) (T : Hid (∀ w, Calls Tryd.prog 87 #[.string t] w fun e w' => e = .returned (.tuple #[.int .i64 tv, .int .i64 0]) ∧ Bl w w')) (H : Hid (∀ w, Calls Tryd.prog 87 #[.string d] w fun e w' => e = .returned (.tuple #[.int .i64 0, .int .i64 0]) ∧ Bl w w')) :
    Calls Tryd.prog 32 #[.string s] w fun e w' => e = .returned (.tuple #[.float .f64 (0), .int .i64 0]) ∧ Bl w w' := by
  subst e
  have hrs := hsz
  go_enter Tryd.func32, Tryd.ntmps32
  go_wp2_with fail
  go_loop [5] (fun i => ∃ k : Nat, k ≤ D ∧ i = .int .i64 k) (fun i => D - (intOf i).toNat)
  case atStart => exact ⟨0, Nat.zero_le _, rfl⟩
  case round =>
    obtain ⟨k, hk, rfl⟩ := hrel
    by_cases hlt : k < D
    · have hkr : k < s.size := by omega
      obtain ⟨d1, d2⟩ := hdig.out k hkr hlt
      have q1 : decide ((48 : Int) ≤ (s[k].toNat : Int)) = true := by simp; omega
      have q2 : decide ((s[k].toNat : Int) ≤ 57) = true := by simp; omega
      go_wp2_with fail
      go_round
      case rel => exact ⟨k + 1, by omega, by go_num⟩
      case measure => simp [intOf]; omega
    · obtain rfl : k = D := by omega
      clear hlt
      have HB := Bl.refl w
      go_wp2_with fail
      refine (T.out _).mono ?_
      rintro e w1 ⟨rfl, hb1⟩
      replace HB := HB.trans hb1
      clear hb1
      go_wp2_with fail
      refine (H.out _).mono ?_
      rintro e w1 ⟨rfl, hb1⟩
      replace HB := HB.trans hb1
      clear hb1
      go_wp2_with fail
      go_ret2
      exact ⟨rfl, HB⟩

set_option maxHeartbeats 1600000 in
set_option maxRecDepth 100000 in
theorem refparse_head_n_plain (s r : ByteArray) (D : Nat) (w : World) (h1 : (s.toList == [110, 97, 110]) = false) (h2 : (s.toList == [105, 110, 102]) = false) (h3 : (s.toList == [45, 105, 110, 102]) = false) (hsz : s.size ≤ 140737488351232) (hp : 0 < s.size) (q : ((s[0].toNat : Int) == 45) = false) (e : s = r) (hD : D ≤ r.size) (hdig : Hid (∀ k (_ : k < r.size), k < D → 48 ≤ r[k].toNat ∧ r[k].toNat ≤ 57)) (hlt : D = r.size) (hv : Int) (H : Hid (∀ w, Calls Tryd.prog 87 #[.string r] w fun e w' => e = .returned (.tuple #[.int .i64 hv, .int .i64 4]) ∧ Bl w w')) :
    Calls Tryd.prog 32 #[.string s] w fun e w' => e = .returned (.tuple #[.float .f64 (0), .int .i64 4]) ∧ Bl w w' := by
  subst e
  have hrs := hsz
  go_enter Tryd.func32, Tryd.ntmps32
  go_wp2_with fail
  go_loop [5] (fun i => ∃ k : Nat, k ≤ D ∧ i = .int .i64 k) (fun i => D - (intOf i).toNat)
  case atStart => exact ⟨0, Nat.zero_le _, rfl⟩
  case round =>
    obtain ⟨k, hk, rfl⟩ := hrel
    by_cases hlt : k < D
    · have hkr : k < s.size := by omega
      obtain ⟨d1, d2⟩ := hdig.out k hkr hlt
      have q1 : decide ((48 : Int) ≤ (s[k].toNat : Int)) = true := by simp; omega
      have q2 : decide ((s[k].toNat : Int) ≤ 57) = true := by simp; omega
      go_wp2_with fail
      go_round
      case rel => exact ⟨k + 1, by omega, by go_num⟩
      case measure => simp [intOf]; omega
    · obtain rfl : k = D := by omega
      clear hlt
      have HB := Bl.refl w
      go_wp2_with fail
      refine (H.out _).mono ?_
      rintro e w1 ⟨rfl, hb1⟩
      replace HB := HB.trans hb1
      clear hb1
      go_wp2_with fail
      go_ret2
      exact ⟨rfl, HB⟩

set_option maxHeartbeats 1600000 in
set_option maxRecDepth 100000 in
theorem refparse_over_n_plain (s r : ByteArray) (D : Nat) (w : World) (h1 : (s.toList == [110, 97, 110]) = false) (h2 : (s.toList == [105, 110, 102]) = false) (h3 : (s.toList == [45, 105, 110, 102]) = false) (hsz : s.size ≤ 140737488351232) (hp : 0 < s.size) (q : ((s[0].toNat : Int) == 45) = false) (e : s = r) (hD : D ≤ r.size) (hdig : Hid (∀ k (_ : k < r.size), k < D → 48 ≤ r[k].toNat ∧ r[k].toNat ≤ 57)) (hlt : D = r.size) (hv : Int) (q6 : decide ((9007199254740992 : Int) ≤ hv) = true) (H : Hid (∀ w, Calls Tryd.prog 87 #[.string r] w fun e w' => e = .returned (.tuple #[.int .i64 hv, .int .i64 0]) ∧ Bl w w')) :
    Calls Tryd.prog 32 #[.string s] w fun e w' => e = .returned (.tuple #[.float .f64 (0), .int .i64 11]) ∧ Bl w w' := by
  subst e
  have hrs := hsz
  go_enter Tryd.func32, Tryd.ntmps32
  go_wp2_with fail
  go_loop [5] (fun i => ∃ k : Nat, k ≤ D ∧ i = .int .i64 k) (fun i => D - (intOf i).toNat)
  case atStart => exact ⟨0, Nat.zero_le _, rfl⟩
  case round =>
    obtain ⟨k, hk, rfl⟩ := hrel
    by_cases hlt : k < D
    · have hkr : k < s.size := by omega
      obtain ⟨d1, d2⟩ := hdig.out k hkr hlt
      have q1 : decide ((48 : Int) ≤ (s[k].toNat : Int)) = true := by simp; omega
      have q2 : decide ((s[k].toNat : Int) ≤ 57) = true := by simp; omega
      go_wp2_with fail
      go_round
      case rel => exact ⟨k + 1, by omega, by go_num⟩
      case measure => simp [intOf]; omega
    · obtain rfl : k = D := by omega
      clear hlt
      have HB := Bl.refl w
      go_wp2_with fail
      refine (H.out _).mono ?_
      rintro e w1 ⟨rfl, hb1⟩
      replace HB := HB.trans hb1
      clear hb1
      go_wp2_with fail
      go_ret2
      exact ⟨rfl, HB⟩

set_option maxHeartbeats 1600000 in
set_option maxRecDepth 100000 in
theorem refparse_zero_n_plain (s r : ByteArray) (D : Nat) (w : World) (h1 : (s.toList == [110, 97, 110]) = false) (h2 : (s.toList == [105, 110, 102]) = false) (h3 : (s.toList == [45, 105, 110, 102]) = false) (hsz : s.size ≤ 140737488351232) (hp : 0 < s.size) (q : ((s[0].toNat : Int) == 45) = false) (e : s = r) (hD : D ≤ r.size) (hdig : Hid (∀ k (_ : k < r.size), k < D → 48 ≤ r[k].toNat ∧ r[k].toNat ≤ 57)) (hlt : D = r.size) (H : Hid (∀ w, Calls Tryd.prog 87 #[.string r] w fun e w' => e = .returned (.tuple #[.int .i64 0, .int .i64 0]) ∧ Bl w w')) :
    Calls Tryd.prog 32 #[.string s] w fun e w' => e = .returned (.tuple #[.float .f64 (0), .int .i64 0]) ∧ Bl w w' := by
  subst e
  have hrs := hsz
  go_enter Tryd.func32, Tryd.ntmps32
  go_wp2_with fail
  go_loop [5] (fun i => ∃ k : Nat, k ≤ D ∧ i = .int .i64 k) (fun i => D - (intOf i).toNat)
  case atStart => exact ⟨0, Nat.zero_le _, rfl⟩
  case round =>
    obtain ⟨k, hk, rfl⟩ := hrel
    by_cases hlt : k < D
    · have hkr : k < s.size := by omega
      obtain ⟨d1, d2⟩ := hdig.out k hkr hlt
      have q1 : decide ((48 : Int) ≤ (s[k].toNat : Int)) = true := by simp; omega
      have q2 : decide ((s[k].toNat : Int) ≤ 57) = true := by simp; omega
      go_wp2_with fail
      go_round
      case rel => exact ⟨k + 1, by omega, by go_num⟩
      case measure => simp [intOf]; omega
    · obtain rfl : k = D := by omega
      clear hlt
      have HB := Bl.refl w
      go_wp2_with fail
      refine (H.out _).mono ?_
      rintro e w1 ⟨rfl, hb1⟩
      replace HB := HB.trans hb1
      clear hb1
      go_wp2_with fail
      go_ret2
      exact ⟨rfl, HB⟩

end Go.Proofs.YtgdlcoicejgdkaaDoor

set_option linter.unusedVariables false
namespace Go.Proofs.YtgdlcoicejgdkaaDoor
open Go.RowKit

/-- digits that are odd, and how many there are -/
structure OddOf (M z B : Nat) (e0 : Int) : Prop where
  odd : M % 2 = 1
  lt : M * 2 ^ z < 9007199254740992
  bits : ∀ k, 2 ^ k ≤ M ↔ k < B
  b53 : B ≤ 53
  z52 : z ≤ 52
  e : -100000 ≤ e0 ∧ e0 ≤ 100000
theorem shl_le {M B n : Nat} (h : ∀ k, 2 ^ k ≤ M ↔ k < B) (hn : n ≤ 53) : decide (wrap64 ((2 : Int) ^ n) ≤ (M : Int)) = decide (n < B) := by
  have e : (2 : Int) ^ n = ((2 ^ n : Nat) : Int) := by simp
  have b : 2 ^ n ≤ 2 ^ 53 := Nat.pow_le_pow_right (by decide) hn
  have w : wrap64 ((2 : Int) ^ n) = ((2 ^ n : Nat) : Int) := by
    rw [e]
    generalize 2 ^ n = X at *
    unfold wrap64; omega
  rw [w]
  apply decide_eq_decide.2
  rw [← h n]
  omega
theorem OddOf.step {M z B : Nat} {e0 : Int} (h : OddOf M z B e0) {j A : Nat} (hj : j ≤ z) (hA : A = M * 2 ^ (z - j)) : 0 < A ∧ A < 9007199254740992 ∧ (j < z → A % 2 = 0 ∧ A / 2 = M * 2 ^ (z - (j + 1))) ∧ (j = z → A = M) := by
  have h0 : 0 < M := by have := h.odd; omega
  refine ⟨?_, ?_, ?_, ?_⟩
  · rw [hA]; exact Nat.mul_pos h0 (Nat.two_pow_pos _)
  · rw [hA]
    exact Nat.lt_of_le_of_lt (Nat.mul_le_mul_left _ (Nat.pow_le_pow_right (by decide) (by omega))) h.lt
  · intro hlt
    have e : A = M * 2 ^ (z - (j + 1)) * 2 := by
      rw [hA, show z - j = z - (j + 1) + 1 by omega, Nat.pow_succ, ← Nat.mul_assoc]
    rw [e]; omega
  · rintro rfl; rw [hA, Nat.sub_self, Nat.pow_zero, Nat.mul_one]

set_option maxHeartbeats 1600000 in
set_option maxRecDepth 100000 in
theorem refparse_far_p_below (s r : ByteArray) (D : Nat) (w : World) (h1 : (s.toList == [110, 97, 110]) = false) (h2 : (s.toList == [105, 110, 102]) = false) (h3 : (s.toList == [45, 105, 110, 102]) = false) (hsz : s.size ≤ 140737488351232) (hp : 0 < s.size) (q : ((s[0].toNat : Int) == 45) = true) (e : s.extract 1 s.size = r) (hrs : r.size ≤ 140737488351232) (hD : D ≤ r.size) (hdig : Hid (∀ k (_ : k < r.size), k < D → 48 ≤ r[k].toNat ∧ r[k].toNat ≤ 57)) (hlt : D < r.size) (q7 : (r[D].toNat : Int) = 112) (q5 : decide ((5 : Int) < (r.size : Int) - (D : Int) - 1) = false) (t : ByteArray) (ht : r.extract (D + 1) r.size = t) (d : ByteArray) (hd : r.extract 0 D = d) (tv : Int) (T : Hid (∀ w, Calls Tryd.prog 87 #[.string t] w fun e w' => e = .returned (.tuple #[.int .i64 tv, .int .i64 0]) ∧ Bl w w')) (M z B A0 : Nat) (HA0 : Hid (A0 = M * 2 ^ (z - 0))) (G : Hid (OddOf M z B tv)) (H : Hid (∀ w, Calls Tryd.prog 87 #[.string d] w fun e w' => e = .returned (.tuple #[.int .i64 A0, .int .i64 0]) ∧ Bl w w')) (q8 : decide ((1024 : Int) < (B : Int) + (tv + (z : Int))) = true) :
    Calls Tryd.prog 32 #[.string s] w fun e w' => e = .returned (.tuple #[.float .f64 (0), .int .i64 11]) ∧ Bl w w' := by
  go_enter Tryd.func32, Tryd.ntmps32
  go_wp2_with fail
  go_loop [5] (fun i => ∃ k : Nat, k ≤ D ∧ i = .int .i64 k) (fun i => D - (intOf i).toNat)
  case atStart => exact ⟨0, Nat.zero_le _, rfl⟩
  case round =>
    obtain ⟨k, hk, rfl⟩ := hrel
    by_cases hlt : k < D
    · have hkr : k < r.size := by omega
      obtain ⟨d1, d2⟩ := hdig.out k hkr hlt
      have q1 : decide ((48 : Int) ≤ (r[k].toNat : Int)) = true := by simp; omega
      have q2 : decide ((r[k].toNat : Int) ≤ 57) = true := by simp; omega
      go_wp2_with fail
      go_round
      case rel => exact ⟨k + 1, by omega, by go_num⟩
      case measure => simp [intOf]; omega
    · obtain rfl : k = D := by omega
      clear hlt
      have HB := Bl.refl w
      obtain ⟨a00, a01, _, _⟩ := G.out.step (Nat.zero_le _) HA0.out
      have qa : decide ((9007199254740992 : Int) ≤ (A0 : Int)) = false := by simp; omega
      have qb : decide ((0 : Int) < (A0 : Int)) = true := by simp; omega
      go_wp2_with fail
      refine (T.out _).mono ?_
      rintro e w1 ⟨rfl, hb1⟩
      replace HB := HB.trans hb1
      clear hb1
      go_wp2_with fail
      refine (H.out _).mono ?_
      rintro e w1 ⟨rfl, hb1⟩
      replace HB := HB.trans hb1
      clear hb1
      go_wp2_with fail
      go_loop [9, 6] (fun m e => ∃ j A : Nat, j ≤ z ∧ m = .int .i64 A ∧ e = .int .i64 (tv + (j : Int)) ∧ A = M * 2 ^ (z - j)) (fun _ e => z - (intOf e - (tv)).toNat)
      case atStart => exact ⟨0, A0, Nat.zero_le _, rfl, by go_num, HA0.out⟩
      case round =>
        obtain ⟨j, A, hj, rfl, rfl, hA⟩ := hrel
        obtain ⟨a0, a1, a2, a3⟩ := G.out.step hj hA
        have HA := Lib.hid hA
        clear hA
        have zz := G.out.z52
        obtain ⟨e1, e2⟩ := G.out.e
        by_cases hjz : j < z
        · obtain ⟨b1, b2⟩ := a2 hjz
          have B2 := Lib.hid b2
          have qe : ((A : Int) % 2 == 0) = true := by simp; omega
          clear a2 a3 b1 b2
          go_wp2_with fail
          go_round
          case rel => exact ⟨j + 1, A / 2, by omega, rfl, by go_num, B2.out⟩
          case measure => simp [intOf]; omega
        · obtain rfl : j = z := by omega
          obtain rfl : A = M := a3 rfl
          have oo := G.out.odd
          have qe : ((A : Int) % 2 == 0) = false := by simp; omega
          clear a2 a3 HA oo hjz
          have bb := G.out.b53
          go_wp2_with fail
          go_loop [12] (fun i => ∃ k : Nat, k ≤ B ∧ i = .int .i64 k) (fun i => B - (intOf i).toNat)
          case atStart => exact ⟨0, Nat.zero_le _, rfl⟩
          case round =>
            obtain ⟨n, hn, rfl⟩ := hrel
            have hn2 := G.out.bits n
            by_cases hnB : n < B
            · have q2 := hn2.2 hnB
              clear hn2
              have qk := shl_le G.out.bits (show n ≤ 53 by omega)
              rw [decide_eq_true hnB] at qk
              go_wp2_with fail
              go_round
              case rel => exact ⟨n + 1, by omega, by go_num⟩
              case measure => simp [intOf]; omega
            · obtain rfl : n = B := by omega
              have qk := shl_le G.out.bits (show n ≤ 53 by omega)
              rw [decide_eq_false hnB] at qk
              clear hn2 hnB hn
              go_wp2_with fail
              go_ret2
              exact ⟨rfl, HB⟩

set_option maxHeartbeats 1600000 in
set_option maxRecDepth 100000 in
theorem refparse_deep_p_below (s r : ByteArray) (D : Nat) (w : World) (h1 : (s.toList == [110, 97, 110]) = false) (h2 : (s.toList == [105, 110, 102]) = false) (h3 : (s.toList == [45, 105, 110, 102]) = false) (hsz : s.size ≤ 140737488351232) (hp : 0 < s.size) (q : ((s[0].toNat : Int) == 45) = true) (e : s.extract 1 s.size = r) (hrs : r.size ≤ 140737488351232) (hD : D ≤ r.size) (hdig : Hid (∀ k (_ : k < r.size), k < D → 48 ≤ r[k].toNat ∧ r[k].toNat ≤ 57)) (hlt : D < r.size) (q7 : (r[D].toNat : Int) = 112) (q5 : decide ((5 : Int) < (r.size : Int) - (D : Int) - 1) = false) (t : ByteArray) (ht : r.extract (D + 1) r.size = t) (d : ByteArray) (hd : r.extract 0 D = d) (tv : Int) (T : Hid (∀ w, Calls Tryd.prog 87 #[.string t] w fun e w' => e = .returned (.tuple #[.int .i64 tv, .int .i64 0]) ∧ Bl w w')) (M z B A0 : Nat) (HA0 : Hid (A0 = M * 2 ^ (z - 0))) (G : Hid (OddOf M z B tv)) (H : Hid (∀ w, Calls Tryd.prog 87 #[.string d] w fun e w' => e = .returned (.tuple #[.int .i64 A0, .int .i64 0]) ∧ Bl w w')) (q8 : decide ((1024 : Int) < (B : Int) + (tv + (z : Int))) = false) (q9 : decide ((tv + (z : Int)) < (-1074 : Int)) = true) :
    Calls Tryd.prog 32 #[.string s] w fun e w' => e = .returned (.tuple #[.float .f64 (0), .int .i64 11]) ∧ Bl w w' := by
  go_enter Tryd.func32, Tryd.ntmps32
  go_wp2_with fail
  go_loop [5] (fun i => ∃ k : Nat, k ≤ D ∧ i = .int .i64 k) (fun i => D - (intOf i).toNat)
  case atStart => exact ⟨0, Nat.zero_le _, rfl⟩
  case round =>
    obtain ⟨k, hk, rfl⟩ := hrel
    by_cases hlt : k < D
    · have hkr : k < r.size := by omega
      obtain ⟨d1, d2⟩ := hdig.out k hkr hlt
      have q1 : decide ((48 : Int) ≤ (r[k].toNat : Int)) = true := by simp; omega
      have q2 : decide ((r[k].toNat : Int) ≤ 57) = true := by simp; omega
      go_wp2_with fail
      go_round
      case rel => exact ⟨k + 1, by omega, by go_num⟩
      case measure => simp [intOf]; omega
    · obtain rfl : k = D := by omega
      clear hlt
      have HB := Bl.refl w
      obtain ⟨a00, a01, _, _⟩ := G.out.step (Nat.zero_le _) HA0.out
      have qa : decide ((9007199254740992 : Int) ≤ (A0 : Int)) = false := by simp; omega
      have qb : decide ((0 : Int) < (A0 : Int)) = true := by simp; omega
      go_wp2_with fail
      refine (T.out _).mono ?_
      rintro e w1 ⟨rfl, hb1⟩
      replace HB := HB.trans hb1
      clear hb1
      go_wp2_with fail
      refine (H.out _).mono ?_
      rintro e w1 ⟨rfl, hb1⟩
      replace HB := HB.trans hb1
      clear hb1
      go_wp2_with fail
      go_loop [9, 6] (fun m e => ∃ j A : Nat, j ≤ z ∧ m = .int .i64 A ∧ e = .int .i64 (tv + (j : Int)) ∧ A = M * 2 ^ (z - j)) (fun _ e => z - (intOf e - (tv)).toNat)
      case atStart => exact ⟨0, A0, Nat.zero_le _, rfl, by go_num, HA0.out⟩
      case round =>
        obtain ⟨j, A, hj, rfl, rfl, hA⟩ := hrel
        obtain ⟨a0, a1, a2, a3⟩ := G.out.step hj hA
        have HA := Lib.hid hA
        clear hA
        have zz := G.out.z52
        obtain ⟨e1, e2⟩ := G.out.e
        by_cases hjz : j < z
        · obtain ⟨b1, b2⟩ := a2 hjz
          have B2 := Lib.hid b2
          have qe : ((A : Int) % 2 == 0) = true := by simp; omega
          clear a2 a3 b1 b2
          go_wp2_with fail
          go_round
          case rel => exact ⟨j + 1, A / 2, by omega, rfl, by go_num, B2.out⟩
          case measure => simp [intOf]; omega
        · obtain rfl : j = z := by omega
          obtain rfl : A = M := a3 rfl
          have oo := G.out.odd
          have qe : ((A : Int) % 2 == 0) = false := by simp; omega
          clear a2 a3 HA oo hjz
          have bb := G.out.b53
          go_wp2_with fail
          go_loop [12] (fun i => ∃ k : Nat, k ≤ B ∧ i = .int .i64 k) (fun i => B - (intOf i).toNat)
          case atStart => exact ⟨0, Nat.zero_le _, rfl⟩
          case round =>
            obtain ⟨n, hn, rfl⟩ := hrel
            have hn2 := G.out.bits n
            by_cases hnB : n < B
            · have q2 := hn2.2 hnB
              clear hn2
              have qk := shl_le G.out.bits (show n ≤ 53 by omega)
              rw [decide_eq_true hnB] at qk
              go_wp2_with fail
              go_round
              case rel => exact ⟨n + 1, by omega, by go_num⟩
              case measure => simp [intOf]; omega
            · obtain rfl : n = B := by omega
              have qk := shl_le G.out.bits (show n ≤ 53 by omega)
              rw [decide_eq_false hnB] at qk
              clear hn2 hnB hn
              go_wp2_with fail
              go_ret2
              exact ⟨rfl, HB⟩

set_option maxHeartbeats 1600000 in
set_option maxRecDepth 100000 in
theorem refparse_fin_p_below (s r : ByteArray) (D : Nat) (w : World) (h1 : (s.toList == [110, 97, 110]) = false) (h2 : (s.toList == [105, 110, 102]) = false) (h3 : (s.toList == [45, 105, 110, 102]) = false) (hsz : s.size ≤ 140737488351232) (hp : 0 < s.size) (q : ((s[0].toNat : Int) == 45) = true) (e : s.extract 1 s.size = r) (hrs : r.size ≤ 140737488351232) (hD : D ≤ r.size) (hdig : Hid (∀ k (_ : k < r.size), k < D → 48 ≤ r[k].toNat ∧ r[k].toNat ≤ 57)) (hlt : D < r.size) (q7 : (r[D].toNat : Int) = 112) (q5 : decide ((5 : Int) < (r.size : Int) - (D : Int) - 1) = false) (t : ByteArray) (ht : r.extract (D + 1) r.size = t) (d : ByteArray) (hd : r.extract 0 D = d) (tv : Int) (T : Hid (∀ w, Calls Tryd.prog 87 #[.string t] w fun e w' => e = .returned (.tuple #[.int .i64 tv, .int .i64 0]) ∧ Bl w w')) (M z B A0 : Nat) (HA0 : Hid (A0 = M * 2 ^ (z - 0))) (G : Hid (OddOf M z B tv)) (H : Hid (∀ w, Calls Tryd.prog 87 #[.string d] w fun e w' => e = .returned (.tuple #[.int .i64 A0, .int .i64 0]) ∧ Bl w w')) (q8 : decide ((1024 : Int) < (B : Int) + (tv + (z : Int))) = false) (q9 : decide ((tv + (z : Int)) < (-1074 : Int)) = false) (x f : Nat) (hfl : floatOfInt .f64 (M : Int) = x) (hf : f < two63) (L : Hid (∀ w, Calls Tryd.prog 88 #[.float .f64 x, .int .i64 (tv + (z : Int))] w fun e w' => e = .returned (.float .f64 f) ∧ w = w')) :
    Calls Tryd.prog 32 #[.string s] w fun e w' => e = .returned (.tuple #[.float .f64 (f + two63), .int .i64 0]) ∧ Bl w w' := by
  go_enter Tryd.func32, Tryd.ntmps32
  go_wp2_with fail
  go_loop [5] (fun i => ∃ k : Nat, k ≤ D ∧ i = .int .i64 k) (fun i => D - (intOf i).toNat)
  case atStart => exact ⟨0, Nat.zero_le _, rfl⟩
  case round =>
    obtain ⟨k, hk, rfl⟩ := hrel
    by_cases hlt : k < D
    · have hkr : k < r.size := by omega
      obtain ⟨d1, d2⟩ := hdig.out k hkr hlt
      have q1 : decide ((48 : Int) ≤ (r[k].toNat : Int)) = true := by simp; omega
      have q2 : decide ((r[k].toNat : Int) ≤ 57) = true := by simp; omega
      go_wp2_with fail
      go_round
      case rel => exact ⟨k + 1, by omega, by go_num⟩
      case measure => simp [intOf]; omega
    · obtain rfl : k = D := by omega
      clear hlt
      have HB := Bl.refl w
      obtain ⟨a00, a01, _, _⟩ := G.out.step (Nat.zero_le _) HA0.out
      have qa : decide ((9007199254740992 : Int) ≤ (A0 : Int)) = false := by simp; omega
      have qb : decide ((0 : Int) < (A0 : Int)) = true := by simp; omega
      go_wp2_with fail
      refine (T.out _).mono ?_
      rintro e w1 ⟨rfl, hb1⟩
      replace HB := HB.trans hb1
      clear hb1
      go_wp2_with fail
      refine (H.out _).mono ?_
      rintro e w1 ⟨rfl, hb1⟩
      replace HB := HB.trans hb1
      clear hb1
      go_wp2_with fail
      go_loop [9, 6] (fun m e => ∃ j A : Nat, j ≤ z ∧ m = .int .i64 A ∧ e = .int .i64 (tv + (j : Int)) ∧ A = M * 2 ^ (z - j)) (fun _ e => z - (intOf e - (tv)).toNat)
      case atStart => exact ⟨0, A0, Nat.zero_le _, rfl, by go_num, HA0.out⟩
      case round =>
        obtain ⟨j, A, hj, rfl, rfl, hA⟩ := hrel
        obtain ⟨a0, a1, a2, a3⟩ := G.out.step hj hA
        have HA := Lib.hid hA
        clear hA
        have zz := G.out.z52
        obtain ⟨e1, e2⟩ := G.out.e
        by_cases hjz : j < z
        · obtain ⟨b1, b2⟩ := a2 hjz
          have B2 := Lib.hid b2
          have qe : ((A : Int) % 2 == 0) = true := by simp; omega
          clear a2 a3 b1 b2
          go_wp2_with fail
          go_round
          case rel => exact ⟨j + 1, A / 2, by omega, rfl, by go_num, B2.out⟩
          case measure => simp [intOf]; omega
        · obtain rfl : j = z := by omega
          obtain rfl : A = M := a3 rfl
          have oo := G.out.odd
          have qe : ((A : Int) % 2 == 0) = false := by simp; omega
          clear a2 a3 HA oo hjz
          have bb := G.out.b53
          go_wp2_with fail
          go_loop [12] (fun i => ∃ k : Nat, k ≤ B ∧ i = .int .i64 k) (fun i => B - (intOf i).toNat)
          case atStart => exact ⟨0, Nat.zero_le _, rfl⟩
          case round =>
            obtain ⟨n, hn, rfl⟩ := hrel
            have hn2 := G.out.bits n
            by_cases hnB : n < B
            · have q2 := hn2.2 hnB
              clear hn2
              have qk := shl_le G.out.bits (show n ≤ 53 by omega)
              rw [decide_eq_true hnB] at qk
              go_wp2_with fail
              go_round
              case rel => exact ⟨n + 1, by omega, by go_num⟩
              case measure => simp [intOf]; omega
            · obtain rfl : n = B := by omega
              have qk := shl_le G.out.bits (show n ≤ 53 by omega)
              rw [decide_eq_false hnB] at qk
              clear hn2 hnB hn
              go_wp2_with fail
              refine (L.out _).mono ?_
              rintro e w1 ⟨rfl, rfl⟩
              go_wp2_with fail
              refine (copysign_neg f _ hf).mono ?_
              rintro e w1 ⟨rfl, rfl⟩
              go_wp2_with fail
              go_ret2
              exact ⟨rfl, HB⟩

set_option maxHeartbeats 1600000 in
set_option maxRecDepth 100000 in
theorem refparse_far_n_below (s r : ByteArray) (D : Nat) (w : World) (h1 : (s.toList == [110, 97, 110]) = false) (h2 : (s.toList == [105, 110, 102]) = false) (h3 : (s.toList == [45, 105, 110, 102]) = false) (hsz : s.size ≤ 140737488351232) (hp : 0 < s.size) (q : ((s[0].toNat : Int) == 45) = true) (e : s.extract 1 s.size = r) (hrs : r.size ≤ 140737488351232) (hD : D ≤ r.size) (hdig : Hid (∀ k (_ : k < r.size), k < D → 48 ≤ r[k].toNat ∧ r[k].toNat ≤ 57)) (hlt : D = r.size) (M z B A0 : Nat) (HA0 : Hid (A0 = M * 2 ^ (z - 0))) (G : Hid (OddOf M z B 0)) (H : Hid (∀ w, Calls Tryd.prog 87 #[.string r] w fun e w' => e = .returned (.tuple #[.int .i64 A0, .int .i64 0]) ∧ Bl w w')) (q8 : decide ((1024 : Int) < (B : Int) + (z : Int)) = true) :
    Calls Tryd.prog 32 #[.string s] w fun e w' => e = .returned (.tuple #[.float .f64 (0), .int .i64 11]) ∧ Bl w w' := by
  go_enter Tryd.func32, Tryd.ntmps32
  go_wp2_with fail
  go_loop [5] (fun i => ∃ k : Nat, k ≤ D ∧ i = .int .i64 k) (fun i => D - (intOf i).toNat)
  case atStart => exact ⟨0, Nat.zero_le _, rfl⟩
  case round =>
    obtain ⟨k, hk, rfl⟩ := hrel
    by_cases hlt : k < D
    · have hkr : k < r.size := by omega
      obtain ⟨d1, d2⟩ := hdig.out k hkr hlt
      have q1 : decide ((48 : Int) ≤ (r[k].toNat : Int)) = true := by simp; omega
      have q2 : decide ((r[k].toNat : Int) ≤ 57) = true := by simp; omega
      go_wp2_with fail
      go_round
      case rel => exact ⟨k + 1, by omega, by go_num⟩
      case measure => simp [intOf]; omega
    · obtain rfl : k = D := by omega
      clear hlt
      have HB := Bl.refl w
      obtain ⟨a00, a01, _, _⟩ := G.out.step (Nat.zero_le _) HA0.out
      have qa : decide ((9007199254740992 : Int) ≤ (A0 : Int)) = false := by simp; omega
      have qb : decide ((0 : Int) < (A0 : Int)) = true := by simp; omega
      go_wp2_with fail
      refine (H.out _).mono ?_
      rintro e w1 ⟨rfl, hb1⟩
      replace HB := HB.trans hb1
      clear hb1
      go_wp2_with fail
      go_loop [9, 6] (fun m e => ∃ j A : Nat, j ≤ z ∧ m = .int .i64 A ∧ e = .int .i64 (0 + (j : Int)) ∧ A = M * 2 ^ (z - j)) (fun _ e => z - (intOf e - (0)).toNat)
      case atStart => exact ⟨0, A0, Nat.zero_le _, rfl, by go_num, HA0.out⟩
      case round =>
        obtain ⟨j, A, hj, rfl, rfl, hA⟩ := hrel
        obtain ⟨a0, a1, a2, a3⟩ := G.out.step hj hA
        have HA := Lib.hid hA
        clear hA
        have zz := G.out.z52
        obtain ⟨e1, e2⟩ := G.out.e
        by_cases hjz : j < z
        · obtain ⟨b1, b2⟩ := a2 hjz
          have B2 := Lib.hid b2
          have qe : ((A : Int) % 2 == 0) = true := by simp; omega
          clear a2 a3 b1 b2
          go_wp2_with fail
          go_round
          case rel => exact ⟨j + 1, A / 2, by omega, rfl, by go_num, B2.out⟩
          case measure => simp [intOf]; omega
        · obtain rfl : j = z := by omega
          obtain rfl : A = M := a3 rfl
          have oo := G.out.odd
          have qe : ((A : Int) % 2 == 0) = false := by simp; omega
          clear a2 a3 HA oo hjz
          have bb := G.out.b53
          go_wp2_with fail
          go_loop [12] (fun i => ∃ k : Nat, k ≤ B ∧ i = .int .i64 k) (fun i => B - (intOf i).toNat)
          case atStart => exact ⟨0, Nat.zero_le _, rfl⟩
          case round =>
            obtain ⟨n, hn, rfl⟩ := hrel
            have hn2 := G.out.bits n
            by_cases hnB : n < B
            · have q2 := hn2.2 hnB
              clear hn2
              have qk := shl_le G.out.bits (show n ≤ 53 by omega)
              rw [decide_eq_true hnB] at qk
              go_wp2_with fail
              go_round
              case rel => exact ⟨n + 1, by omega, by go_num⟩
              case measure => simp [intOf]; omega
            · obtain rfl : n = B := by omega
              have qk := shl_le G.out.bits (show n ≤ 53 by omega)
              rw [decide_eq_false hnB] at qk
              clear hn2 hnB hn
              go_wp2_with fail
              go_ret2
              exact ⟨rfl, HB⟩

set_option maxHeartbeats 1600000 in
set_option maxRecDepth 100000 in
theorem refparse_deep_n_below (s r : ByteArray) (D : Nat) (w : World) (h1 : (s.toList == [110, 97, 110]) = false) (h2 : (s.toList == [105, 110, 102]) = false) (h3 : (s.toList == [45, 105, 110, 102]) = false) (hsz : s.size ≤ 140737488351232) (hp : 0 < s.size) (q : ((s[0].toNat : Int) == 45) = true) (e : s.extract 1 s.size = r) (hrs : r.size ≤ 140737488351232) (hD : D ≤ r.size) (hdig : Hid (∀ k (_ : k < r.size), k < D → 48 ≤ r[k].toNat ∧ r[k].toNat ≤ 57)) (hlt : D = r.size) (M z B A0 : Nat) (HA0 : Hid (A0 = M * 2 ^ (z - 0))) (G : Hid (OddOf M z B 0)) (H : Hid (∀ w, Calls Tryd.prog 87 #[.string r] w fun e w' => e = .returned (.tuple #[.int .i64 A0, .int .i64 0]) ∧ Bl w w')) (q8 : decide ((1024 : Int) < (B : Int) + (z : Int)) = false) (q9 : decide ((z : Int) < (-1074 : Int)) = true) :
    Calls Tryd.prog 32 #[.string s] w fun e w' => e = .returned (.tuple #[.float .f64 (0), .int .i64 11]) ∧ Bl w w' := by
  go_enter Tryd.func32, Tryd.ntmps32
  go_wp2_with fail
  go_loop [5] (fun i => ∃ k : Nat, k ≤ D ∧ i = .int .i64 k) (fun i => D - (intOf i).toNat)
  case atStart => exact ⟨0, Nat.zero_le _, rfl⟩
  case round =>
    obtain ⟨k, hk, rfl⟩ := hrel
    by_cases hlt : k < D
    · have hkr : k < r.size := by omega
      obtain ⟨d1, d2⟩ := hdig.out k hkr hlt
      have q1 : decide ((48 : Int) ≤ (r[k].toNat : Int)) = true := by simp; omega
      have q2 : decide ((r[k].toNat : Int) ≤ 57) = true := by simp; omega
      go_wp2_with fail
      go_round
      case rel => exact ⟨k + 1, by omega, by go_num⟩
      case measure => simp [intOf]; omega
    · obtain rfl : k = D := by omega
      clear hlt
      have HB := Bl.refl w
      obtain ⟨a00, a01, _, _⟩ := G.out.step (Nat.zero_le _) HA0.out
      have qa : decide ((9007199254740992 : Int) ≤ (A0 : Int)) = false := by simp; omega
      have qb : decide ((0 : Int) < (A0 : Int)) = true := by simp; omega
      go_wp2_with fail
      refine (H.out _).mono ?_
      rintro e w1 ⟨rfl, hb1⟩
      replace HB := HB.trans hb1
      clear hb1
      go_wp2_with fail
      go_loop [9, 6] (fun m e => ∃ j A : Nat, j ≤ z ∧ m = .int .i64 A ∧ e = .int .i64 (0 + (j : Int)) ∧ A = M * 2 ^ (z - j)) (fun _ e => z - (intOf e - (0)).toNat)
      case atStart => exact ⟨0, A0, Nat.zero_le _, rfl, by go_num, HA0.out⟩
      case round =>
        obtain ⟨j, A, hj, rfl, rfl, hA⟩ := hrel
        obtain ⟨a0, a1, a2, a3⟩ := G.out.step hj hA
        have HA := Lib.hid hA
        clear hA
        have zz := G.out.z52
        obtain ⟨e1, e2⟩ := G.out.e
        by_cases hjz : j < z
        · obtain ⟨b1, b2⟩ := a2 hjz
          have B2 := Lib.hid b2
          have qe : ((A : Int) % 2 == 0) = true := by simp; omega
          clear a2 a3 b1 b2
          go_wp2_with fail
          go_round
          case rel => exact ⟨j + 1, A / 2, by omega, rfl, by go_num, B2.out⟩
          case measure => simp [intOf]; omega
        · obtain rfl : j = z := by omega
          obtain rfl : A = M := a3 rfl
          have oo := G.out.odd
          have qe : ((A : Int) % 2 == 0) = false := by simp; omega
          clear a2 a3 HA oo hjz
          have bb := G.out.b53
          go_wp2_with fail
          go_loop [12] (fun i => ∃ k : Nat, k ≤ B ∧ i = .int .i64 k) (fun i => B - (intOf i).toNat)
          case atStart => exact ⟨0, Nat.zero_le _, rfl⟩
          case round =>
            obtain ⟨n, hn, rfl⟩ := hrel
            have hn2 := G.out.bits n
            by_cases hnB : n < B
            · have q2 := hn2.2 hnB
              clear hn2
              have qk := shl_le G.out.bits (show n ≤ 53 by omega)
              rw [decide_eq_true hnB] at qk
              go_wp2_with fail
              go_round
              case rel => exact ⟨n + 1, by omega, by go_num⟩
              case measure => simp [intOf]; omega
            · obtain rfl : n = B := by omega
              have qk := shl_le G.out.bits (show n ≤ 53 by omega)
              rw [decide_eq_false hnB] at qk
              clear hn2 hnB hn
              go_wp2_with fail
              go_ret2
              exact ⟨rfl, HB⟩

set_option maxHeartbeats 1600000 in
set_option maxRecDepth 100000 in
theorem refparse_fin_n_below (s r : ByteArray) (D : Nat) (w : World) (h1 : (s.toList == [110, 97, 110]) = false) (h2 : (s.toList == [105, 110, 102]) = false) (h3 : (s.toList == [45, 105, 110, 102]) = false) (hsz : s.size ≤ 140737488351232) (hp : 0 < s.size) (q : ((s[0].toNat : Int) == 45) = true) (e : s.extract 1 s.size = r) (hrs : r.size ≤ 140737488351232) (hD : D ≤ r.size) (hdig : Hid (∀ k (_ : k < r.size), k < D → 48 ≤ r[k].toNat ∧ r[k].toNat ≤ 57)) (hlt : D = r.size) (M z B A0 : Nat) (HA0 : Hid (A0 = M * 2 ^ (z - 0))) (G : Hid (OddOf M z B 0)) (H : Hid (∀ w, Calls Tryd.prog 87 #[.string r] w fun e w' => e = .returned (.tuple #[.int .i64 A0, .int .i64 0]) ∧ Bl w w')) (q8 : decide ((1024 : Int) < (B : Int) + (z : Int)) = false) (q9 : decide ((z : Int) < (-1074 : Int)) = false) (x f : Nat) (hfl : floatOfInt .f64 (M : Int) = x) (hf : f < two63) (L : Hid (∀ w, Calls Tryd.prog 88 #[.float .f64 x, .int .i64 (z : Int)] w fun e w' => e = .returned (.float .f64 f) ∧ w = w')) :
    Calls Tryd.prog 32 #[.string s] w fun e w' => e = .returned (.tuple #[.float .f64 (f + two63), .int .i64 0]) ∧ Bl w w' := by
  go_enter Tryd.func32, Tryd.ntmps32
  go_wp2_with fail
  go_loop [5] (fun i => ∃ k : Nat, k ≤ D ∧ i = .int .i64 k) (fun i => D - (intOf i).toNat)
  case atStart => exact ⟨0, Nat.zero_le _, rfl⟩
  case round =>
    obtain ⟨k, hk, rfl⟩ := hrel
    by_cases hlt : k < D
    · have hkr : k < r.size := by omega
      obtain ⟨d1, d2⟩ := hdig.out k hkr hlt
      have q1 : decide ((48 : Int) ≤ (r[k].toNat : Int)) = true := by simp; omega
      have q2 : decide ((r[k].toNat : Int) ≤ 57) = true := by simp; omega
      go_wp2_with fail
      go_round
      case rel => exact ⟨k + 1, by omega, by go_num⟩
      case measure => simp [intOf]; omega
    · obtain rfl : k = D := by omega
      clear hlt
      have HB := Bl.refl w
      obtain ⟨a00, a01, _, _⟩ := G.out.step (Nat.zero_le _) HA0.out
      have qa : decide ((9007199254740992 : Int) ≤ (A0 : Int)) = false := by simp; omega
      have qb : decide ((0 : Int) < (A0 : Int)) = true := by simp; omega
      go_wp2_with fail
      refine (H.out _).mono ?_
      rintro e w1 ⟨rfl, hb1⟩
      replace HB := HB.trans hb1
      clear hb1
      go_wp2_with fail
      go_loop [9, 6] (fun m e => ∃ j A : Nat, j ≤ z ∧ m = .int .i64 A ∧ e = .int .i64 (0 + (j : Int)) ∧ A = M * 2 ^ (z - j)) (fun _ e => z - (intOf e - (0)).toNat)
      case atStart => exact ⟨0, A0, Nat.zero_le _, rfl, by go_num, HA0.out⟩
      case round =>
        obtain ⟨j, A, hj, rfl, rfl, hA⟩ := hrel
        obtain ⟨a0, a1, a2, a3⟩ := G.out.step hj hA
        have HA := Lib.hid hA
        clear hA
        have zz := G.out.z52
        obtain ⟨e1, e2⟩ := G.out.e
        by_cases hjz : j < z
        · obtain ⟨b1, b2⟩ := a2 hjz
          have B2 := Lib.hid b2
          have qe : ((A : Int) % 2 == 0) = true := by simp; omega
          clear a2 a3 b1 b2
          go_wp2_with fail
          go_round
          case rel => exact ⟨j + 1, A / 2, by omega, rfl, by go_num, B2.out⟩
          case measure => simp [intOf]; omega
        · obtain rfl : j = z := by omega
          obtain rfl : A = M := a3 rfl
          have oo := G.out.odd
          have qe : ((A : Int) % 2 == 0) = false := by simp; omega
          clear a2 a3 HA oo hjz
          have bb := G.out.b53
          go_wp2_with fail
          go_loop [12] (fun i => ∃ k : Nat, k ≤ B ∧ i = .int .i64 k) (fun i => B - (intOf i).toNat)
          case atStart => exact ⟨0, Nat.zero_le _, rfl⟩
          case round =>
            obtain ⟨n, hn, rfl⟩ := hrel
            have hn2 := G.out.bits n
            by_cases hnB : n < B
            · have q2 := hn2.2 hnB
              clear hn2
              have qk := shl_le G.out.bits (show n ≤ 53 by omega)
              rw [decide_eq_true hnB] at qk
              go_wp2_with fail
              go_round
              case rel => exact ⟨n + 1, by omega, by go_num⟩
              case measure => simp [intOf]; omega
            · obtain rfl : n = B := by omega
              have qk := shl_le G.out.bits (show n ≤ 53 by omega)
              rw [decide_eq_false hnB] at qk
              clear hn2 hnB hn
              go_wp2_with fail
              refine (L.out _).mono ?_
              rintro e w1 ⟨rfl, rfl⟩
              go_wp2_with fail
              refine (copysign_neg f _ hf).mono ?_
              rintro e w1 ⟨rfl, rfl⟩
              go_wp2_with fail
              go_ret2
              exact ⟨rfl, HB⟩

set_option maxHeartbeats 1600000 in
set_option maxRecDepth 100000 in
theorem refparse_far_p_plain (s r : ByteArray) (D : Nat) (w : World) (h1 : (s.toList == [110, 97, 110]) = false) (h2 : (s.toList == [105, 110, 102]) = false) (h3 : (s.toList == [45, 105, 110, 102]) = false) (hsz : s.size ≤ 140737488351232) (hp : 0 < s.size) (q : ((s[0].toNat : Int) == 45) = false) (e : s = r) (hD : D ≤ r.size) (hdig : Hid (∀ k (_ : k < r.size), k < D → 48 ≤ r[k].toNat ∧ r[k].toNat ≤ 57)) (hlt : D < r.size) (q7 : (r[D].toNat : Int) = 112) (q5 : decide ((5 : Int) < (r.size : Int) - (D : Int) - 1) = false) (t : ByteArray) (ht : r.extract (D + 1) r.size = t) (d : ByteArray) (hd : r.extract 0 D = d) (tv : Int) (T : Hid (∀ w, Calls Tryd.prog 87 #[.string t] w fun e w' => e = .returned (.tuple #[.int .i64 tv, .int .i64 0]) ∧ Bl w w')) (M z B A0 : Nat) (HA0 : Hid (A0 = M * 2 ^ (z - 0))) (G : Hid (OddOf M z B tv)) (H : Hid (∀ w, Calls Tryd.prog 87 #[.string d] w fun e w' => e = .returned (.tuple #[.int .i64 A0, .int .i64 0]) ∧ Bl w w')) (q8 : decide ((1024 : Int) < (B : Int) + (tv + (z : Int))) = true) :
    Calls Tryd.prog 32 #[.string s] w fun e w' => e = .returned (.tuple #[.float .f64 (0), .int .i64 11]) ∧ Bl w w' := by
  subst e
  have hrs := hsz
  go_enter Tryd.func32, Tryd.ntmps32
  go_wp2_with fail
  go_loop [5] (fun i => ∃ k : Nat, k ≤ D ∧ i = .int .i64 k) (fun i => D - (intOf i).toNat)
  case atStart => exact ⟨0, Nat.zero_le _, rfl⟩
  case round =>
    obtain ⟨k, hk, rfl⟩ := hrel
    by_cases hlt : k < D
    · have hkr : k < s.size := by omega
      obtain ⟨d1, d2⟩ := hdig.out k hkr hlt
      have q1 : decide ((48 : Int) ≤ (s[k].toNat : Int)) = true := by simp; omega
      have q2 : decide ((s[k].toNat : Int) ≤ 57) = true := by simp; omega
      go_wp2_with fail
      go_round
      case rel => exact ⟨k + 1, by omega, by go_num⟩
      case measure => simp [intOf]; omega
    · obtain rfl : k = D := by omega
      clear hlt
      have HB := Bl.refl w
      obtain ⟨a00, a01, _, _⟩ := G.out.step (Nat.zero_le _) HA0.out
      have qa : decide ((9007199254740992 : Int) ≤ (A0 : Int)) = false := by simp; omega
      have qb : decide ((0 : Int) < (A0 : Int)) = true := by simp; omega
      go_wp2_with fail
      refine (T.out _).mono ?_
      rintro e w1 ⟨rfl, hb1⟩
      replace HB := HB.trans hb1
      clear hb1
      go_wp2_with fail
      refine (H.out _).mono ?_
      rintro e w1 ⟨rfl, hb1⟩
      replace HB := HB.trans hb1
      clear hb1
      go_wp2_with fail
      go_loop [9, 6] (fun m e => ∃ j A : Nat, j ≤ z ∧ m = .int .i64 A ∧ e = .int .i64 (tv + (j : Int)) ∧ A = M * 2 ^ (z - j)) (fun _ e => z - (intOf e - (tv)).toNat)
      case atStart => exact ⟨0, A0, Nat.zero_le _, rfl, by go_num, HA0.out⟩
      case round =>
        obtain ⟨j, A, hj, rfl, rfl, hA⟩ := hrel
        obtain ⟨a0, a1, a2, a3⟩ := G.out.step hj hA
        have HA := Lib.hid hA
        clear hA
        have zz := G.out.z52
        obtain ⟨e1, e2⟩ := G.out.e
        by_cases hjz : j < z
        · obtain ⟨b1, b2⟩ := a2 hjz
          have B2 := Lib.hid b2
          have qe : ((A : Int) % 2 == 0) = true := by simp; omega
          clear a2 a3 b1 b2
          go_wp2_with fail
          go_round
          case rel => exact ⟨j + 1, A / 2, by omega, rfl, by go_num, B2.out⟩
          case measure => simp [intOf]; omega
        · obtain rfl : j = z := by omega
          obtain rfl : A = M := a3 rfl
          have oo := G.out.odd
          have qe : ((A : Int) % 2 == 0) = false := by simp; omega
          clear a2 a3 HA oo hjz
          have bb := G.out.b53
          go_wp2_with fail
          go_loop [12] (fun i => ∃ k : Nat, k ≤ B ∧ i = .int .i64 k) (fun i => B - (intOf i).toNat)
          case atStart => exact ⟨0, Nat.zero_le _, rfl⟩
          case round =>
            obtain ⟨n, hn, rfl⟩ := hrel
            have hn2 := G.out.bits n
            by_cases hnB : n < B
            · have q2 := hn2.2 hnB
              clear hn2
              have qk := shl_le G.out.bits (show n ≤ 53 by omega)
              rw [decide_eq_true hnB] at qk
              go_wp2_with fail
              go_round
              case rel => exact ⟨n + 1, by omega, by go_num⟩
              case measure => simp [intOf]; omega
            · obtain rfl : n = B := by omega
              have qk := shl_le G.out.bits (show n ≤ 53 by omega)
              rw [decide_eq_false hnB] at qk
              clear hn2 hnB hn
              go_wp2_with fail
              go_ret2
              exact ⟨rfl, HB⟩

set_option maxHeartbeats 1600000 in
set_option maxRecDepth 100000 in
theorem refparse_deep_p_plain (s r : ByteArray) (D : Nat) (w : World) (h1 : (s.toList == [110, 97, 110]) = false) (h2 : (s.toList == [105, 110, 102]) = false) (h3 : (s.toList == [45, 105, 110, 102]) = false) (hsz : s.size ≤ 140737488351232) (hp : 0 < s.size) (q : ((s[0].toNat : Int) == 45) = false) (e : s = r) (hD : D ≤ r.size) (hdig : Hid (∀ k (_ : k < r.size), k < D → 48 ≤ r[k].toNat ∧ r[k].toNat ≤ 57)) (hlt : D < r.size) (q7 : (r[D].toNat : Int) = 112) (q5 : decide ((5 : Int) < (r.size : Int) - (D : Int) - 1) = false) (t : ByteArray) (ht : r.extract (D + 1) r.size = t) (d : ByteArray) (hd : r.extract 0 D = d) (tv : Int) (T : Hid (∀ w, Calls Tryd.prog 87 #[.string t] w fun e w' => e = .returned (.tuple #[.int .i64 tv, .int .i64 0]) ∧ Bl w w')) (M z B A0 : Nat) (HA0 : Hid (A0 = M * 2 ^ (z - 0))) (G : Hid (OddOf M z B tv)) (H : Hid (∀ w, Calls Tryd.prog 87 #[.string d] w fun e w' => e = .returned (.tuple #[.int .i64 A0, .int .i64 0]) ∧ Bl w w')) (q8 : decide ((1024 : Int) < (B : Int) + (tv + (z : Int))) = false) (q9 : decide ((tv + (z : Int)) < (-1074 : Int)) = true) :
    Calls Tryd.prog 32 #[.string s] w fun e w' => e = .returned (.tuple #[.float .f64 (0), .int .i64 11]) ∧ Bl w w' := by
  subst e
  have hrs := hsz
  go_enter Tryd.func32, Tryd.ntmps32
  go_wp2_with fail
  go_loop [5] (fun i => ∃ k : Nat, k ≤ D ∧ i = .int .i64 k) (fun i => D - (intOf i).toNat)
  case atStart => exact ⟨0, Nat.zero_le _, rfl⟩
  case round =>
    obtain ⟨k, hk, rfl⟩ := hrel
    by_cases hlt : k < D
    · have hkr : k < s.size := by omega
      obtain ⟨d1, d2⟩ := hdig.out k hkr hlt
      have q1 : decide ((48 : Int) ≤ (s[k].toNat : Int)) = true := by simp; omega
      have q2 : decide ((s[k].toNat : Int) ≤ 57) = true := by simp; omega
      go_wp2_with fail
      go_round
      case rel => exact ⟨k + 1, by omega, by go_num⟩
      case measure => simp [intOf]; omega
    · obtain rfl : k = D := by omega
      clear hlt
      have HB := Bl.refl w
      obtain ⟨a00, a01, _, _⟩ := G.out.step (Nat.zero_le _) HA0.out
      have qa : decide ((9007199254740992 : Int) ≤ (A0 : Int)) = false := by simp; omega
      have qb : decide ((0 : Int) < (A0 : Int)) = true := by simp; omega
      go_wp2_with fail
      refine (T.out _).mono ?_
      rintro e w1 ⟨rfl, hb1⟩
      replace HB := HB.trans hb1
      clear hb1
      go_wp2_with fail
      refine (H.out _).mono ?_
      rintro e w1 ⟨rfl, hb1⟩
      replace HB := HB.trans hb1
      clear hb1
      go_wp2_with fail
      go_loop [9, 6] (fun m e => ∃ j A : Nat, j ≤ z ∧ m = .int .i64 A ∧ e = .int .i64 (tv + (j : Int)) ∧ A = M * 2 ^ (z - j)) (fun _ e => z - (intOf e - (tv)).toNat)
      case atStart => exact ⟨0, A0, Nat.zero_le _, rfl, by go_num, HA0.out⟩
      case round =>
        obtain ⟨j, A, hj, rfl, rfl, hA⟩ := hrel
        obtain ⟨a0, a1, a2, a3⟩ := G.out.step hj hA
        have HA := Lib.hid hA
        clear hA
        have zz := G.out.z52
        obtain ⟨e1, e2⟩ := G.out.e
        by_cases hjz : j < z
        · obtain ⟨b1, b2⟩ := a2 hjz
          have B2 := Lib.hid b2
          have qe : ((A : Int) % 2 == 0) = true := by simp; omega
          clear a2 a3 b1 b2
          go_wp2_with fail
          go_round
          case rel => exact ⟨j + 1, A / 2, by omega, rfl, by go_num, B2.out⟩
          case measure => simp [intOf]; omega
        · obtain rfl : j = z := by omega
          obtain rfl : A = M := a3 rfl
          have oo := G.out.odd
          have qe : ((A : Int) % 2 == 0) = false := by simp; omega
          clear a2 a3 HA oo hjz
          have bb := G.out.b53
          go_wp2_with fail
          go_loop [12] (fun i => ∃ k : Nat, k ≤ B ∧ i = .int .i64 k) (fun i => B - (intOf i).toNat)
          case atStart => exact ⟨0, Nat.zero_le _, rfl⟩
          case round =>
            obtain ⟨n, hn, rfl⟩ := hrel
            have hn2 := G.out.bits n
            by_cases hnB : n < B
            · have q2 := hn2.2 hnB
              clear hn2
              have qk := shl_le G.out.bits (show n ≤ 53 by omega)
              rw [decide_eq_true hnB] at qk
              go_wp2_with fail
              go_round
              case rel => exact ⟨n + 1, by omega, by go_num⟩
              case measure => simp [intOf]; omega
            · obtain rfl : n = B := by omega
              have qk := shl_le G.out.bits (show n ≤ 53 by omega)
              rw [decide_eq_false hnB] at qk
              clear hn2 hnB hn
              go_wp2_with fail
              go_ret2
              exact ⟨rfl, HB⟩

set_option maxHeartbeats 1600000 in
set_option maxRecDepth 100000 in
theorem refparse_fin_p_plain (s r : ByteArray) (D : Nat) (w : World) (h1 : (s.toList == [110, 97, 110]) = false) (h2 : (s.toList == [105, 110, 102]) = false) (h3 : (s.toList == [45, 105, 110, 102]) = false) (hsz : s.size ≤ 140737488351232) (hp : 0 < s.size) (q : ((s[0].toNat : Int) == 45) = false) (e : s = r) (hD : D ≤ r.size) (hdig : Hid (∀ k (_ : k < r.size), k < D → 48 ≤ r[k].toNat ∧ r[k].toNat ≤ 57)) (hlt : D < r.size) (q7 : (r[D].toNat : Int) = 112) (q5 : decide ((5 : Int) < (r.size : Int) - (D : Int) - 1) = false) (t : ByteArray) (ht : r.extract (D + 1) r.size = t) (d : ByteArray) (hd : r.extract 0 D = d) (tv : Int) (T : Hid (∀ w, Calls Tryd.prog 87 #[.string t] w fun e w' => e = .returned (.tuple #[.int .i64 tv, .int .i64 0]) ∧ Bl w w')) (M z B A0 : Nat) (HA0 : Hid (A0 = M * 2 ^ (z - 0))) (G : Hid (OddOf M z B tv)) (H : Hid (∀ w, Calls Tryd.prog 87 #[.string d] w fun e w' => e = .returned (.tuple #[.int .i64 A0, .int .i64 0]) ∧ Bl w w')) (q8 : decide ((1024 : Int) < (B : Int) + (tv + (z : Int))) = false) (q9 : decide ((tv + (z : Int)) < (-1074 : Int)) = false) (x f : Nat) (hfl : floatOfInt .f64 (M : Int) = x) (hf : f < two63) (L : Hid (∀ w, Calls Tryd.prog 88 #[.float .f64 x, .int .i64 (tv + (z : Int))] w fun e w' => e = .returned (.float .f64 f) ∧ w = w')) :
    Calls Tryd.prog 32 #[.string s] w fun e w' => e = .returned (.tuple #[.float .f64 (f), .int .i64 0]) ∧ Bl w w' := by
  subst e
  have hrs := hsz
  go_enter Tryd.func32, Tryd.ntmps32
  go_wp2_with fail
  go_loop [5] (fun i => ∃ k : Nat, k ≤ D ∧ i = .int .i64 k) (fun i => D - (intOf i).toNat)
  case atStart => exact ⟨0, Nat.zero_le _, rfl⟩
  case round =>
    obtain ⟨k, hk, rfl⟩ := hrel
    by_cases hlt : k < D
    · have hkr : k < s.size := by omega
      obtain ⟨d1, d2⟩ := hdig.out k hkr hlt
      have q1 : decide ((48 : Int) ≤ (s[k].toNat : Int)) = true := by simp; omega
      have q2 : decide ((s[k].toNat : Int) ≤ 57) = true := by simp; omega
      go_wp2_with fail
      go_round
      case rel => exact ⟨k + 1, by omega, by go_num⟩
      case measure => simp [intOf]; omega
    · obtain rfl : k = D := by omega
      clear hlt
      have HB := Bl.refl w
      obtain ⟨a00, a01, _, _⟩ := G.out.step (Nat.zero_le _) HA0.out
      have qa : decide ((9007199254740992 : Int) ≤ (A0 : Int)) = false := by simp; omega
      have qb : decide ((0 : Int) < (A0 : Int)) = true := by simp; omega
      go_wp2_with fail
      refine (T.out _).mono ?_
      rintro e w1 ⟨rfl, hb1⟩
      replace HB := HB.trans hb1
      clear hb1
      go_wp2_with fail
      refine (H.out _).mono ?_
      rintro e w1 ⟨rfl, hb1⟩
      replace HB := HB.trans hb1
      clear hb1
      go_wp2_with fail
      go_loop [9, 6] (fun m e => ∃ j A : Nat, j ≤ z ∧ m = .int .i64 A ∧ e = .int .i64 (tv + (j : Int)) ∧ A = M * 2 ^ (z - j)) (fun _ e => z - (intOf e - (tv)).toNat)
      case atStart => exact ⟨0, A0, Nat.zero_le _, rfl, by go_num, HA0.out⟩
      case round =>
        obtain ⟨j, A, hj, rfl, rfl, hA⟩ := hrel
        obtain ⟨a0, a1, a2, a3⟩ := G.out.step hj hA
        have HA := Lib.hid hA
        clear hA
        have zz := G.out.z52
        obtain ⟨e1, e2⟩ := G.out.e
        by_cases hjz : j < z
        · obtain ⟨b1, b2⟩ := a2 hjz
          have B2 := Lib.hid b2
          have qe : ((A : Int) % 2 == 0) = true := by simp; omega
          clear a2 a3 b1 b2
          go_wp2_with fail
          go_round
          case rel => exact ⟨j + 1, A / 2, by omega, rfl, by go_num, B2.out⟩
          case measure => simp [intOf]; omega
        · obtain rfl : j = z := by omega
          obtain rfl : A = M := a3 rfl
          have oo := G.out.odd
          have qe : ((A : Int) % 2 == 0) = false := by simp; omega
          clear a2 a3 HA oo hjz
          have bb := G.out.b53
          go_wp2_with fail
          go_loop [12] (fun i => ∃ k : Nat, k ≤ B ∧ i = .int .i64 k) (fun i => B - (intOf i).toNat)
          case atStart => exact ⟨0, Nat.zero_le _, rfl⟩
          case round =>
            obtain ⟨n, hn, rfl⟩ := hrel
            have hn2 := G.out.bits n
            by_cases hnB : n < B
            · have q2 := hn2.2 hnB
              clear hn2
              have qk := shl_le G.out.bits (show n ≤ 53 by omega)
              rw [decide_eq_true hnB] at qk
              go_wp2_with fail
              go_round
              case rel => exact ⟨n + 1, by omega, by go_num⟩
              case measure => simp [intOf]; omega
            · obtain rfl : n = B := by omega
              have qk := shl_le G.out.bits (show n ≤ 53 by omega)
              rw [decide_eq_false hnB] at qk
              clear hn2 hnB hn
              go_wp2_with fail
              refine (L.out _).mono ?_
              rintro e w1 ⟨rfl, rfl⟩
              go_wp2_with fail
              go_ret2
              exact ⟨rfl, HB⟩

set_option maxHeartbeats 1600000 in
set_option maxRecDepth 100000 in
theorem refparse_far_n_plain (s r : ByteArray) (D : Nat) (w : World) (h1 : (s.toList == [110, 97, 110]) = false) (h2 : (s.toList == [105, 110, 102]) = false) (h3 : (s.toList == [45, 105, 110, 102]) = false) (hsz : s.size ≤ 140737488351232) (hp : 0 < s.size) (q : ((s[0].toNat : Int) == 45) = false) (e : s = r) (hD : D ≤ r.size) (hdig : Hid (∀ k (_ : k < r.size), k < D → 48 ≤ r[k].toNat ∧ r[k].toNat ≤ 57)) (hlt : D = r.size) (M z B A0 : Nat) (HA0 : Hid (A0 = M * 2 ^ (z - 0))) (G : Hid (OddOf M z B 0)) (H : Hid (∀ w, Calls Tryd.prog 87 #[.string r] w fun e w' => e = .returned (.tuple #[.int .i64 A0, .int .i64 0]) ∧ Bl w w')) (q8 : decide ((1024 : Int) < (B : Int) + (z : Int)) = true) :
    Calls Tryd.prog 32 #[.string s] w fun e w' => e = .returned (.tuple #[.float .f64 (0), .int .i64 11]) ∧ Bl w w' := by
  subst e
  have hrs := hsz
  go_enter Tryd.func32, Tryd.ntmps32
  go_wp2_with fail
  go_loop [5] (fun i => ∃ k : Nat, k ≤ D ∧ i = .int .i64 k) (fun i => D - (intOf i).toNat)
  case atStart => exact ⟨0, Nat.zero_le _, rfl⟩
  case round =>
    obtain ⟨k, hk, rfl⟩ := hrel
    by_cases hlt : k < D
    · have hkr : k < s.size := by omega
      obtain ⟨d1, d2⟩ := hdig.out k hkr hlt
      have q1 : decide ((48 : Int) ≤ (s[k].toNat : Int)) = true := by simp; omega
      have q2 : decide ((s[k].toNat : Int) ≤ 57) = true := by simp; omega
      go_wp2_with fail
      go_round
      case rel => exact ⟨k + 1, by omega, by go_num⟩
      case measure => simp [intOf]; omega
    · obtain rfl : k = D := by omega
      clear hlt
      have HB := Bl.refl w
      obtain ⟨a00, a01, _, _⟩ := G.out.step (Nat.zero_le _) HA0.out
      have qa : decide ((9007199254740992 : Int) ≤ (A0 : Int)) = false := by simp; omega
      have qb : decide ((0 : Int) < (A0 : Int)) = true := by simp; omega
      go_wp2_with fail
      refine (H.out _).mono ?_
      rintro e w1 ⟨rfl, hb1⟩
      replace HB := HB.trans hb1
      clear hb1
      go_wp2_with fail
      go_loop [9, 6] (fun m e => ∃ j A : Nat, j ≤ z ∧ m = .int .i64 A ∧ e = .int .i64 (0 + (j : Int)) ∧ A = M * 2 ^ (z - j)) (fun _ e => z - (intOf e - (0)).toNat)
      case atStart => exact ⟨0, A0, Nat.zero_le _, rfl, by go_num, HA0.out⟩
      case round =>
        obtain ⟨j, A, hj, rfl, rfl, hA⟩ := hrel
        obtain ⟨a0, a1, a2, a3⟩ := G.out.step hj hA
        have HA := Lib.hid hA
        clear hA
        have zz := G.out.z52
        obtain ⟨e1, e2⟩ := G.out.e
        by_cases hjz : j < z
        · obtain ⟨b1, b2⟩ := a2 hjz
          have B2 := Lib.hid b2
          have qe : ((A : Int) % 2 == 0) = true := by simp; omega
          clear a2 a3 b1 b2
          go_wp2_with fail
          go_round
          case rel => exact ⟨j + 1, A / 2, by omega, rfl, by go_num, B2.out⟩
          case measure => simp [intOf]; omega
        · obtain rfl : j = z := by omega
          obtain rfl : A = M := a3 rfl
          have oo := G.out.odd
          have qe : ((A : Int) % 2 == 0) = false := by simp; omega
          clear a2 a3 HA oo hjz
          have bb := G.out.b53
          go_wp2_with fail
          go_loop [12] (fun i => ∃ k : Nat, k ≤ B ∧ i = .int .i64 k) (fun i => B - (intOf i).toNat)
          case atStart => exact ⟨0, Nat.zero_le _, rfl⟩
          case round =>
            obtain ⟨n, hn, rfl⟩ := hrel
            have hn2 := G.out.bits n
            by_cases hnB : n < B
            · have q2 := hn2.2 hnB
              clear hn2
              have qk := shl_le G.out.bits (show n ≤ 53 by omega)
              rw [decide_eq_true hnB] at qk
              go_wp2_with fail
              go_round
              case rel => exact ⟨n + 1, by omega, by go_num⟩
              case measure => simp [intOf]; omega
            · obtain rfl : n = B := by omega
              have qk := shl_le G.out.bits (show n ≤ 53 by omega)
              rw [decide_eq_false hnB] at qk
              clear hn2 hnB hn
              go_wp2_with fail
              go_ret2
              exact ⟨rfl, HB⟩

set_option maxHeartbeats 1600000 in
set_option maxRecDepth 100000 in
theorem refparse_deep_n_plain (s r : ByteArray) (D : Nat) (w : World) (h1 : (s.toList == [110, 97, 110]) = false) (h2 : (s.toList == [105, 110, 102]) = false) (h3 : (s.toList == [45, 105, 110, 102]) = false) (hsz : s.size ≤ 140737488351232) (hp : 0 < s.size) (q : ((s[0].toNat : Int) == 45) = false) (e : s = r) (hD : D ≤ r.size) (hdig : Hid (∀ k (_ : k < r.size), k < D → 48 ≤ r[k].toNat ∧ r[k].toNat ≤ 57)) (hlt : D = r.size) (M z B A0 : Nat) (HA0 : Hid (A0 = M * 2 ^ (z - 0))) (G : Hid (OddOf M z B 0)) (H : Hid (∀ w, Calls Tryd.prog 87 #[.string r] w fun e w' => e = .returned (.tuple #[.int .i64 A0, .int .i64 0]) ∧ Bl w w')) (q8 : decide ((1024 : Int) < (B : Int) + (z : Int)) = false) (q9 : decide ((z : Int) < (-1074 : Int)) = true) :
    Calls Tryd.prog 32 #[.string s] w fun e w' => e = .returned (.tuple #[.float .f64 (0), .int .i64 11]) ∧ Bl w w' := by
  subst e
  have hrs := hsz
  go_enter Tryd.func32, Tryd.ntmps32
  go_wp2_with fail
  go_loop [5] (fun i => ∃ k : Nat, k ≤ D ∧ i = .int .i64 k) (fun i => D - (intOf i).toNat)
  case atStart => exact ⟨0, Nat.zero_le _, rfl⟩
  case round =>
    obtain ⟨k, hk, rfl⟩ := hrel
    by_cases hlt : k < D
    · have hkr : k < s.size := by omega
      obtain ⟨d1, d2⟩ := hdig.out k hkr hlt
      have q1 : decide ((48 : Int) ≤ (s[k].toNat : Int)) = true := by simp; omega
      have q2 : decide ((s[k].toNat : Int) ≤ 57) = true := by simp; omega
      go_wp2_with fail
      go_round
      case rel => exact ⟨k + 1, by omega, by go_num⟩
      case measure => simp [intOf]; omega
    · obtain rfl : k = D := by omega
      clear hlt
      have HB := Bl.refl w
      obtain ⟨a00, a01, _, _⟩ := G.out.step (Nat.zero_le _) HA0.out
      have qa : decide ((9007199254740992 : Int) ≤ (A0 : Int)) = false := by simp; omega
      have qb : decide ((0 : Int) < (A0 : Int)) = true := by simp; omega
      go_wp2_with fail
      refine (H.out _).mono ?_
      rintro e w1 ⟨rfl, hb1⟩
      replace HB := HB.trans hb1
      clear hb1
      go_wp2_with fail
      go_loop [9, 6] (fun m e => ∃ j A : Nat, j ≤ z ∧ m = .int .i64 A ∧ e = .int .i64 (0 + (j : Int)) ∧ A = M * 2 ^ (z - j)) (fun _ e => z - (intOf e - (0)).toNat)
      case atStart => exact ⟨0, A0, Nat.zero_le _, rfl, by go_num, HA0.out⟩
      case round =>
        obtain ⟨j, A, hj, rfl, rfl, hA⟩ := hrel
        obtain ⟨a0, a1, a2, a3⟩ := G.out.step hj hA
        have HA := Lib.hid hA
        clear hA
        have zz := G.out.z52
        obtain ⟨e1, e2⟩ := G.out.e
        by_cases hjz : j < z
        · obtain ⟨b1, b2⟩ := a2 hjz
          have B2 := Lib.hid b2
          have qe : ((A : Int) % 2 == 0) = true := by simp; omega
          clear a2 a3 b1 b2
          go_wp2_with fail
          go_round
          case rel => exact ⟨j + 1, A / 2, by omega, rfl, by go_num, B2.out⟩
          case measure => simp [intOf]; omega
        · obtain rfl : j = z := by omega
          obtain rfl : A = M := a3 rfl
          have oo := G.out.odd
          have qe : ((A : Int) % 2 == 0) = false := by simp; omega
          clear a2 a3 HA oo hjz
          have bb := G.out.b53
          go_wp2_with fail
          go_loop [12] (fun i => ∃ k : Nat, k ≤ B ∧ i = .int .i64 k) (fun i => B - (intOf i).toNat)
          case atStart => exact ⟨0, Nat.zero_le _, rfl⟩
          case round =>
            obtain ⟨n, hn, rfl⟩ := hrel
            have hn2 := G.out.bits n
            by_cases hnB : n < B
            · have q2 := hn2.2 hnB
              clear hn2
              have qk := shl_le G.out.bits (show n ≤ 53 by omega)
              rw [decide_eq_true hnB] at qk
              go_wp2_with fail
              go_round
              case rel => exact ⟨n + 1, by omega, by go_num⟩
              case measure => simp [intOf]; omega
            · obtain rfl : n = B := by omega
              have qk := shl_le G.out.bits (show n ≤ 53 by omega)
              rw [decide_eq_false hnB] at qk
              clear hn2 hnB hn
              go_wp2_with fail
              go_ret2
              exact ⟨rfl, HB⟩

set_option maxHeartbeats 1600000 in
set_option maxRecDepth 100000 in
theorem refparse_fin_n_plain (s r : ByteArray) (D : Nat) (w : World) (h1 : (s.toList == [110, 97, 110]) = false) (h2 : (s.toList == [105, 110, 102]) = false) (h3 : (s.toList == [45, 105, 110, 102]) = false) (hsz : s.size ≤ 140737488351232) (hp : 0 < s.size) (q : ((s[0].toNat : Int) == 45) = false) (e : s = r) (hD : D ≤ r.size) (hdig : Hid (∀ k (_ : k < r.size), k < D → 48 ≤ r[k].toNat ∧ r[k].toNat ≤ 57)) (hlt : D = r.size) (M z B A0 : Nat) (HA0 : Hid (A0 = M * 2 ^ (z - 0))) (G : Hid (OddOf M z B 0)) (H : Hid (∀ w, Calls Tryd.prog 87 #[.string r] w fun e w' => e = .returned (.tuple #[.int .i64 A0, .int .i64 0]) ∧ Bl w w')) (q8 : decide ((1024 : Int) < (B : Int) + (z : Int)) = false) (q9 : decide ((z : Int) < (-1074 : Int)) = false) (x f : Nat) (hfl : floatOfInt .f64 (M : Int) = x) (hf : f < two63) (L : Hid (∀ w, Calls Tryd.prog 88 #[.float .f64 x, .int .i64 (z : Int)] w fun e w' => e = .returned (.float .f64 f) ∧ w = w')) :
    Calls Tryd.prog 32 #[.string s] w fun e w' => e = .returned (.tuple #[.float .f64 (f), .int .i64 0]) ∧ Bl w w' := by
  subst e
  have hrs := hsz
  go_enter Tryd.func32, Tryd.ntmps32
  go_wp2_with fail
  go_loop [5] (fun i => ∃ k : Nat, k ≤ D ∧ i = .int .i64 k) (fun i => D - (intOf i).toNat)
  case atStart => exact ⟨0, Nat.zero_le _, rfl⟩
  case round =>
    obtain ⟨k, hk, rfl⟩ := hrel
    by_cases hlt : k < D
    · have hkr : k < s.size := by omega
      obtain ⟨d1, d2⟩ := hdig.out k hkr hlt
      have q1 : decide ((48 : Int) ≤ (s[k].toNat : Int)) = true := by simp; omega
      have q2 : decide ((s[k].toNat : Int) ≤ 57) = true := by simp; omega
      go_wp2_with fail
      go_round
      case rel => exact ⟨k + 1, by omega, by go_num⟩
      case measure => simp [intOf]; omega
    · obtain rfl : k = D := by omega
      clear hlt
      have HB := Bl.refl w
      obtain ⟨a00, a01, _, _⟩ := G.out.step (Nat.zero_le _) HA0.out
      have qa : decide ((9007199254740992 : Int) ≤ (A0 : Int)) = false := by simp; omega
      have qb : decide ((0 : Int) < (A0 : Int)) = true := by simp; omega
      go_wp2_with fail
      refine (H.out _).mono ?_
      rintro e w1 ⟨rfl, hb1⟩
      replace HB := HB.trans hb1
      clear hb1
      go_wp2_with fail
      go_loop [9, 6] (fun m e => ∃ j A : Nat, j ≤ z ∧ m = .int .i64 A ∧ e = .int .i64 (0 + (j : Int)) ∧ A = M * 2 ^ (z - j)) (fun _ e => z - (intOf e - (0)).toNat)
      case atStart => exact ⟨0, A0, Nat.zero_le _, rfl, by go_num, HA0.out⟩
      case round =>
        obtain ⟨j, A, hj, rfl, rfl, hA⟩ := hrel
        obtain ⟨a0, a1, a2, a3⟩ := G.out.step hj hA
        have HA := Lib.hid hA
        clear hA
        have zz := G.out.z52
        obtain ⟨e1, e2⟩ := G.out.e
        by_cases hjz : j < z
        · obtain ⟨b1, b2⟩ := a2 hjz
          have B2 := Lib.hid b2
          have qe : ((A : Int) % 2 == 0) = true := by simp; omega
          clear a2 a3 b1 b2
          go_wp2_with fail
          go_round
          case rel => exact ⟨j + 1, A / 2, by omega, rfl, by go_num, B2.out⟩
          case measure => simp [intOf]; omega
        · obtain rfl : j = z := by omega
          obtain rfl : A = M := a3 rfl
          have oo := G.out.odd
          have qe : ((A : Int) % 2 == 0) = false := by simp; omega
          clear a2 a3 HA oo hjz
          have bb := G.out.b53
          go_wp2_with fail
          go_loop [12] (fun i => ∃ k : Nat, k ≤ B ∧ i = .int .i64 k) (fun i => B - (intOf i).toNat)
          case atStart => exact ⟨0, Nat.zero_le _, rfl⟩
          case round =>
            obtain ⟨n, hn, rfl⟩ := hrel
            have hn2 := G.out.bits n
            by_cases hnB : n < B
            · have q2 := hn2.2 hnB
              clear hn2
              have qk := shl_le G.out.bits (show n ≤ 53 by omega)
              rw [decide_eq_true hnB] at qk
              go_wp2_with fail
              go_round
              case rel => exact ⟨n + 1, by omega, by go_num⟩
              case measure => simp [intOf]; omega
            · obtain rfl : n = B := by omega
              have qk := shl_le G.out.bits (show n ≤ 53 by omega)
              rw [decide_eq_false hnB] at qk
              clear hn2 hnB hn
              go_wp2_with fail
              refine (L.out _).mono ?_
              rintro e w1 ⟨rfl, rfl⟩
              go_wp2_with fail
              go_ret2
              exact ⟨rfl, HB⟩

theorem refparse_char (s r : ByteArray) (b : Bool) (D : Nat) (w : World) (h1 : (s.toList == [110, 97, 110]) = false) (h2 : (s.toList == [105, 110, 102]) = false) (h3 : (s.toList == [45, 105, 110, 102]) = false) (hsz : s.size ≤ 140737488351232) (hp : 0 < s.size) (hsg : SignOf s r b) (hrs : r.size ≤ 140737488351232) (hD : D ≤ r.size) (hdig : Hid (∀ k (_ : k < r.size), k < D → 48 ≤ r[k].toNat ∧ r[k].toNat ≤ 57)) (hlt : D < r.size) (q3 : decide ((48 : Int) ≤ (r[D].toNat : Int)) = false ∨ (decide ((48 : Int) ≤ (r[D].toNat : Int)) = true ∧ decide ((r[D].toNat : Int) ≤ 57) = false)) (q4 : ((r[D].toNat : Int) != 112) = true) :
    Calls Tryd.prog 32 #[.string s] w fun e w' => e = .returned (.tuple #[.float .f64 0, .int .i64 4]) ∧ Bl w w' := by
  cases hsg with
  | below _ q e => exact refparse_char_below s r D w h1 h2 h3 hsz hp q e hrs hD hdig hlt q3 q4
  | none e h => omega
  | plain e _ q => exact refparse_char_plain s r D w h1 h2 h3 hsz hp q e.symm hD hdig hlt q3 q4
theorem refparse_long (s r : ByteArray) (b : Bool) (D : Nat) (w : World) (h1 : (s.toList == [110, 97, 110]) = false) (h2 : (s.toList == [105, 110, 102]) = false) (h3 : (s.toList == [45, 105, 110, 102]) = false) (hsz : s.size ≤ 140737488351232) (hp : 0 < s.size) (hsg : SignOf s r b) (hrs : r.size ≤ 140737488351232) (hD : D ≤ r.size) (hdig : Hid (∀ k (_ : k < r.size), k < D → 48 ≤ r[k].toNat ∧ r[k].toNat ≤ 57)) (hlt : D < r.size) (q7 : (r[D].toNat : Int) = 112) (q5 : decide ((5 : Int) < (r.size : Int) - (D : Int) - 1) = true) :
    Calls Tryd.prog 32 #[.string s] w fun e w' => e = .returned (.tuple #[.float .f64 0, .int .i64 4]) ∧ Bl w w' := by
  cases hsg with
  | below _ q e => exact refparse_long_below s r D w h1 h2 h3 hsz hp q e hrs hD hdig hlt q7 q5
  | none e h => omega
  | plain e _ q => exact refparse_long_plain s r D w h1 h2 h3 hsz hp q e.symm hD hdig hlt q7 q5
theorem refparse_tail (s r : ByteArray) (b : Bool) (D : Nat) (w : World) (h1 : (s.toList == [110, 97, 110]) = false) (h2 : (s.toList == [105, 110, 102]) = false) (h3 : (s.toList == [45, 105, 110, 102]) = false) (hsz : s.size ≤ 140737488351232) (hp : 0 < s.size) (hsg : SignOf s r b) (hrs : r.size ≤ 140737488351232) (hD : D ≤ r.size) (hdig : Hid (∀ k (_ : k < r.size), k < D → 48 ≤ r[k].toNat ∧ r[k].toNat ≤ 57)) (hlt : D < r.size) (q7 : (r[D].toNat : Int) = 112) (q5 : decide ((5 : Int) < (r.size : Int) - (D : Int) - 1) = false) (t : ByteArray) (ht : r.extract (D + 1) r.size = t) (tv : Int) (T : Hid (∀ w, Calls Tryd.prog 87 #[.string t] w fun e w' => e = .returned (.tuple #[.int .i64 tv, .int .i64 4]) ∧ Bl w w')) :
    Calls Tryd.prog 32 #[.string s] w fun e w' => e = .returned (.tuple #[.float .f64 0, .int .i64 4]) ∧ Bl w w' := by
  cases hsg with
  | below _ q e => exact refparse_tail_below s r D w h1 h2 h3 hsz hp q e hrs hD hdig hlt q7 q5 t ht tv T
  | none e h => omega
  | plain e _ q => exact refparse_tail_plain s r D w h1 h2 h3 hsz hp q e.symm hD hdig hlt q7 q5 t ht tv T
theorem refparse_head_p (s r : ByteArray) (b : Bool) (D : Nat) (w : World) (h1 : (s.toList == [110, 97, 110]) = false) (h2 : (s.toList == [105, 110, 102]) = false) (h3 : (s.toList == [45, 105, 110, 102]) = false) (hsz : s.size ≤ 140737488351232) (hp : 0 < s.size) (hsg : SignOf s r b) (hrs : r.size ≤ 140737488351232) (hD : D ≤ r.size) (hdig : Hid (∀ k (_ : k < r.size), k < D → 48 ≤ r[k].toNat ∧ r[k].toNat ≤ 57)) (hlt : D < r.size) (q7 : (r[D].toNat : Int) = 112) (q5 : decide ((5 : Int) < (r.size : Int) - (D : Int) - 1) = false) (t : ByteArray) (ht : r.extract (D + 1) r.size = t) (d : ByteArray) (hd : r.extract 0 D = d) (tv : Int) (T : Hid (∀ w, Calls Tryd.prog 87 #[.string t] w fun e w' => e = .returned (.tuple #[.int .i64 tv, .int .i64 0]) ∧ Bl w w')) (hv : Int) (H : Hid (∀ w, Calls Tryd.prog 87 #[.string d] w fun e w' => e = .returned (.tuple #[.int .i64 hv, .int .i64 4]) ∧ Bl w w')) :
    Calls Tryd.prog 32 #[.string s] w fun e w' => e = .returned (.tuple #[.float .f64 0, .int .i64 4]) ∧ Bl w w' := by
  cases hsg with
  | below _ q e => exact refparse_head_p_below s r D w h1 h2 h3 hsz hp q e hrs hD hdig hlt q7 q5 t ht d hd tv T hv H
  | none e h => omega
  | plain e _ q => exact refparse_head_p_plain s r D w h1 h2 h3 hsz hp q e.symm hD hdig hlt q7 q5 t ht d hd tv T hv H
theorem refparse_over_p (s r : ByteArray) (b : Bool) (D : Nat) (w : World) (h1 : (s.toList == [110, 97, 110]) = false) (h2 : (s.toList == [105, 110, 102]) = false) (h3 : (s.toList == [45, 105, 110, 102]) = false) (hsz : s.size ≤ 140737488351232) (hp : 0 < s.size) (hsg : SignOf s r b) (hrs : r.size ≤ 140737488351232) (hD : D ≤ r.size) (hdig : Hid (∀ k (_ : k < r.size), k < D → 48 ≤ r[k].toNat ∧ r[k].toNat ≤ 57)) (hlt : D < r.size) (q7 : (r[D].toNat : Int) = 112) (q5 : decide ((5 : Int) < (r.size : Int) - (D : Int) - 1) = false) (t : ByteArray) (ht : r.extract (D + 1) r.size = t) (d : ByteArray) (hd : r.extract 0 D = d) (tv : Int) (T : Hid (∀ w, Calls Tryd.prog 87 #[.string t] w fun e w' => e = .returned (.tuple #[.int .i64 tv, .int .i64 0]) ∧ Bl w w')) (hv : Int) (q6 : decide ((9007199254740992 : Int) ≤ hv) = true) (H : Hid (∀ w, Calls Tryd.prog 87 #[.string d] w fun e w' => e = .returned (.tuple #[.int .i64 hv, .int .i64 0]) ∧ Bl w w')) :
    Calls Tryd.prog 32 #[.string s] w fun e w' => e = .returned (.tuple #[.float .f64 0, .int .i64 11]) ∧ Bl w w' := by
  cases hsg with
  | below _ q e => exact refparse_over_p_below s r D w h1 h2 h3 hsz hp q e hrs hD hdig hlt q7 q5 t ht d hd tv T hv q6 H
  | none e h => omega
  | plain e _ q => exact refparse_over_p_plain s r D w h1 h2 h3 hsz hp q e.symm hD hdig hlt q7 q5 t ht d hd tv T hv q6 H
theorem refparse_zero_p (s r : ByteArray) (b : Bool) (D : Nat) (w : World) (h1 : (s.toList == [110, 97, 110]) = false) (h2 : (s.toList == [105, 110, 102]) = false) (h3 : (s.toList == [45, 105, 110, 102]) = false) (hsz : s.size ≤ 140737488351232) (hp : 0 < s.size) (hsg : SignOf s r b) (hrs : r.size ≤ 140737488351232) (hD : D ≤ r.size) (hdig : Hid (∀ k (_ : k < r.size), k < D → 48 ≤ r[k].toNat ∧ r[k].toNat ≤ 57)) (hlt : D < r.size) (q7 : (r[D].toNat : Int) = 112) (q5 : decide ((5 : Int) < (r.size : Int) - (D : Int) - 1) = false) (t : ByteArray) (ht : r.extract (D + 1) r.size = t) (d : ByteArray) (hd : r.extract 0 D = d) (tv : Int) (T : Hid (∀ w, Calls Tryd.prog 87 #[.string t] w fun e w' => e = .returned (.tuple #[.int .i64 tv, .int .i64 0]) ∧ Bl w w')) (H : Hid (∀ w, Calls Tryd.prog 87 #[.string d] w fun e w' => e = .returned (.tuple #[.int .i64 0, .int .i64 0]) ∧ Bl w w')) :
    Calls Tryd.prog 32 #[.string s] w fun e w' => e = .returned (.tuple #[.float .f64 (withS b 0), .int .i64 0]) ∧ Bl w w' := by
  cases hsg with
  | below _ q e => exact refparse_zero_p_below s r D w h1 h2 h3 hsz hp q e hrs hD hdig hlt q7 q5 t ht d hd tv T H
  | none e h => omega
  | plain e _ q => exact refparse_zero_p_plain s r D w h1 h2 h3 hsz hp q e.symm hD hdig hlt q7 q5 t ht d hd tv T H
theorem refparse_head_n (s r : ByteArray) (b : Bool) (D : Nat) (w : World) (h1 : (s.toList == [110, 97, 110]) = false) (h2 : (s.toList == [105, 110, 102]) = false) (h3 : (s.toList == [45, 105, 110, 102]) = false) (hsz : s.size ≤ 140737488351232) (hp : 0 < s.size) (hsg : SignOf s r b) (hrs : r.size ≤ 140737488351232) (hD : D ≤ r.size) (hdig : Hid (∀ k (_ : k < r.size), k < D → 48 ≤ r[k].toNat ∧ r[k].toNat ≤ 57)) (hlt : D = r.size) (hv : Int) (H : Hid (∀ w, Calls Tryd.prog 87 #[.string r] w fun e w' => e = .returned (.tuple #[.int .i64 hv, .int .i64 4]) ∧ Bl w w')) :
    Calls Tryd.prog 32 #[.string s] w fun e w' => e = .returned (.tuple #[.float .f64 0, .int .i64 4]) ∧ Bl w w' := by
  cases hsg with
  | below _ q e => exact refparse_head_n_below s r D w h1 h2 h3 hsz hp q e hrs hD hdig hlt hv H
  | none e h => omega
  | plain e _ q => exact refparse_head_n_plain s r D w h1 h2 h3 hsz hp q e.symm hD hdig hlt hv H
theorem refparse_over_n (s r : ByteArray) (b : Bool) (D : Nat) (w : World) (h1 : (s.toList == [110, 97, 110]) = false) (h2 : (s.toList == [105, 110, 102]) = false) (h3 : (s.toList == [45, 105, 110, 102]) = false) (hsz : s.size ≤ 140737488351232) (hp : 0 < s.size) (hsg : SignOf s r b) (hrs : r.size ≤ 140737488351232) (hD : D ≤ r.size) (hdig : Hid (∀ k (_ : k < r.size), k < D → 48 ≤ r[k].toNat ∧ r[k].toNat ≤ 57)) (hlt : D = r.size) (hv : Int) (q6 : decide ((9007199254740992 : Int) ≤ hv) = true) (H : Hid (∀ w, Calls Tryd.prog 87 #[.string r] w fun e w' => e = .returned (.tuple #[.int .i64 hv, .int .i64 0]) ∧ Bl w w')) :
    Calls Tryd.prog 32 #[.string s] w fun e w' => e = .returned (.tuple #[.float .f64 0, .int .i64 11]) ∧ Bl w w' := by
  cases hsg with
  | below _ q e => exact refparse_over_n_below s r D w h1 h2 h3 hsz hp q e hrs hD hdig hlt hv q6 H
  | none e h => omega
  | plain e _ q => exact refparse_over_n_plain s r D w h1 h2 h3 hsz hp q e.symm hD hdig hlt hv q6 H
theorem refparse_zero_n (s r : ByteArray) (b : Bool) (D : Nat) (w : World) (h1 : (s.toList == [110, 97, 110]) = false) (h2 : (s.toList == [105, 110, 102]) = false) (h3 : (s.toList == [45, 105, 110, 102]) = false) (hsz : s.size ≤ 140737488351232) (hp : 0 < s.size) (hsg : SignOf s r b) (hrs : r.size ≤ 140737488351232) (hD : D ≤ r.size) (hdig : Hid (∀ k (_ : k < r.size), k < D → 48 ≤ r[k].toNat ∧ r[k].toNat ≤ 57)) (hlt : D = r.size) (H : Hid (∀ w, Calls Tryd.prog 87 #[.string r] w fun e w' => e = .returned (.tuple #[.int .i64 0, .int .i64 0]) ∧ Bl w w')) :
    Calls Tryd.prog 32 #[.string s] w fun e w' => e = .returned (.tuple #[.float .f64 (withS b 0), .int .i64 0]) ∧ Bl w w' := by
  cases hsg with
  | below _ q e => exact refparse_zero_n_below s r D w h1 h2 h3 hsz hp q e hrs hD hdig hlt H
  | none e h => omega
  | plain e _ q => exact refparse_zero_n_plain s r D w h1 h2 h3 hsz hp q e.symm hD hdig hlt H
theorem refparse_far_p (s r : ByteArray) (b : Bool) (D : Nat) (w : World) (h1 : (s.toList == [110, 97, 110]) = false) (h2 : (s.toList == [105, 110, 102]) = false) (h3 : (s.toList == [45, 105, 110, 102]) = false) (hsz : s.size ≤ 140737488351232) (hp : 0 < s.size) (hsg : SignOf s r b) (hrs : r.size ≤ 140737488351232) (hD : D ≤ r.size) (hdig : Hid (∀ k (_ : k < r.size), k < D → 48 ≤ r[k].toNat ∧ r[k].toNat ≤ 57)) (hlt : D < r.size) (q7 : (r[D].toNat : Int) = 112) (q5 : decide ((5 : Int) < (r.size : Int) - (D : Int) - 1) = false) (t : ByteArray) (ht : r.extract (D + 1) r.size = t) (d : ByteArray) (hd : r.extract 0 D = d) (tv : Int) (T : Hid (∀ w, Calls Tryd.prog 87 #[.string t] w fun e w' => e = .returned (.tuple #[.int .i64 tv, .int .i64 0]) ∧ Bl w w')) (M z B A0 : Nat) (HA0 : Hid (A0 = M * 2 ^ (z - 0))) (G : Hid (OddOf M z B tv)) (H : Hid (∀ w, Calls Tryd.prog 87 #[.string d] w fun e w' => e = .returned (.tuple #[.int .i64 A0, .int .i64 0]) ∧ Bl w w')) (q8 : decide ((1024 : Int) < (B : Int) + (tv + (z : Int))) = true) :
    Calls Tryd.prog 32 #[.string s] w fun e w' => e = .returned (.tuple #[.float .f64 0, .int .i64 11]) ∧ Bl w w' := by
  cases hsg with
  | below _ q e => exact refparse_far_p_below s r D w h1 h2 h3 hsz hp q e hrs hD hdig hlt q7 q5 t ht d hd tv T M z B A0 HA0 G H q8
  | none e h => omega
  | plain e _ q => exact refparse_far_p_plain s r D w h1 h2 h3 hsz hp q e.symm hD hdig hlt q7 q5 t ht d hd tv T M z B A0 HA0 G H q8
theorem refparse_deep_p (s r : ByteArray) (b : Bool) (D : Nat) (w : World) (h1 : (s.toList == [110, 97, 110]) = false) (h2 : (s.toList == [105, 110, 102]) = false) (h3 : (s.toList == [45, 105, 110, 102]) = false) (hsz : s.size ≤ 140737488351232) (hp : 0 < s.size) (hsg : SignOf s r b) (hrs : r.size ≤ 140737488351232) (hD : D ≤ r.size) (hdig : Hid (∀ k (_ : k < r.size), k < D → 48 ≤ r[k].toNat ∧ r[k].toNat ≤ 57)) (hlt : D < r.size) (q7 : (r[D].toNat : Int) = 112) (q5 : decide ((5 : Int) < (r.size : Int) - (D : Int) - 1) = false) (t : ByteArray) (ht : r.extract (D + 1) r.size = t) (d : ByteArray) (hd : r.extract 0 D = d) (tv : Int) (T : Hid (∀ w, Calls Tryd.prog 87 #[.string t] w fun e w' => e = .returned (.tuple #[.int .i64 tv, .int .i64 0]) ∧ Bl w w')) (M z B A0 : Nat) (HA0 : Hid (A0 = M * 2 ^ (z - 0))) (G : Hid (OddOf M z B tv)) (H : Hid (∀ w, Calls Tryd.prog 87 #[.string d] w fun e w' => e = .returned (.tuple #[.int .i64 A0, .int .i64 0]) ∧ Bl w w')) (q8 : decide ((1024 : Int) < (B : Int) + (tv + (z : Int))) = false) (q9 : decide ((tv + (z : Int)) < (-1074 : Int)) = true) :
    Calls Tryd.prog 32 #[.string s] w fun e w' => e = .returned (.tuple #[.float .f64 0, .int .i64 11]) ∧ Bl w w' := by
  cases hsg with
  | below _ q e => exact refparse_deep_p_below s r D w h1 h2 h3 hsz hp q e hrs hD hdig hlt q7 q5 t ht d hd tv T M z B A0 HA0 G H q8 q9
  | none e h => omega
  | plain e _ q => exact refparse_deep_p_plain s r D w h1 h2 h3 hsz hp q e.symm hD hdig hlt q7 q5 t ht d hd tv T M z B A0 HA0 G H q8 q9
theorem refparse_fin_p (s r : ByteArray) (b : Bool) (D : Nat) (w : World) (h1 : (s.toList == [110, 97, 110]) = false) (h2 : (s.toList == [105, 110, 102]) = false) (h3 : (s.toList == [45, 105, 110, 102]) = false) (hsz : s.size ≤ 140737488351232) (hp : 0 < s.size) (hsg : SignOf s r b) (hrs : r.size ≤ 140737488351232) (hD : D ≤ r.size) (hdig : Hid (∀ k (_ : k < r.size), k < D → 48 ≤ r[k].toNat ∧ r[k].toNat ≤ 57)) (hlt : D < r.size) (q7 : (r[D].toNat : Int) = 112) (q5 : decide ((5 : Int) < (r.size : Int) - (D : Int) - 1) = false) (t : ByteArray) (ht : r.extract (D + 1) r.size = t) (d : ByteArray) (hd : r.extract 0 D = d) (tv : Int) (T : Hid (∀ w, Calls Tryd.prog 87 #[.string t] w fun e w' => e = .returned (.tuple #[.int .i64 tv, .int .i64 0]) ∧ Bl w w')) (M z B A0 : Nat) (HA0 : Hid (A0 = M * 2 ^ (z - 0))) (G : Hid (OddOf M z B tv)) (H : Hid (∀ w, Calls Tryd.prog 87 #[.string d] w fun e w' => e = .returned (.tuple #[.int .i64 A0, .int .i64 0]) ∧ Bl w w')) (q8 : decide ((1024 : Int) < (B : Int) + (tv + (z : Int))) = false) (q9 : decide ((tv + (z : Int)) < (-1074 : Int)) = false) (x f : Nat) (hfl : floatOfInt .f64 (M : Int) = x) (hf : f < two63) (L : Hid (∀ w, Calls Tryd.prog 88 #[.float .f64 x, .int .i64 (tv + (z : Int))] w fun e w' => e = .returned (.float .f64 f) ∧ w = w')) :
    Calls Tryd.prog 32 #[.string s] w fun e w' => e = .returned (.tuple #[.float .f64 (withS b f), .int .i64 0]) ∧ Bl w w' := by
  cases hsg with
  | below _ q e => exact refparse_fin_p_below s r D w h1 h2 h3 hsz hp q e hrs hD hdig hlt q7 q5 t ht d hd tv T M z B A0 HA0 G H q8 q9 x f hfl hf L
  | none e h => omega
  | plain e _ q => exact refparse_fin_p_plain s r D w h1 h2 h3 hsz hp q e.symm hD hdig hlt q7 q5 t ht d hd tv T M z B A0 HA0 G H q8 q9 x f hfl hf L
theorem refparse_far_n (s r : ByteArray) (b : Bool) (D : Nat) (w : World) (h1 : (s.toList == [110, 97, 110]) = false) (h2 : (s.toList == [105, 110, 102]) = false) (h3 : (s.toList == [45, 105, 110, 102]) = false) (hsz : s.size ≤ 140737488351232) (hp : 0 < s.size) (hsg : SignOf s r b) (hrs : r.size ≤ 140737488351232) (hD : D ≤ r.size) (hdig : Hid (∀ k (_ : k < r.size), k < D → 48 ≤ r[k].toNat ∧ r[k].toNat ≤ 57)) (hlt : D = r.size) (M z B A0 : Nat) (HA0 : Hid (A0 = M * 2 ^ (z - 0))) (G : Hid (OddOf M z B 0)) (H : Hid (∀ w, Calls Tryd.prog 87 #[.string r] w fun e w' => e = .returned (.tuple #[.int .i64 A0, .int .i64 0]) ∧ Bl w w')) (q8 : decide ((1024 : Int) < (B : Int) + (z : Int)) = true) :
    Calls Tryd.prog 32 #[.string s] w fun e w' => e = .returned (.tuple #[.float .f64 0, .int .i64 11]) ∧ Bl w w' := by
  cases hsg with
  | below _ q e => exact refparse_far_n_below s r D w h1 h2 h3 hsz hp q e hrs hD hdig hlt M z B A0 HA0 G H q8
  | none e h => omega
  | plain e _ q => exact refparse_far_n_plain s r D w h1 h2 h3 hsz hp q e.symm hD hdig hlt M z B A0 HA0 G H q8
theorem refparse_deep_n (s r : ByteArray) (b : Bool) (D : Nat) (w : World) (h1 : (s.toList == [110, 97, 110]) = false) (h2 : (s.toList == [105, 110, 102]) = false) (h3 : (s.toList == [45, 105, 110, 102]) = false) (hsz : s.size ≤ 140737488351232) (hp : 0 < s.size) (hsg : SignOf s r b) (hrs : r.size ≤ 140737488351232) (hD : D ≤ r.size) (hdig : Hid (∀ k (_ : k < r.size), k < D → 48 ≤ r[k].toNat ∧ r[k].toNat ≤ 57)) (hlt : D = r.size) (M z B A0 : Nat) (HA0 : Hid (A0 = M * 2 ^ (z - 0))) (G : Hid (OddOf M z B 0)) (H : Hid (∀ w, Calls Tryd.prog 87 #[.string r] w fun e w' => e = .returned (.tuple #[.int .i64 A0, .int .i64 0]) ∧ Bl w w')) (q8 : decide ((1024 : Int) < (B : Int) + (z : Int)) = false) (q9 : decide ((z : Int) < (-1074 : Int)) = true) :
    Calls Tryd.prog 32 #[.string s] w fun e w' => e = .returned (.tuple #[.float .f64 0, .int .i64 11]) ∧ Bl w w' := by
  cases hsg with
  | below _ q e => exact refparse_deep_n_below s r D w h1 h2 h3 hsz hp q e hrs hD hdig hlt M z B A0 HA0 G H q8 q9
  | none e h => omega
  | plain e _ q => exact refparse_deep_n_plain s r D w h1 h2 h3 hsz hp q e.symm hD hdig hlt M z B A0 HA0 G H q8 q9
theorem refparse_fin_n (s r : ByteArray) (b : Bool) (D : Nat) (w : World) (h1 : (s.toList == [110, 97, 110]) = false) (h2 : (s.toList == [105, 110, 102]) = false) (h3 : (s.toList == [45, 105, 110, 102]) = false) (hsz : s.size ≤ 140737488351232) (hp : 0 < s.size) (hsg : SignOf s r b) (hrs : r.size ≤ 140737488351232) (hD : D ≤ r.size) (hdig : Hid (∀ k (_ : k < r.size), k < D → 48 ≤ r[k].toNat ∧ r[k].toNat ≤ 57)) (hlt : D = r.size) (M z B A0 : Nat) (HA0 : Hid (A0 = M * 2 ^ (z - 0))) (G : Hid (OddOf M z B 0)) (H : Hid (∀ w, Calls Tryd.prog 87 #[.string r] w fun e w' => e = .returned (.tuple #[.int .i64 A0, .int .i64 0]) ∧ Bl w w')) (q8 : decide ((1024 : Int) < (B : Int) + (z : Int)) = false) (q9 : decide ((z : Int) < (-1074 : Int)) = false) (x f : Nat) (hfl : floatOfInt .f64 (M : Int) = x) (hf : f < two63) (L : Hid (∀ w, Calls Tryd.prog 88 #[.float .f64 x, .int .i64 (z : Int)] w fun e w' => e = .returned (.float .f64 f) ∧ w = w')) :
    Calls Tryd.prog 32 #[.string s] w fun e w' => e = .returned (.tuple #[.float .f64 (withS b f), .int .i64 0]) ∧ Bl w w' := by
  cases hsg with
  | below _ q e => exact refparse_fin_n_below s r D w h1 h2 h3 hsz hp q e hrs hD hdig hlt M z B A0 HA0 G H q8 q9 x f hfl hf L
  | none e h => omega
  | plain e _ q => exact refparse_fin_n_plain s r D w h1 h2 h3 hsz hp q e.symm hD hdig hlt M z B A0 HA0 G H q8 q9 x f hfl hf L
end Go.Proofs.YtgdlcoicejgdkaaDoor

namespace Go.Proofs.YtgdlcoicejgdkaaDoor
open Go.RowKit Ieee

theorem inf_neg (w : World) : Calls Tryd.prog 85 #[.int .i64 (-1)] w fun e w' => e = .returned (.float .f64 (infR + two63)) ∧ w = w' := by
  have hfb := run_frombits
  go_enter Tryd.func85, Tryd.ntmps85
  go_wp2_with fail
  go_ret
  exact ⟨rfl, rfl⟩
set_option maxRecDepth 100000 in
theorem refparse_nan (s : ByteArray) (w : World) (h1 : s.toList = [110, 97, 110]) :
    Calls Tryd.prog 32 #[.string s] w fun e w' => e = .returned (.tuple #[.float .f64 nanW, .int .i64 0]) ∧ Bl w w' := by
  have q1 : (s.toList == [110, 97, 110]) = true := by rw [h1]; rfl
  clear h1
  go_enter Tryd.func32, Tryd.ntmps32
  go_wp2_with fail
  refine (nan_is _).mono ?_
  rintro e w1 ⟨rfl, rfl⟩
  go_wp2_with fail
  go_ret2
  exact ⟨rfl, Bl.refl _⟩
set_option maxRecDepth 100000 in
theorem refparse_inf (s : ByteArray) (w : World) (h1 : s.toList = [105, 110, 102]) :
    Calls Tryd.prog 32 #[.string s] w fun e w' => e = .returned (.tuple #[.float .f64 infR, .int .i64 0]) ∧ Bl w w' := by
  have q1 : (s.toList == [110, 97, 110]) = false := by rw [h1]; rfl
  have q2 : (s.toList == [105, 110, 102]) = true := by rw [h1]; rfl
  clear h1
  go_enter Tryd.func32, Tryd.ntmps32
  go_wp2_with fail
  refine (inf_pos _).mono ?_
  rintro e w1 ⟨rfl, rfl⟩
  go_wp2_with fail
  go_ret2
  exact ⟨rfl, Bl.refl _⟩
set_option maxRecDepth 100000 in
theorem refparse_minf (s : ByteArray) (w : World) (h1 : s.toList = [45, 105, 110, 102]) :
    Calls Tryd.prog 32 #[.string s] w fun e w' => e = .returned (.tuple #[.float .f64 (infR + two63), .int .i64 0]) ∧ Bl w w' := by
  have q1 : (s.toList == [110, 97, 110]) = false := by rw [h1]; rfl
  have q2 : (s.toList == [105, 110, 102]) = false := by rw [h1]; rfl
  have q3 : (s.toList == [45, 105, 110, 102]) = true := by rw [h1]; rfl
  clear h1
  go_enter Tryd.func32, Tryd.ntmps32
  go_wp2_with fail
  refine (inf_neg _).mono ?_
  rintro e w1 ⟨rfl, rfl⟩
  go_wp2_with fail
  go_ret2
  exact ⟨rfl, Bl.refl _⟩
set_option maxRecDepth 100000 in
theorem refparse_empty (s : ByteArray) (w : World) (h0 : s.size = 0) (q1 : (s.toList == [110, 97, 110]) = false) (q2 : (s.toList == [105, 110, 102]) = false) (q3 : (s.toList == [45, 105, 110, 102]) = false)
    (hv : Int) (H : Hid (∀ w, Calls Tryd.prog 87 #[.string ByteArray.empty] w fun e w' => e = .returned (.tuple #[.int .i64 hv, .int .i64 4]) ∧ Bl w w')) :
    Calls Tryd.prog 32 #[.string s] w fun e w' => e = .returned (.tuple #[.float .f64 0, .int .i64 4]) ∧ Bl w w' := by
  go_enter Tryd.func32, Tryd.ntmps32
  go_wp2_with fail
  go_loop [5] (fun i => i = .int .i64 0) (fun _ => 0)
  case atStart => rfl
  case round =>
    subst hrel
    go_wp2_with fail
    refine (H.out _).mono ?_
    rintro e w1 ⟨rfl, hb1⟩
    go_wp2_with fail
    go_ret2
    exact ⟨rfl, hb1⟩

theorem split_digits (m : List UInt8) : ∃ d u, m = d ++ u ∧ d.all isDig = true ∧ (u = [] ∨ ∃ x t, u = x :: t ∧ isDig x = false) := by
  induction m with
  | nil => exact ⟨[], [], rfl, rfl, .inl rfl⟩
  | cons a m ih =>
    cases ha : isDig a
    · exact ⟨[], a :: m, rfl, rfl, .inr ⟨a, m, rfl, ha⟩⟩
    · obtain ⟨d, u, e, hd, hu⟩ := ih
      exact ⟨a :: d, u, by rw [e]; rfl, by rw [List.all_cons, ha, hd]; rfl, hu⟩
theorem numC_bad {l : List UInt8} (h : numC l ≠ 0) : numC l = 4 := by
  rcases numC_two l with e | e
  · exact absurd e h
  · exact e
theorem odd_of {n : Nat} {e0 : Int} (h0 : n ≠ 0) (hn : n < 9007199254740992) (he : -100000 ≤ e0 ∧ e0 ≤ 100000) :
    ∃ M z, n = M * 2 ^ z ∧ OddOf M z (bitsN M) e0 ∧ M ≠ 0 ∧ M < 2 ^ 53 := by
  obtain ⟨M, z, rfl, ho⟩ := odd_part n h0
  have hM0 : M ≠ 0 := by omega
  have hp := Nat.two_pow_pos z
  have hM : M < 2 ^ 53 := Nat.lt_of_le_of_lt (Nat.le_mul_of_pos_right M hp) (by omega)
  have hz0 : 2 ^ z ≤ M * 2 ^ z := Nat.le_mul_of_pos_left _ (by omega)
  have hz : 2 ^ z < 2 ^ 53 := Nat.lt_of_le_of_lt hz0 (by omega)
  have hz2 : z < 53 := (Nat.pow_lt_pow_iff_right (by decide)).1 hz
  refine ⟨M, z, rfl, ⟨ho, hn, fun k => ?_, (bitsN_bd hM0 hM).2.1, by omega, he⟩, hM0, hM⟩
  unfold bitsN
  rw [if_neg hM0, ← Nat.le_log2 hM0]
  omega

/-- what the parts before the end ask -/
structure PHyp (s r : ByteArray) (b : Bool) (D : Nat) : Prop where
  h1 : (s.toList == [110, 97, 110]) = false
  h2 : (s.toList == [105, 110, 102]) = false
  h3 : (s.toList == [45, 105, 110, 102]) = false
  hsz : s.size ≤ 140737488351232
  hp : 0 < s.size
  hsg : SignOf s r b
  hrs : r.size ≤ 140737488351232
  hD : D ≤ r.size
  hdig : Hid (∀ k (_ : k < r.size), k < D → 48 ≤ r[k].toNat ∧ r[k].toNat ≤ 57)
def outP (b : Bool) (p : Nat × Int) : Ending := .returned (.tuple #[.float .f64 (if p.2 = 0 then withS b p.1 else 0), .int .i64 p.2])
theorem outP_bad (b : Bool) (x : Nat) : outP b (x, 4) = .returned (.tuple #[.float .f64 0, .int .i64 4]) := rfl
theorem outP_over (b : Bool) (x : Nat) : outP b (x, 11) = .returned (.tuple #[.float .f64 0, .int .i64 11]) := rfl
theorem outP_ok (b : Bool) (x : Nat) : outP b (x, 0) = .returned (.tuple #[.float .f64 (withS b x), .int .i64 0]) := rfl

theorem refparse_n (s r : ByteArray) (m : List UInt8) (b : Bool) (w : World) (C : PHyp s r b r.size) (hr : SB r m) (hd : m.all isDig = true) :
    Calls Tryd.prog 32 #[.string s] w fun e w' => e = outP b (numP m) ∧ Bl w w' := by
  rw [numP_all hd]
  have HN := fun w => refNumber_any r m w hr C.hrs
  by_cases hc : numC m ≠ 0
  · rw [if_pos hc, outP_bad]
    rw [numC_bad hc] at HN
    exact refparse_head_n s r b r.size w C.h1 C.h2 C.h3 C.hsz C.hp C.hsg C.hrs C.hD C.hdig rfl _ (Lib.hid HN)
  · have hc0 : numC m = 0 := Classical.not_not.1 hc
    rw [if_neg hc]
    rw [hc0] at HN
    by_cases ho : 9007199254740992 ≤ numV m
    · rw [if_pos ho, outP_over]
      exact refparse_over_n s r b r.size w C.h1 C.h2 C.h3 C.hsz C.hp C.hsg C.hrs C.hD C.hdig rfl _ (decide_eq_true ho) (Lib.hid HN)
    · rw [if_neg ho]
      obtain ⟨n, hn⟩ : ∃ n : Nat, numV m = n := ⟨_, (Int.toNat_of_nonneg (numV_nonneg (dig_sign hd).1)).symm⟩
      rw [hn] at ho HN ⊢
      rw [Int.toNat_natCast]
      by_cases h0 : n = 0
      · subst h0
        rw [show numF 0 0 = (0, 0) from rfl, outP_ok]
        exact refparse_zero_n s r b r.size w C.h1 C.h2 C.h3 C.hsz C.hp C.hsg C.hrs C.hD C.hdig rfl (Lib.hid HN)
      · obtain ⟨M, z, hM, G, hM0, hM53⟩ := odd_of (e0 := 0) h0 (by omega) (by omega)
        have hF := numF_odd (k := 0) G.odd (by have := G.lt; omega)
        rw [← hM] at hF
        rw [hF, Int.zero_add]
        have hz := G.z52
        by_cases h8 : (1024 : Int) < (bitsN M : Int) + (z : Int)
        · rw [if_pos (.inl h8), outP_over]
          exact refparse_far_n s r b r.size w C.h1 C.h2 C.h3 C.hsz C.hp C.hsg C.hrs C.hD C.hdig rfl M z _ n (Lib.hid (by rw [Nat.sub_zero]; exact hM)) (Lib.hid G) (Lib.hid HN) (decide_eq_true h8)
        · rw [if_neg (by omega), outP_ok]
          exact refparse_fin_n s r b r.size w C.h1 C.h2 C.h3 C.hsz C.hp C.hsg C.hrs C.hD C.hdig rfl M z _ n (Lib.hid (by rw [Nat.sub_zero]; exact hM)) (Lib.hid G) (Lib.hid HN) (decide_eq_false h8) (decide_eq_false (by omega)) _ _ (float_rung M)
            (by have := rung_le_inf M (z : Int); unfold infR two63 at *; omega) (Lib.hid fun w => ldexp_nat M z w hM0 hM53 (by omega))
theorem refparse_p (s r d' t' : ByteArray) (d t : List UInt8) (b : Bool) (w : World) (C : PHyp s r b d.length) (hlt : d.length < r.size) (q7 : (r[d.length].toNat : Int) = 112) (hd' : r.extract 0 d.length = d') (ht' : r.extract (d.length + 1) r.size = t') (sd : SB d' d) (st : SB t' t) (hsz : r.size = d.length + 1 + t.length) (hd : d.all isDig = true) :
    Calls Tryd.prog 32 #[.string s] w fun e w' => e = outP b (numP (d ++ 112 :: t)) ∧ Bl w w' := by
  rw [numP_p hd]
  have hrs := C.hrs
  have HN := fun w => refNumber_any d' d w sd (by rw [sd.size]; omega)
  have HT := fun w => refNumber_any t' t w st (by rw [st.size]; omega)
  by_cases h5 : 5 < t.length
  · rw [if_pos (.inr (.inl h5)), outP_bad]
    exact refparse_long s r b d.length w C.h1 C.h2 C.h3 C.hsz C.hp C.hsg C.hrs C.hD C.hdig hlt q7 (decide_eq_true (by omega))
  have q5 : decide ((5 : Int) < (r.size : Int) - (d.length : Int) - 1) = false := decide_eq_false (by omega)
  by_cases ht : numC t ≠ 0
  · rw [if_pos (.inl ht), outP_bad]
    rw [numC_bad ht] at HT
    exact refparse_tail s r b d.length w C.h1 C.h2 C.h3 C.hsz C.hp C.hsg C.hrs C.hD C.hdig hlt q7 q5 t' ht' _ (Lib.hid HT)
  have ht0 : numC t = 0 := Classical.not_not.1 ht
  rw [ht0] at HT
  by_cases hc : numC d ≠ 0
  · rw [if_pos (.inr (.inr hc)), outP_bad]
    rw [numC_bad hc] at HN
    exact refparse_head_p s r b d.length w C.h1 C.h2 C.h3 C.hsz C.hp C.hsg C.hrs C.hD C.hdig hlt q7 q5 t' ht' d' hd' _ (Lib.hid HT) _ (Lib.hid HN)
  · have hc0 : numC d = 0 := Classical.not_not.1 hc
    rw [if_neg (fun x => x.elim (fun a => ht a) (fun x => x.elim (fun a => h5 a) (fun a => hc a)))]
    rw [hc0] at HN
    by_cases ho : 9007199254740992 ≤ numV d
    · rw [if_pos ho, outP_over]
      exact refparse_over_p s r b d.length w C.h1 C.h2 C.h3 C.hsz C.hp C.hsg C.hrs C.hD C.hdig hlt q7 q5 t' ht' d' hd' _ (Lib.hid HT) _ (decide_eq_true ho) (Lib.hid HN)
    · rw [if_neg ho]
      obtain ⟨n, hn⟩ : ∃ n : Nat, numV d = n := ⟨_, (Int.toNat_of_nonneg (numV_nonneg (dig_sign hd).1)).symm⟩
      rw [hn] at ho HN ⊢
      rw [Int.toNat_natCast]
      by_cases h0 : n = 0
      · subst h0
        rw [show numF 0 (numV t) = (0, 0) from rfl, outP_ok]
        exact refparse_zero_p s r b d.length w C.h1 C.h2 C.h3 C.hsz C.hp C.hsg C.hrs C.hD C.hdig hlt q7 q5 t' ht' d' hd' _ (Lib.hid HT) (Lib.hid HN)
      · have hv := numV_small (l := t) (by omega)
        obtain ⟨M, z, hM, G, hM0, hM53⟩ := odd_of (e0 := numV t) h0 (by omega) (by omega)
        have hF := numF_odd (k := numV t) G.odd (by have := G.lt; omega)
        rw [← hM] at hF
        rw [hF]
        have hz := G.z52
        by_cases h8 : (1024 : Int) < (bitsN M : Int) + (numV t + (z : Int))
        · rw [if_pos (.inl h8), outP_over]
          exact refparse_far_p s r b d.length w C.h1 C.h2 C.h3 C.hsz C.hp C.hsg C.hrs C.hD C.hdig hlt q7 q5 t' ht' d' hd' _ (Lib.hid HT) M z _ n (Lib.hid (by rw [Nat.sub_zero]; exact hM)) (Lib.hid G) (Lib.hid HN) (decide_eq_true h8)
        · by_cases h9 : numV t + (z : Int) < -1074
          · rw [if_pos (.inr h9), outP_over]
            exact refparse_deep_p s r b d.length w C.h1 C.h2 C.h3 C.hsz C.hp C.hsg C.hrs C.hD C.hdig hlt q7 q5 t' ht' d' hd' _ (Lib.hid HT) M z _ n (Lib.hid (by rw [Nat.sub_zero]; exact hM)) (Lib.hid G) (Lib.hid HN) (decide_eq_false h8) (decide_eq_true h9)
          · rw [if_neg (by omega), outP_ok]
            exact refparse_fin_p s r b d.length w C.h1 C.h2 C.h3 C.hsz C.hp C.hsg C.hrs C.hD C.hdig hlt q7 q5 t' ht' d' hd' _ (Lib.hid HT) M z _ n (Lib.hid (by rw [Nat.sub_zero]; exact hM)) (Lib.hid G) (Lib.hid HN) (decide_eq_false h8) (decide_eq_false h9) _ _ (float_rung M)
              (by have := rung_le_inf M (numV t + (z : Int)); unfold infR two63 at *; omega) (Lib.hid fun w => ldexp_nat M (numV t + z) w hM0 hM53 (by omega))

theorem refparse_core (s r : ByteArray) (m : List UInt8) (b : Bool) (w : World) (C : ∀ D, D ≤ r.size → (Hid (∀ k (_ : k < r.size), k < D → 48 ≤ r[k].toNat ∧ r[k].toNat ≤ 57)) → PHyp s r b D) (hr : SB r m) :
    Calls Tryd.prog 32 #[.string s] w fun e w' => e = outP b (numP m) ∧ Bl w w' := by
  obtain ⟨d, u, rfl, hd, hu⟩ := split_digits m
  have hz := hr.size
  rw [List.length_append] at hz
  have hdig : ∀ k (_ : k < r.size), k < d.length → 48 ≤ r[k].toNat ∧ r[k].toNat ≤ 57 := by
    intro k hk hkd
    rw [hr.get k hk (by rw [List.length_append]; omega), List.getElem_append_left hkd]
    exact (isDig_iff _).1 (List.all_eq_true.1 hd _ (List.getElem_mem hkd))
  have CC := C d.length (by omega) (Lib.hid hdig)
  rcases hu with rfl | ⟨x, t, rfl, hx⟩
  · rw [List.append_nil] at hr ⊢
    rw [List.length_nil] at hz
    rw [show d.length = r.size by omega] at CC
    exact refparse_n s r d b w CC hr hd
  · rw [List.length_cons] at hz
    have hlt : d.length < r.size := by omega
    have ex : r[d.length] = x := by
      rw [hr.get d.length hlt (by simp)]; simp
    by_cases hp : x = 112
    · subst hp
      refine refparse_p s r _ _ d t b w CC hlt (by rw [ex]; rfl) rfl rfl ?_ ?_ (by omega) hd
      · rw [SB, Lib.extract_data, hr]; simp
      · rw [SB, Lib.extract_data, hr, show d ++ 112 :: t = (d ++ [112]) ++ t by simp, show d.length + 1 = (d ++ [112]).length by simp, List.drop_left]
        exact List.take_of_length_le (by rw [List.length_append, List.length_singleton]; omega)
    · rw [numP_no hd hx hp, outP_bad]
      refine refparse_char s r b d.length w CC.h1 CC.h2 CC.h3 CC.hsz CC.hp CC.hsg CC.hrs CC.hD CC.hdig hlt ?_ ?_
      · rw [ex]
        by_cases k : 48 ≤ x.toNat
        · refine .inr ⟨decide_eq_true (by omega), decide_eq_false ?_⟩
          intro k2
          have : isDig x = true := (isDig_iff x).2 ⟨k, by omega⟩
          rw [this] at hx; cases hx
        · exact .inl (decide_eq_false (by omega))
      · rw [ex, bne_iff_ne]
        intro e
        apply hp
        apply UInt8.toNat_inj.1
        have : (112 : UInt8).toNat = 112 := rfl
        omega
/-- bedrockref2.Parse is real.Parse -/
theorem refParse_any (s : ByteArray) (l : List UInt8) (w : World) (hs : SB s l) (hsz : s.size ≤ 140737488351232) :
    Calls Tryd.prog 32 #[.string s] w fun e w' => e = .returned (.tuple #[.float .f64 (parseP l).1, .int .i64 (parseP l).2]) ∧ Bl w w' := by
  have hsl : s.toList = l := by rw [ByteArray.toList_eq]; exact hs
  by_cases k1 : l = nanL
  · rw [show parseP l = (nanW, 0) from if_pos k1]
    exact refparse_nan s w (hsl.trans k1)
  by_cases k2 : l = infL
  · subst k2
    exact refparse_inf s w hsl
  by_cases k3 : l = 45 :: infL
  · subst k3
    exact refparse_minf s w hsl
  have h1 : (s.toList == [110, 97, 110]) = false := by rw [beq_eq_false_iff_ne, hsl]; exact k1
  have h2 : (s.toList == [105, 110, 102]) = false := by rw [beq_eq_false_iff_ne, hsl]; exact k2
  have h3 : (s.toList == [45, 105, 110, 102]) = false := by rw [beq_eq_false_iff_ne, hsl]; exact k3
  have fin : ∀ b m, signB l = b → restL l = m → m ≠ infL → Ending.returned (.tuple #[.float .f64 (parseP l).1, .int .i64 (parseP l).2]) = outP b (numP m) := by
    rintro b m rfl rfl hm
    unfold parseP outP
    rw [if_neg k1, if_neg hm]
    by_cases h : (numP (restL l)).2 = 0
    · rw [if_pos h, if_pos h, h]
    · rw [if_neg h, if_neg h]
  cases l with
  | nil =>
    have hz : s.size = 0 := hs.size
    have hn := fun w => refNumber_any ByteArray.empty [] w rfl (by decide)
    exact refparse_empty s w hz h1 h2 h3 _ (Lib.hid hn)
  | cons a t =>
    have hp : 0 < s.size := by rw [hs.size]; simp
    have e0 : s[0] = a := by rw [hs.get 0 hp (by simp)]; rfl
    by_cases ha : a = 45
    · subst ha
      obtain ⟨s1, s2⟩ := sign_cons t
      have ht : SB (s.extract 1 s.size) t := by
        rw [SB, Lib.extract_data, hs, hs.size]; simp
      rw [fin true t s1 s2 (by rintro rfl; exact k3 rfl)]
      refine refparse_core s (s.extract 1 s.size) t true w (fun D hD hdig => ⟨h1, h2, h3, hsz, hp, .below hp (by rw [e0]; rfl) rfl, ?_, hD, hdig⟩) ht
      rw [ht.size]
      have := hs.size
      rw [List.length_cons] at this
      omega
    · have hn : a.toNat ≠ 45 := fun e => ha (UInt8.toNat_inj.1 (by rw [e]; rfl))
      obtain ⟨s1, s2⟩ := no_sign (l := a :: t) hn (by simp)
      rw [fin false (a :: t) s1 s2 k2]
      exact refparse_core s s (a :: t) false w (fun D hD hdig => ⟨h1, h2, h3, hsz, hp, .plain rfl hp (by rw [e0, beq_eq_false_iff_ne]; omega), hsz, hD, hdig⟩) hs
end Go.Proofs.YtgdlcoicejgdkaaDoor
