/- bedrockref1.Get, bedrockref1.Put; bedrockref2.key, Compare, Same, Max, Min, Put, Get. By an AI agent. -/
import Derived.Test.YtgdlcoicejgdkaaDoorRefN1
import Derived.Test.YtgdlcoicejgdkaaDoorRawPG
import Derived.Test.YtgdlcoicejgdkaaDoorGetR2
import Derived.Deep.Cut
namespace Go.Proofs.YtgdlcoicejgdkaaDoor
open Go.RowKit

theorem refNan_any (x : Nat) (w : World) (hx : x < two64) : Calls Tryd.prog 82 #[.float .f64 x] w fun e w' => e = .returned (.bool (nanB x)) ∧ w = w' := by
  have q : (FloatKind.f64.format.order x x != some .eq) = nanB x := self_nan hx
  cases hn : nanB x
  · rw [hn] at q
    go_enter Tryd.func82, Tryd.ntmps82
    go_wp2_with fail
    go_ret
    exact ⟨rfl, rfl⟩
  · rw [hn] at q
    go_enter Tryd.func82, Tryd.ntmps82
    go_wp2_with fail
    go_ret
    exact ⟨rfl, rfl⟩

theorem ret_pair {a b c d : Int} (h : a = b) (k : c = d) : Ending.returned (.tuple #[.int .i64 a, .int .i64 c]) = Ending.returned (.tuple #[.int .i64 b, .int .i64 d]) := by rw [h, k]
set_option maxHeartbeats 800000 in
set_option maxRecDepth 100000 in
theorem refKey_any (x : Nat) (w : World) (hx : x < two64) :
    Calls Tryd.prog 103 #[.float .f64 x] w fun e w' => e = .returned (.tuple #[.int .i64 (keyH x), .int .i64 (keyL x)]) ∧ w = w' := by
  have hrb := run_bits x
  obtain ⟨H, hH⟩ : ∃ H : Nat, x / 4294967296 = H := ⟨_, rfl⟩
  obtain ⟨L, hL⟩ : ∃ L : Nat, x % 4294967296 = L := ⟨_, rfl⟩
  have eH := Lib.hid (show (x : Int) / 4294967296 = (H : Int) by omega)
  have eL := Lib.hid (show (x : Int) % 4294967296 = (L : Int) by omega)
  have bH : H < 4294967296 := by unfold two64 at hx; omega
  have bL : L < 4294967296 := by omega
  cases hn : nanB x
  · have hx2 : x < 18446744073709551616 := hx
    by_cases k : 2147483648 ≤ H
    · have HK := Lib.hid (key_neg hn hx (by rw [hH]; exact k))
      rw [hH, hL] at HK
      clear hH hL
      have q : decide ((2147483648 : Int) ≤ (H : Int)) = true := by simp; omega
      go_enter Tryd.func103, Tryd.ntmps103
      go_wp2_with fail
      refine (refNan_any x _ hx).mono ?_
      rintro e w1 ⟨rfl, rfl⟩
      rw [hn]
      go_upto_region 5 with fail
      rw [eH.out, eL.out]
      go_wp2_with fail
      go_ret2
      exact ⟨ret_pair (by rw [HK.out.1]; omega) (by rw [HK.out.2]; omega), rfl⟩
    · have HK := Lib.hid (key_pos hn (by rw [hH]; exact k))
      rw [hH, hL] at HK
      clear hH hL
      have q : decide ((2147483648 : Int) ≤ (H : Int)) = false := by simp; omega
      go_enter Tryd.func103, Tryd.ntmps103
      go_wp2_with fail
      refine (refNan_any x _ hx).mono ?_
      rintro e w1 ⟨rfl, rfl⟩
      rw [hn]
      go_upto_region 5 with fail
      rw [eH.out, eL.out]
      go_wp2_with fail
      go_ret2
      exact ⟨ret_pair (by rw [HK.out.1]; omega) (by rw [HK.out.2]), rfl⟩
  · have HK := Lib.hid (key_nan hn)
    clear hH hL bH bL
    go_enter Tryd.func103, Tryd.ntmps103
    go_wp2_with fail
    refine (refNan_any x _ hx).mono ?_
    rintro e w1 ⟨rfl, rfl⟩
    rw [hn]
    go_wp2_with fail
    go_ret2
    exact ⟨ret_pair (by rw [HK.out.1]; rfl) (by rw [HK.out.2]; rfl), rfl⟩

set_option maxRecDepth 100000 in
theorem refCompare_any (x y : Nat) (w : World) (hx : x < two64) (hy : y < two64) :
    Calls Tryd.prog 51 #[.float .f64 x, .float .f64 y] w fun e w' => e = .returned (.int .i64 (cmpN (fkey x) (fkey y))) ∧ w = w' := by
  have HK := Lib.hid (key_order x y)
  obtain ⟨a, ha⟩ : ∃ a, keyH x = a := ⟨_, rfl⟩
  obtain ⟨b, hb⟩ : ∃ b, keyL x = b := ⟨_, rfl⟩
  obtain ⟨c, hc⟩ : ∃ c, keyH y = c := ⟨_, rfl⟩
  obtain ⟨d, hd⟩ : ∃ d, keyL y = d := ⟨_, rfl⟩
  have K1 := Lib.hid (fun w => refKey_any x w hx)
  have K2 := Lib.hid (fun w => refKey_any y w hy)
  rw [ha, hb] at K1 HK
  rw [hc, hd] at K2 HK
  clear ha hb hc hd
  go_enter Tryd.func51, Tryd.ntmps51
  go_wp2_with fail
  refine (K1.out _).mono ?_
  rintro e w1 ⟨rfl, rfl⟩
  go_wp2_with fail
  refine (K2.out _).mono ?_
  rintro e w1 ⟨rfl, rfl⟩
  rcases Nat.lt_trichotomy a c with h1 | h1 | h1
  · have q1 : decide ((a : Int) < (c : Int)) = true := by simp; omega
    go_wp2_with fail
    go_ret
    exact ⟨ret_int (by rw [HK.out, if_pos (by omega)]), rfl⟩
  · subst h1
    have q1 : decide ((a : Int) < (a : Int)) = false := by simp
    have q2 : ((a : Int) == (a : Int)) = true := by simp
    rcases Nat.lt_trichotomy b d with h2 | h2 | h2
    · have q3 : decide ((b : Int) < (d : Int)) = true := by simp; omega
      go_wp2_with fail
      go_ret
      exact ⟨ret_int (by rw [HK.out]; simp [h2]), rfl⟩
    · subst h2
      have q3 : decide ((b : Int) < (b : Int)) = false := by simp
      go_wp2_with fail
      go_ret
      exact ⟨ret_int (by rw [HK.out, if_neg (by omega), if_neg (by omega)]), rfl⟩
    · have q3 : decide ((b : Int) < (d : Int)) = false := by simp; omega
      have q4 : decide ((d : Int) < (b : Int)) = true := by simp; omega
      go_wp2_with fail
      go_ret
      exact ⟨ret_int (by rw [HK.out, if_neg (by omega), if_pos (by omega)]), rfl⟩
  · have q1 : decide ((a : Int) < (c : Int)) = false := by simp; omega
    have q2 : ((a : Int) == (c : Int)) = false := by simp; omega
    have q3 : decide ((c : Int) < (a : Int)) = true := by simp; omega
    go_wp2_with fail
    go_ret
    exact ⟨ret_int (by rw [HK.out, if_neg (by omega), if_pos (by omega)]), rfl⟩
theorem refSame_any (x y : Nat) (w : World) (hx : x < two64) (hy : y < two64) : Calls Tryd.prog 33 #[.float .f64 x, .float .f64 y] w fun e w' => e = .returned (.bool (decide (fkey x = fkey y))) ∧ w = w' := by
  have HZ := Lib.hid (cmpN_zero (fkey x) (fkey y))
  go_enter Tryd.func33, Tryd.ntmps33
  go_wp2_with fail
  refine (refCompare_any x y _ hx hy).mono ?_
  rintro e w1 ⟨rfl, rfl⟩
  go_wp2_with fail
  go_ret
  exact ⟨ret_bool HZ.out, rfl⟩
theorem refMax_any (x y : Nat) (w : World) (hx : x < two64) (hy : y < two64) : Calls Tryd.prog 56 #[.float .f64 x, .float .f64 y] w fun e w' => e = .returned (.float .f64 (rmax x y)) ∧ w = w' := by
  by_cases h : cmpN (fkey x) (fkey y) < 0
  · have HR := Lib.hid (show rmax x y = y from if_pos h)
    go_enter Tryd.func56, Tryd.ntmps56
    go_wp2_with fail
    refine (refCompare_any x y _ hx hy).mono ?_
    rintro e w1 ⟨rfl, rfl⟩
    go_wp2_with fail
    go_ret
    exact ⟨congrArg (fun b => Ending.returned (.float .f64 b)) HR.out.symm, rfl⟩
  · have HR := Lib.hid (show rmax x y = x from if_neg h)
    go_enter Tryd.func56, Tryd.ntmps56
    go_wp2_with fail
    refine (refCompare_any x y _ hx hy).mono ?_
    rintro e w1 ⟨rfl, rfl⟩
    go_wp2_with fail
    go_ret
    exact ⟨congrArg (fun b => Ending.returned (.float .f64 b)) HR.out.symm, rfl⟩
theorem refMin_any (x y : Nat) (w : World) (hx : x < two64) (hy : y < two64) : Calls Tryd.prog 58 #[.float .f64 x, .float .f64 y] w fun e w' => e = .returned (.float .f64 (rmin x y)) ∧ w = w' := by
  by_cases h : 0 < cmpN (fkey x) (fkey y)
  · have HR := Lib.hid (show rmin x y = y from if_pos h)
    go_enter Tryd.func58, Tryd.ntmps58
    go_wp2_with fail
    refine (refCompare_any x y _ hx hy).mono ?_
    rintro e w1 ⟨rfl, rfl⟩
    go_wp2_with fail
    go_ret
    exact ⟨congrArg (fun b => Ending.returned (.float .f64 b)) HR.out.symm, rfl⟩
  · have HR := Lib.hid (show rmin x y = x from if_neg h)
    go_enter Tryd.func58, Tryd.ntmps58
    go_wp2_with fail
    refine (refCompare_any x y _ hx hy).mono ?_
    rintro e w1 ⟨rfl, rfl⟩
    go_wp2_with fail
    go_ret
    exact ⟨congrArg (fun b => Ending.returned (.float .f64 b)) HR.out.symm, rfl⟩

set_option maxHeartbeats 800000 in
set_option maxRecDepth 100000 in
theorem refGet_any (s : ByteArray) (w : World) (h1 : 1 ≤ s.size) (h7 : s.size ≤ 7) :
    Calls Tryd.prog 81 #[.string s] w fun e w' => e = .returned (.tuple #[.int .i64 (getN s.data.toList), .int .i64 0]) ∧ w = w' := by
  go_enter Tryd.func81, Tryd.ntmps81
  go_wp2_with fail
  go_loop [4, 5] (fun v i => ∃ (k : Nat) (a : Int), k ≤ s.size ∧ i = .int .i64 k ∧ v = .int .i64 a ∧ a = getN (s.data.toList.take k)) (fun _ i => s.size - (intOf i).toNat)
  case atStart => exact ⟨0, 0, Nat.zero_le _, rfl, rfl, rfl⟩
  case round =>
    obtain ⟨k, a, hk, rfl, rfl, ha⟩ := hrel
    have hbd := getN_bound (s.data.toList.take k)
    rw [← ha] at hbd
    have HA := Lib.hid ha; clear ha
    by_cases hlt : k < s.size
    · have h6 : a < 281474976710656 := by
        have h2 := hbd.2
        have : (s.data.toList.take k).length ≤ 6 := Nat.le_trans (List.length_take_le _ _) (by omega)
        have h3 : (256 : Int) ^ (s.data.toList.take k).length ≤ 256 ^ 6 := by
          have := Nat.pow_le_pow_right (show 0 < 256 by decide) this
          exact_mod_cast this
        omega
      have h0 := hbd.1
      clear hbd
      have HT := Lib.hid (getN_take hlt)
      have hb := Lib.hid (UInt8.toNat_lt s[k])
      go_wp2_with fail
      go_round
      case rel => exact ⟨k + 1, _, by omega, by go_num, rfl, by rw [HT.out, HA.out.symm]; have := hb.out; unfold wrap64; omega⟩
      case measure => simp [intOf]; omega
    · have HE := Lib.hid (show s.data.toList.take k = s.data.toList from List.take_of_length_le (by simp; omega))
      go_wp2_with fail
      go_ret2
      exact ⟨ret_int_ok (HA.out.trans (congrArg getN HE.out)), rfl⟩
end Go.Proofs.YtgdlcoicejgdkaaDoor
