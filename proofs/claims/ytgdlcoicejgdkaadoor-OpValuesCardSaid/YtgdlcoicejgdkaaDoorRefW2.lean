/- bedrockref1.Get, bedrockref1.Put; bedrockref2.key, Compare, Same, Max, Min, Put, Get. · bedrockref1.Put; bedrockref2.Put, Get. By an AI agent. -/
import Derived.Test.YtgdlcoicejgdkaaDoorRefN1
import Derived.Test.YtgdlcoicejgdkaaDoorRawPG
import Derived.Test.YtgdlcoicejgdkaaDoorGetR2
import Derived.Deep.Cut
namespace Go.Proofs.YtgdlcoicejgdkaaDoor
open Go.RowKit

theorem refNan_any (x : Nat) (w : World) (hx : x < two64) : Calls Tryd.prog 82 #[.float .f64 x] w fun e w' => e = .returned (.bool (nanB x)) ∧ w = w' := by
  have q : (FloatKind.f64.format.order x x != some .eq) = nanB x := self_nan hx
  cases hn : nanB x
  · rw [hn] at q
    go_enter Tryd.func82, Tryd.ntmps82
    go_wp2_with fail
    go_ret
    exact ⟨rfl, rfl⟩
  · rw [hn] at q
    go_enter Tryd.func82, Tryd.ntmps82
    go_wp2_with fail
    go_ret
    exact ⟨rfl, rfl⟩

theorem ret_pair {a b c d : Int} (h : a = b) (k : c = d) : Ending.returned (.tuple #[.int .i64 a, .int .i64 c]) = Ending.returned (.tuple #[.int .i64 b, .int .i64 d]) := by rw [h, k]
set_option maxHeartbeats 800000 in
set_option maxRecDepth 100000 in
theorem refKey_any (x : Nat) (w : World) (hx : x < two64) :
    Calls Tryd.prog 103 #[.float .f64 x] w fun e w' => e = .returned (.tuple #[.int .i64 (keyH x), .int .i64 (keyL x)]) ∧ w = w' := by
  have hrb := run_bits x
  obtain ⟨H, hH⟩ : ∃ H : Nat, x / 4294967296 = H := ⟨_, rfl⟩
  obtain ⟨L, hL⟩ : ∃ L : Nat, x % 4294967296 = L := ⟨_, rfl⟩
  have eH := Lib.hid (show (x : Int) / 4294967296 = (H : Int) by omega)
  have eL := Lib.hid (show (x : Int) % 4294967296 = (L : Int) by omega)
  have bH : H < 4294967296 := by unfold two64 at hx; omega
  have bL : L < 4294967296 := by omega
  cases hn : nanB x
  · have hx2 : x < 18446744073709551616 := hx
    by_cases k : 2147483648 ≤ H
    · have HK := Lib.hid (key_neg hn hx (by rw [hH]; exact k))
      rw [hH, hL] at HK
      clear hH hL
      have q : decide ((2147483648 : Int) ≤ (H : Int)) = true := by simp; omega
      go_enter Tryd.func103, Tryd.ntmps103
      go_wp2_with fail
      refine (refNan_any x _ hx).mono ?_
      rintro e w1 ⟨rfl, rfl⟩
      rw [hn]
      go_upto_region 5 with fail
      rw [eH.out, eL.out]
      go_wp2_with fail
      go_ret2
      exact ⟨ret_pair (by rw [HK.out.1]; omega) (by rw [HK.out.2]; omega), rfl⟩
    · have HK := Lib.hid (half_pos hn (by rw [hH]; exact k))
      rw [hH, hL] at HK
      clear hH hL
      have q : decide ((2147483648 : Int) ≤ (H : Int)) = false := by simp; omega
      go_enter Tryd.func103, Tryd.ntmps103
      go_wp2_with fail
      refine (refNan_any x _ hx).mono ?_
      rintro e w1 ⟨rfl, rfl⟩
      rw [hn]
      go_upto_region 5 with fail
      rw [eH.out, eL.out]
      go_wp2_with fail
      go_ret2
      exact ⟨ret_pair (by rw [HK.out.1]; omega) (by rw [HK.out.2]), rfl⟩
  · have HK := Lib.hid (key_nan hn)
    clear hH hL bH bL
    go_enter Tryd.func103, Tryd.ntmps103
    go_wp2_with fail
    refine (refNan_any x _ hx).mono ?_
    rintro e w1 ⟨rfl, rfl⟩
    rw [hn]
    go_wp2_with fail
    go_ret2
    exact ⟨ret_pair (by rw [HK.out.1]; rfl) (by rw [HK.out.2]; rfl), rfl⟩

set_option maxRecDepth 100000 in
theorem refCompare_any (x y : Nat) (w : World) (hx : x < two64) (hy : y < two64) :
    Calls Tryd.prog 51 #[.float .f64 x, .float .f64 y] w fun e w' => e = .returned (.int .i64 (cmpN (fkey x) (fkey y))) ∧ w = w' := by
  have HK := Lib.hid (key_order x y)
  obtain ⟨a, ha⟩ : ∃ a, keyH x = a := ⟨_, rfl⟩
  obtain ⟨b, hb⟩ : ∃ b, keyL x = b := ⟨_, rfl⟩
  obtain ⟨c, hc⟩ : ∃ c, keyH y = c := ⟨_, rfl⟩
  obtain ⟨d, hd⟩ : ∃ d, keyL y = d := ⟨_, rfl⟩
  have K1 := Lib.hid (fun w => refKey_any x w hx)
  have K2 := Lib.hid (fun w => refKey_any y w hy)
  rw [ha, hb] at K1 HK
  rw [hc, hd] at K2 HK
  clear ha hb hc hd
  go_enter Tryd.func51, Tryd.ntmps51
  go_wp2_with fail
  refine (K1.out _).mono ?_
  rintro e w1 ⟨rfl, rfl⟩
  go_wp2_with fail
  refine (K2.out _).mono ?_
  rintro e w1 ⟨rfl, rfl⟩
  rcases Nat.lt_trichotomy a c with h1 | h1 | h1
  · have q1 : decide ((a : Int) < (c : Int)) = true := by simp; omega
    go_wp2_with fail
    go_ret
    exact ⟨ret_int (by rw [HK.out, if_pos (by omega)]), rfl⟩
  · subst h1
    have q1 : decide ((a : Int) < (a : Int)) = false := by simp
    have q2 : ((a : Int) == (a : Int)) = true := by simp
    rcases Nat.lt_trichotomy b d with h2 | h2 | h2
    · have q3 : decide ((b : Int) < (d : Int)) = true := by simp; omega
      go_wp2_with fail
      go_ret
      exact ⟨ret_int (by rw [HK.out]; simp [h2]), rfl⟩
    · subst h2
      have q3 : decide ((b : Int) < (b : Int)) = false := by simp
      go_wp2_with fail
      go_ret
      exact ⟨ret_int (by rw [HK.out, if_neg (by omega), if_neg (by omega)]), rfl⟩
    · have q3 : decide ((b : Int) < (d : Int)) = false := by simp; omega
      have q4 : decide ((d : Int) < (b : Int)) = true := by simp; omega
      go_wp2_with fail
      go_ret
      exact ⟨ret_int (by rw [HK.out, if_neg (by omega), if_pos (by omega)]), rfl⟩
  · have q1 : decide ((a : Int) < (c : Int)) = false := by simp; omega
    have q2 : ((a : Int) == (c : Int)) = false := by simp; omega
    have q3 : decide ((c : Int) < (a : Int)) = true := by simp; omega
    go_wp2_with fail
    go_ret
    exact ⟨ret_int (by rw [HK.out, if_neg (by omega), if_pos (by omega)]), rfl⟩
theorem refSame_any (x y : Nat) (w : World) (hx : x < two64) (hy : y < two64) : Calls Tryd.prog 33 #[.float .f64 x, .float .f64 y] w fun e w' => e = .returned (.bool (decide (fkey x = fkey y))) ∧ w = w' := by
  have HZ := Lib.hid (cmpN_zero (fkey x) (fkey y))
  go_enter Tryd.func33, Tryd.ntmps33
  go_wp2_with fail
  refine (refCompare_any x y _ hx hy).mono ?_
  rintro e w1 ⟨rfl, rfl⟩
  go_wp2_with fail
  go_ret
  exact ⟨ret_bool HZ.out, rfl⟩
theorem refMax_any (x y : Nat) (w : World) (hx : x < two64) (hy : y < two64) : Calls Tryd.prog 56 #[.float .f64 x, .float .f64 y] w fun e w' => e = .returned (.float .f64 (rmax x y)) ∧ w = w' := by
  by_cases h : cmpN (fkey x) (fkey y) < 0
  · have HR := Lib.hid (show rmax x y = y from if_pos h)
    go_enter Tryd.func56, Tryd.ntmps56
    go_wp2_with fail
    refine (refCompare_any x y _ hx hy).mono ?_
    rintro e w1 ⟨rfl, rfl⟩
    go_wp2_with fail
    go_ret
    exact ⟨congrArg (fun b => Ending.returned (.float .f64 b)) HR.out.symm, rfl⟩
  · have HR := Lib.hid (show rmax x y = x from if_neg h)
    go_enter Tryd.func56, Tryd.ntmps56
    go_wp2_with fail
    refine (refCompare_any x y _ hx hy).mono ?_
    rintro e w1 ⟨rfl, rfl⟩
    go_wp2_with fail
    go_ret
    exact ⟨congrArg (fun b => Ending.returned (.float .f64 b)) HR.out.symm, rfl⟩
theorem refMin_any (x y : Nat) (w : World) (hx : x < two64) (hy : y < two64) : Calls Tryd.prog 58 #[.float .f64 x, .float .f64 y] w fun e w' => e = .returned (.float .f64 (rmin x y)) ∧ w = w' := by
  by_cases h : 0 < cmpN (fkey x) (fkey y)
  · have HR := Lib.hid (show rmin x y = y from if_pos h)
    go_enter Tryd.func58, Tryd.ntmps58
    go_wp2_with fail
    refine (refCompare_any x y _ hx hy).mono ?_
    rintro e w1 ⟨rfl, rfl⟩
    go_wp2_with fail
    go_ret
    exact ⟨congrArg (fun b => Ending.returned (.float .f64 b)) HR.out.symm, rfl⟩
  · have HR := Lib.hid (show rmin x y = x from if_neg h)
    go_enter Tryd.func58, Tryd.ntmps58
    go_wp2_with fail
    refine (refCompare_any x y _ hx hy).mono ?_
    rintro e w1 ⟨rfl, rfl⟩
    go_wp2_with fail
    go_ret
    exact ⟨congrArg (fun b => Ending.returned (.float .f64 b)) HR.out.symm, rfl⟩

set_option maxHeartbeats 800000 in
set_option maxRecDepth 100000 in
theorem refGet_any (s : ByteArray) (w : World) (h1 : 1 ≤ s.size) (h7 : s.size ≤ 7) :
    Calls Tryd.prog 81 #[.string s] w fun e w' => e = .returned (.tuple #[.int .i64 (getN s.data.toList), .int .i64 0]) ∧ w = w' := by
  go_enter Tryd.func81, Tryd.ntmps81
  go_wp2_with fail
  go_loop [4, 5] (fun v i => ∃ (k : Nat) (a : Int), k ≤ s.size ∧ i = .int .i64 k ∧ v = .int .i64 a ∧ a = getN (s.data.toList.take k)) (fun _ i => s.size - (intOf i).toNat)
  case atStart => exact ⟨0, 0, Nat.zero_le _, rfl, rfl, rfl⟩
  case round =>
    obtain ⟨k, a, hk, rfl, rfl, ha⟩ := hrel
    have hbd := getN_bound (s.data.toList.take k)
    rw [← ha] at hbd
    have HA := Lib.hid ha; clear ha
    by_cases hlt : k < s.size
    · have h6 : a < 281474976710656 := by
        have h2 := hbd.2
        have : (s.data.toList.take k).length ≤ 6 := Nat.le_trans (List.length_take_le _ _) (by omega)
        have h3 : (256 : Int) ^ (s.data.toList.take k).length ≤ 256 ^ 6 := by
          have := Nat.pow_le_pow_right (show 0 < 256 by decide) this
          exact_mod_cast this
        omega
      have h0 := hbd.1
      clear hbd
      have HT := Lib.hid (getN_take hlt)
      have hb := Lib.hid (UInt8.toNat_lt s[k])
      go_wp2_with fail
      go_round
      case rel => exact ⟨k + 1, _, by omega, by go_num, rfl, by rw [HT.out, HA.out.symm]; have := hb.out; unfold wrap64; omega⟩
      case measure => simp [intOf]; omega
    · have HE := Lib.hid (show s.data.toList.take k = s.data.toList from List.take_of_length_le (by simp; omega))
      go_wp2_with fail
      go_ret2
      exact ⟨ret_int_ok (HA.out.trans (congrArg getN HE.out)), rfl⟩
end Go.Proofs.YtgdlcoicejgdkaaDoor

namespace Go.Proofs.YtgdlcoicejgdkaaDoor
open Go.RowKit

set_option maxHeartbeats 1600000 in
set_option maxRecDepth 100000 in
theorem refPut_any (v : Nat) (n : Nat) (w : World) (hn : 1 ≤ n) (hn1 : n ≤ 7) (hv63 : v < 9223372036854775808) (hvn : v / 2 ^ (8 * n) = 0) :
    Calls Tryd.prog 104 #[.int .i64 v, .int .i64 n] w fun e w' => e = .returned (.tuple #[.string (strOfNums (putN v n n)), .int .i64 0]) ∧ Bl w w' := by
  obtain ⟨i0, hi, hz0, hz1, hz2⟩ := info_parts info_byte
  have HV := Lib.hid hvn; clear hvn
  go_enter Tryd.func104, Tryd.ntmps104
  go_wp2_with (at_make; refine wpList_make_full _ rfl _ _ 51 rfl w.heap.size 5 i0 (.int .u8 0) 1 Tryd.underlying51 hi hz0 hz1 .i64 .i64 _ _ n rfl rfl rfl rfl ?b1 ?b2 ?b3 ?_)
  case b1 => rw [hz2]; omega
  case b2 => unfold maxLen; omega
  case b3 => exact Nat.le_refl _
  intro w1 hown hgrow
  have hb : Bl w w1 := Below.grown (Bl.refl w) hgrow (Nat.le_refl _) (by simp)
  have hob : OB w.heap.size w1 (.slice (some ⟨w.heap.size, 0, none⟩) n n) (putN v n 0) := by
    rw [OB, putN_len, putN_zero]
    have e : (madeCells #[Value.int .u8 0] n).toList = List.map (Value.int .u8) (List.replicate n 0) := by
      rw [List.map_replicate]
      exact toList_madeCells_one _ _
    rw [e] at hown
    exact hown
  clear hown hgrow
  go_wp2_with fail
  go_loopw [0, 7] (fun v' i wr => ∃ (k : Nat) (u : Nat), k ≤ n ∧ i = .int .i64 ((n : Int) - 1 - k) ∧ v' = .int .i64 u ∧ u = v / 2 ^ (8 * k) ∧ Bl w wr ∧ OB w.heap.size wr (.slice (some ⟨w.heap.size, 0, none⟩) n n) (putN v n k)) (fun _ i _ => (intOf i + 1).toNat)
  case atStart => exact ⟨0, v, Nat.zero_le _, by go_num, rfl, by simp, hb, hob⟩
  case round =>
    clear hb hob
    obtain ⟨k, u, hk, rfl, rfl, hu, hb, hob⟩ := hrel
    have hu63 : u < 9223372036854775808 := by
      rw [hu]; exact Nat.lt_of_le_of_lt (Nat.div_le_self _ _) hv63
    by_cases hlt : k < n
    · have hc := hob.cell (putN_len v n k) (n - 1 - k) (by omega)
      have hfz := hob.frozen (putN_len v n k) (n - 1 - k)
      generalize nth (putN v n k) (n - 1 - k) = old at hc
      have HOB := Lib.hid hob; clear hob
      have HU := Lib.hid hu; clear hu
      have ei : (n : Int) - 1 - (k : Int) = ((n - 1 - k : Nat) : Int) := by omega
      rw [ei]
      have et : ((u : Int)).tmod 256 = ((u % 256 : Nat) : Int) := by
        rw [Int.tmod_eq_emod_of_nonneg (by omega)]; omega
      have ed : wrap64 ((u : Int).tdiv 256) = ((u / 256 : Nat) : Int) := by
        rw [Int.tdiv_eq_ediv_of_nonneg (by omega)]; unfold wrap64; omega
      go_wp2_with fail
      go_roundw
      case rel =>
        refine ⟨k + 1, u / 256, by omega, by go_num, rfl, ?_, hb.setCell (Nat.le_refl _) _, ?_⟩
        · rw [HU.out, Nat.div_div_eq_div_mul, show 8 * (k + 1) = 8 * k + 8 by omega, Nat.pow_add]
        · have h1 := HOB.out.set (putN_len v n k) (n - 1 - k) ((u : Int) % 256)
          have e : (u : Int) % 256 = byteAt v n (n - 1 - k) := by
            unfold byteAt
            rw [show n - 1 - (n - 1 - k) = k by omega, HU.out]
            rfl
          have h2 := putN_set v n k hlt
          rw [← e] at h2
          rw [h2] at h1
          exact h1
      case measure => simp [intOf] <;> omega
    · have hkn : k = n := by omega
      subst hkn
      have hs := hob.string (putN_len v k k)
      clear hob
      obtain rfl : u = 0 := by rw [hu]; exact HV.out
      clear hu
      rw [show (k : Int) - 1 - (k : Int) = -1 by omega]
      go_wp2_with fail
      go_ret2
      exact ⟨rfl, hb⟩

theorem refPutF_any (x : Nat) (w : World) (hx : x < two64) :
    Calls Tryd.prog 49 #[.float .f64 x] w fun e w' => e = .returned (.string (strOfNums (putN (fkey x) 8 8))) ∧ Bl w w' := by
  have h1 := keyH_lt hx
  have h2 := keyL_lt x
  have HP := Lib.hid (put_halves x)
  have P1 := Lib.hid (fun w => refPut_any (keyH x) 4 w (by decide) (by decide) (by omega) (by rw [Nat.div_eq_zero_iff]; omega))
  have P2 := Lib.hid (fun w => refPut_any (keyL x) 4 w (by decide) (by decide) (by omega) (by rw [Nat.div_eq_zero_iff]; omega))
  have hz : ∀ v : Int, (strOfNums (putN v 4 4)).size = 4 := fun v => by
    have : (strOfNums (putN v 4 4)).data.toList.length = 4 := by rw [strOfNums_data, List.length_map, putN_len]
    simpa using this
  have z1 := hz (keyH x)
  have z2 := hz (keyL x)
  have HA := Lib.hid (str_append (putN (keyH x) 4 4) (putN (keyL x) 4 4))
  rw [HP.out] at HA
  clear HP hz h1 h2
  go_enter Tryd.func49, Tryd.ntmps49
  go_wp2_with fail
  refine (refKey_any x _ hx).mono ?_
  rintro e w1 ⟨rfl, rfl⟩
  go_wp2_with fail
  refine (P1.out _).mono ?_
  rintro e w1 ⟨rfl, hb1⟩
  go_wp2_with fail
  refine (P2.out _).mono ?_
  rintro e w2 ⟨rfl, hb2⟩
  go_wp2_with fail
  go_ret
  exact ⟨by rw [HA.out]; rfl, hb1.trans hb2⟩

theorem refGetF_no (s : ByteArray) (w : World) (hs : s.size ≠ 8) : Calls Tryd.prog 30 #[.string s] w fun e w' => e = .returned (.tuple #[.float .f64 0, .int .i64 4]) ∧ w = w' := by
  go_enter Tryd.func30, Tryd.ntmps30
  go_wp2_with fail
  go_ret2
  exact ⟨rfl, rfl⟩
/-- the two halves of eight bytes -/
structure Halves (s u v : ByteArray) (a c : Nat) : Prop where
  su : s.extract 0 4 = u
  sv : s.extract 4 8 = v
  g1 : ∀ w, Calls Tryd.prog 81 #[.string u] w fun e w' => e = .returned (.tuple #[.int .i64 a, .int .i64 0]) ∧ w = w'
  g2 : ∀ w, Calls Tryd.prog 81 #[.string v] w fun e w' => e = .returned (.tuple #[.int .i64 c, .int .i64 0]) ∧ w = w'
  ba : a < 4294967296
  bc : c < 4294967296
  sum : (getN s.data.toList).toNat = a * 4294967296 + c
theorem halves (s : ByteArray) (hs : s.size = 8) : ∃ u v a c, Halves s u v a c := by
  have hl : s.data.toList.length = 8 := by simpa using hs
  have su : SB (s.extract 0 4) (s.data.toList.take 4) := by
    rw [SB, Lib.extract_data, List.drop_zero]
  have sv : SB (s.extract 4 8) (s.data.toList.drop 4) := by
    rw [SB, Lib.extract_data, List.take_of_length_le (by rw [List.length_drop]; omega)]
  have zu : (s.extract 0 4).size = 4 := by rw [su.size, List.length_take]; omega
  have zv : (s.extract 4 8).size = 4 := by rw [sv.size, List.length_drop]; omega
  have bu := getN_bound (s.extract 0 4).data.toList
  have bv := getN_bound (s.extract 4 8).data.toList
  have e0 : getN s.data.toList = getN (s.extract 0 4).data.toList * 4294967296 + getN (s.extract 4 8).data.toList := by
    have := getN_append (s.data.toList.take 4) (s.data.toList.drop 4) (by rw [List.length_drop]; omega)
    rw [List.take_append_drop] at this
    rw [this, su, sv]
  have G1 := fun w => refGet_any (s.extract 0 4) w (by omega) (by omega)
  have G2 := fun w => refGet_any (s.extract 4 8) w (by omega) (by omega)
  rw [show (s.extract 0 4).data.toList.length = 4 by simpa using zu] at bu
  rw [show (s.extract 4 8).data.toList.length = 4 by rw [show (s.extract 4 8).data.toList = _ from sv, List.length_drop]; omega] at bv
  obtain ⟨a, ha⟩ : ∃ a : Nat, getN (s.extract 0 4).data.toList = a := ⟨_, (Int.toNat_of_nonneg bu.1).symm⟩
  obtain ⟨c, hc⟩ : ∃ c : Nat, getN (s.extract 4 8).data.toList = c := ⟨_, (Int.toNat_of_nonneg bv.1).symm⟩
  rw [ha] at G1 bu e0
  rw [hc] at G2 bv e0
  exact ⟨_, _, a, c, rfl, rfl, G1, G2, by have := bu.2; omega, by have := bv.2; omega, by omega⟩
set_option maxHeartbeats 1600000 in
set_option maxRecDepth 100000 in
theorem refGetF_zero (s u v : ByteArray) (w : World) (hs : s.size = 8) (H : Hid (Halves s u v 0 0)) :
    Calls Tryd.prog 30 #[.string s] w fun e w' => e = .returned (.tuple #[.float .f64 (getR (getN s.data.toList).toNat).1, .int .i64 (getR (getN s.data.toList).toNat).2]) ∧ w = w' := by
  have hu := H.out.su
  have hv := H.out.sv
  rw [H.out.sum]
  go_enter Tryd.func30, Tryd.ntmps30
  go_wp2_with fail
  refine (H.out.g1 _).mono ?_
  rintro e w1 ⟨rfl, rfl⟩
  go_wp2_with fail
  refine (H.out.g2 _).mono ?_
  rintro e w1 ⟨rfl, rfl⟩
  go_wp2_with fail
  refine (nan_is _).mono ?_
  rintro e w1 ⟨rfl, rfl⟩
  go_wp2_with fail
  go_ret2
  exact ⟨rfl, rfl⟩
theorem back_top {a c : Nat} (k : 2147483648 ≤ a) : backW (a * 4294967296 + c) = (a - 2147483648) * 4294967296 + c := by
  have h : two63 ≤ a * 4294967296 + c := by unfold two63; omega
  have e : two63 = 2147483648 * 4294967296 := by unfold two63; decide
  unfold backW
  rw [if_pos h, e, Nat.sub_mul]
  omega
theorem back_low {a c : Nat} (k : ¬ 2147483648 ≤ a) (hc : c < 4294967296) : backW (a * 4294967296 + c) = (4294967295 - a) * 4294967296 + (4294967295 - c) := by
  have e : two63 = 2147483648 * 4294967296 := by unfold two63; decide
  have h : ¬ two63 ≤ a * 4294967296 + c := by rw [e]; omega
  have e2 : two64 = 4294967296 * 4294967296 := by unfold two64; decide
  unfold backW
  rw [if_neg h, e2, Nat.sub_mul]
  omega
set_option maxHeartbeats 1600000 in
set_option maxRecDepth 100000 in
theorem refGetF_top (s u v : ByteArray) (a' c f : Nat) (w : World) (hs : s.size = 8) (H : Hid (Halves s u v (a' + 2147483648) c)) (ba : a' < 2147483648) (bc : c < 4294967296)
    (hsum : ((a' : Int) * 4294967296 + (c : Int)) = (f : Int)) (hf : f < two64) (HB : Hid (backW (getN s.data.toList).toNat = f)) (H0 : Hid ((getN s.data.toList).toNat ≠ 0)) :
    Calls Tryd.prog 30 #[.string s] w fun e w' => e = .returned (.tuple #[.float .f64 (getR (getN s.data.toList).toNat).1, .int .i64 (getR (getN s.data.toList).toNat).2]) ∧ w = w' := by
  have hfb := run_frombits
  have hu := H.out.su
  have hv := H.out.sv
  have N1 := Lib.hid (fun w => refNan_any f w hf)
  have q0 : (((a' + 2147483648 : Nat) : Int) == 0) = false := by simp; omega
  have q1 : decide ((2147483648 : Int) ≤ ((a' + 2147483648 : Nat) : Int)) = true := by simp; omega
  have ea : ((a' + 2147483648 : Nat) : Int) - 2147483648 = (a' : Int) := by omega
  have ba2 : ((a' + 2147483648 : Nat) : Int) < 4294967296 := by omega
  generalize a' + 2147483648 = a at *
  obtain ⟨r, hr⟩ : ∃ r, getR (getN s.data.toList).toNat = r := ⟨_, rfl⟩
  have E := Lib.hid (show (if nanB f then (0, 4) else (f, 0)) = r by
    rw [← hr]; unfold getR; rw [if_neg H0.out, HB.out])
  rw [hr]
  clear hr
  go_enter Tryd.func30, Tryd.ntmps30
  go_wp2_with fail
  refine (H.out.g1 _).mono ?_
  rintro e w1 ⟨rfl, rfl⟩
  go_wp2_with fail
  refine (H.out.g2 _).mono ?_
  rintro e w1 ⟨rfl, rfl⟩
  cases hn : nanB f
  all_goals
    go_wp2_with fail
    refine (N1.out _).mono ?_
    rintro e w1 ⟨rfl, rfl⟩
    rw [hn]
    go_wp2_with fail
    go_ret2
    exact ⟨by rw [← E.out, hn]; rfl, rfl⟩
set_option maxHeartbeats 1600000 in
set_option maxRecDepth 100000 in
theorem refGetF_low (s u v : ByteArray) (a c a' c' f : Nat) (w : World) (hs : s.size = 8) (H : Hid (Halves s u v a c)) (ba : a < 2147483648) (_bc : c < 4294967296) (_ba' : a' < 4294967296) (bc' : c' < 4294967296)
    (ea : 4294967295 - (a : Int) = (a' : Int)) (ec : 4294967295 - (c : Int) = (c' : Int)) (hz : (((a : Int) == 0) = true ∧ ((c : Int) == 0) = false) ∨ ((a : Int) == 0) = false)
    (hsum : ((a' : Int) * 4294967296 + (c' : Int)) = (f : Int)) (hf : f < two64) (HB : Hid (backW (getN s.data.toList).toNat = f)) (H0 : Hid ((getN s.data.toList).toNat ≠ 0)) :
    Calls Tryd.prog 30 #[.string s] w fun e w' => e = .returned (.tuple #[.float .f64 (getR (getN s.data.toList).toNat).1, .int .i64 (getR (getN s.data.toList).toNat).2]) ∧ w = w' := by
  have hfb := run_frombits
  have hu := H.out.su
  have hv := H.out.sv
  have N1 := Lib.hid (fun w => refNan_any f w hf)
  have q1 : decide ((2147483648 : Int) ≤ (a : Int)) = false := by simp; omega
  obtain ⟨r, hr⟩ : ∃ r, getR (getN s.data.toList).toNat = r := ⟨_, rfl⟩
  have E := Lib.hid (show (if nanB f then (0, 4) else (f, 0)) = r by
    rw [← hr]; unfold getR; rw [if_neg H0.out, HB.out])
  rw [hr]
  clear hr
  rcases hz with ⟨z1, z2⟩ | z1
  all_goals
    go_enter Tryd.func30, Tryd.ntmps30
    go_wp2_with fail
    refine (H.out.g1 _).mono ?_
    rintro e w1 ⟨rfl, rfl⟩
    go_wp2_with fail
    refine (H.out.g2 _).mono ?_
    rintro e w1 ⟨rfl, rfl⟩
    cases hn : nanB f
    all_goals
      go_wp2_with fail
      refine (N1.out _).mono ?_
      rintro e w1 ⟨rfl, rfl⟩
      rw [hn]
      go_wp2_with fail
      go_ret2
      exact ⟨by rw [← E.out, hn]; rfl, rfl⟩
/-- bedrockref2.Get is real.Get -/
theorem refGetF_any (s : ByteArray) (w : World) (hs : s.size = 8) :
    Calls Tryd.prog 30 #[.string s] w fun e w' => e = .returned (.tuple #[.float .f64 (getR (getN s.data.toList).toNat).1, .int .i64 (getR (getN s.data.toList).toNat).2]) ∧ w = w' := by
  obtain ⟨u, v, a, c, H⟩ := halves s hs
  have ba := H.ba
  have bc := H.bc
  have hsum := H.sum
  by_cases k : 2147483648 ≤ a
  · obtain ⟨a', rfl⟩ : ∃ a', a = a' + 2147483648 := ⟨a - 2147483648, by omega⟩
    have hb := back_top (c := c) k
    rw [← hsum, Nat.add_sub_cancel] at hb
    exact refGetF_top s u v a' c (a' * 4294967296 + c) w hs (Lib.hid H) (by omega) bc (by omega) (by unfold two64; omega) (Lib.hid hb) (Lib.hid (by omega))
  · by_cases h0 : a = 0 ∧ c = 0
    · obtain ⟨rfl, rfl⟩ := h0
      exact refGetF_zero s u v w hs (Lib.hid H)
    · have hb := back_low (c := c) k bc
      rw [← hsum] at hb
      refine refGetF_low s u v a c (4294967295 - a) (4294967295 - c) ((4294967295 - a) * 4294967296 + (4294967295 - c)) w hs (Lib.hid H) (by omega) bc (by omega) (by omega) (by omega) (by omega) ?_ (by omega) (by unfold two64; omega) (Lib.hid hb) (Lib.hid (by omega))
      by_cases ha : a = 0
      · exact .inl ⟨by simp [ha], by simp; omega⟩
      · exact .inr (by simp; omega)
end Go.Proofs.YtgdlcoicejgdkaaDoor
