/- bedrockref1.Put; bedrockref2.Put, Get. By an AI agent. -/
import Derived.Test.YtgdlcoicejgdkaaDoorRefW1
namespace Go.Proofs.YtgdlcoicejgdkaaDoor
open Go.RowKit

set_option maxHeartbeats 1600000 in
set_option maxRecDepth 100000 in
theorem refPut_any (v : Nat) (n : Nat) (w : World) (hn : 1 ≤ n) (hn1 : n ≤ 7) (hv63 : v < 9223372036854775808) (hvn : v / 2 ^ (8 * n) = 0) :
    Calls Tryd.prog 104 #[.int .i64 v, .int .i64 n] w fun e w' => e = .returned (.tuple #[.string (strOfNums (putN v n n)), .int .i64 0]) ∧ Bl w w' := by
  obtain ⟨i0, hi, hz0, hz1, hz2⟩ := info_parts info_byte
  have HV := Lib.hid hvn; clear hvn
  go_enter Tryd.func104, Tryd.ntmps104
  go_wp2_with (at_make; refine wpList_make_full _ rfl _ _ 51 rfl w.heap.size 5 i0 (.int .u8 0) 1 Tryd.underlying51 hi hz0 hz1 .i64 .i64 _ _ n rfl rfl rfl rfl ?b1 ?b2 ?b3 ?_)
  case b1 => rw [hz2]; omega
  case b2 => unfold maxLen; omega
  case b3 => exact Nat.le_refl _
  intro w1 hown hgrow
  have hb : Bl w w1 := Below.grown (Bl.refl w) hgrow (Nat.le_refl _) (by simp)
  have hob : OB w.heap.size w1 (.slice (some ⟨w.heap.size, 0, none⟩) n n) (putN v n 0) := by
    rw [OB, putN_len, putN_zero]
    have e : (madeCells #[Value.int .u8 0] n).toList = List.map (Value.int .u8) (List.replicate n 0) := by
      rw [List.map_replicate]
      exact toList_madeCells_one _ _
    rw [e] at hown
    exact hown
  clear hown hgrow
  go_wp2_with fail
  go_loopw [0, 7] (fun v' i wr => ∃ (k : Nat) (u : Nat), k ≤ n ∧ i = .int .i64 ((n : Int) - 1 - k) ∧ v' = .int .i64 u ∧ u = v / 2 ^ (8 * k) ∧ Bl w wr ∧ OB w.heap.size wr (.slice (some ⟨w.heap.size, 0, none⟩) n n) (putN v n k)) (fun _ i _ => (intOf i + 1).toNat)
  case atStart => exact ⟨0, v, Nat.zero_le _, by go_num, rfl, by simp, hb, hob⟩
  case round =>
    clear hb hob
    obtain ⟨k, u, hk, rfl, rfl, hu, hb, hob⟩ := hrel
    have hu63 : u < 9223372036854775808 := by
      rw [hu]; exact Nat.lt_of_le_of_lt (Nat.div_le_self _ _) hv63
    by_cases hlt : k < n
    · have hc := hob.cell (putN_len v n k) (n - 1 - k) (by omega)
      have hfz := hob.frozen (putN_len v n k) (n - 1 - k)
      generalize nth (putN v n k) (n - 1 - k) = old at hc
      have HOB := Lib.hid hob; clear hob
      have HU := Lib.hid hu; clear hu
      have ei : (n : Int) - 1 - (k : Int) = ((n - 1 - k : Nat) : Int) := by omega
      rw [ei]
      have et : ((u : Int)).tmod 256 = ((u % 256 : Nat) : Int) := by
        rw [Int.tmod_eq_emod_of_nonneg (by omega)]; omega
      have ed : wrap64 ((u : Int).tdiv 256) = ((u / 256 : Nat) : Int) := by
        rw [Int.tdiv_eq_ediv_of_nonneg (by omega)]; unfold wrap64; omega
      go_wp2_with fail
      go_roundw
      case rel =>
        refine ⟨k + 1, u / 256, by omega, by go_num, rfl, ?_, hb.setCell (Nat.le_refl _) _, ?_⟩
        · rw [HU.out, Nat.div_div_eq_div_mul, show 8 * (k + 1) = 8 * k + 8 by omega, Nat.pow_add]
        · have h1 := HOB.out.set (putN_len v n k) (n - 1 - k) ((u : Int) % 256)
          have e : (u : Int) % 256 = byteAt v n (n - 1 - k) := by
            unfold byteAt
            rw [show n - 1 - (n - 1 - k) = k by omega, HU.out]
            rfl
          have h2 := putN_set v n k hlt
          rw [← e] at h2
          rw [h2] at h1
          exact h1
      case measure => simp [intOf] <;> omega
    · have hkn : k = n := by omega
      subst hkn
      have hs := hob.string (putN_len v k k)
      clear hob
      obtain rfl : u = 0 := by rw [hu]; exact HV.out
      clear hu
      rw [show (k : Int) - 1 - (k : Int) = -1 by omega]
      go_wp2_with fail
      go_ret2
      exact ⟨rfl, hb⟩

theorem refPutF_any (x : Nat) (w : World) (hx : x < two64) :
    Calls Tryd.prog 49 #[.float .f64 x] w fun e w' => e = .returned (.string (strOfNums (putN (fkey x) 8 8))) ∧ Bl w w' := by
  have h1 := keyH_lt hx
  have h2 := keyL_lt x
  have HP := Lib.hid (put_halves x)
  have P1 := Lib.hid (fun w => refPut_any (keyH x) 4 w (by decide) (by decide) (by omega) (by rw [Nat.div_eq_zero_iff]; omega))
  have P2 := Lib.hid (fun w => refPut_any (keyL x) 4 w (by decide) (by decide) (by omega) (by rw [Nat.div_eq_zero_iff]; omega))
  have hz : ∀ v : Int, (strOfNums (putN v 4 4)).size = 4 := fun v => by
    have : (strOfNums (putN v 4 4)).data.toList.length = 4 := by rw [strOfNums_data, List.length_map, putN_len]
    simpa using this
  have z1 := hz (keyH x)
  have z2 := hz (keyL x)
  have HA := Lib.hid (str_append (putN (keyH x) 4 4) (putN (keyL x) 4 4))
  rw [HP.out] at HA
  clear HP hz h1 h2
  go_enter Tryd.func49, Tryd.ntmps49
  go_wp2_with fail
  refine (refKey_any x _ hx).mono ?_
  rintro e w1 ⟨rfl, rfl⟩
  go_wp2_with fail
  refine (P1.out _).mono ?_
  rintro e w1 ⟨rfl, hb1⟩
  go_wp2_with fail
  refine (P2.out _).mono ?_
  rintro e w2 ⟨rfl, hb2⟩
  go_wp2_with fail
  go_ret
  exact ⟨by rw [HA.out]; rfl, hb1.trans hb2⟩

theorem refGetF_no (s : ByteArray) (w : World) (hs : s.size ≠ 8) : Calls Tryd.prog 30 #[.string s] w fun e w' => e = .returned (.tuple #[.float .f64 0, .int .i64 4]) ∧ w = w' := by
  go_enter Tryd.func30, Tryd.ntmps30
  go_wp2_with fail
  go_ret2
  exact ⟨rfl, rfl⟩
/-- the two halves of eight bytes -/
structure Halves (s u v : ByteArray) (a c : Nat) : Prop where
  su : s.extract 0 4 = u
  sv : s.extract 4 8 = v
  g1 : ∀ w, Calls Tryd.prog 81 #[.string u] w fun e w' => e = .returned (.tuple #[.int .i64 a, .int .i64 0]) ∧ w = w'
  g2 : ∀ w, Calls Tryd.prog 81 #[.string v] w fun e w' => e = .returned (.tuple #[.int .i64 c, .int .i64 0]) ∧ w = w'
  ba : a < 4294967296
  bc : c < 4294967296
  sum : (getN s.data.toList).toNat = a * 4294967296 + c
theorem halves (s : ByteArray) (hs : s.size = 8) : ∃ u v a c, Halves s u v a c := by
  have hl : s.data.toList.length = 8 := by simpa using hs
  have su : SB (s.extract 0 4) (s.data.toList.take 4) := by
    rw [SB, Lib.extract_data, List.drop_zero]
  have sv : SB (s.extract 4 8) (s.data.toList.drop 4) := by
    rw [SB, Lib.extract_data, List.take_of_length_le (by rw [List.length_drop]; omega)]
  have zu : (s.extract 0 4).size = 4 := by rw [su.size, List.length_take]; omega
  have zv : (s.extract 4 8).size = 4 := by rw [sv.size, List.length_drop]; omega
  have bu := getN_bound (s.extract 0 4).data.toList
  have bv := getN_bound (s.extract 4 8).data.toList
  have e0 : getN s.data.toList = getN (s.extract 0 4).data.toList * 4294967296 + getN (s.extract 4 8).data.toList := by
    have := getN_append (s.data.toList.take 4) (s.data.toList.drop 4) (by rw [List.length_drop]; omega)
    rw [List.take_append_drop] at this
    rw [this, su, sv]
  have G1 := fun w => refGet_any (s.extract 0 4) w (by omega) (by omega)
  have G2 := fun w => refGet_any (s.extract 4 8) w (by omega) (by omega)
  rw [show (s.extract 0 4).data.toList.length = 4 by simpa using zu] at bu
  rw [show (s.extract 4 8).data.toList.length = 4 by rw [show (s.extract 4 8).data.toList = _ from sv, List.length_drop]; omega] at bv
  obtain ⟨a, ha⟩ : ∃ a : Nat, getN (s.extract 0 4).data.toList = a := ⟨_, (Int.toNat_of_nonneg bu.1).symm⟩
  obtain ⟨c, hc⟩ : ∃ c : Nat, getN (s.extract 4 8).data.toList = c := ⟨_, (Int.toNat_of_nonneg bv.1).symm⟩
  rw [ha] at G1 bu e0
  rw [hc] at G2 bv e0
  exact ⟨_, _, a, c, rfl, rfl, G1, G2, by have := bu.2; omega, by have := bv.2; omega, by omega⟩
set_option maxHeartbeats 1600000 in
set_option maxRecDepth 100000 in
theorem refGetF_zero (s u v : ByteArray) (w : World) (hs : s.size = 8) (H : Hid (Halves s u v 0 0)) :
    Calls Tryd.prog 30 #[.string s] w fun e w' => e = .returned (.tuple #[.float .f64 (getR (getN s.data.toList).toNat).1, .int .i64 (getR (getN s.data.toList).toNat).2]) ∧ w = w' := by
  have hu := H.out.su
  have hv := H.out.sv
  rw [H.out.sum]
  go_enter Tryd.func30, Tryd.ntmps30
  go_wp2_with fail
  refine (H.out.g1 _).mono ?_
  rintro e w1 ⟨rfl, rfl⟩
  go_wp2_with fail
  refine (H.out.g2 _).mono ?_
  rintro e w1 ⟨rfl, rfl⟩
  go_wp2_with fail
  refine (nan_is _).mono ?_
  rintro e w1 ⟨rfl, rfl⟩
  go_wp2_with fail
  go_ret2
  exact ⟨rfl, rfl⟩
theorem back_top {a c : Nat} (k : 2147483648 ≤ a) : backW (a * 4294967296 + c) = (a - 2147483648) * 4294967296 + c := by
  have h : two63 ≤ a * 4294967296 + c := by unfold two63; omega
  have e : two63 = 2147483648 * 4294967296 := by unfold two63; decide
  unfold backW
  rw [if_pos h, e, Nat.sub_mul]
  omega
theorem back_low {a c : Nat} (k : ¬ 2147483648 ≤ a) (hc : c < 4294967296) : backW (a * 4294967296 + c) = (4294967295 - a) * 4294967296 + (4294967295 - c) := by
  have e : two63 = 2147483648 * 4294967296 := by unfold two63; decide
  have h : ¬ two63 ≤ a * 4294967296 + c := by rw [e]; omega
  have e2 : two64 = 4294967296 * 4294967296 := by unfold two64; decide
  unfold backW
  rw [if_neg h, e2, Nat.sub_mul]
  omega
set_option maxHeartbeats 1600000 in
set_option maxRecDepth 100000 in
theorem refGetF_top (s u v : ByteArray) (a' c f : Nat) (w : World) (hs : s.size = 8) (H : Hid (Halves s u v (a' + 2147483648) c)) (ba : a' < 2147483648) (bc : c < 4294967296)
    (hsum : ((a' : Int) * 4294967296 + (c : Int)) = (f : Int)) (hf : f < two64) (HB : Hid (backW (getN s.data.toList).toNat = f)) (H0 : Hid ((getN s.data.toList).toNat ≠ 0)) :
    Calls Tryd.prog 30 #[.string s] w fun e w' => e = .returned (.tuple #[.float .f64 (getR (getN s.data.toList).toNat).1, .int .i64 (getR (getN s.data.toList).toNat).2]) ∧ w = w' := by
  have hfb := run_frombits
  have hu := H.out.su
  have hv := H.out.sv
  have N1 := Lib.hid (fun w => refNan_any f w hf)
  have q0 : (((a' + 2147483648 : Nat) : Int) == 0) = false := by simp; omega
  have q1 : decide ((2147483648 : Int) ≤ ((a' + 2147483648 : Nat) : Int)) = true := by simp; omega
  have ea : ((a' + 2147483648 : Nat) : Int) - 2147483648 = (a' : Int) := by omega
  have ba2 : ((a' + 2147483648 : Nat) : Int) < 4294967296 := by omega
  generalize a' + 2147483648 = a at *
  obtain ⟨r, hr⟩ : ∃ r, getR (getN s.data.toList).toNat = r := ⟨_, rfl⟩
  have E := Lib.hid (show (if nanB f then (0, 4) else (f, 0)) = r by
    rw [← hr]; unfold getR; rw [if_neg H0.out, HB.out])
  rw [hr]
  clear hr
  go_enter Tryd.func30, Tryd.ntmps30
  go_wp2_with fail
  refine (H.out.g1 _).mono ?_
  rintro e w1 ⟨rfl, rfl⟩
  go_wp2_with fail
  refine (H.out.g2 _).mono ?_
  rintro e w1 ⟨rfl, rfl⟩
  cases hn : nanB f
  all_goals
    go_wp2_with fail
    refine (N1.out _).mono ?_
    rintro e w1 ⟨rfl, rfl⟩
    rw [hn]
    go_wp2_with fail
    go_ret2
    exact ⟨by rw [← E.out, hn]; rfl, rfl⟩
set_option maxHeartbeats 1600000 in
set_option maxRecDepth 100000 in
theorem refGetF_low (s u v : ByteArray) (a c a' c' f : Nat) (w : World) (hs : s.size = 8) (H : Hid (Halves s u v a c)) (ba : a < 2147483648) (_bc : c < 4294967296) (_ba' : a' < 4294967296) (bc' : c' < 4294967296)
    (ea : 4294967295 - (a : Int) = (a' : Int)) (ec : 4294967295 - (c : Int) = (c' : Int)) (hz : (((a : Int) == 0) = true ∧ ((c : Int) == 0) = false) ∨ ((a : Int) == 0) = false)
    (hsum : ((a' : Int) * 4294967296 + (c' : Int)) = (f : Int)) (hf : f < two64) (HB : Hid (backW (getN s.data.toList).toNat = f)) (H0 : Hid ((getN s.data.toList).toNat ≠ 0)) :
    Calls Tryd.prog 30 #[.string s] w fun e w' => e = .returned (.tuple #[.float .f64 (getR (getN s.data.toList).toNat).1, .int .i64 (getR (getN s.data.toList).toNat).2]) ∧ w = w' := by
  have hfb := run_frombits
  have hu := H.out.su
  have hv := H.out.sv
  have N1 := Lib.hid (fun w => refNan_any f w hf)
  have q1 : decide ((2147483648 : Int) ≤ (a : Int)) = false := by simp; omega
  obtain ⟨r, hr⟩ : ∃ r, getR (getN s.data.toList).toNat = r := ⟨_, rfl⟩
  have E := Lib.hid (show (if nanB f then (0, 4) else (f, 0)) = r by
    rw [← hr]; unfold getR; rw [if_neg H0.out, HB.out])
  rw [hr]
  clear hr
  rcases hz with ⟨z1, z2⟩ | z1
  all_goals
    go_enter Tryd.func30, Tryd.ntmps30
    go_wp2_with fail
    refine (H.out.g1 _).mono ?_
    rintro e w1 ⟨rfl, rfl⟩
    go_wp2_with fail
    refine (H.out.g2 _).mono ?_
    rintro e w1 ⟨rfl, rfl⟩
    cases hn : nanB f
    all_goals
      go_wp2_with fail
      refine (N1.out _).mono ?_
      rintro e w1 ⟨rfl, rfl⟩
      rw [hn]
      go_wp2_with fail
      go_ret2
      exact ⟨by rw [← E.out, hn]; rfl, rfl⟩
/-- bedrockref2.Get is real.Get -/
theorem refGetF_any (s : ByteArray) (w : World) (hs : s.size = 8) :
    Calls Tryd.prog 30 #[.string s] w fun e w' => e = .returned (.tuple #[.float .f64 (getR (getN s.data.toList).toNat).1, .int .i64 (getR (getN s.data.toList).toNat).2]) ∧ w = w' := by
  obtain ⟨u, v, a, c, H⟩ := halves s hs
  have ba := H.ba
  have bc := H.bc
  have hsum := H.sum
  by_cases k : 2147483648 ≤ a
  · obtain ⟨a', rfl⟩ : ∃ a', a = a' + 2147483648 := ⟨a - 2147483648, by omega⟩
    have hb := back_top (c := c) k
    rw [← hsum, Nat.add_sub_cancel] at hb
    exact refGetF_top s u v a' c (a' * 4294967296 + c) w hs (Lib.hid H) (by omega) bc (by omega) (by unfold two64; omega) (Lib.hid hb) (Lib.hid (by omega))
  · by_cases h0 : a = 0 ∧ c = 0
    · obtain ⟨rfl, rfl⟩ := h0
      exact refGetF_zero s u v w hs (Lib.hid H)
    · have hb := back_low (c := c) k bc
      rw [← hsum] at hb
      refine refGetF_low s u v a c (4294967295 - a) (4294967295 - c) ((4294967295 - a) * 4294967296 + (4294967295 - c)) w hs (Lib.hid H) (by omega) bc (by omega) (by omega) (by omega) (by omega) ?_ (by omega) (by unfold two64; omega) (Lib.hid hb) (Lib.hid (by omega))
      by_cases ha : a = 0
      · exact .inl ⟨by simp [ha], by simp; omega⟩
      · exact .inr (by simp; omega)
end Go.Proofs.YtgdlcoicejgdkaaDoor
