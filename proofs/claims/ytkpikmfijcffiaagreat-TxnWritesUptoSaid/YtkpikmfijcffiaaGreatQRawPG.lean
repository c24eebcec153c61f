import Derived.Test.YtkpikmfijcffiaaGreatQBase

/- raw.Put, raw.Get. By an AI agent. -/
section
namespace Go.Proofs.YtkpikmfijcffiaaGreat
open Go.RowKit

set_option maxHeartbeats 800000 in
set_option maxRecDepth 100000 in
theorem put_any (v : Int) (n : Nat) (w : World) (hv : 0 ≤ v) (hn : 1 ≤ n) (hn1 : n ≤ 7) (hvn : v / 2 ^ (8 * n) = 0) :
    Calls Tryz.prog 152 #[.int .i64 v, .int .i64 n] w fun e w' => e = .returned (.tuple #[.string (strOfNums (putN v n n)), .int .i64 0]) ∧ Bl w w' := by
  obtain ⟨i0, hi, hz0, hz1, hz2⟩ := info_parts info_byte
  have hv0 : (v / 2 ^ (8 * n) != 0) = false := by simp [hvn]
  clear hvn
  go_enter Tryz.func152, Tryz.ntmps152
  go_wp2_with (at_make; refine wpList_make_full _ rfl _ _ 108 rfl w.heap.size 5 i0 (.int .u8 0) 1 Tryz.underlying108 hi hz0 hz1 .i64 .i64 _ _ n rfl rfl rfl rfl ?b1 ?b2 ?b3 ?_)
  case b1 => rw [hz2]; omega
  case b2 => unfold maxLen; omega
  case b3 => exact Nat.le_refl _
  intro w1 hown hgrow
  have hb : Bl w w1 := Below.grown (Bl.refl w) hgrow (Nat.le_refl _) (by simp)
  have hob : OB w.heap.size w1 (.slice (some ⟨w.heap.size, 0, none⟩) n n) (putN v n 0) := by
    rw [OB, putN_len, putN_zero]
    have e : (madeCells #[Value.int .u8 0] n).toList = List.map (Value.int .u8) (List.replicate n 0) := by
      rw [List.map_replicate]
      exact toList_madeCells_one _ _
    rw [e] at hown
    exact hown
  clear hown hgrow
  go_wp2
  go_loopw [29] (fun i wr => ∃ k : Nat, k ≤ n ∧ i = .int .i64 k ∧ Bl w wr ∧ OB w.heap.size wr (.slice (some ⟨w.heap.size, 0, none⟩) n n) (putN v n k)) (fun i _ => n - (intOf i).toNat)
  case atStart => exact ⟨0, Nat.zero_le _, rfl, hb, hob⟩
  case round =>
    clear hb hob
    obtain ⟨k, hk, rfl, hb, hob⟩ := hrel
    by_cases hlt : k < n
    · have hc := hob.cell (putN_len v n k) (n - 1 - k) (by omega)
      have hfz := hob.frozen (putN_len v n k) (n - 1 - k)
      generalize nth (putN v n k) (n - 1 - k) = old at hc
      have HOB := Lib.hid hob; clear hob
      go_wp2
      go_roundw
      case rel =>
        refine ⟨k + 1, by omega, by go_num, hb.setCell (Nat.le_refl _) _, ?_⟩
        have h1 := HOB.out.set (putN_len v n k) (n - 1 - k) (v / 2 ^ (8 * k) % 256)
        have e : v / 2 ^ (8 * k) % 256 = byteAt v n (n - 1 - k) := by unfold byteAt; rw [show n - 1 - (n - 1 - k) = k by omega]
        have h2 := putN_set v n k hlt
        rw [← e] at h2
        rw [h2] at h1
        exact h1
      case measure => simp [intOf]; omega
    · have hkn : k = n := by omega
      subst hkn
      have hs := hob.string (putN_len v k k)
      clear hob
      go_wp2
      go_ret2
      exact ⟨rfl, hb⟩

set_option maxRecDepth 100000 in
/-- what is too much for its bytes -/
theorem put_no (v n : Int) (w : World) (h : n < 1 ∨ 7 < n ∨ v < 0) :
    Calls Tryz.prog 152 #[.int .i64 v, .int .i64 n] w fun e w' => e = .returned (.tuple #[.string ⟨#[]⟩, .int .i64 1]) ∧ w = w' := by
  by_cases h1 : n < 1
  · go_enter Tryz.func152, Tryz.ntmps152
    go_wp2
    go_ret2
    exact ⟨rfl, rfl⟩
  · by_cases h2 : 7 < n
    · go_enter Tryz.func152, Tryz.ntmps152
      go_wp2
      go_ret2
      exact ⟨rfl, rfl⟩
    · have h3 : v < 0 := by omega
      go_enter Tryz.func152, Tryz.ntmps152
      go_wp2
      go_ret2
      exact ⟨rfl, rfl⟩

set_option maxHeartbeats 800000 in
set_option maxRecDepth 100000 in
theorem get_any (s : ByteArray) (w : World) (h1 : 1 ≤ s.size) (h7 : s.size ≤ 7) :
    Calls Tryz.prog 178 #[.string s] w fun e w' => e = .returned (.tuple #[.int .i64 (getN s.data.toList), .int .i64 0]) ∧ w = w' := by
  go_enter Tryz.func178, Tryz.ntmps178
  go_wp2
  go_loop [4, 16] (fun v i => ∃ (k : Nat) (a : Int), k ≤ s.size ∧ i = .int .i64 k ∧ v = .int .i64 a ∧ a = getN (s.data.toList.take k)) (fun _ i => s.size - (intOf i).toNat)
  case atStart => exact ⟨0, 0, Nat.zero_le _, rfl, rfl, rfl⟩
  case round =>
    obtain ⟨k, a, hk, rfl, rfl, ha⟩ := hrel
    have hbd := getN_bound (s.data.toList.take k)
    rw [← ha] at hbd
    have HA := Lib.hid ha; clear ha
    by_cases hlt : k < s.size
    · have h6 : a < 281474976710656 := by
        have h2 := hbd.2
        have : (s.data.toList.take k).length ≤ 6 := Nat.le_trans (List.length_take_le _ _) (by omega)
        have h3 : (256 : Int) ^ (s.data.toList.take k).length ≤ 256 ^ 6 := by
          have := Nat.pow_le_pow_right (show 0 < 256 by decide) this
          exact_mod_cast this
        omega
      have h0 := hbd.1
      clear hbd
      have HO := Lib.hid (or_shl8 a s[k].toNat h0 h6 (by omega) (by have := UInt8.toNat_lt s[k]; omega))
      have HT := Lib.hid (getN_take hlt)
      go_wp2
      go_round
      case rel => exact ⟨k + 1, _, by omega, by go_num, rfl, by rw [HO.out, HT.out, HA.out]⟩
      case measure => simp [intOf]; omega
    · have HE := Lib.hid (show s.data.toList.take k = s.data.toList from List.take_of_length_le (by simp; omega))
      go_wp2
      go_ret2
      exact ⟨ret_int_ok (HA.out.trans (congrArg getN HE.out)), rfl⟩
end Go.Proofs.YtkpikmfijcffiaaGreat
end
