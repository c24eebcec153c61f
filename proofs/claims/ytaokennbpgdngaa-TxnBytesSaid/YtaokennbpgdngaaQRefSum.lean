/- bedrockref1.Sum. By an AI agent. -/
import Derived.Test.YtaokennbpgdngaaCore11

set_option linter.unusedVariables false
set_option linter.unusedSimpArgs false
namespace Go.Proofs.Ytaokennbpgdngaa
open Go.RowKit

theorem xor_halfI (y : Nat) (h : y < 4294967296) : bits .xor .i64 ((y : Int) / 2) 2197175160 = ((y / 2 ^^^ 2197175160 : Nat) : Int) := by
  rw [show ((y : Int) / 2) = ((y / 2 : Nat) : Int) by omega]
  exact xor_i64 (y / 2) 2197175160 (by omega) (by decide)
theorem xor_halfT (y : Nat) (h : y < 4294967296) : bits .xor .i64 ((y : Int).tdiv 2) 2197175160 = ((y / 2 ^^^ 2197175160 : Nat) : Int) := by
  rw [Int.tdiv_eq_ediv_of_nonneg (by omega)]
  exact xor_halfI y h
theorem half_i64 (y : Nat) : (y : Int).tdiv 2 = ((y / 2 : Nat) : Int) := by rw [Int.tdiv_eq_ediv_of_nonneg (by omega)]; omega
theorem odd_i64 (y : Nat) : (y : Int).tmod 2 = ((y % 2 : Nat) : Int) := by rw [Int.tmod_eq_emod_of_nonneg (by omega)]; omega
theorem sum_endI (x : Nat) (h : x < 4294967296) : bits .xor .i64 (x : Int) 4294967295 = ((x ^^^ 4294967295 : Nat) : Int) := xor_i64 x 4294967295 h (by decide)
set_option maxHeartbeats 800000 in
set_option maxRecDepth 100000 in
theorem refSum_any (s : ByteArray) (w : World) (hs : s.size ≤ 140737488351232) :
    Calls Try.prog 57 #[.string s] w fun e w' => e = .returned (.int .i64 (sumL s.data.toList)) ∧ w = w' := by
  go_enter Try.func57, Try.ntmps57
  go_wp2
  go_loop [3, 4] (fun x i => ∃ k : Nat, k ≤ s.size ∧ i = .int .i64 k ∧ x = .int .i64 (crcL (s.data.toList.take k) : Nat)) (fun _ i => s.size - (intOf i).toNat)
  case atStart => exact ⟨0, Nat.zero_le _, rfl, rfl⟩
  case round =>
    obtain ⟨k, hk, rfl, rfl⟩ := hrel
    have hc := crcL_lt (s.data.toList.take k)
    by_cases hlt : k < s.size
    · have hT := Lib.hid (crcL_take hlt)
      have hb := byte32 s[k]
      have hx := xor_i64 (crcL (s.data.toList.take k)) s[k].toNat hc hb
      have hx2 := xor32 hc hb
      have hb8 := UInt8.toNat_lt s[k]
      generalize crcL (s.data.toList.take k) = c at *
      have HB := Lib.hid (crcN_full c s[k])
      clear hb
      generalize c ^^^ s[k].toNat = c0 at *
      go_wp2
      go_loop [3, 5] (fun x i => ∃ j : Nat, j ≤ 8 ∧ i = .int .i64 j ∧ x = .int .i64 (crcN j c0 : Nat)) (fun _ i => 8 - (intOf i).toNat)
      case atStart => exact ⟨0, Nat.zero_le _, rfl, rfl⟩
      case round =>
        obtain ⟨j, hj, rfl, rfl⟩ := hrel
        have hcj := crcN_lt hx2 j
        by_cases hj8 : j < 8
        · have hS : crcN (j + 1) c0 = crcStep (crcN j c0) := rfl
          have HS := Lib.hid hS
          clear hS
          generalize crcN j c0 = y at *
          have ho := odd_i64 y
          have hd := half_i64 y
          by_cases hodd : y % 2 = 1
          · rw [hodd] at ho
            have hxo := xor_halfI y hcj
            have hxo2 := xor_halfT y hcj
            have HE := Lib.hid (crc_odd hodd)
            clear hodd
            go_wp2
            go_round
            case rel => exact ⟨j + 1, by omega, by go_num, by rw [HS.out, HE.out]⟩
            case measure => simp [intOf]; omega
          · have he : y % 2 = 0 := by omega
            rw [he] at ho
            have HE := Lib.hid (crc_even he)
            clear hodd he
            go_wp2
            go_round
            case rel => exact ⟨j + 1, by omega, by go_num, by rw [HS.out, HE.out]; exact congrArg (Value.int .i64) (by omega)⟩
            case measure => simp [intOf]; omega
        · have e8 : j = 8 := by omega
          subst e8
          have HE := Lib.hid (hT.out.trans HB.out.symm)
          generalize crcN 8 c0 = y at *
          go_wp2
          go_round
          case rel => exact ⟨k + 1, by omega, by go_num, by rw [HE.out]⟩
          case measure => simp [intOf]; omega
    · have e : s.data.toList.take k = s.data.toList := List.take_of_length_le (by simp; omega)
      have he := sum_endI _ hc
      have hr := sumL_lt s.data.toList
      rw [e] at hc he ⊢
      change bits .xor .i64 _ _ = ((sumL s.data.toList : Nat) : Int) at he
      go_wp2
      go_ret
      exact ⟨ret_int rfl, rfl⟩
end Go.Proofs.Ytaokennbpgdngaa
