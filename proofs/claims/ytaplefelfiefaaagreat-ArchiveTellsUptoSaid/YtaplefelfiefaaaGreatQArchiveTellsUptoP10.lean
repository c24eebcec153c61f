import Derived.Test.YtaplefelfiefaaaGreatQArchiveTellsUptoP1
import Derived.Test.YtaplefelfiefaaaGreatQArchiveTellsUptoP6
import Derived.Test.YtaplefelfiefaaaGreatQArchiveTellsUptoP4
import Derived.Laws.MathBits

/- math.Float64frombits. By an AI agent. -/
section
set_option linter.unusedVariables false
namespace Go.Proofs.YtaplefelfiefaaaGreat
open Go.RowKit

theorem run_frombits (n : Int) (w : World) : (callFunc 181 #[.int .u64 n]).run Tryz.prog w = .ok (.value (.float .f64 n.toNat)) w := by
  rw [run_callFunc_extern Tryz.func181 (by kernel_rfl) (by kernel_rfl) (by kernel_rfl) (e := Extern.MathFloatBits.float64frombits) (by kernel_rfl)]
  rfl
end Go.Proofs.YtaplefelfiefaaaGreat
end

/- math.NaN. By an AI agent. -/
section
namespace Go.Proofs.YtaplefelfiefaaaGreat
open Go.RowKit

theorem nan_is (w : World) : Calls Tryz.prog 180 #[] w fun e w' => e = .returned (.float .f64 nanW) ∧ w = w' := by
  have hrb := run_frombits
  go_enter Tryz.func180, Tryz.ntmps180
  go_wp2_with fail
  go_ret
  exact ⟨rfl, rfl⟩
end Go.Proofs.YtaplefelfiefaaaGreat
end

/- real.Get. By an AI agent. -/
section
namespace Go.Proofs.YtaplefelfiefaaaGreat
open Go.RowKit

theorem rget_no (s : ByteArray) (w : World) (hs : s.size ≠ 8) : Calls Tryz.prog 210 #[.string s] w fun e w' => e = .returned (.tuple #[.float .f64 0, .int .i64 4]) ∧ w = w' := by
  go_enter Tryz.func210, Tryz.ntmps210
  go_wp2_with fail
  go_ret2
  exact ⟨rfl, rfl⟩

theorem selfN {x : Nat} (hx : x < two64) : (FloatKind.f64.format.order x x != some .eq) = nanB x := self_nan hx
theorem back_hi {v : Nat} (hv : v < two64) (k : two63 ≤ v) : ∃ f : Nat, bits .andNot .u64 (v : Int) 9223372036854775808 = (f : Int) ∧ backW v = f ∧ (FloatKind.f64.format.order f f != some .eq) = nanB f := by
  have h : backW v = v - two63 := by unfold backW; rw [if_pos k]
  exact ⟨backW v, by rw [h]; exact andNot_top v hv k, rfl, selfN (backW_lt hv)⟩
theorem back_lo {v : Nat} (hv : v < two64) (k : ¬ two63 ≤ v) : ∃ f : Nat, bits .xor .u64 IntKind.u64.max (v : Int) = (f : Int) ∧ backW v = f ∧ (FloatKind.f64.format.order f f != some .eq) = nanB f := by
  have h : backW v = two64 - 1 - v := by unfold backW; rw [if_neg k]
  exact ⟨backW v, by rw [h]; exact xor_max v hv, rfl, selfN (backW_lt hv)⟩

set_option maxHeartbeats 1600000 in
set_option maxRecDepth 100000 in
theorem rget_any (s : ByteArray) (w : World) (hs : s.size = 8) :
    Calls Tryz.prog 210 #[.string s] w fun e w' => e = .returned (.tuple #[.float .f64 (getR (getN s.data.toList).toNat).1, .int .i64 (getR (getN s.data.toList).toNat).2]) ∧ w = w' := by
  have hfb := run_frombits
  go_enter Tryz.func210, Tryz.ntmps210
  go_wp2_with fail
  go_loop [4, 10] (fun v i => ∃ (k : Nat) (u : Int), k ≤ 8 ∧ i = .int .i64 k ∧ v = .int .u64 u ∧ u = getN (s.data.toList.take k)) (fun _ i => 8 - (intOf i).toNat)
  case atStart => exact ⟨0, 0, Nat.zero_le _, rfl, rfl, rfl⟩
  case round =>
    obtain ⟨k, u, hk, rfl, rfl, ha⟩ := hrel
    have hbd := getN_bound (s.data.toList.take k)
    rw [← ha] at hbd
    have HA := Lib.hid ha; clear ha
    by_cases hlt : k < 8
    · have hlt2 : k < s.size := by omega
      have h6 : u * 256 + 255 < 18446744073709551616 := by
        have h2 := hbd.2
        have : (s.data.toList.take k).length ≤ 7 := Nat.le_trans (List.length_take_le _ _) (by omega)
        have h3 : (256 : Int) ^ (s.data.toList.take k).length ≤ 256 ^ 7 := by
          have := Nat.pow_le_pow_right (show 0 < 256 by decide) this
          exact_mod_cast this
        omega
      have h0 := hbd.1
      clear hbd
      have HO := Lib.hid (or_u8 u s[k].toNat h0 h6 (by omega) (by have := UInt8.toNat_lt s[k]; omega))
      have HT := Lib.hid (getN_take hlt2)
      go_wp2
      go_round
      case rel => exact ⟨k + 1, _, by omega, by go_num, rfl, by rw [wraps_u64' _ (by omega) (by have := UInt8.toNat_lt s[k]; omega), HO.out, HT.out, HA.out]⟩
      case measure => simp [intOf]; omega
    · have HE := Lib.hid (show s.data.toList.take k = s.data.toList from List.take_of_length_le (by simp; omega))
      rw [HE.out] at HA
      clear HE
      have hu : u < 18446744073709551616 := by
        have h2 := hbd.2
        have h4 : (s.data.toList.take k).length ≤ 8 := Nat.le_trans (List.length_take_le _ _) (by omega)
        have h3 : (256 : Int) ^ (s.data.toList.take k).length ≤ 256 ^ 8 := by
          have := Nat.pow_le_pow_right (show 0 < 256 by decide) h4
          exact_mod_cast this
        omega
      obtain ⟨v, rfl⟩ := Int.eq_ofNat_of_zero_le hbd.1
      have hv : v < two64 := by unfold two64; omega
      clear hbd hu
      have EV := Lib.hid (show (getN s.data.toList).toNat = v by rw [← HA.out]; simp)
      clear HA
      by_cases h0 : v = 0
      · subst h0
        go_wp2_with fail
        refine (nan_is _).mono ?_
        rintro e w1 ⟨rfl, rfl⟩
        go_wp2_with fail
        go_ret2
        exact ⟨by rw [EV.out]; rfl, rfl⟩
      · have q0 : ((v : Int) == 0) = false := by simpa using h0
        have ha := and_top v hv
        by_cases k1 : two63 ≤ v
        · rw [if_pos k1] at ha
          obtain ⟨f, hn, hB0, hs⟩ := back_hi hv k1
          have hB := Lib.hid hB0
          have HV := Lib.hid h0
          clear h0 k1 hB0
          cases hf : nanB f
          · rw [hf] at hs
            go_wp2_with fail
            go_ret2
            exact ⟨by rw [EV.out]; unfold getR; rw [if_neg HV.out, hB.out, hf]; rfl, rfl⟩
          · rw [hf] at hs
            go_wp2_with fail
            go_ret2
            exact ⟨by rw [EV.out]; unfold getR; rw [if_neg HV.out, hB.out, hf]; rfl, rfl⟩
        · rw [if_neg k1] at ha
          have hsg : IntKind.u64.signed = false := rfl
          obtain ⟨f, hn, hB0, hs⟩ := back_lo hv k1
          have hB := Lib.hid hB0
          have HV := Lib.hid h0
          clear h0 k1 hB0
          cases hf : nanB f
          · rw [hf] at hs
            go_wp2_with fail
            go_ret2
            exact ⟨by rw [EV.out]; unfold getR; rw [if_neg HV.out, hB.out, hf]; rfl, rfl⟩
          · rw [hf] at hs
            go_wp2_with fail
            go_ret2
            exact ⟨by rw [EV.out]; unfold getR; rw [if_neg HV.out, hB.out, hf]; rfl, rfl⟩
end Go.Proofs.YtaplefelfiefaaaGreat
end
