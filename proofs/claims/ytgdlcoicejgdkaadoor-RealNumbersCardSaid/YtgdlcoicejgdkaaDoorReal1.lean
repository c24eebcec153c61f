/- real.Put, real.Compare, real.Max, real.Ratio. By an AI agent. -/
import Derived.Test.YtgdlcoicejgdkaaDoorRaw0
import Derived.Test.YtgdlcoicejgdkaaDoorFloat
import Derived.Test.YtgdlcoicejgdkaaDoorShelf
import Derived.WalkLawsBesides
namespace Go.Proofs.YtgdlcoicejgdkaaDoor
open Go.RowKit

theorem xor_max (x : Nat) (hx : x < two64) : bits .xor .u64 IntKind.u64.max (x : Int) = ((two64 - 1 - x : Nat) : Int) := by
  unfold two64 at *
  rw [show IntKind.u64.max = ((18446744073709551615 : Nat) : Int) from rfl, bits_xor_u64_nat _ _ (by decide) hx]
  have e1 : (BitVec.allOnes 64 ^^^ BitVec.ofNat 64 x).toNat = 18446744073709551615 ^^^ x := by
    rw [BitVec.toNat_xor, BitVec.toNat_allOnes, BitVec.toNat_ofNat, Nat.mod_eq_of_lt (by omega)]
  rw [← e1, BitVec.allOnes_xor, BitVec.toNat_not, BitVec.toNat_ofNat, Nat.mod_eq_of_lt (by omega)]
theorem or_top (x : Nat) (hx : x < two63) : bits .or .u64 (x : Int) 9223372036854775808 = ((x + two63 : Nat) : Int) := by
  unfold two63 at *
  rw [show (9223372036854775808 : Int) = ((9223372036854775808 : Nat) : Int) from rfl, u64_or_nat _ _ (by omega) (by decide), Nat.or_comm]
  have h : 9223372036854775808 + x = 9223372036854775808 ||| x := Nat.two_pow_add_eq_or_of_lt (i := 63) (b := x) (by omega) 1
  congr 1
  omega
theorem run_bits (x : Nat) (w : World) : (callFunc 102 #[.float .f64 x]).run Tryd.prog w = .ok (.value (.int .u64 x)) w := by
  rw [run_callFunc_extern Tryd.func102 (by kernel_rfl) (by kernel_rfl) (by kernel_rfl) (e := Extern.MathFloatBits.float64bits) (by kernel_rfl)]
  rfl
theorem run_frombits (n : Int) (w : World) : (callFunc 80 #[.int .u64 n]).run Tryd.prog w = .ok (.value (.float .f64 n.toNat)) w := by
  rw [run_callFunc_extern Tryd.func80 (by kernel_rfl) (by kernel_rfl) (by kernel_rfl) (e := Extern.MathFloatBits.float64frombits) (by kernel_rfl)]
  rfl

theorem signbit_any (x : Nat) (w : World) (hx : x < two64) : Calls Tryd.prog 101 #[.float .f64 x] w fun e w' => e = .returned (.bool (decide (two63 ≤ x))) ∧ w = w' := by
  have hrb := run_bits x
  by_cases h : two63 ≤ x
  · have HD := Lib.hid (decide_eq_true h)
    have hw : wrap64 (x : Int) < 0 := by unfold wrap64; unfold two63 two64 at *; omega
    clear h
    go_enter Tryd.func101, Tryd.ntmps101
    go_wp2_with fail
    go_ret
    exact ⟨ret_bool HD.out.symm, rfl⟩
  · have HD := Lib.hid (decide_eq_false h)
    have hw : ¬ wrap64 (x : Int) < 0 := by unfold wrap64; unfold two63 two64 at *; omega
    clear h
    go_enter Tryd.func101, Tryd.ntmps101
    go_wp2_with fail
    go_ret
    exact ⟨ret_bool HD.out.symm, rfl⟩

set_option maxHeartbeats 1600000 in
set_option maxRecDepth 100000 in
theorem rput_any (x : Nat) (w : World) (hx : x < two64) : Calls Tryd.prog 48 #[.float .f64 x] w fun e w' => e = .returned (.string (strOfNums (putN (fkey x) 8 8))) ∧ Bl w w' := by
  obtain ⟨i0, hi, hz0, hz1, hz2⟩ := info_parts info_byte
  have hrb := run_bits x
  have hn : (FloatKind.f64.format.order x x != some .eq) = nanB x := self_nan hx
  cases hx0 : nanB x
  · rw [hx0] at hn
    have HK := Lib.hid (fkey_num hx0)
    by_cases h : two63 ≤ x
    · have HK2 := Lib.hid (HK.out.trans (if_pos h))
      go_enter Tryd.func48, Tryd.ntmps48
      go_wp2_with fail
      refine (signbit_any x _ hx).mono ?_
      rintro e w1 ⟨rfl, rfl⟩
      rw [decide_eq_true h]
      go_wp2_with (at_make; refine wpList_make_full _ rfl _ _ 51 rfl w.heap.size 5 i0 (.int .u8 0) 1 Tryd.underlying51 hi hz0 hz1 .i64 .i64 _ _ 8 rfl rfl rfl rfl ?b1 ?b2 ?b3 ?_)
      case b1 => rw [hz2]; omega
      case b2 => unfold maxLen; omega
      case b3 => exact Nat.le_refl _
      intro w1 hown hgrow
      have hb : Bl w w1 := Below.grown (Bl.refl w) hgrow (Nat.le_refl _) (by simp)
      have hob : OB w.heap.size w1 (.slice (some ⟨w.heap.size, 0, none⟩) 8 8) (putN (fkey x) 8 0) := by
        rw [OB, putN_len, putN_zero]
        have e : (madeCells #[Value.int .u8 0] 8).toList = List.map (Value.int .u8) (List.replicate 8 0) := by
          rw [List.map_replicate]
          exact toList_madeCells_one _ _
        rw [← e]
        exact hown
      clear hown hgrow
      go_wp2_with fail
      go_loopw [22] (fun i wr => ∃ k : Nat, k ≤ 8 ∧ i = .int .i64 k ∧ Bl w wr ∧ OB w.heap.size wr (.slice (some ⟨w.heap.size, 0, none⟩) 8 8) (putN (fkey x) 8 k)) (fun i _ => 8 - (intOf i).toNat)
      case atStart => exact ⟨0, Nat.zero_le _, rfl, hb, hob⟩
      case round =>
        clear hb hob
        obtain ⟨k, hk, rfl, hb, hob⟩ := hrel
        by_cases hlt : k < 8
        · have hc := hob.cell (putN_len (fkey x) 8 k) (8 - 1 - k) (by omega)
          have hfz := hob.frozen (putN_len (fkey x) 8 k) (8 - 1 - k)
          generalize nth (putN (fkey x) 8 k) (8 - 1 - k) = old at hc
          have e8 : 8 - 1 - k = 7 - k := by omega
          rw [e8] at hc hfz
          have HOB := Lib.hid hob; clear hob
          clear e8
          go_wp2_with fail
          go_roundw
          case rel =>
            refine ⟨k + 1, by omega, by go_num, hb.setCell (Nat.le_refl _) _, ?_⟩
            have h1 := HOB.out.set (putN_len (fkey x) 8 k) (8 - 1 - k) (byteAt (fkey x) 8 (8 - 1 - k))
            rw [putN_set (fkey x) 8 k hlt] at h1
            have e : byteAt (fkey x) 8 (8 - 1 - k) = (fkey x : Int) / 2 ^ (8 * k) % 256 := by unfold byteAt; rw [show 8 - 1 - (8 - 1 - k) = k by omega]
            rw [e, show 8 - 1 - k = 7 - k by omega] at h1
            rw [xor_max x hx, ← HK2.out]
            exact h1
          case measure => simp [intOf]; omega
        · have hkn : k = 8 := by omega
          subst hkn
          have hs := hob.string (putN_len (fkey x) 8 8)
          clear hob
          go_wp2_with fail
          go_ret
          exact ⟨rfl, hb⟩
    · have HK2 := Lib.hid (HK.out.trans (if_neg h))
      go_enter Tryd.func48, Tryd.ntmps48
      go_wp2_with fail
      refine (signbit_any x _ hx).mono ?_
      rintro e w1 ⟨rfl, rfl⟩
      rw [decide_eq_false h]
      go_wp2_with (at_make; refine wpList_make_full _ rfl _ _ 51 rfl w.heap.size 5 i0 (.int .u8 0) 1 Tryd.underlying51 hi hz0 hz1 .i64 .i64 _ _ 8 rfl rfl rfl rfl ?b1 ?b2 ?b3 ?_)
      case b1 => rw [hz2]; omega
      case b2 => unfold maxLen; omega
      case b3 => exact Nat.le_refl _
      intro w1 hown hgrow
      have hb : Bl w w1 := Below.grown (Bl.refl w) hgrow (Nat.le_refl _) (by simp)
      have hob : OB w.heap.size w1 (.slice (some ⟨w.heap.size, 0, none⟩) 8 8) (putN (fkey x) 8 0) := by
        rw [OB, putN_len, putN_zero]
        have e : (madeCells #[Value.int .u8 0] 8).toList = List.map (Value.int .u8) (List.replicate 8 0) := by
          rw [List.map_replicate]
          exact toList_madeCells_one _ _
        rw [← e]
        exact hown
      clear hown hgrow
      go_wp2_with fail
      go_loopw [22] (fun i wr => ∃ k : Nat, k ≤ 8 ∧ i = .int .i64 k ∧ Bl w wr ∧ OB w.heap.size wr (.slice (some ⟨w.heap.size, 0, none⟩) 8 8) (putN (fkey x) 8 k)) (fun i _ => 8 - (intOf i).toNat)
      case atStart => exact ⟨0, Nat.zero_le _, rfl, hb, hob⟩
      case round =>
        clear hb hob
        obtain ⟨k, hk, rfl, hb, hob⟩ := hrel
        by_cases hlt : k < 8
        · have hc := hob.cell (putN_len (fkey x) 8 k) (8 - 1 - k) (by omega)
          have hfz := hob.frozen (putN_len (fkey x) 8 k) (8 - 1 - k)
          generalize nth (putN (fkey x) 8 k) (8 - 1 - k) = old at hc
          have e8 : 8 - 1 - k = 7 - k := by omega
          rw [e8] at hc hfz
          have HOB := Lib.hid hob; clear hob
          clear e8
          go_wp2_with fail
          go_roundw
          case rel =>
            refine ⟨k + 1, by omega, by go_num, hb.setCell (Nat.le_refl _) _, ?_⟩
            have h1 := HOB.out.set (putN_len (fkey x) 8 k) (8 - 1 - k) (byteAt (fkey x) 8 (8 - 1 - k))
            rw [putN_set (fkey x) 8 k hlt] at h1
            have e : byteAt (fkey x) 8 (8 - 1 - k) = (fkey x : Int) / 2 ^ (8 * k) % 256 := by unfold byteAt; rw [show 8 - 1 - (8 - 1 - k) = k by omega]
            rw [e, show 8 - 1 - k = 7 - k by omega] at h1
            rw [or_top x (by omega), ← HK2.out]
            exact h1
          case measure => simp [intOf]; omega
        · have hkn : k = 8 := by omega
          subst hkn
          have hs := hob.string (putN_len (fkey x) 8 8)
          clear hob
          go_wp2_with fail
          go_ret
          exact ⟨rfl, hb⟩
  · rw [hx0] at hn
    have HK2 := Lib.hid (show fkey x = 0 by simp [fkey, hx0])
    · go_enter Tryd.func48, Tryd.ntmps48
      go_wp2_with (at_make; refine wpList_make_full _ rfl _ _ 51 rfl w.heap.size 5 i0 (.int .u8 0) 1 Tryd.underlying51 hi hz0 hz1 .i64 .i64 _ _ 8 rfl rfl rfl rfl ?b1 ?b2 ?b3 ?_)
      case b1 => rw [hz2]; omega
      case b2 => unfold maxLen; omega
      case b3 => exact Nat.le_refl _
      intro w1 hown hgrow
      have hb : Bl w w1 := Below.grown (Bl.refl w) hgrow (Nat.le_refl _) (by simp)
      have hob : OB w.heap.size w1 (.slice (some ⟨w.heap.size, 0, none⟩) 8 8) (putN (fkey x) 8 0) := by
        rw [OB, putN_len, putN_zero]
        have e : (madeCells #[Value.int .u8 0] 8).toList = List.map (Value.int .u8) (List.replicate 8 0) := by
          rw [List.map_replicate]
          exact toList_madeCells_one _ _
        rw [← e]
        exact hown
      clear hown hgrow
      go_wp2_with fail
      go_loopw [22] (fun i wr => ∃ k : Nat, k ≤ 8 ∧ i = .int .i64 k ∧ Bl w wr ∧ OB w.heap.size wr (.slice (some ⟨w.heap.size, 0, none⟩) 8 8) (putN (fkey x) 8 k)) (fun i _ => 8 - (intOf i).toNat)
      case atStart => exact ⟨0, Nat.zero_le _, rfl, hb, hob⟩
      case round =>
        clear hb hob
        obtain ⟨k, hk, rfl, hb, hob⟩ := hrel
        by_cases hlt : k < 8
        · have hc := hob.cell (putN_len (fkey x) 8 k) (8 - 1 - k) (by omega)
          have hfz := hob.frozen (putN_len (fkey x) 8 k) (8 - 1 - k)
          generalize nth (putN (fkey x) 8 k) (8 - 1 - k) = old at hc
          have e8 : 8 - 1 - k = 7 - k := by omega
          rw [e8] at hc hfz
          have HOB := Lib.hid hob; clear hob
          clear e8
          go_wp2_with fail
          go_roundw
          case rel =>
            refine ⟨k + 1, by omega, by go_num, hb.setCell (Nat.le_refl _) _, ?_⟩
            have h1 := HOB.out.set (putN_len (fkey x) 8 k) (8 - 1 - k) (byteAt (fkey x) 8 (8 - 1 - k))
            rw [putN_set (fkey x) 8 k hlt] at h1
            have e : byteAt (fkey x) 8 (8 - 1 - k) = (fkey x : Int) / 2 ^ (8 * k) % 256 := by unfold byteAt; rw [show 8 - 1 - (8 - 1 - k) = k by omega]
            rw [e, show 8 - 1 - k = 7 - k by omega] at h1
            have e0 : ((fkey x : Nat) : Int) / 2 ^ (8 * k) % 256 = 0 := by rw [HK2.out]; simp
            rw [e0] at h1
            exact h1
          case measure => simp [intOf]; omega
        · have hkn : k = 8 := by omega
          subst hkn
          have hs := hob.string (putN_len (fkey x) 8 8)
          clear hob
          go_wp2_with fail
          go_ret
          exact ⟨rfl, hb⟩

/-- -1, 0, 1 -/
def cmpN (a b : Nat) : Int := if a < b then -1 else if b < a then 1 else 0

theorem cmp_bytes (n : Nat) : ∀ (l m : List UInt8) (a b : Nat), l.length = n → m.length = n → (∀ k, k < n → (l.drop k).head?.map (·.toNat) = some (a / 256 ^ (n - 1 - k) % 256)) → (∀ k, k < n → (m.drop k).head?.map (·.toNat) = some (b / 256 ^ (n - 1 - k) % 256)) →
    Lib.compareBytes l m = cmpN (a % 256 ^ n) (b % 256 ^ n) := by
  induction n with
  | zero =>
    intro l m a b hl hm _ _
    rw [List.eq_nil_of_length_eq_zero hl, List.eq_nil_of_length_eq_zero hm]
    simp [Lib.compareBytes, cmpN, Nat.mod_one]
  | succ n ih =>
    intro l m a b hl hm h1 h2
    cases l with
    | nil => simp at hl
    | cons x l =>
      cases m with
      | nil => simp at hm
      | cons y m =>
        have e1 := h1 0 (by omega)
        have e2 := h2 0 (by omega)
        simp at e1 e2
        have ih' := ih l m a b (by simpa using hl) (by simpa using hm) (fun k hk => by have := h1 (k + 1) (by omega); simpa [show n - (k + 1) = n - 1 - k by omega] using this) (fun k hk => by have := h2 (k + 1) (by omega); simpa [show n - (k + 1) = n - 1 - k by omega] using this)
        have m1 : a % 256 ^ (n + 1) = 256 ^ n * (a / 256 ^ n % 256) + a % 256 ^ n := by rw [Nat.pow_succ, Nat.mod_mul, Nat.add_comm]
        have m2 : b % 256 ^ (n + 1) = 256 ^ n * (b / 256 ^ n % 256) + b % 256 ^ n := by rw [Nat.pow_succ, Nat.mod_mul, Nat.add_comm]
        have l1 : a % 256 ^ n < 256 ^ n := Nat.mod_lt _ (Nat.pow_pos (by decide))
        have l2 : b % 256 ^ n < 256 ^ n := Nat.mod_lt _ (Nat.pow_pos (by decide))
        rw [← e1] at m1
        rw [← e2] at m2
        simp only [Lib.compareBytes, ih']
        rw [m1, m2]
        generalize 256 ^ n = q at *
        rcases Nat.lt_trichotomy x.toNat y.toNat with h | h | h
        · rw [if_pos (UInt8.lt_iff_toNat_lt.2 h)]
          have : q * x.toNat + q ≤ q * y.toNat := by rw [← Nat.mul_succ]; exact Nat.mul_le_mul_left _ h
          unfold cmpN
          rw [if_pos (by omega)]
        · rw [if_neg (by rw [UInt8.lt_iff_toNat_lt]; omega), if_neg (by rw [UInt8.lt_iff_toNat_lt]; omega), h]
          unfold cmpN
          split <;> split <;> first | rfl | (split <;> first | rfl | omega) | omega
        · rw [if_neg (by rw [UInt8.lt_iff_toNat_lt]; omega), if_pos (UInt8.lt_iff_toNat_lt.2 h)]
          have : q * y.toNat + q ≤ q * x.toNat := by rw [← Nat.mul_succ]; exact Nat.mul_le_mul_left _ h
          unfold cmpN
          rw [if_neg (by omega), if_pos (by omega)]
end Go.Proofs.YtgdlcoicejgdkaaDoor
