import Derived.Test.YtfmabjoindlfeaaGreatQTxnTellsUptoP1
import Derived.Test.YtfmabjoindlfeaaGreatQTxnTellsUptoP17
import Derived.Test.YtfmabjoindlfeaaGreatQTxnTellsUptoP21
import Derived.Test.YtfmabjoindlfeaaGreatQTxnTellsUptoP16

/- The check sum of bytes: plain definition and laws. No program is named here. By an AI agent. -/
section
namespace Go.Proofs.YtfmabjoindlfeaaGreat
open Go.RowKit

def crcStep (x : Nat) : Nat := if x % 2 = 1 then (x / 2) ^^^ 2197175160 else x / 2
def crcN : Nat → Nat → Nat
  | 0, x => x
  | k + 1, x => crcStep (crcN k x)
def crcByte (x : Nat) (b : UInt8) : Nat := crcN 8 (x ^^^ b.toNat)
def crcL (l : List UInt8) : Nat := l.foldl crcByte 4294967295
/-- the check sum of bytes -/
def sumL (l : List UInt8) : Nat := crcL l ^^^ 4294967295

theorem xor32 {a b : Nat} (ha : a < 4294967296) (hb : b < 4294967296) : a ^^^ b < 4294967296 := Nat.xor_lt_two_pow (n := 32) ha hb
theorem byte32 (b : UInt8) : b.toNat < 4294967296 := Nat.lt_of_lt_of_le (UInt8.toNat_lt b) (by decide)
theorem crcStep_lt {x : Nat} (h : x < 4294967296) : crcStep x < 4294967296 := by
  unfold crcStep
  split
  · exact xor32 (by omega) (by decide)
  · omega
theorem crcN_lt {x : Nat} (h : x < 4294967296) : ∀ k, crcN k x < 4294967296
  | 0 => h
  | k + 1 => crcStep_lt (crcN_lt h k)
theorem crcByte_lt {x : Nat} (h : x < 4294967296) (b : UInt8) : crcByte x b < 4294967296 := crcN_lt (xor32 h (byte32 b)) 8
theorem foldl_crc_lt (l : List UInt8) : ∀ x, x < 4294967296 → l.foldl crcByte x < 4294967296 := by
  induction l with
  | nil => intro x h; exact h
  | cons b l ih => intro x h; exact ih _ (crcByte_lt h b)
theorem crcL_lt (l : List UInt8) : crcL l < 4294967296 := foldl_crc_lt l _ (by decide)
theorem sumL_lt (l : List UInt8) : sumL l < 4294967296 := xor32 (crcL_lt l) (by decide)
theorem crcL_snoc (l : List UInt8) (b : UInt8) : crcL (l ++ [b]) = crcByte (crcL l) b := by simp [crcL]
theorem crcL_take {s : ByteArray} {k : Nat} (h : k < s.size) : crcL (s.data.toList.take (k + 1)) = crcByte (crcL (s.data.toList.take k)) s[k] := by
  have h' : k < s.data.toList.length := by simpa using h
  rw [List.take_succ_eq_append_getElem h', crcL_snoc]
  rfl


/-! ### in the machine's words -/
theorem wraps_u32 (n : Int) (_h0 : 0 ≤ n) (h1 : n < 2 ^ 32) : IntKind.u32.wrap n = n := by rw [IntKind.wrap_u32]; omega
theorem bits_xor_nat (k : IntKind) (j : Nat) (hj : j ≤ k.bits) (hk : ∀ n : Int, 0 ≤ n → n < 2 ^ j → k.wrap n = n) (a b : Nat) (ha : a < 2 ^ j) (hb : b < 2 ^ j) : bits .xor k a b = ((a ^^^ b : Nat) : Int) := by
  have hp : 2 ^ j ≤ 2 ^ k.bits := Nat.pow_le_pow_right (by decide) hj
  have ha' : a % 2 ^ k.bits = a := Nat.mod_eq_of_lt (Nat.lt_of_lt_of_le ha hp)
  have hb' : b % 2 ^ k.bits = b := Nat.mod_eq_of_lt (Nat.lt_of_lt_of_le hb hp)
  simp only [bits, BitVec.ofInt_natCast, BitVec.toNat_xor, BitVec.toNat_ofNat, ha', hb']
  exact hk _ (Int.natCast_nonneg _) (by exact_mod_cast Nat.xor_lt_two_pow ha hb)
theorem xor_u32 (a b : Nat) (ha : a < 4294967296) (hb : b < 4294967296) : bits .xor .u32 (a : Int) (b : Int) = ((a ^^^ b : Nat) : Int) := bits_xor_nat .u32 32 (by decide) wraps_u32 a b ha hb
theorem odd_u32 (a : Nat) (ha : a < 4294967296) : bits .and .u32 (a : Int) 1 = ((a % 2 : Nat) : Int) := by
  have := bits_mask .u32 32 (by decide) wraps_u32 1 (by decide) (a : Int) (by omega) (by omega)
  rw [show ((2 : Int) ^ 1 - 1) = 1 by decide] at this
  rw [this]; omega
end Go.Proofs.YtfmabjoindlfeaaGreat
end

/- raw.Sum, proto.num, proto.Frame. By an AI agent. -/
section
set_option linter.unusedVariables false
set_option linter.unusedSimpArgs false
namespace Go.Proofs.YtfmabjoindlfeaaGreat
open Go.RowKit

theorem wrap_u32 (b : Nat) (h : b < 4294967296) : IntKind.u32.wrap (b : Int) = (b : Int) := by rw [IntKind.wrap_u32]; omega
theorem crcN_full (x : Nat) (b : UInt8) : crcN 8 (x ^^^ b.toNat) = crcByte x b := rfl
theorem crc_odd {x : Nat} (h : x % 2 = 1) : crcStep x = x / 2 ^^^ 2197175160 := by unfold crcStep; rw [if_pos h]
theorem crc_even {x : Nat} (h : x % 2 = 0) : crcStep x = x / 2 := by unfold crcStep; rw [if_neg (by omega)]
theorem sum_end (x : Nat) (h : x < 4294967296) : bits .xor .u32 (x : Int) 4294967295 = ((x ^^^ 4294967295 : Nat) : Int) := xor_u32 x 4294967295 h (by decide)

theorem xor_half (y : Nat) (h : y < 4294967296) : bits .xor .u32 ((y : Int) / 2) 2197175160 = ((y / 2 ^^^ 2197175160 : Nat) : Int) := by
  rw [show ((y : Int) / 2) = ((y / 2 : Nat) : Int) by omega]
  exact xor_u32 (y / 2) 2197175160 (by omega) (by decide)
theorem half_u32 (y : Nat) : (y : Int).fdiv (2 ^ min (Int.toNat 1) IntKind.u32.bits) = ((y / 2 : Nat) : Int) := by
  rw [show (2 : Int) ^ min (Int.toNat 1) IntKind.u32.bits = 2 by decide, Int.fdiv_eq_ediv_of_nonneg _ (by decide)]
  omega

set_option maxHeartbeats 800000 in
set_option maxRecDepth 100000 in
theorem sum_any (s : ByteArray) (w : World) (hs : s.size ≤ 140737488351232) :
    Calls Tryz.prog 30 #[.string s] w fun e w' => e = .returned (.int .i64 (sumL s.data.toList)) ∧ w = w' := by
  go_enter Tryz.func30, Tryz.ntmps30
  go_wp2
  go_loop [3, 8] (fun x i => ∃ k : Nat, k ≤ s.size ∧ i = .int .i64 k ∧ x = .int .u32 (crcL (s.data.toList.take k) : Nat)) (fun _ i => s.size - (intOf i).toNat)
  case atStart => exact ⟨0, Nat.zero_le _, rfl, rfl⟩
  case round =>
    obtain ⟨k, hk, rfl, rfl⟩ := hrel
    have hc := crcL_lt (s.data.toList.take k)
    by_cases hlt : k < s.size
    · have hT := Lib.hid (crcL_take hlt)
      have hb := byte32 s[k]
      have hx := xor_u32 (crcL (s.data.toList.take k)) s[k].toNat hc hb
      have hwb := wrap_u32 s[k].toNat hb
      generalize crcL (s.data.toList.take k) = c at *
      have hx2 := xor32 hc hb
      have HB := Lib.hid (crcN_full c s[k])
      clear hb
      generalize c ^^^ s[k].toNat = c0 at *
      go_wp2
      go_loop [3, 17] (fun x i => ∃ j : Nat, j ≤ 8 ∧ i = .int .i64 j ∧ x = .int .u32 (crcN j c0 : Nat)) (fun _ i => 8 - (intOf i).toNat)
      case atStart => exact ⟨0, Nat.zero_le _, rfl, rfl⟩
      case round =>
        obtain ⟨j, hj, rfl, rfl⟩ := hrel
        have hcj := crcN_lt hx2 j
        by_cases hj8 : j < 8
        · have hS : crcN (j + 1) c0 = crcStep (crcN j c0) := rfl
          have HS := Lib.hid hS
          clear hS
          generalize crcN j c0 = y at *
          have ho := odd_u32 y hcj
          have hd := half_u32 y
          by_cases hodd : y % 2 = 1
          · rw [hodd] at ho
            have hxo := xor_half y hcj
            have HE := Lib.hid (crc_odd hodd)
            clear hodd
            go_wp2
            go_round
            case rel => exact ⟨j + 1, by omega, by go_num, by rw [HS.out, HE.out]⟩
            case measure => simp [intOf]; omega
          · have he : y % 2 = 0 := by omega
            rw [he] at ho
            have HE := Lib.hid (crc_even he)
            clear hodd he
            go_wp2
            go_round
            case rel => exact ⟨j + 1, by omega, by go_num, by rw [HS.out, HE.out]; exact congrArg (Value.int .u32) (by omega)⟩
            case measure => simp [intOf]; omega
        · have e8 : j = 8 := by omega
          subst e8
          have HE := Lib.hid (hT.out.trans HB.out.symm)
          generalize crcN 8 c0 = y at *
          go_wp2
          go_round
          case rel => exact ⟨k + 1, by omega, by go_num, by rw [HE.out]⟩
          case measure => simp [intOf]; omega
    · have e : s.data.toList.take k = s.data.toList := List.take_of_length_le (by simp; omega)
      have he := sum_end _ hc
      have hr := sumL_lt s.data.toList
      rw [e] at hc he ⊢
      change bits .xor .u32 _ _ = ((sumL s.data.toList : Nat) : Int) at he
      generalize hq : sumL s.data.toList = r at he hr
      go_wp2
      go_ret
      exact ⟨rfl, rfl⟩
end Go.Proofs.YtfmabjoindlfeaaGreat
end

/- strings of bytes; strings.Clone. By an AI agent. -/
section
set_option linter.unusedVariables false
set_option linter.unusedSimpArgs false
namespace Go.Proofs.YtfmabjoindlfeaaGreat
open Go.RowKit

theorem cloneB_any (s : ByteArray) (w : World) (hs : s.size ≤ 140737488351232) : Calls Tryz.prog 140 #[.string s] w fun e w' => e = .returned (.string s) ∧ Bl w w' := by
  go_enter Tryz.func140, Tryz.ntmps140
  go_wp2_with fail
  refine (Tryz.stringslite_Clone s _ (by omega)).mono ?_
  rintro e w' ⟨rfl, hb⟩
  go_wp2_with fail
  go_ret
  exact ⟨rfl, hb⟩
/-- the string of these bytes -/
def strL (l : List UInt8) : ByteArray := ⟨l.toArray⟩
theorem strL_SB (l : List UInt8) : SB (strL l) l := rfl
theorem strL_size (l : List UInt8) : (strL l).size = l.length := (strL_SB l).size
theorem strL_of {s : ByteArray} {l : List UInt8} (h : SB s l) : s = strL l := SB.eq h (strL_SB l)
theorem strL_app (l m : List UInt8) : strL l ++ strL m = strL (l ++ m) := SB.eq ((strL_SB l).append (strL_SB m)) (strL_SB _)
theorem strL_nums (x : Int) (n : Nat) : strOfNums (putN x n n) = strL (numB x n) := SB.eq (strOfNums_list _) (strL_SB _)
theorem strL_ext (l : List UInt8) (a b : Nat) : (strL l).extract a b = strL ((l.drop a).take (b - a)) := by
  refine strL_of ?_
  rw [SB, Lib.extract_data, strL_SB]
theorem strL_take (l : List UInt8) (n : Nat) : (strL l).extract 0 n = strL (l.take n) := by
  rw [strL_ext, List.drop_zero, Nat.sub_zero]
theorem strL_drop (l : List UInt8) (n : Nat) : (strL l).extract n (strL l).size = strL (l.drop n) := by
  rw [strL_ext, strL_size, List.take_of_length_le (by rw [List.length_drop]; omega)]
theorem getL_any (l : List UInt8) (w : World) (h1 : 1 ≤ l.length) (h7 : l.length ≤ 7) :
    Calls Tryz.prog 183 #[.string (strL l)] w fun e w' => e = .returned (.tuple #[.int .i64 (getN l), .int .i64 0]) ∧ w = w' :=
  get_any (strL l) w (by rw [strL_size]; exact h1) (by rw [strL_size]; exact h7)
theorem strL_data (s : ByteArray) : strL s.data.toList = s := by unfold strL; simp
end Go.Proofs.YtfmabjoindlfeaaGreat
end
