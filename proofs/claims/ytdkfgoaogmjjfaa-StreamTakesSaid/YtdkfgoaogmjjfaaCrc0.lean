/- The check sum of bytes: plain definition and laws. No program is named here. By an AI agent. -/
import Derived.Test.YtdkfgoaogmjjfaaBase
namespace Go.Proofs.Ytdkfgoaogmjjfaa
open Go.RowKit

def crcStep (x : Nat) : Nat := if x % 2 = 1 then (x / 2) ^^^ 2197175160 else x / 2
def crcN : Nat → Nat → Nat
  | 0, x => x
  | k + 1, x => crcStep (crcN k x)
def crcByte (x : Nat) (b : UInt8) : Nat := crcN 8 (x ^^^ b.toNat)
def crcL (l : List UInt8) : Nat := l.foldl crcByte 4294967295
/-- the check sum of bytes -/
def sumL (l : List UInt8) : Nat := crcL l ^^^ 4294967295

theorem xor32 {a b : Nat} (ha : a < 4294967296) (hb : b < 4294967296) : a ^^^ b < 4294967296 := Nat.xor_lt_two_pow (n := 32) ha hb
theorem byte32 (b : UInt8) : b.toNat < 4294967296 := Nat.lt_of_lt_of_le (UInt8.toNat_lt b) (by decide)
theorem crcStep_lt {x : Nat} (h : x < 4294967296) : crcStep x < 4294967296 := by
  unfold crcStep
  split
  · exact xor32 (by omega) (by decide)
  · omega
theorem crcN_lt {x : Nat} (h : x < 4294967296) : ∀ k, crcN k x < 4294967296
  | 0 => h
  | k + 1 => crcStep_lt (crcN_lt h k)
theorem crcByte_lt {x : Nat} (h : x < 4294967296) (b : UInt8) : crcByte x b < 4294967296 := crcN_lt (xor32 h (byte32 b)) 8
theorem foldl_crc_lt (l : List UInt8) : ∀ x, x < 4294967296 → l.foldl crcByte x < 4294967296 := by
  induction l with
  | nil => intro x h; exact h
  | cons b l ih => intro x h; exact ih _ (crcByte_lt h b)
theorem crcL_lt (l : List UInt8) : crcL l < 4294967296 := foldl_crc_lt l _ (by decide)
theorem sumL_lt (l : List UInt8) : sumL l < 4294967296 := xor32 (crcL_lt l) (by decide)
theorem crcL_snoc (l : List UInt8) (b : UInt8) : crcL (l ++ [b]) = crcByte (crcL l) b := by simp [crcL]
theorem crcL_take {s : ByteArray} {k : Nat} (h : k < s.size) : crcL (s.data.toList.take (k + 1)) = crcByte (crcL (s.data.toList.take k)) s[k] := by
  have h' : k < s.data.toList.length := by simpa using h
  rw [List.take_succ_eq_append_getElem h', crcL_snoc]
  rfl

theorem xor_cancel {a b c : Nat} (h : a ^^^ c = b ^^^ c) : a = b := by
  have := congrArg (· ^^^ c) h
  simpa [Nat.xor_assoc] using this
theorem top_not {a b : Nat} (ha : a < 2147483648) (hb : b < 2147483648) : a ^^^ 2197175160 ≠ b := by
  intro h
  have h1 : (a ^^^ 2197175160).testBit 31 = b.testBit 31 := by rw [h]
  rw [Nat.testBit_xor, Nat.testBit_lt_two_pow (show a < 2 ^ 31 from ha), Nat.testBit_lt_two_pow (show b < 2 ^ 31 from hb)] at h1
  revert h1
  decide
theorem crcStep_inj {x y : Nat} (hx : x < 4294967296) (hy : y < 4294967296) (h : crcStep x = crcStep y) : x = y := by
  unfold crcStep at h
  have h1 : x / 2 < 2147483648 := by omega
  have h2 : y / 2 < 2147483648 := by omega
  split at h <;> split at h
  · have := xor_cancel h; omega
  · exact absurd h (top_not h1 h2)
  · exact absurd h.symm (top_not h2 h1)
  · omega
theorem crcN_inj {x y : Nat} (hx : x < 4294967296) (hy : y < 4294967296) : ∀ k, crcN k x = crcN k y → x = y
  | 0, h => h
  | k + 1, h => crcN_inj hx hy k (crcStep_inj (crcN_lt hx k) (crcN_lt hy k) h)
theorem crcByte_inj {x y : Nat} (hx : x < 4294967296) (hy : y < 4294967296) {b : UInt8} (h : crcByte x b = crcByte y b) : x = y :=
  xor_cancel (crcN_inj (xor32 hx (byte32 b)) (xor32 hy (byte32 b)) 8 h)
theorem crcByte_other {x : Nat} (hx : x < 4294967296) {b c : UInt8} (h : crcByte x b = crcByte x c) : b = c := by
  have h1 := crcN_inj (xor32 hx (byte32 b)) (xor32 hx (byte32 c)) 8 h
  rw [Nat.xor_comm x, Nat.xor_comm x] at h1
  exact UInt8.toNat_inj.1 (xor_cancel h1)
theorem foldl_crc_inj (l : List UInt8) : ∀ x y, x < 4294967296 → y < 4294967296 → l.foldl crcByte x = l.foldl crcByte y → x = y := by
  induction l with
  | nil => intro x y _ _ h; exact h
  | cons b l ih => intro x y hx hy h; exact crcByte_inj hx hy (ih _ _ (crcByte_lt hx b) (crcByte_lt hy b) h)
/-- one byte that is another one makes another sum -/
theorem sumL_other (p q : List UInt8) {b c : UInt8} (h : b ≠ c) : sumL (p ++ b :: q) ≠ sumL (p ++ c :: q) := by
  intro e
  have e1 := xor_cancel e
  unfold crcL at e1
  rw [List.foldl_append, List.foldl_append, List.foldl_cons, List.foldl_cons] at e1
  have hp := foldl_crc_lt p 4294967295 (by decide)
  exact h (crcByte_other hp (foldl_crc_inj q _ _ (crcByte_lt hp b) (crcByte_lt hp c) e1))

/-! ### in the machine's words -/
theorem wraps_u32 (n : Int) (_h0 : 0 ≤ n) (h1 : n < 2 ^ 32) : IntKind.u32.wrap n = n := by rw [IntKind.wrap_u32]; omega
theorem bits_xor_nat (k : IntKind) (j : Nat) (hj : j ≤ k.bits) (hk : ∀ n : Int, 0 ≤ n → n < 2 ^ j → k.wrap n = n) (a b : Nat) (ha : a < 2 ^ j) (hb : b < 2 ^ j) : bits .xor k a b = ((a ^^^ b : Nat) : Int) := by
  have hp : 2 ^ j ≤ 2 ^ k.bits := Nat.pow_le_pow_right (by decide) hj
  have ha' : a % 2 ^ k.bits = a := Nat.mod_eq_of_lt (Nat.lt_of_lt_of_le ha hp)
  have hb' : b % 2 ^ k.bits = b := Nat.mod_eq_of_lt (Nat.lt_of_lt_of_le hb hp)
  simp only [bits, BitVec.ofInt_natCast, BitVec.toNat_xor, BitVec.toNat_ofNat, ha', hb']
  exact hk _ (Int.natCast_nonneg _) (by exact_mod_cast Nat.xor_lt_two_pow ha hb)
theorem xor_u32 (a b : Nat) (ha : a < 4294967296) (hb : b < 4294967296) : bits .xor .u32 (a : Int) (b : Int) = ((a ^^^ b : Nat) : Int) := bits_xor_nat .u32 32 (by decide) wraps_u32 a b ha hb
theorem xor_i64 (a b : Nat) (ha : a < 4294967296) (hb : b < 4294967296) : bits .xor .i64 (a : Int) (b : Int) = ((a ^^^ b : Nat) : Int) := bits_xor_nat .i64 63 (by decide) wraps_i64 a b (by omega) (by omega)
theorem odd_u32 (a : Nat) (ha : a < 4294967296) : bits .and .u32 (a : Int) 1 = ((a % 2 : Nat) : Int) := by
  have := bits_mask .u32 32 (by decide) wraps_u32 1 (by decide) (a : Int) (by omega) (by omega)
  rw [show ((2 : Int) ^ 1 - 1) = 1 by decide] at this
  rw [this]; omega
end Go.Proofs.Ytdkfgoaogmjjfaa
