import Derived.Test.YtkgpkkdcadkpmaaGreatDoorQIkeyTellsUptoP3
import Derived.Test.YtkgpkkdcadkpmaaGreatDoorQIkeyTellsUptoP7
import Derived.Test.YtkgpkkdcadkpmaaGreatDoorQIkeyTellsUptoP1
import Derived.Test.YtkgpkkdcadkpmaaGreatDoorQIkeyTellsUptoP2
import Derived.Test.YtkgpkkdcadkpmaaGreatDoorQIkeyTellsUptoP8

/- acts read out of bytes are put again as those bytes. By an AI agent. -/
section
namespace Go.Proofs.YtkgpkkdcadkpmaaGreatDoor
open Go.RowKit

theorem gN_inj : ∀ (n : Nat) (l m : List UInt8), l.length = n → m.length = n → getN l = getN m → l = m := by
  intro n
  induction n with
  | zero => intro l m hl hm _; rw [List.eq_nil_of_length_eq_zero hl, List.eq_nil_of_length_eq_zero hm]
  | succ n ih =>
    intro l m hl hm h
    have hl0 : l ≠ [] := by rintro rfl; simp at hl
    have hm0 : m ≠ [] := by rintro rfl; simp at hm
    have el := List.dropLast_concat_getLast hl0
    have em := List.dropLast_concat_getLast hm0
    rw [← el, ← em, getN_snoc, getN_snoc] at h
    have b1 := UInt8.toNat_lt (l.getLast hl0)
    have b2 := UInt8.toNat_lt (m.getLast hm0)
    have h1 : getN l.dropLast = getN m.dropLast := by omega
    have h2 : (l.getLast hl0).toNat = (m.getLast hm0).toNat := by omega
    have h3 := ih l.dropLast m.dropLast (by simp [hl]) (by simp [hm]) h1
    have h4 : l.getLast hl0 = m.getLast hm0 := UInt8.toNat_inj.1 h2
    rw [← el, ← em, h3, h4]
end Go.Proofs.YtkgpkkdcadkpmaaGreatDoor
end

/- requests in bytes: plain definitions and laws. By an AI agent. -/
section
set_option linter.unusedVariables false
set_option linter.unusedSimpArgs false
namespace Go.Proofs.YtkgpkkdcadkpmaaGreatDoor
open Go.RowKit

/-! ### numbers, texts, vectors in bytes, and read -/
def numB (x : Int) (n : Nat) : List UInt8 := bytesN (putN x n n)
theorem numB_len (x : Int) (n : Nat) : (numB x n).length = n := by unfold numB; rw [bytesN_len, putN_len]
theorem numB_succ (x : Int) (n : Nat) : numB x (n + 1) = numB (x / 256) n ++ [UInt8.ofNat (x % 256).toNat] := by
  have e : putN x (n + 1) (n + 1) = putN (x / 256) n n ++ [x % 256] := by
    unfold putN
    rw [List.range_succ, List.map_append]
    congr 1
    · apply List.map_congr_left
      intro j hj
      rw [List.mem_range] at hj
      rw [if_pos (by omega), if_pos (by omega)]
      unfold byteAt
      rw [show n + 1 - 1 - j = (n - 1 - j) + 1 by omega, Nat.mul_succ, Nat.add_comm, Int.pow_add, Int.ediv_ediv_of_nonneg (by decide)]
      rfl
    · simp [byteAt]
  unfold numB
  rw [e, bytesN_append]
  rfl
theorem getN_numB (n : Nat) : ∀ x : Int, 0 ≤ x → x < 256 ^ n → getN (numB x n) = x := by
  induction n with
  | zero => intro x h0 h1; simp at h1; have : x = 0 := by omega
            subst this; rfl
  | succ n ih =>
    intro x h0 h1
    rw [numB_succ, getN_snoc, ih (x / 256) (by omega) (by rw [Int.pow_succ] at h1; omega)]
    have : ((UInt8.ofNat (x % 256).toNat).toNat : Int) = x % 256 := by simp; omega
    rw [this]; omega
theorem numB_getN {l : List UInt8} {n : Nat} (h : l.length = n) : numB (getN l) n = l := by
  have hb := getN_bound l
  rw [h] at hb
  exact gN_inj n _ _ (numB_len _ _) h (getN_numB n _ hb.1 hb.2)


theorem body_vals (m : List UInt8) : ∀ k, 6 * k ≤ m.length → putBodyL (valsL k m) = m.take (6 * k) := by
  intro k
  induction k with
  | zero => intro _; simp [valsL, putBodyL]
  | succ k ih =>
    intro h
    rw [valsL_succ, putBodyL_snoc, ih (by omega)]
    have hl : ((m.drop (6 * k)).take 6).length = 6 := by rw [List.length_take, List.length_drop]; omega
    have := numB_getN hl
    unfold numB at this
    rw [this, show 6 * (k + 1) = 6 * k + 6 by omega, List.take_add]
theorem validL_of {xs : List Int} (h1 : 1 ≤ xs.length) (h8 : xs.length ≤ 8) (hx : ∀ x ∈ xs, 0 ≤ x ∧ x < 281474976710656) : validL xs = true := by
  unfold validL
  rw [decide_eq_true h1, decide_eq_true h8]
  simp only [Bool.true_and, Bool.not_eq_true']
  rw [List.any_eq_false]
  intro x hm
  have := hx x hm
  simp only [badT, decide_eq_true_eq]
  omega

/-! ### requests -/

end Go.Proofs.YtkgpkkdcadkpmaaGreatDoor
end

/- a vector at the head of some bytes; vec.Get in these words. By an AI agent. -/
section
set_option linter.unusedVariables false
namespace Go.Proofs.YtkgpkkdcadkpmaaGreatDoor
open Go.RowKit

/-- a vector at the head of some bytes -/
def rdV : List UInt8 → Option (List Int × List UInt8)
  | [] => none
  | d :: m => if (1 ≤ d.toNat ∧ d.toNat ≤ 8) ∧ 6 * d.toNat ≤ m.length then some (valsL d.toNat m, m.drop (6 * d.toNat)) else none
theorem rdV_cons (d : UInt8) (m : List UInt8) : rdV (d :: m) = if (1 ≤ d.toNat ∧ d.toNat ≤ 8) ∧ 6 * d.toNat ≤ m.length then some (valsL d.toNat m, m.drop (6 * d.toNat)) else none := rfl
theorem rdV_back {l m : List UInt8} {xs : List Int} (h : rdV l = some (xs, m)) : l = putL xs ++ m ∧ validL xs = true := by
  cases l with
  | nil => cases h
  | cons d t =>
    rw [rdV_cons] at h
    split at h
    · rename_i hc
      simp only [Option.some.injEq, Prod.mk.injEq] at h
      obtain ⟨rfl, rfl⟩ := h
      refine ⟨?_, validL_of (by rw [valsL_len]; exact hc.1.1) (by rw [valsL_len]; exact hc.1.2) (valsL_bound _ _)⟩
      unfold putL
      rw [valsL_len, body_vals t _ (by omega)]
      simp
    · cases h
theorem rdV_len {l m : List UInt8} {xs : List Int} (h : rdV l = some (xs, m)) : l.length = 1 + 6 * xs.length + m.length := by
  obtain ⟨e, hv⟩ := rdV_back h
  rw [e, List.length_append, putL_len]
/-- the code of what is no vector -/
def codeV : List UInt8 → Int
  | [] => 3
  | d :: m => if d.toNat < 1 ∨ 8 < d.toNat then 4 else 3
theorem codeV_cons (d : UInt8) (m : List UInt8) : codeV (d :: m) = if d.toNat < 1 ∨ 8 < d.toNat then 4 else 3 := rfl
theorem codeV_is (l : List UInt8) : codeV l = 3 ∨ codeV l = 4 := by
  cases l with
  | nil => exact .inl rfl
  | cons d m => rw [codeV_cons]; split <;> simp
/-- what reading a vector comes to -/
def RdPostC (w : World) (l : List UInt8) (e : Ending) (w' : World) : Prop :=
  (∃ (xs : List Int) (m : List UInt8) (v : Value), rdV l = some (xs, m) ∧ e = .returned (.tuple #[v, .int .i64 ((1 + 6 * xs.length : Nat) : Int), .int .i64 0]) ∧ FI w.heap.size w' v xs ∧ Bl w w') ∨
  (rdV l = none ∧ e = .returned (.tuple #[.slice none 0 0, .int .i64 0, .int .i64 (codeV l)]) ∧ Bl w w')
end Go.Proofs.YtkgpkkdcadkpmaaGreatDoor
end

/- strings of bytes; strings.Clone. By an AI agent. -/
section
set_option linter.unusedVariables false
set_option linter.unusedSimpArgs false
namespace Go.Proofs.YtkgpkkdcadkpmaaGreatDoor
open Go.RowKit

/-- the string of these bytes -/
def strL (l : List UInt8) : ByteArray := ⟨l.toArray⟩
theorem strL_SB (l : List UInt8) : SB (strL l) l := rfl
theorem strL_size (l : List UInt8) : (strL l).size = l.length := (strL_SB l).size
theorem strL_of {s : ByteArray} {l : List UInt8} (h : SB s l) : s = strL l := SB.eq h (strL_SB l)
theorem strL_app (l m : List UInt8) : strL l ++ strL m = strL (l ++ m) := SB.eq ((strL_SB l).append (strL_SB m)) (strL_SB _)
theorem strL_ext (l : List UInt8) (a b : Nat) : (strL l).extract a b = strL ((l.drop a).take (b - a)) := by
  refine strL_of ?_
  rw [SB, Lib.extract_data, strL_SB]
theorem strL_drop (l : List UInt8) (n : Nat) : (strL l).extract n (strL l).size = strL (l.drop n) := by
  rw [strL_ext, strL_size, List.take_of_length_le (by rw [List.length_drop]; omega)]
end Go.Proofs.YtkgpkkdcadkpmaaGreatDoor
end

/- laws of acts, values and sealed bytes. By an AI agent. -/
section
set_option linter.unusedVariables false
set_option linter.unusedSimpArgs false
namespace Go.Proofs.YtkgpkkdcadkpmaaGreatDoor
open Go.RowKit

theorem rdV_put {xs : List Int} (h : validL xs = true) (m : List UInt8) : rdV (putL xs ++ m) = some (xs, m) := by
  have hv := valid_parts h
  have e : (UInt8.ofNat xs.length).toNat = xs.length := by simp; omega
  have hb : (putBodyL xs).length = 6 * xs.length := putBodyL_len xs
  unfold putL
  rw [List.cons_append, rdV_cons, e, if_pos ⟨⟨hv.1, hv.2.1⟩, by rw [List.length_append]; omega⟩, vals_put xs m hv.2.2, List.drop_left' hb]
end Go.Proofs.YtkgpkkdcadkpmaaGreatDoor
end
