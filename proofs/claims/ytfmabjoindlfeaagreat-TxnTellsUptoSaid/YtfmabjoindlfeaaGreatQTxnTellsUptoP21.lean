import Derived.Test.YtfmabjoindlfeaaGreatQTxnTellsUptoP18
import Derived.Test.YtfmabjoindlfeaaGreatQTxnTellsUptoP20
import Derived.Test.YtfmabjoindlfeaaGreatQTxnTellsUptoP17

/- requests in bytes: plain definitions and laws. By an AI agent. -/
section
set_option linter.unusedVariables false
set_option linter.unusedSimpArgs false
namespace Go.Proofs.YtfmabjoindlfeaaGreat
open Go.RowKit

/-! ### numbers, texts, vectors in bytes, and read -/
def numB (x : Int) (n : Nat) : List UInt8 := bytesN (putN x n n)
theorem numB_len (x : Int) (n : Nat) : (numB x n).length = n := by unfold numB; rw [bytesN_len, putN_len]
theorem numB_succ (x : Int) (n : Nat) : numB x (n + 1) = numB (x / 256) n ++ [UInt8.ofNat (x % 256).toNat] := by
  have e : putN x (n + 1) (n + 1) = putN (x / 256) n n ++ [x % 256] := by
    unfold putN
    rw [List.range_succ, List.map_append]
    congr 1
    · apply List.map_congr_left
      intro j hj
      rw [List.mem_range] at hj
      rw [if_pos (by omega), if_pos (by omega)]
      unfold byteAt
      rw [show n + 1 - 1 - j = (n - 1 - j) + 1 by omega, Nat.mul_succ, Nat.add_comm, Int.pow_add, Int.ediv_ediv_of_nonneg (by decide)]
      rfl
    · simp [byteAt]
  unfold numB
  rw [e, bytesN_append]
  rfl
theorem getN_numB (n : Nat) : ∀ x : Int, 0 ≤ x → x < 256 ^ n → getN (numB x n) = x := by
  induction n with
  | zero => intro x h0 h1; simp at h1; have : x = 0 := by omega
            subst this; rfl
  | succ n ih =>
    intro x h0 h1
    rw [numB_succ, getN_snoc, ih (x / 256) (by omega) (by rw [Int.pow_succ] at h1; omega)]
    have : ((UInt8.ofNat (x % 256).toNat).toNat : Int) = x % 256 := by simp; omega
    rw [this]; omega
theorem numB_getN {l : List UInt8} {n : Nat} (h : l.length = n) : numB (getN l) n = l := by
  have hb := getN_bound l
  rw [h] at hb
  exact gN_inj n _ _ (numB_len _ _) h (getN_numB n _ hb.1 hb.2)

def rdTake (n : Nat) (l : List UInt8) : Option (List UInt8 × List UInt8) := if n ≤ l.length then some (l.take n, l.drop n) else none
def rdNum (n : Nat) (l : List UInt8) : Option (Int × List UInt8) := if n ≤ l.length then some (getN (l.take n), l.drop n) else none

theorem rdNum_put (n : Nat) (x : Int) (m : List UInt8) (h0 : 0 ≤ x) (h1 : x < 256 ^ n) : rdNum n (numB x n ++ m) = some (x, m) := by
  unfold rdNum
  rw [if_pos (by rw [List.length_append, numB_len]; omega), List.take_left' (numB_len _ _), List.drop_left' (numB_len _ _), getN_numB n x h0 h1]
theorem rdNum_back {n : Nat} {l m : List UInt8} {x : Int} (h : rdNum n l = some (x, m)) : l = numB x n ++ m ∧ 0 ≤ x ∧ x < 256 ^ n := by
  unfold rdNum at h
  split at h
  · rename_i hn
    simp only [Option.some.injEq, Prod.mk.injEq] at h
    obtain ⟨rfl, rfl⟩ := h
    have hl : (l.take n).length = n := by rw [List.length_take]; omega
    have hb := getN_bound (l.take n)
    rw [hl] at hb
    rw [numB_getN hl, List.take_append_drop]
    exact ⟨rfl, hb⟩
  · cases h
theorem rdTake_back {n : Nat} {l t m : List UInt8} (h : rdTake n l = some (t, m)) : l = t ++ m ∧ t.length = n := by
  unfold rdTake at h
  split at h
  · rename_i hn
    simp only [Option.some.injEq, Prod.mk.injEq] at h
    obtain ⟨rfl, rfl⟩ := h
    exact ⟨(List.take_append_drop _ _).symm, by rw [List.length_take]; omega⟩
  · cases h
theorem body_vals (m : List UInt8) : ∀ k, 6 * k ≤ m.length → putBodyL (valsL k m) = m.take (6 * k) := by
  intro k
  induction k with
  | zero => intro _; simp [valsL, putBodyL]
  | succ k ih =>
    intro h
    rw [valsL_succ, putBodyL_snoc, ih (by omega)]
    have hl : ((m.drop (6 * k)).take 6).length = 6 := by rw [List.length_take, List.length_drop]; omega
    have := numB_getN hl
    unfold numB at this
    rw [this, show 6 * (k + 1) = 6 * k + 6 by omega, List.take_add]
theorem validL_of {xs : List Int} (h1 : 1 ≤ xs.length) (h8 : xs.length ≤ 8) (hx : ∀ x ∈ xs, 0 ≤ x ∧ x < 281474976710656) : validL xs = true := by
  unfold validL
  rw [decide_eq_true h1, decide_eq_true h8]
  simp only [Bool.true_and, Bool.not_eq_true']
  rw [List.any_eq_false]
  intro x hm
  have := hx x hm
  simp only [badT, decide_eq_true_eq]
  omega

/-! ### requests -/

theorem sameA_iff {a b : ActL} : sameA a b = true ↔ a.k = b.k ∧ fkey a.x = fkey b.x ∧ a.n = b.n ∧ a.s = b.s := by
  simp only [sameA, Bool.and_eq_true, decide_eq_true_eq, beq_iff_eq]
  constructor
  · rintro ⟨h1, h2, h3, h4⟩
    refine ⟨h1, h2, h3, ?_⟩
    rw [ByteArray.toList_eq, ByteArray.toList_eq] at h4
    exact ByteArray.ext (Array.toList_inj.1 h4)
  · rintro ⟨h1, h2, h3, h4⟩
    exact ⟨h1, h2, h3, by rw [h4]⟩
end Go.Proofs.YtfmabjoindlfeaaGreat
end

/- a vector at the head of some bytes; vec.Get in these words. By an AI agent. -/
section
set_option linter.unusedVariables false
namespace Go.Proofs.YtfmabjoindlfeaaGreat
open Go.RowKit

/-- a vector at the head of some bytes -/
def rdV : List UInt8 → Option (List Int × List UInt8)
  | [] => none
  | d :: m => if (1 ≤ d.toNat ∧ d.toNat ≤ 8) ∧ 6 * d.toNat ≤ m.length then some (valsL d.toNat m, m.drop (6 * d.toNat)) else none
theorem rdV_cons (d : UInt8) (m : List UInt8) : rdV (d :: m) = if (1 ≤ d.toNat ∧ d.toNat ≤ 8) ∧ 6 * d.toNat ≤ m.length then some (valsL d.toNat m, m.drop (6 * d.toNat)) else none := rfl
theorem rdV_back {l m : List UInt8} {xs : List Int} (h : rdV l = some (xs, m)) : l = putL xs ++ m ∧ validL xs = true := by
  cases l with
  | nil => cases h
  | cons d t =>
    rw [rdV_cons] at h
    split at h
    · rename_i hc
      simp only [Option.some.injEq, Prod.mk.injEq] at h
      obtain ⟨rfl, rfl⟩ := h
      refine ⟨?_, validL_of (by rw [valsL_len]; exact hc.1.1) (by rw [valsL_len]; exact hc.1.2) (valsL_bound _ _)⟩
      unfold putL
      rw [valsL_len, body_vals t _ (by omega)]
      simp
    · cases h
theorem rdV_len {l m : List UInt8} {xs : List Int} (h : rdV l = some (xs, m)) : l.length = 1 + 6 * xs.length + m.length := by
  obtain ⟨e, hv⟩ := rdV_back h
  rw [e, List.length_append, putL_len]
/-- the code of what is no vector -/
def codeV : List UInt8 → Int
  | [] => 3
  | d :: m => if d.toNat < 1 ∨ 8 < d.toNat then 4 else 3
theorem codeV_cons (d : UInt8) (m : List UInt8) : codeV (d :: m) = if d.toNat < 1 ∨ 8 < d.toNat then 4 else 3 := rfl
theorem codeV_is (l : List UInt8) : codeV l = 3 ∨ codeV l = 4 := by
  cases l with
  | nil => exact .inl rfl
  | cons d m => rw [codeV_cons]; split <;> simp
/-- what reading a vector comes to -/
def RdPostC (w : World) (l : List UInt8) (e : Ending) (w' : World) : Prop :=
  (∃ (xs : List Int) (m : List UInt8) (v : Value), rdV l = some (xs, m) ∧ e = .returned (.tuple #[v, .int .i64 ((1 + 6 * xs.length : Nat) : Int), .int .i64 0]) ∧ FI w.heap.size w' v xs ∧ Bl w w') ∨
  (rdV l = none ∧ e = .returned (.tuple #[.slice none 0 0, .int .i64 0, .int .i64 (codeV l)]) ∧ Bl w w')
set_option maxHeartbeats 800000 in
theorem vget_rdc (s : ByteArray) (l : List UInt8) (w : World) (hs : SB s l) (hz : l.length ≤ 2000000) :
    Calls Tryz.prog 138 #[.string s] w (RdPostC w l) := by
  by_cases h0 : s.size = 0
  · refine (vget_none s w h0).mono ?_
    rintro e w' ⟨rfl, hb⟩
    rw [hs.size] at h0
    have : l = [] := List.eq_nil_of_length_eq_zero h0
    subst this
    exact .inr ⟨rfl, rfl, hb⟩
  · have hl1 : 1 ≤ l.length := by rw [← hs.size]; omega
    cases l with
    | nil => simp at hl1
    | cons d l =>
      have hh : (d :: l).head?.map (·.toNat) = some d.toNat := rfl
      by_cases hf : d.toNat < 1 ∨ 8 < d.toNat
      · refine (vget_form s (d :: l) d.toNat w hs hl1 hh hf).mono ?_
        rintro e w' ⟨rfl, hb⟩
        exact .inr ⟨by rw [rdV_cons, if_neg (by omega)], by rw [codeV_cons, if_pos hf], hb⟩
      · refine (vget_loop s (d :: l) d.toNat w hs hz hl1 hh (by omega)).mono ?_
        intro e w' hp
        unfold GetPost at hp
        split at hp
        · rename_i hyes
          obtain ⟨v, rfl, hfi, hb⟩ := hp
          rw [List.length_cons] at hyes
          refine .inl ⟨valsL d.toNat l, l.drop (6 * d.toNat), v, ?_, ?_, hfi, hb⟩
          · rw [rdV_cons, if_pos (by omega)]
          · rw [valsL_len]
        · rename_i hno
          obtain ⟨rfl, hb⟩ := hp
          rw [List.length_cons] at hno
          exact .inr ⟨by rw [rdV_cons, if_neg (by omega)], by rw [codeV_cons, if_neg hf], hb⟩
theorem vget_rd (s : ByteArray) (l : List UInt8) (w : World) (hs : SB s l) (hz : l.length ≤ 2000000) :
    Calls Tryz.prog 138 #[.string s] w fun e w' =>
      (∃ (xs : List Int) (m : List UInt8) (v : Value), rdV l = some (xs, m) ∧ e = .returned (.tuple #[v, .int .i64 ((1 + 6 * xs.length : Nat) : Int), .int .i64 0]) ∧ FI w.heap.size w' v xs ∧ Bl w w') ∨
      (rdV l = none ∧ ∃ c : Int, (c = 3 ∨ c = 4) ∧ e = .returned (.tuple #[.slice none 0 0, .int .i64 0, .int .i64 c]) ∧ Bl w w') := by
  refine (vget_rdc s l w hs hz).mono ?_
  rintro e w' (⟨xs, m, v, h1, h2, h3, h4⟩ | ⟨h1, h2, h3⟩)
  · exact .inl ⟨xs, m, v, h1, h2, h3, h4⟩
  · exact .inr ⟨h1, codeV l, codeV_is l, h2, h3⟩
end Go.Proofs.YtfmabjoindlfeaaGreat
end

/- noughts. By an AI agent. -/
section
namespace Go.Proofs.YtfmabjoindlfeaaGreat
theorem putL_small {xs : List Int} (h : validL xs = true) : (putL xs).length ≤ 49 := by
  have := (valid_parts h).2.1
  rw [putL_len]; omega
end Go.Proofs.YtfmabjoindlfeaaGreat
end
