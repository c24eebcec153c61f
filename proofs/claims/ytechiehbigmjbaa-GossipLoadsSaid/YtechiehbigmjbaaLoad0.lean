/- rows in bytes: plain definitions and laws; vec.Get in these words. By an AI agent. -/
import Derived.Test.YtechiehbigmjbaaAsk0
import Derived.Test.YtechiehbigmjbaaGossip8
set_option linter.unusedVariables false
namespace Go.Proofs.Ytechiehbigmjbaa
open Go.RowKit

/-- a vector at the head of some bytes -/
def rdV : List UInt8 → Option (List Int × List UInt8)
  | [] => none
  | d :: m => if (1 ≤ d.toNat ∧ d.toNat ≤ 8) ∧ 6 * d.toNat ≤ m.length then some (valsL d.toNat m, m.drop (6 * d.toNat)) else none
theorem rdV_cons (d : UInt8) (m : List UInt8) : rdV (d :: m) = if (1 ≤ d.toNat ∧ d.toNat ≤ 8) ∧ 6 * d.toNat ≤ m.length then some (valsL d.toNat m, m.drop (6 * d.toNat)) else none := rfl
theorem rdV_back {l m : List UInt8} {xs : List Int} (h : rdV l = some (xs, m)) : l = putL xs ++ m ∧ validL xs = true := by
  cases l with
  | nil => cases h
  | cons d t =>
    rw [rdV_cons] at h
    split at h
    · rename_i hc
      simp only [Option.some.injEq, Prod.mk.injEq] at h
      obtain ⟨rfl, rfl⟩ := h
      refine ⟨?_, validL_of (by rw [valsL_len]; exact hc.1.1) (by rw [valsL_len]; exact hc.1.2) (valsL_bound _ _)⟩
      unfold putL
      rw [valsL_len, body_vals t _ (by omega)]
      simp
    · cases h
theorem rdV_len {l m : List UInt8} {xs : List Int} (h : rdV l = some (xs, m)) : l.length = 1 + 6 * xs.length + m.length := by
  obtain ⟨e, hv⟩ := rdV_back h
  rw [e, List.length_append, putL_len]
/-- so many vectors of n numbers each -/
def rdVs (n : Nat) : Nat → List UInt8 → Option (List (List Int) × List UInt8)
  | 0, l => some ([], l)
  | k + 1, l => (rdV l).bind fun p => if p.1.length = n then (rdVs n k p.2).map fun q => (p.1 :: q.1, q.2) else none
theorem rdVs_back (n : Nat) : ∀ (k : Nat) (l m : List UInt8) (rows : List (List Int)), rdVs n k l = some (rows, m) → l = rows.flatMap putL ++ m ∧ rows.length = k ∧ ∀ r ∈ rows, validL r = true ∧ r.length = n
  | 0, l, m, rows, h => by
    simp only [rdVs, Option.some.injEq, Prod.mk.injEq] at h
    obtain ⟨rfl, rfl⟩ := h
    exact ⟨rfl, rfl, fun r h => by simp at h⟩
  | k + 1, l, m, rows, h => by
    unfold rdVs at h
    obtain ⟨p, h1, h⟩ := Option.bind_eq_some_iff.1 h
    split at h
    · rename_i hn
      obtain ⟨q, h2, h⟩ := Option.map_eq_some_iff.1 h
      simp only [Prod.mk.injEq] at h
      obtain ⟨rfl, rfl⟩ := h
      obtain ⟨e1, hv⟩ := rdV_back (xs := p.1) (m := p.2) h1
      obtain ⟨e2, e3, h3⟩ := rdVs_back n k p.2 q.2 q.1 h2
      refine ⟨by rw [List.flatMap_cons, List.append_assoc, ← e2, ← e1], by simp [e3], fun r hr => ?_⟩
      rcases List.mem_cons.1 hr with rfl | hr
      · exact ⟨hv, hn⟩
      · exact h3 r hr
    · cases h
/-- rows -/
def rdRows : List UInt8 → Option (List (List Int))
  | [] => none
  | d :: m => if 1 ≤ d.toNat ∧ d.toNat ≤ 8 then (rdVs d.toNat d.toNat m).bind fun q => if q.2 = [] then some q.1 else none else none
theorem rdRows_cons (d : UInt8) (m : List UInt8) : rdRows (d :: m) = if 1 ≤ d.toNat ∧ d.toNat ≤ 8 then (rdVs d.toNat d.toNat m).bind fun q => if q.2 = [] then some q.1 else none else none := rfl
def putRows (rows : List (List Int)) : List UInt8 := UInt8.ofNat rows.length :: rows.flatMap putL
theorem rdRows_back {l : List UInt8} {rows : List (List Int)} (h : rdRows l = some rows) : putRows rows = l ∧ 1 ≤ rows.length ∧ rows.length ≤ 8 ∧ ∀ r ∈ rows, validL r = true ∧ r.length = rows.length := by
  cases l with
  | nil => cases h
  | cons d t =>
    rw [rdRows_cons] at h
    split at h
    · rename_i hc
      obtain ⟨q, h1, h⟩ := Option.bind_eq_some_iff.1 h
      split at h
      · rename_i he
        simp only [Option.some.injEq] at h
        subst h
        obtain ⟨e1, e2, h3⟩ := rdVs_back _ _ t q.2 q.1 h1
        rw [he, List.append_nil] at e1
        refine ⟨?_, by omega, by omega, fun r hr => by rw [e2]; exact h3 r hr⟩
        unfold putRows
        rw [e2, ← e1]
        simp
      · cases h
    · cases h

set_option maxHeartbeats 800000 in
theorem vget_rd (s : ByteArray) (l : List UInt8) (w : World) (hs : SB s l) (hz : l.length ≤ 1000000) :
    Calls Try.prog 141 #[.string s] w fun e w' =>
      (∃ (xs : List Int) (m : List UInt8) (v : Value), rdV l = some (xs, m) ∧ e = .returned (.tuple #[v, .int .i64 ((1 + 6 * xs.length : Nat) : Int), .int .i64 0]) ∧ FI w.heap.size w' v xs ∧ Bl w w') ∨
      (rdV l = none ∧ ∃ c : Int, (c = 3 ∨ c = 4) ∧ e = .returned (.tuple #[.slice none 0 0, .int .i64 0, .int .i64 c]) ∧ Bl w w') := by
  by_cases h0 : s.size = 0
  · refine (vget_none s w h0).mono ?_
    rintro e w' ⟨rfl, hb⟩
    rw [hs.size] at h0
    have : l = [] := List.eq_nil_of_length_eq_zero h0
    subst this
    exact .inr ⟨rfl, 3, .inl rfl, rfl, hb⟩
  · have hl1 : 1 ≤ l.length := by rw [← hs.size]; omega
    cases l with
    | nil => simp at hl1
    | cons d l =>
      have hh : (d :: l).head?.map (·.toNat) = some d.toNat := rfl
      by_cases hf : d.toNat < 1 ∨ 8 < d.toNat
      · refine (vget_form s (d :: l) d.toNat w hs hl1 hh hf).mono ?_
        rintro e w' ⟨rfl, hb⟩
        exact .inr ⟨by rw [rdV_cons, if_neg (by omega)], 4, .inr rfl, rfl, hb⟩
      · refine (vget_loop s (d :: l) d.toNat w hs hz hl1 hh (by omega)).mono ?_
        intro e w' hp
        unfold GetPost at hp
        split at hp
        · rename_i hyes
          obtain ⟨v, rfl, hfi, hb⟩ := hp
          rw [List.length_cons] at hyes
          refine .inl ⟨valsL d.toNat l, l.drop (6 * d.toNat), v, ?_, ?_, hfi, hb⟩
          · rw [rdV_cons, if_pos (by omega)]
          · rw [valsL_len]
        · rename_i hno
          obtain ⟨rfl, hb⟩ := hp
          rw [List.length_cons] at hno
          exact .inr ⟨by rw [rdV_cons, if_neg (by omega)], 3, .inl rfl, rfl, hb⟩
end Go.Proofs.Ytechiehbigmjbaa
