import Derived.Test.YtaplefelfiefaaaGreatQArchiveTellsUptoP7
import Derived.Test.YtaplefelfiefaaaGreatQArchiveTellsUptoP4
import Derived.Test.YtaplefelfiefaaaGreatQArchiveTellsUptoP5

/- a vector at the head of some bytes; vec.Get in these words. By an AI agent. -/
section
set_option linter.unusedVariables false
namespace Go.Proofs.YtaplefelfiefaaaGreat
open Go.RowKit

/-- a vector at the head of some bytes -/
def rdV : List UInt8 → Option (List Int × List UInt8)
  | [] => none
  | d :: m => if (1 ≤ d.toNat ∧ d.toNat ≤ 8) ∧ 6 * d.toNat ≤ m.length then some (valsL d.toNat m, m.drop (6 * d.toNat)) else none
theorem rdV_cons (d : UInt8) (m : List UInt8) : rdV (d :: m) = if (1 ≤ d.toNat ∧ d.toNat ≤ 8) ∧ 6 * d.toNat ≤ m.length then some (valsL d.toNat m, m.drop (6 * d.toNat)) else none := rfl
theorem rdV_back {l m : List UInt8} {xs : List Int} (h : rdV l = some (xs, m)) : l = putL xs ++ m ∧ validL xs = true := by
  cases l with
  | nil => cases h
  | cons d t =>
    rw [rdV_cons] at h
    split at h
    · rename_i hc
      simp only [Option.some.injEq, Prod.mk.injEq] at h
      obtain ⟨rfl, rfl⟩ := h
      refine ⟨?_, validL_of (by rw [valsL_len]; exact hc.1.1) (by rw [valsL_len]; exact hc.1.2) (valsL_bound _ _)⟩
      unfold putL
      rw [valsL_len, body_vals t _ (by omega)]
      simp
    · cases h
theorem rdV_len {l m : List UInt8} {xs : List Int} (h : rdV l = some (xs, m)) : l.length = 1 + 6 * xs.length + m.length := by
  obtain ⟨e, hv⟩ := rdV_back h
  rw [e, List.length_append, putL_len]
/-- the code of what is no vector -/
def codeV : List UInt8 → Int
  | [] => 3
  | d :: m => if d.toNat < 1 ∨ 8 < d.toNat then 4 else 3
theorem codeV_cons (d : UInt8) (m : List UInt8) : codeV (d :: m) = if d.toNat < 1 ∨ 8 < d.toNat then 4 else 3 := rfl
theorem codeV_is (l : List UInt8) : codeV l = 3 ∨ codeV l = 4 := by
  cases l with
  | nil => exact .inl rfl
  | cons d m => rw [codeV_cons]; split <;> simp
/-- what reading a vector comes to -/
def RdPostC (w : World) (l : List UInt8) (e : Ending) (w' : World) : Prop :=
  (∃ (xs : List Int) (m : List UInt8) (v : Value), rdV l = some (xs, m) ∧ e = .returned (.tuple #[v, .int .i64 ((1 + 6 * xs.length : Nat) : Int), .int .i64 0]) ∧ FI w.heap.size w' v xs ∧ Bl w w') ∨
  (rdV l = none ∧ e = .returned (.tuple #[.slice none 0 0, .int .i64 0, .int .i64 (codeV l)]) ∧ Bl w w')
set_option maxHeartbeats 800000 in
theorem vget_rdc (s : ByteArray) (l : List UInt8) (w : World) (hs : SB s l) (hz : l.length ≤ 2000000) :
    Calls Tryz.prog 134 #[.string s] w (RdPostC w l) := by
  by_cases h0 : s.size = 0
  · refine (vget_none s w h0).mono ?_
    rintro e w' ⟨rfl, hb⟩
    rw [hs.size] at h0
    have : l = [] := List.eq_nil_of_length_eq_zero h0
    subst this
    exact .inr ⟨rfl, rfl, hb⟩
  · have hl1 : 1 ≤ l.length := by rw [← hs.size]; omega
    cases l with
    | nil => simp at hl1
    | cons d l =>
      have hh : (d :: l).head?.map (·.toNat) = some d.toNat := rfl
      by_cases hf : d.toNat < 1 ∨ 8 < d.toNat
      · refine (vget_form s (d :: l) d.toNat w hs hl1 hh hf).mono ?_
        rintro e w' ⟨rfl, hb⟩
        exact .inr ⟨by rw [rdV_cons, if_neg (by omega)], by rw [codeV_cons, if_pos hf], hb⟩
      · refine (vget_loop s (d :: l) d.toNat w hs hz hl1 hh (by omega)).mono ?_
        intro e w' hp
        unfold GetPost at hp
        split at hp
        · rename_i hyes
          obtain ⟨v, rfl, hfi, hb⟩ := hp
          rw [List.length_cons] at hyes
          refine .inl ⟨valsL d.toNat l, l.drop (6 * d.toNat), v, ?_, ?_, hfi, hb⟩
          · rw [rdV_cons, if_pos (by omega)]
          · rw [valsL_len]
        · rename_i hno
          obtain ⟨rfl, hb⟩ := hp
          rw [List.length_cons] at hno
          exact .inr ⟨by rw [rdV_cons, if_neg (by omega)], by rw [codeV_cons, if_neg hf], hb⟩
theorem vget_rd (s : ByteArray) (l : List UInt8) (w : World) (hs : SB s l) (hz : l.length ≤ 2000000) :
    Calls Tryz.prog 134 #[.string s] w fun e w' =>
      (∃ (xs : List Int) (m : List UInt8) (v : Value), rdV l = some (xs, m) ∧ e = .returned (.tuple #[v, .int .i64 ((1 + 6 * xs.length : Nat) : Int), .int .i64 0]) ∧ FI w.heap.size w' v xs ∧ Bl w w') ∨
      (rdV l = none ∧ ∃ c : Int, (c = 3 ∨ c = 4) ∧ e = .returned (.tuple #[.slice none 0 0, .int .i64 0, .int .i64 c]) ∧ Bl w w') := by
  refine (vget_rdc s l w hs hz).mono ?_
  rintro e w' (⟨xs, m, v, h1, h2, h3, h4⟩ | ⟨h1, h2, h3⟩)
  · exact .inl ⟨xs, m, v, h1, h2, h3, h4⟩
  · exact .inr ⟨h1, codeV l, codeV_is l, h2, h3⟩
end Go.Proofs.YtaplefelfiefaaaGreat
end

/- noughts. By an AI agent. -/
section
namespace Go.Proofs.YtaplefelfiefaaaGreat
/-- noughts -/
def zeroL (n : Nat) : List Int := List.replicate n 0
theorem putL_small {xs : List Int} (h : validL xs = true) : (putL xs).length ≤ 49 := by
  have := (valid_parts h).2.1
  rw [putL_len]; omega
end Go.Proofs.YtaplefelfiefaaaGreat
end

/- vec.Zero: what it makes; the bytes of a vector are few. By an AI agent. -/
section
namespace Go.Proofs.YtaplefelfiefaaaGreat
open Go.RowKit



set_option maxHeartbeats 400000 in
set_option maxRecDepth 100000 in
theorem zero_yes (n : Nat) (w : World) (h1 : 1 ≤ n) (h8 : n ≤ 8) :
    Calls Tryz.prog 44 #[.int .i64 n] w fun e w' => ∃ v, e = .returned v ∧ FI w.heap.size w' v (zeroL n) ∧ Bl w w' := by
  obtain ⟨i0, hi, hz0, hz1, hz2⟩ := info_parts info_int
  go_enter Tryz.func44, Tryz.ntmps44
  go_wp2_with (at_make; refine wpList_make_full _ rfl _ _ 23 rfl w.heap.size 3 i0 (.int .i64 0) 1 Tryz.underlying23 hi hz0 hz1 .i64 .i64 _ _ n rfl rfl rfl rfl ?b1 ?b2 ?b3 ?_)
  case b1 => rw [hz2]; omega
  case b2 => unfold maxLen; omega
  case b3 => exact Nat.le_refl _
  intro w1 hown hgrow
  have hb : Bl w w1 := Below.grown (Bl.refl w) hgrow (Nat.le_refl _) (by simp)
  have hob : OI w.heap.size w1 (.slice (some ⟨w.heap.size, 0, none⟩) n n) (zeroL n) := by
    have e : (madeCells #[Value.int .i64 0] n).toList = List.map (Value.int .i64) (List.replicate n 0) := by
      rw [List.map_replicate]
      exact toList_madeCells_one _ _
    rw [e] at hown
    rw [OI, zeroL, List.length_replicate]
    exact hown
  clear hown hgrow
  go_wp2_with fail
  go_ret
  refine ⟨_, rfl, ⟨hob, by simp [zeroL]; omega, fun x hx => ?_⟩, hb⟩
  simp [zeroL] at hx; omega
end Go.Proofs.YtaplefelfiefaaaGreat
end
