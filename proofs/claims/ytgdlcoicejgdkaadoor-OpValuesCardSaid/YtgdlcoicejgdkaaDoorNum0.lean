/- numbers read out of decimal digits: plain definitions and their laws. By an AI agent. -/
import Derived.Test.YtgdlcoicejgdkaaDoorBase
import Derived.Lib.CutLaws
import Derived.Lib.IndexBytes
namespace Go.Proofs.YtgdlcoicejgdkaaDoor
open Go.RowKit

def isDig (b : UInt8) : Bool := decide (48 ≤ b.toNat) && decide (b.toNat ≤ 57)
/-- the number of some digits -/
def valD (l : List UInt8) : Int := l.foldl (fun v b => 10 * v + ((b.toNat : Int) - 48)) 0
theorem valD_snoc (l : List UInt8) (b : UInt8) : valD (l ++ [b]) = 10 * valD l + ((b.toNat : Int) - 48) := by simp [valD]
theorem isDig_iff (b : UInt8) : isDig b = true ↔ 48 ≤ b.toNat ∧ b.toNat ≤ 57 := by simp [isDig]
theorem valD_bd (l : List UInt8) (h : l.all isDig = true) : 0 ≤ valD l ∧ valD l < 10 ^ l.length := by
  unfold valD
  suffices k : ∀ (l : List UInt8) (a : Int) (m : Nat), l.all isDig = true → 0 ≤ a → a < 10 ^ m → 0 ≤ l.foldl (fun v b => 10 * v + ((b.toNat : Int) - 48)) a ∧ l.foldl (fun v b => 10 * v + ((b.toNat : Int) - 48)) a < 10 ^ (m + l.length) by
    simpa using k l 0 0 h (by omega) (by simp)
  intro l
  induction l with
  | nil => intro a m _ h0 h1; exact ⟨h0, by simpa using h1⟩
  | cons b l ih =>
    intro a m hd h0 h1
    rw [List.all_cons, Bool.and_eq_true, isDig_iff] at hd
    have := ih (10 * a + ((b.toNat : Int) - 48)) (m + 1) hd.2 (by omega) (by rw [Int.pow_succ]; omega)
    simp only [List.foldl_cons, List.length_cons]
    rw [show m + (l.length + 1) = m + 1 + l.length by omega]
    exact this
theorem valD_take {s : ByteArray} {k : Nat} (h : k < s.size) : valD (s.data.toList.take (k + 1)) = 10 * valD (s.data.toList.take k) + ((s[k].toNat : Int) - 48) := by
  have h' : k < s.data.toList.length := by simpa using h
  rw [List.take_succ_eq_append_getElem h', valD_snoc]
  rfl
theorem all_take {s : ByteArray} {k : Nat} (h : k < s.size) : (s.data.toList.take (k + 1)).all isDig = ((s.data.toList.take k).all isDig && isDig s[k]) := by
  have h' : k < s.data.toList.length := by simpa using h
  rw [List.take_succ_eq_append_getElem h', List.all_append]
  simp only [List.all_cons, List.all_nil, Bool.and_true]
  rfl

/-- do these bytes read as a whole number, behind a sign or without one? -/
def digOk (l : List UInt8) (below : Bool) : Bool := !l.isEmpty && (decide (l.length ≤ 16) && (!(decide (l.headD 0 = 48) && (decide (1 < l.length) || below)) && l.all isDig))
def signB (l : List UInt8) : Bool := Lib.hasPrefix l [45]
def restL (l : List UInt8) : List UInt8 := Lib.trimPrefix l [45]
/-- raw.Number: the number, and the code -/
def numV (l : List UInt8) : Int := if digOk (restL l) (signB l) then (if signB l then -valD (restL l) else valD (restL l)) else 0
def numC (l : List UInt8) : Int := if digOk (restL l) (signB l) then 0 else 4
theorem digOk_all {l : List UInt8} {b : Bool} (h : digOk l b = true) : l ≠ [] ∧ l.length ≤ 16 ∧ l.all isDig = true := by
  simp only [digOk, Bool.and_eq_true, decide_eq_true_eq] at h
  refine ⟨?_, h.2.1, h.2.2.2⟩
  rintro rfl; simp at h
theorem numV_bd (l : List UInt8) : -10000000000000000 < numV l ∧ numV l < 10000000000000000 := by
  unfold numV
  split
  · rename_i h
    obtain ⟨_, h1, h2⟩ := digOk_all h
    have hb := valD_bd _ h2
    have h3 : (10 : Int) ^ (restL l).length ≤ 10 ^ 16 := by
      have := Nat.pow_le_pow_right (show 0 < 10 by decide) h1
      exact_mod_cast this
    split <;> omega
  · omega

/-! ### the digits of a number, read -/
def decB (u : Nat) : List UInt8 := (strOfNums (decD u)).data.toList
theorem decB_small {u : Nat} (h : u < 10) : decB u = [UInt8.ofNat (48 + u)] := by
  unfold decB; rw [strOfNums_data, decD_small h]
  show [UInt8.ofNat (48 + (u : Int)).toNat] = _
  rw [show (48 + (u : Int)).toNat = 48 + u by omega]
theorem decB_big {u : Nat} (h : ¬ u < 10) : decB u = decB (u / 10) ++ [UInt8.ofNat (48 + u % 10)] := by
  unfold decB; rw [strOfNums_data, strOfNums_data, decD_big h, List.map_append]; congr 1
theorem dig_ofNat {k : Nat} (h : k < 10) : (UInt8.ofNat (48 + k)).toNat = 48 + k := by
  rw [UInt8.toNat_ofNat']; omega
theorem valD_decB (u : Nat) : valD (decB u) = u := by
  induction u using Nat.strongRecOn with
  | _ u ih =>
    by_cases h : u < 10
    · rw [decB_small h]; simp only [valD, List.foldl_cons, List.foldl_nil]; rw [dig_ofNat h]; omega
    · rw [decB_big h, valD_snoc, ih (u / 10) (by omega), dig_ofNat (by omega)]; omega
theorem all_decB (u : Nat) : (decB u).all isDig = true := by
  induction u using Nat.strongRecOn with
  | _ u ih =>
    by_cases h : u < 10
    · rw [decB_small h]; simp only [List.all_cons, List.all_nil, Bool.and_true]; rw [isDig_iff, dig_ofNat h]; omega
    · rw [decB_big h, List.all_append, ih (u / 10) (by omega)]; simp only [List.all_cons, List.all_nil, Bool.and_true, Bool.true_and]; rw [isDig_iff, dig_ofNat (by omega)]; omega
theorem decB_len (k u : Nat) (h : u < 10 ^ (k + 1)) : 1 ≤ (decB u).length ∧ (decB u).length ≤ k + 1 := by
  unfold decB; rw [strOfNums_data, List.length_map]; exact decD_len k u h
theorem decB_ne (u : Nat) : decB u ≠ [] := by
  by_cases h : u < 10
  · rw [decB_small h]; simp
  · rw [decB_big h]; simp
theorem head_append {l m : List UInt8} (h : l ≠ []) : (l ++ m).headD 0 = l.headD 0 := by
  cases l with
  | nil => exact absurd rfl h
  | cons a l => rfl
theorem decB_head (u : Nat) (h0 : u ≠ 0) : (decB u).headD 0 ≠ 48 := by
  induction u using Nat.strongRecOn with
  | _ u ih =>
    by_cases h : u < 10
    · rw [decB_small h]
      intro e
      have : (UInt8.ofNat (48 + u)).toNat = (48 : UInt8).toNat := congrArg UInt8.toNat e
      rw [dig_ofNat h] at this
      have h48 : (48 : UInt8).toNat = 48 := rfl
      omega
    · rw [decB_big h, head_append (decB_ne _)]
      exact ih (u / 10) (by omega) (by omega)
theorem decB_first (u : Nat) : 48 ≤ ((decB u).headD 0).toNat ∧ ((decB u).headD 0).toNat ≤ 57 := by
  have h := all_decB u
  cases e : decB u with
  | nil => exact absurd e (decB_ne u)
  | cons a l =>
    rw [e, List.all_cons, Bool.and_eq_true, isDig_iff] at h
    exact h.1
theorem digOk_decB {u : Nat} {b : Bool} (hu : u < 10 ^ 16) (hb : b = true → u ≠ 0) : digOk (decB u) b = true := by
  have hl := decB_len 15 u hu
  simp only [digOk, Bool.and_eq_true, decide_eq_true_eq, all_decB, and_true]
  refine ⟨by simp [decB_ne], hl.2, ?_⟩
  by_cases h0 : u = 0
  · subst h0
    cases b
    · rw [decB_small (by decide)]; rfl
    · exact absurd rfl (hb rfl)
  · rw [decide_eq_false (decB_head u h0)]; rfl
theorem no_sign {l : List UInt8} (h : (l.headD 0).toNat ≠ 45) (hn : l ≠ []) : signB l = false ∧ restL l = l := by
  have e : signB l = false := by
    cases l with
    | nil => exact absurd rfl hn
    | cons a l =>
      simp only [signB, Lib.hasPrefix, List.isPrefixOf, Bool.and_true]
      rw [beq_eq_false_iff_ne]
      rintro rfl
      exact h rfl
  refine ⟨e, ?_⟩
  unfold restL Lib.trimPrefix
  rw [show Lib.hasPrefix l [45] = false from e]; rfl
theorem sign_cons (l : List UInt8) : signB (45 :: l) = true ∧ restL (45 :: l) = l := by
  constructor <;> simp [signB, restL, Lib.trimPrefix, Lib.hasPrefix, List.isPrefixOf]
/-- the text of a whole number -/
def intB (v : Int) : List UInt8 := (strOfNums (digL v)).data.toList
theorem intB_nat (u : Nat) : intB (u : Int) = decB u := by
  unfold intB decB digL; rw [if_neg (by omega), Int.natAbs_natCast]
theorem intB_neg {v : Int} (h : v < 0) : intB v = 45 :: decB v.natAbs := by
  unfold intB decB digL; rw [if_pos h]; rfl
theorem num_intB {v : Int} (h : v.natAbs < 10 ^ 16) : numV (intB v) = v ∧ numC (intB v) = 0 := by
  by_cases hv : v < 0
  · rw [intB_neg hv]
    obtain ⟨h1, h2⟩ := sign_cons (decB v.natAbs)
    unfold numV numC
    rw [h1, h2, digOk_decB h (fun _ => by omega), valD_decB]
    simp only [if_true]
    exact ⟨by omega, trivial⟩
  · obtain ⟨u, rfl⟩ : ∃ u : Nat, v = u := ⟨v.toNat, by omega⟩
    rw [Int.natAbs_natCast] at h
    rw [intB_nat]
    have hf := decB_first u
    obtain ⟨h1, h2⟩ := no_sign (l := decB u) (by omega) (decB_ne u)
    unfold numV numC
    rw [h1, h2, digOk_decB h (fun e => by cases e), valD_decB]
    simp
theorem mem_intB {v : Int} {b : UInt8} (h : b ∈ intB v) : b = 45 ∨ isDig b = true := by
  by_cases hv : v < 0
  · rw [intB_neg hv] at h
    rcases List.mem_cons.1 h with h | h
    · exact .inl h
    · exact .inr (List.all_eq_true.1 (all_decB _) b h)
  · obtain ⟨u, rfl⟩ : ∃ u : Nat, v = u := ⟨v.toNat, by omega⟩
    rw [intB_nat] at h
    exact .inr (List.all_eq_true.1 (all_decB _) b h)

/-! ### cut at a byte -/
theorem indexByte_at (l m : List UInt8) (c : UInt8) (h : c ∉ l) : Lib.indexByte (l ++ c :: m) c = l.length := by
  induction l with
  | nil => simp [Lib.indexByte]
  | cons b l ih =>
    have hb : (b == c) = false := by
      rw [beq_eq_false_iff_ne]; rintro rfl; exact h (List.mem_cons_self ..)
    have := ih (fun hc => h (List.mem_cons_of_mem _ hc))
    rw [List.cons_append, Lib.indexByte, hb, this]
    simp only [Bool.false_eq_true, if_false, List.length_cons]
    rw [if_neg (by simp <;> omega)]
    omega
theorem indexByte_no (l : List UInt8) (c : UInt8) (h : c ∉ l) : Lib.indexByte l c = -1 := by
  induction l with
  | nil => rfl
  | cons b l ih =>
    have hb : (b == c) = false := by
      rw [beq_eq_false_iff_ne]; rintro rfl; exact h (List.mem_cons_self ..)
    rw [Lib.indexByte, hb, ih (fun hc => h (List.mem_cons_of_mem _ hc))]
    rfl
theorem cut_at (l m : List UInt8) (c : UInt8) (h : c ∉ l) : Lib.cut (l ++ c :: m) [c] = (l, m, true) := by
  unfold Lib.cut
  rw [Lib.index_one, indexByte_at l m c h, if_pos (by omega), Int.toNat_natCast]
  simp
theorem cut_no (l : List UInt8) (c : UInt8) (h : c ∉ l) : Lib.cut l [c] = (l, [], false) := by
  unfold Lib.cut
  rw [Lib.index_one, indexByte_no l c h, if_neg (by omega)]
end Go.Proofs.YtgdlcoicejgdkaaDoor
