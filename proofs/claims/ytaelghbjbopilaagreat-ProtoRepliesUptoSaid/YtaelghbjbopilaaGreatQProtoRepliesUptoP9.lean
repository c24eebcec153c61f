import Derived.Test.YtaelghbjbopilaaGreatQProtoRepliesUptoP8
import Derived.Test.YtaelghbjbopilaaGreatQProtoRepliesUptoP7

/- acts read out of bytes are put again as those bytes. By an AI agent. -/
section
namespace Go.Proofs.YtaelghbjbopilaaGreat
open Go.RowKit

theorem gN_inj : ∀ (n : Nat) (l m : List UInt8), l.length = n → m.length = n → getN l = getN m → l = m := by
  intro n
  induction n with
  | zero => intro l m hl hm _; rw [List.eq_nil_of_length_eq_zero hl, List.eq_nil_of_length_eq_zero hm]
  | succ n ih =>
    intro l m hl hm h
    have hl0 : l ≠ [] := by rintro rfl; simp at hl
    have hm0 : m ≠ [] := by rintro rfl; simp at hm
    have el := List.dropLast_concat_getLast hl0
    have em := List.dropLast_concat_getLast hm0
    rw [← el, ← em, getN_snoc, getN_snoc] at h
    have b1 := UInt8.toNat_lt (l.getLast hl0)
    have b2 := UInt8.toNat_lt (m.getLast hm0)
    have h1 : getN l.dropLast = getN m.dropLast := by omega
    have h2 : (l.getLast hl0).toNat = (m.getLast hm0).toNat := by omega
    have h3 := ih l.dropLast m.dropLast (by simp [hl]) (by simp [hm]) h1
    have h4 : l.getLast hl0 = m.getLast hm0 := UInt8.toNat_inj.1 h2
    rw [← el, ← em, h3, h4]
theorem gN_lt8 {l : List UInt8} (h : l.length = 8) : 0 ≤ getN l ∧ (getN l).toNat < two64 := by
  have hb := getN_bound l
  rw [h] at hb
  unfold two64
  exact ⟨hb.1, by omega⟩
theorem bytes_gN {l : List UInt8} (h : l.length = 8) : bytesN8 (getN l).toNat = l := by
  obtain ⟨h0, h1⟩ := gN_lt8 h
  refine gN_inj 8 _ _ (bytesN8_len _) h ?_
  rw [getN_put8 _ h1]; omega
theorem fkey_gR {u : Nat} (h : u < two64) (hc : (getR u).2 = 0) : fkey (getR u).1 = u := by
  unfold getR at *
  by_cases h0 : u = 0
  · rw [if_pos h0]; subst h0; decide +kernel
  · rw [if_neg h0] at hc ⊢
    cases hn : nanB (backW u)
    · rw [if_neg (by simp)]
      show fkey (backW u) = u
      rw [fkey_num hn]
      unfold backW
      by_cases k : two63 ≤ u
      · rw [if_pos k, if_neg (by unfold two63 two64 at *; omega)]; omega
      · rw [if_neg k, if_pos (by unfold two63 two64 at *; omega)]; unfold two64 at *; omega
    · rw [hn, if_pos rfl] at hc; exact absurd hc (by decide)
theorem bytes_gR {l : List UInt8} (h : l.length = 8) (hc : (getR (getN l).toNat).2 = 0) : bytesN8 (fkey (getR (getN l).toNat).1) = l := by
  rw [fkey_gR (gN_lt8 h).2 hc, bytes_gN h]
theorem bytes_wrap8 {l : List UInt8} (h : l.length = 8) : bytesN8 (wrap64 (getN l) % 18446744073709551616).toNat = l := by
  have hb := getN_bound l
  rw [h] at hb
  have e : (wrap64 (getN l) % 18446744073709551616).toNat = (getN l).toNat := by unfold wrap64; omega
  rw [e, bytes_gN h]
theorem gR_lt {u : Nat} (h : u < two64) : (getR u).1 < two64 := by
  unfold getR
  split
  · show nanW < two64; decide
  · split
    · show 0 < two64; decide
    · exact backW_lt h
theorem wrap64_bds (a : Int) : -9223372036854775808 ≤ wrap64 a ∧ wrap64 a ≤ 9223372036854775807 := by unfold wrap64; omega
theorem actOkB {k : Int} {x : Nat} {n : Int} {s : ByteArray} (hk : -9223372036854775808 ≤ k ∧ k ≤ 9223372036854775807) (hx : x < two64) (hn : -9223372036854775808 ≤ n ∧ n ≤ 9223372036854775807) (hs : s.size ≤ 140737488351232) : ActL.Ok ⟨k, x, n, s⟩ := ⟨hk, hx, hn, hs⟩
theorem num_right (k : Int) (x : Nat) (hk : k = 0 ∨ k = 2 ∨ k = 3) : rightB ⟨k, x, 0, nilS⟩ = true := by
  rcases hk with rfl | rfl | rfl <;> simp [rightB, nil_list, show nilS.size = 0 from rfl]
theorem numA_again {k : Int} {m : List UInt8} (h : (numA k m).2 = 0) :
    ∃ x, x < two64 ∧ (numA k m).1 = ⟨k, x, 0, nilS⟩ ∧ bytesN8 (fkey x) = m := by
  unfold numA at h ⊢
  split
  · rename_i q
    exact ⟨_, gR_lt (gN_lt8 q.1).2, rfl, bytes_gR q.1 q.2⟩
  · rename_i q; rw [if_neg q] at h; exact absurd h (by decide)
theorem putA1 (n : Int) : putA ⟨1, 0, n, nilS⟩ = 1 :: bytesN8 (n % 18446744073709551616).toNat := by
  unfold putA
  rw [if_neg (show ¬ (1 : Int) = 0 by decide), if_pos rfl]
theorem putA2 (x : Nat) : putA ⟨2, x, 0, nilS⟩ = 2 :: bytesN8 (fkey x) := by
  unfold putA
  rw [if_neg (show ¬ (2 : Int) = 0 by decide), if_neg (show ¬ (2 : Int) = 1 by decide), if_pos rfl]
theorem putA3 (x : Nat) : putA ⟨3, x, 0, nilS⟩ = 3 :: bytesN8 (fkey x) := by
  unfold putA
  rw [if_neg (show ¬ (3 : Int) = 0 by decide), if_neg (show ¬ (3 : Int) = 1 by decide), if_neg (show ¬ (3 : Int) = 2 by decide), if_pos rfl]
/-- what is got is put again as it was, and is a right act -/
theorem putA_getA (l : List UInt8) (h : (getA l).2 = 0) : putA (getA l).1 = l ∧ rightB (getA l).1 = true ∧ (getA l).1.Ok := by
  have hno : ∀ {P : Prop}, badA.2 = 0 → P := fun q => absurd q (by decide)
  cases l with
  | nil => exact hno h
  | cons c l =>
    have e : getA (c :: l) = if c = 0 then setA l else if c = 1 then (if l.length = 8 then (⟨1, 0, wrap64 (getN l), nilS⟩, 0) else badA) else if c = 2 then numA 2 l else if c = 3 then numA 3 l else if c = 4 then (if l = [] then (⟨4, 0, 0, nilS⟩, 0) else badA) else badA := by
      unfold getA; rw [if_neg (by simp)]; rfl
    rw [e] at h ⊢
    by_cases h0 : c = 0
    · rw [if_pos h0] at h ⊢; subst h0
      by_cases h1 : l = []
      · subst h1; exact hno h
      · obtain ⟨d, m, rfl⟩ := List.exists_cons_of_ne_nil h1
        have e1 : setA (d :: m) = if d = 110 then numA 0 m else if d = 116 then (if 2 ≤ (d :: m).length ∧ (d :: m).length ≤ 1025 then (⟨0, 0, 0, ⟨m.toArray⟩⟩, 0) else badA) else badA := by
          unfold setA; rw [if_neg (by simp)]; rfl
        rw [e1] at h ⊢
        clear e1
        by_cases h2 : d = 110
        · rw [if_pos h2] at h ⊢; subst h2
          obtain ⟨x, hx, e1, e2⟩ := numA_again h
          rw [e1]
          refine ⟨?_, num_right 0 x (.inl rfl), actOkB (by decide) hx (by decide) nil_small⟩
          unfold putA
          rw [if_pos rfl, nil_empty, if_pos rfl]
          rw [e2]
        · rw [if_neg h2] at h ⊢
          by_cases h3 : d = 116
          · rw [if_pos h3] at h ⊢; subst h3
            by_cases h4 : 2 ≤ (116 :: m).length ∧ (116 :: m).length ≤ 1025
            · rw [if_pos h4]
              have hm : m ≠ [] := by rintro rfl; simp at h4
              have hs : (⟨m.toArray⟩ : ByteArray).size = m.length := (SB.mk m).size
              have hne : (⟨m.toArray⟩ : ByteArray).toList.isEmpty = false := by
                rw [ByteArray.toList_eq]
                cases m with
                | nil => exact absurd rfl hm
                | cons a l => rfl
              have hl := h4.2
              rw [List.length_cons] at hl
              refine ⟨?_, ?_, actOkB (by decide) (by decide) (by decide) ?_⟩
              · unfold putA
                rw [if_pos rfl, hne, if_neg (by simp)]
              · simp only [rightB, hs]
                rw [decide_eq_true (by omega : m.length ≤ 1024)]
                simp [nought_zero]
              · show (⟨m.toArray⟩ : ByteArray).size ≤ _
                rw [hs]; omega
            · rw [if_neg h4] at h; exact hno h
          · rw [if_neg h3] at h; exact hno h
    · rw [if_neg h0] at h ⊢
      by_cases h1 : c = 1
      · rw [if_pos h1] at h ⊢; subst h1
        by_cases hl : l.length = 8
        · rw [if_pos hl]
          refine ⟨?_, right_add _, actOkB (by decide) (by decide) (wrap64_bds _) nil_small⟩
          rw [putA1, bytes_wrap8 hl]
        · rw [if_neg hl] at h; exact hno h
      · rw [if_neg h1] at h ⊢
        by_cases h2 : c = 2
        · rw [if_pos h2] at h ⊢; subst h2
          obtain ⟨x, hx, e1, e2⟩ := numA_again h
          rw [e1]
          refine ⟨?_, num_right 2 x (.inr (.inl rfl)), actOkB (by decide) hx (by decide) nil_small⟩
          rw [putA2, e2]
        · rw [if_neg h2] at h ⊢
          by_cases h3 : c = 3
          · rw [if_pos h3] at h ⊢; subst h3
            obtain ⟨x, hx, e1, e2⟩ := numA_again h
            rw [e1]
            refine ⟨?_, num_right 3 x (.inr (.inr rfl)), actOkB (by decide) hx (by decide) nil_small⟩
            rw [putA3, e2]
          · rw [if_neg h3] at h ⊢
            by_cases h4 : c = 4
            · rw [if_pos h4] at h ⊢; subst h4
              by_cases hl : l = []
              · rw [if_pos hl]; subst hl
                refine ⟨rfl, by decide +kernel, ⟨by decide, by decide, by decide, by decide⟩⟩
              · rw [if_neg hl] at h; exact hno h
            · rw [if_neg h4] at h; exact hno h
end Go.Proofs.YtaelghbjbopilaaGreat
end

/- requests in bytes: plain definitions and laws. By an AI agent. -/
section
set_option linter.unusedVariables false
set_option linter.unusedSimpArgs false
namespace Go.Proofs.YtaelghbjbopilaaGreat
open Go.RowKit

/-! ### numbers, texts, vectors in bytes, and read -/
def numB (x : Int) (n : Nat) : List UInt8 := bytesN (putN x n n)
theorem numB_len (x : Int) (n : Nat) : (numB x n).length = n := by unfold numB; rw [bytesN_len, putN_len]
theorem numB_succ (x : Int) (n : Nat) : numB x (n + 1) = numB (x / 256) n ++ [UInt8.ofNat (x % 256).toNat] := by
  have e : putN x (n + 1) (n + 1) = putN (x / 256) n n ++ [x % 256] := by
    unfold putN
    rw [List.range_succ, List.map_append]
    congr 1
    · apply List.map_congr_left
      intro j hj
      rw [List.mem_range] at hj
      rw [if_pos (by omega), if_pos (by omega)]
      unfold byteAt
      rw [show n + 1 - 1 - j = (n - 1 - j) + 1 by omega, Nat.mul_succ, Nat.add_comm, Int.pow_add, Int.ediv_ediv_of_nonneg (by decide)]
      rfl
    · simp [byteAt]
  unfold numB
  rw [e, bytesN_append]
  rfl
theorem getN_numB (n : Nat) : ∀ x : Int, 0 ≤ x → x < 256 ^ n → getN (numB x n) = x := by
  induction n with
  | zero => intro x h0 h1; simp at h1; have : x = 0 := by omega
            subst this; rfl
  | succ n ih =>
    intro x h0 h1
    rw [numB_succ, getN_snoc, ih (x / 256) (by omega) (by rw [Int.pow_succ] at h1; omega)]
    have : ((UInt8.ofNat (x % 256).toNat).toNat : Int) = x % 256 := by simp; omega
    rw [this]; omega
theorem numB_getN {l : List UInt8} {n : Nat} (h : l.length = n) : numB (getN l) n = l := by
  have hb := getN_bound l
  rw [h] at hb
  exact gN_inj n _ _ (numB_len _ _) h (getN_numB n _ hb.1 hb.2)
def textB (l : List UInt8) : List UInt8 := numB (l.length : Int) 4 ++ l
def vecS (xs : List Int) : List UInt8 := if validL xs then putL xs else []
def vecB (xs : List Int) : List UInt8 := textB (vecS xs)
theorem textB_len (l : List UInt8) : (textB l).length = 4 + l.length := by unfold textB; rw [List.length_append, numB_len]

def rdTake (n : Nat) (l : List UInt8) : Option (List UInt8 × List UInt8) := if n ≤ l.length then some (l.take n, l.drop n) else none
def rdNum (n : Nat) (l : List UInt8) : Option (Int × List UInt8) := if n ≤ l.length then some (getN (l.take n), l.drop n) else none
def rdText (l : List UInt8) : Option (List UInt8 × List UInt8) := (rdNum 4 l).bind fun p => rdTake p.1.toNat p.2
def vecP : List UInt8 → Option (List Int)
  | [] => some []
  | c :: m => if 1 ≤ c.toNat ∧ c.toNat ≤ 8 ∧ m.length = 6 * c.toNat then some (valsL c.toNat m) else none
theorem vecP_cons (c : UInt8) (m : List UInt8) : vecP (c :: m) = if 1 ≤ c.toNat ∧ c.toNat ≤ 8 ∧ m.length = 6 * c.toNat then some (valsL c.toNat m) else none := rfl
def rdVec (l : List UInt8) : Option (List Int × List UInt8) := (rdText l).bind fun p => (vecP p.1).map fun xs => (xs, p.2)
def rdAct (l : List UInt8) : Option (ActL × List UInt8) := (rdText l).bind fun p => if (getA p.1).2 = 0 then some ((getA p.1).1, p.2) else none

theorem rdNum_put (n : Nat) (x : Int) (m : List UInt8) (h0 : 0 ≤ x) (h1 : x < 256 ^ n) : rdNum n (numB x n ++ m) = some (x, m) := by
  unfold rdNum
  rw [if_pos (by rw [List.length_append, numB_len]; omega), List.take_left' (numB_len _ _), List.drop_left' (numB_len _ _), getN_numB n x h0 h1]
theorem rdNum_back {n : Nat} {l m : List UInt8} {x : Int} (h : rdNum n l = some (x, m)) : l = numB x n ++ m ∧ 0 ≤ x ∧ x < 256 ^ n := by
  unfold rdNum at h
  split at h
  · rename_i hn
    simp only [Option.some.injEq, Prod.mk.injEq] at h
    obtain ⟨rfl, rfl⟩ := h
    have hl : (l.take n).length = n := by rw [List.length_take]; omega
    have hb := getN_bound (l.take n)
    rw [hl] at hb
    rw [numB_getN hl, List.take_append_drop]
    exact ⟨rfl, hb⟩
  · cases h
theorem rdTake_back {n : Nat} {l t m : List UInt8} (h : rdTake n l = some (t, m)) : l = t ++ m ∧ t.length = n := by
  unfold rdTake at h
  split at h
  · rename_i hn
    simp only [Option.some.injEq, Prod.mk.injEq] at h
    obtain ⟨rfl, rfl⟩ := h
    exact ⟨(List.take_append_drop _ _).symm, by rw [List.length_take]; omega⟩
  · cases h
theorem rdText_put (l m : List UInt8) (h : l.length < 4294967296) : rdText (textB l ++ m) = some (l, m) := by
  unfold rdText textB
  rw [List.append_assoc, rdNum_put 4 _ _ (by omega) (by rw [show (256 : Int) ^ 4 = 4294967296 from rfl]; omega)]
  show rdTake ((l.length : Int)).toNat (l ++ m) = _
  unfold rdTake
  rw [Int.toNat_natCast, if_pos (by rw [List.length_append]; omega), List.take_left, List.drop_left]
theorem rdText_back {l t m : List UInt8} (h : rdText l = some (t, m)) : l = textB t ++ m := by
  unfold rdText at h
  obtain ⟨p, hp, h2⟩ := Option.bind_eq_some_iff.1 h
  obtain ⟨e1, h0, h1⟩ := rdNum_back (x := p.1) (m := p.2) hp
  obtain ⟨e2, e3⟩ := rdTake_back h2
  unfold textB
  rw [e1, e2, e3, Int.toNat_of_nonneg h0, List.append_assoc]
theorem body_vals (m : List UInt8) : ∀ k, 6 * k ≤ m.length → putBodyL (valsL k m) = m.take (6 * k) := by
  intro k
  induction k with
  | zero => intro _; simp [valsL, putBodyL]
  | succ k ih =>
    intro h
    rw [valsL_succ, putBodyL_snoc, ih (by omega)]
    have hl : ((m.drop (6 * k)).take 6).length = 6 := by rw [List.length_take, List.length_drop]; omega
    have := numB_getN hl
    unfold numB at this
    rw [this, show 6 * (k + 1) = 6 * k + 6 by omega, List.take_add]
theorem validL_of {xs : List Int} (h1 : 1 ≤ xs.length) (h8 : xs.length ≤ 8) (hx : ∀ x ∈ xs, 0 ≤ x ∧ x < 281474976710656) : validL xs = true := by
  unfold validL
  rw [decide_eq_true h1, decide_eq_true h8]
  simp only [Bool.true_and, Bool.not_eq_true']
  rw [List.any_eq_false]
  intro x hm
  have := hx x hm
  simp only [badT, decide_eq_true_eq]
  omega
theorem vecS_len (xs : List Int) : (vecS xs).length ≤ 49 := by
  unfold vecS
  split
  · rename_i h
    have := (valid_parts h).2.1
    unfold putL
    rw [List.length_cons, putBodyL_len]; omega
  · simp
theorem vecP_put {xs : List Int} (h : xs = [] ∨ validL xs = true) : vecP (vecS xs) = some xs := by
  unfold vecS
  rcases h with rfl | h
  · rfl
  · rw [if_pos h]
    have hv := valid_parts h
    unfold putL
    rw [vecP_cons]
    have e : (UInt8.ofNat xs.length).toNat = xs.length := by simp; omega
    have hb : (putBodyL xs).length = 6 * xs.length := putBodyL_len xs
    have := vals_put xs [] hv.2.2
    rw [List.append_nil] at this
    rw [e, if_pos ⟨hv.1, hv.2.1, hb⟩, this]
theorem vecP_back {t : List UInt8} {xs : List Int} (h : vecP t = some xs) : t = vecS xs ∧ (xs = [] ∨ validL xs = true) := by
  cases t with
  | nil =>
    obtain rfl : ([] : List Int) = xs := by simpa [vecP] using h
    exact ⟨rfl, .inl rfl⟩
  | cons c m =>
    rw [vecP_cons] at h
    split at h
    · rename_i hc
      simp only [Option.some.injEq] at h
      subst h
      have hv : validL (valsL c.toNat m) = true := validL_of (by rw [valsL_len]; exact hc.1) (by rw [valsL_len]; exact hc.2.1) (valsL_bound _ _)
      refine ⟨?_, .inr hv⟩
      unfold vecS
      rw [if_pos hv]
      unfold putL
      rw [valsL_len, body_vals m _ (by omega), List.take_of_length_le (by omega)]
      simp
    · cases h
theorem rdVec_put (xs : List Int) (m : List UInt8) (h : xs = [] ∨ validL xs = true) : rdVec (vecB xs ++ m) = some (xs, m) := by
  unfold rdVec vecB
  rw [rdText_put _ _ (by have := vecS_len xs; omega)]
  show (vecP (vecS xs)).map _ = _
  rw [vecP_put h]; rfl
theorem rdVec_back {l m : List UInt8} {xs : List Int} (h : rdVec l = some (xs, m)) : l = vecB xs ++ m ∧ (xs = [] ∨ validL xs = true) := by
  unfold rdVec at h
  obtain ⟨p, hp, h2⟩ := Option.bind_eq_some_iff.1 h
  obtain ⟨ys, hy, h3⟩ := Option.map_eq_some_iff.1 h2
  simp only [Prod.mk.injEq] at h3
  obtain ⟨rfl, rfl⟩ := h3
  have e1 := rdText_back (t := p.1) (m := p.2) hp
  obtain ⟨e2, e3⟩ := vecP_back hy
  refine ⟨?_, e3⟩
  unfold vecB
  rw [e1, e2]
theorem rdAct_put {a : ActL} (m : List UInt8) (ok : a.Ok) (h : rightB a = true) : ∃ b, rdAct (textB (putS a) ++ m) = some (b, m) ∧ sameA a b = true := by
  have e : putS a = putA a := by unfold putS; rw [h]; rfl
  obtain ⟨h1, h2⟩ := getA_putA ok h
  refine ⟨(getA (putA a)).1, ?_, h2⟩
  unfold rdAct
  rw [e, rdText_put _ _ (by have := putA_len h; omega)]
  show (if (getA (putA a)).2 = 0 then some ((getA (putA a)).1, m) else none) = _
  rw [if_pos h1]

/-! ### requests -/
structure AskL where
  kind : Int
  ses : Int
  tx : Int
  id : Int
  num : Int
  at_ : List Int
  key : ByteArray
  text : ByteArray
  act : ActL
def zeroAct : ActL := ⟨0, 0, 0, nilS⟩
def uSes (k : Int) : Bool := decide (k ≠ 0)
def uAt (k : Int) : Bool := decide (k = 2 ∨ k = 8 ∨ k = 14)
def uTx (k : Int) : Bool := decide (3 ≤ k ∧ k ≤ 7)
def uKey (k : Int) : Bool := decide (k = 3 ∨ k = 4 ∨ k = 7)
def uAct (k : Int) : Bool := decide (k = 4)
def uText (k : Int) : Bool := decide (k = 7 ∨ k = 15)
def uNum (k : Int) : Bool := decide (k = 7 ∨ k = 8 ∨ k = 9)
def uId (k : Int) : Bool := decide (k = 9 ∨ k = 10)
def rangeB (x : Int) (used : Bool) : Bool := decide (0 ≤ x) && (decide (x ≤ 281474976710655) && (used || decide (x = 0)))
/-- the bytes of what is a request at all -/
def askFrontB (a : AskL) : Bool := decide (0 ≤ a.kind ∧ a.kind ≤ 15) && (decide (a.key.size ≤ 64) && (decide (a.text.size ≤ 32768) && (decide (a.at_.length = 0) || (uAt a.kind && validL a.at_))))
def askActB (a : AskL) : Bool := if uAct a.kind then rightB a.act else sameA a.act zeroAct
def askTextsB (a : AskL) : Bool := (uKey a.kind || decide (a.key.size = 0)) && (uText a.kind || decide (a.text.size = 0))
def askNumsB (a : AskL) : Bool := rangeB a.ses (uSes a.kind) && (rangeB a.tx (uTx a.kind) && (rangeB a.id (uId a.kind) && rangeB a.num (uNum a.kind)))
def validA (a : AskL) : Bool := askFrontB a && (askActB a && (askTextsB a && askNumsB a))
def putAsk (a : AskL) : List UInt8 :=
  numB a.kind 1 ++ (numB a.ses 6 ++ (numB a.tx 6 ++ (numB a.id 6 ++ (numB a.num 6 ++ (vecB a.at_ ++ (textB a.key.data.toList ++ (textB a.text.data.toList ++ textB (putS a.act))))))))
def rdAsk (l : List UInt8) : Option AskL :=
  (rdNum 1 l).bind fun p1 => (rdNum 6 p1.2).bind fun p2 => (rdNum 6 p2.2).bind fun p3 => (rdNum 6 p3.2).bind fun p4 => (rdNum 6 p4.2).bind fun p5 =>
  (rdVec p5.2).bind fun p6 => (rdText p6.2).bind fun p7 => (rdText p7.2).bind fun p8 => (rdAct p8.2).bind fun p9 =>
    if p9.2 = [] ∧ validA ⟨p1.1, p2.1, p3.1, p4.1, p5.1, p6.1, ⟨p7.1.toArray⟩, ⟨p8.1.toArray⟩, p9.1⟩ = true then some ⟨p1.1, p2.1, p3.1, p4.1, p5.1, p6.1, ⟨p7.1.toArray⟩, ⟨p8.1.toArray⟩, p9.1⟩ else none
def sameAsk (a b : AskL) : Bool := decide (a.kind = b.kind) && (decide (a.ses = b.ses) && (decide (a.tx = b.tx) && (decide (a.id = b.id) && (decide (a.num = b.num) && (decide (a.at_ = b.at_) && (decide (a.key = b.key) && (decide (a.text = b.text) && sameA a.act b.act)))))))

structure ValidA (a : AskL) : Prop where
  k0 : 0 ≤ a.kind
  k1 : a.kind ≤ 15
  key : a.key.size ≤ 64
  text : a.text.size ≤ 32768
  at_ : a.at_ = [] ∨ validL a.at_ = true
  act : rightB a.act = true
  ses : 0 ≤ a.ses ∧ a.ses ≤ 281474976710655
  tx : 0 ≤ a.tx ∧ a.tx ≤ 281474976710655
  id : 0 ≤ a.id ∧ a.id ≤ 281474976710655
  num : 0 ≤ a.num ∧ a.num ≤ 281474976710655
theorem rangeB_in {x : Int} {u : Bool} (h : rangeB x u = true) : 0 ≤ x ∧ x ≤ 281474976710655 := by
  simp only [rangeB, Bool.and_eq_true, decide_eq_true_eq] at h
  exact ⟨h.1, h.2.1⟩
theorem sameA_iff {a b : ActL} : sameA a b = true ↔ a.k = b.k ∧ fkey a.x = fkey b.x ∧ a.n = b.n ∧ a.s = b.s := by
  simp only [sameA, Bool.and_eq_true, decide_eq_true_eq, beq_iff_eq]
  constructor
  · rintro ⟨h1, h2, h3, h4⟩
    refine ⟨h1, h2, h3, ?_⟩
    rw [ByteArray.toList_eq, ByteArray.toList_eq] at h4
    exact ByteArray.ext (Array.toList_inj.1 h4)
  · rintro ⟨h1, h2, h3, h4⟩
    exact ⟨h1, h2, h3, by rw [h4]⟩
theorem sameA_right {a b : ActL} (h : sameA a b = true) : rightB a = rightB b := by
  obtain ⟨h1, h2, h3, h4⟩ := sameA_iff.1 h
  unfold rightB noughtB
  rw [h1, h2, h3, h4]
theorem zeroAct_right : rightB zeroAct = true := num_right 0 0 (.inl rfl)
theorem validA_parts {a : AskL} (h : validA a = true) : ValidA a := by
  simp only [validA, askFrontB, askActB, askTextsB, askNumsB, Bool.and_eq_true, decide_eq_true_eq] at h
  obtain ⟨⟨⟨k0, k1⟩, key, text, hat⟩, hact, -, s, t, i, n⟩ := h
  refine ⟨k0, k1, key, text, ?_, ?_, rangeB_in s, rangeB_in t, rangeB_in i, rangeB_in n⟩
  · rw [Bool.or_eq_true] at hat
    rcases hat with h | h
    · exact .inl (List.eq_nil_of_length_eq_zero (of_decide_eq_true h))
    · rw [Bool.and_eq_true] at h; exact .inr h.2
  · split at hact
    · exact hact
    · rw [sameA_right hact]; exact zeroAct_right
theorem sameAsk_iff {a b : AskL} : sameAsk a b = true ↔ a.kind = b.kind ∧ a.ses = b.ses ∧ a.tx = b.tx ∧ a.id = b.id ∧ a.num = b.num ∧ a.at_ = b.at_ ∧ a.key = b.key ∧ a.text = b.text ∧ sameA a.act b.act = true := by
  simp only [sameAsk, Bool.and_eq_true, decide_eq_true_eq]
theorem sameAsk_valid {a b : AskL} (h : sameAsk a b = true) : validA a = validA b := by
  obtain ⟨h1, h2, h3, h4, h5, h6, h7, h8, h9⟩ := sameAsk_iff.1 h
  have h10 := sameA_right h9
  have h11 : sameA a.act zeroAct = sameA b.act zeroAct := by
    obtain ⟨e1, e2, e3, e4⟩ := sameA_iff.1 h9
    unfold sameA
    rw [e1, e2, e3, e4]
  unfold validA askFrontB askActB askTextsB askNumsB
  rw [h1, h2, h3, h4, h5, h6, h7, h8, h10, h11]
/-- what is put is read as it was -/
theorem rdAsk_put {a : AskL} (ok : a.act.Ok) (h : validA a = true) : ∃ b, rdAsk (putAsk a) = some b ∧ sameAsk a b = true := by
  have V := validA_parts h
  obtain ⟨c, hc, hs⟩ := rdAct_put [] ok V.act
  rw [List.append_nil] at hc
  have hn : ∀ x : Int, x ≤ 281474976710655 → x < 256 ^ 6 := fun x hx => by rw [show (256 : Int) ^ 6 = 281474976710656 from rfl]; omega
  have hk : (⟨a.key.data.toList.toArray⟩ : ByteArray) = a.key := by simp
  have ht : (⟨a.text.data.toList.toArray⟩ : ByteArray) = a.text := by simp
  have hsame : sameAsk a ⟨a.kind, a.ses, a.tx, a.id, a.num, a.at_, a.key, a.text, c⟩ = true := sameAsk_iff.2 ⟨rfl, rfl, rfl, rfl, rfl, rfl, rfl, rfl, hs⟩
  refine ⟨⟨a.kind, a.ses, a.tx, a.id, a.num, a.at_, a.key, a.text, c⟩, ?_, hsame⟩
  unfold rdAsk putAsk
  rw [rdNum_put 1 _ _ V.k0 (by have := V.k1; rw [show (256 : Int) ^ 1 = 256 from rfl]; omega), Option.bind_some]
  rw [rdNum_put 6 _ _ V.ses.1 (hn _ V.ses.2), Option.bind_some]
  rw [rdNum_put 6 _ _ V.tx.1 (hn _ V.tx.2), Option.bind_some]
  rw [rdNum_put 6 _ _ V.id.1 (hn _ V.id.2), Option.bind_some]
  rw [rdNum_put 6 _ _ V.num.1 (hn _ V.num.2), Option.bind_some]
  rw [rdVec_put _ _ V.at_, Option.bind_some]
  rw [rdText_put _ _ (by have := V.key; rw [← ByteArray.size_data, ← Array.length_toList] at this; omega), Option.bind_some]
  rw [rdText_put _ _ (by have := V.text; rw [← ByteArray.size_data, ← Array.length_toList] at this; omega), Option.bind_some]
  rw [hc, Option.bind_some]
  dsimp only
  rw [hk, ht, if_pos ⟨rfl, by rw [← sameAsk_valid hsame]; exact h⟩]
theorem putAsk_len {a : AskL} (h : validA a = true) : (putAsk a).length ≤ 40000 := by
  have V := validA_parts h
  have h1 := vecS_len a.at_
  have h2 : (putS a.act).length ≤ 1026 := by unfold putS; rw [V.act, if_pos rfl]; exact putA_len V.act
  have h3 : a.key.data.toList.length ≤ 64 := by simpa using V.key
  have h4 : a.text.data.toList.length ≤ 32768 := by simpa using V.text
  unfold putAsk vecB
  simp only [List.length_append, numB_len, textB_len]
  omega
end Go.Proofs.YtaelghbjbopilaaGreat
end
