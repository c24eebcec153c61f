import Derived.Test.YtkpikmfijcffiaaGreatQTxnWritesUptoP10
import Derived.Test.YtkpikmfijcffiaaGreatQTxnWritesUptoP8
import Derived.Test.YtkpikmfijcffiaaGreatQBase
import Derived.Test.YtkpikmfijcffiaaGreatQRawPG

/- acts read out of bytes are put again as those bytes. By an AI agent. -/
section
namespace Go.Proofs.YtkpikmfijcffiaaGreat
open Go.RowKit

theorem gN_inj : ∀ (n : Nat) (l m : List UInt8), l.length = n → m.length = n → getN l = getN m → l = m := by
  intro n
  induction n with
  | zero => intro l m hl hm _; rw [List.eq_nil_of_length_eq_zero hl, List.eq_nil_of_length_eq_zero hm]
  | succ n ih =>
    intro l m hl hm h
    have hl0 : l ≠ [] := by rintro rfl; simp at hl
    have hm0 : m ≠ [] := by rintro rfl; simp at hm
    have el := List.dropLast_concat_getLast hl0
    have em := List.dropLast_concat_getLast hm0
    rw [← el, ← em, getN_snoc, getN_snoc] at h
    have b1 := UInt8.toNat_lt (l.getLast hl0)
    have b2 := UInt8.toNat_lt (m.getLast hm0)
    have h1 : getN l.dropLast = getN m.dropLast := by omega
    have h2 : (l.getLast hl0).toNat = (m.getLast hm0).toNat := by omega
    have h3 := ih l.dropLast m.dropLast (by simp [hl]) (by simp [hm]) h1
    have h4 : l.getLast hl0 = m.getLast hm0 := UInt8.toNat_inj.1 h2
    rw [← el, ← em, h3, h4]
theorem gN_lt8 {l : List UInt8} (h : l.length = 8) : 0 ≤ getN l ∧ (getN l).toNat < two64 := by
  have hb := getN_bound l
  rw [h] at hb
  unfold two64
  exact ⟨hb.1, by omega⟩
theorem bytes_gN {l : List UInt8} (h : l.length = 8) : bytesN8 (getN l).toNat = l := by
  obtain ⟨h0, h1⟩ := gN_lt8 h
  refine gN_inj 8 _ _ (bytesN8_len _) h ?_
  rw [getN_put8 _ h1]; omega
theorem fkey_gR {u : Nat} (h : u < two64) (hc : (getR u).2 = 0) : fkey (getR u).1 = u := by
  unfold getR at *
  by_cases h0 : u = 0
  · rw [if_pos h0]; subst h0; decide +kernel
  · rw [if_neg h0] at hc ⊢
    cases hn : nanB (backW u)
    · rw [if_neg (by simp)]
      show fkey (backW u) = u
      rw [fkey_num hn]
      unfold backW
      by_cases k : two63 ≤ u
      · rw [if_pos k, if_neg (by unfold two63 two64 at *; omega)]; omega
      · rw [if_neg k, if_pos (by unfold two63 two64 at *; omega)]; unfold two64 at *; omega
    · rw [hn, if_pos rfl] at hc; exact absurd hc (by decide)
theorem bytes_gR {l : List UInt8} (h : l.length = 8) (hc : (getR (getN l).toNat).2 = 0) : bytesN8 (fkey (getR (getN l).toNat).1) = l := by
  rw [fkey_gR (gN_lt8 h).2 hc, bytes_gN h]
theorem bytes_wrap8 {l : List UInt8} (h : l.length = 8) : bytesN8 (wrap64 (getN l) % 18446744073709551616).toNat = l := by
  have hb := getN_bound l
  rw [h] at hb
  have e : (wrap64 (getN l) % 18446744073709551616).toNat = (getN l).toNat := by unfold wrap64; omega
  rw [e, bytes_gN h]
theorem gR_lt {u : Nat} (h : u < two64) : (getR u).1 < two64 := by
  unfold getR
  split
  · show nanW < two64; decide
  · split
    · show 0 < two64; decide
    · exact backW_lt h
theorem wrap64_bds (a : Int) : -9223372036854775808 ≤ wrap64 a ∧ wrap64 a ≤ 9223372036854775807 := by unfold wrap64; omega
theorem actOkB {k : Int} {x : Nat} {n : Int} {s : ByteArray} (hk : -9223372036854775808 ≤ k ∧ k ≤ 9223372036854775807) (hx : x < two64) (hn : -9223372036854775808 ≤ n ∧ n ≤ 9223372036854775807) (hs : s.size ≤ 140737488351232) : ActL.Ok ⟨k, x, n, s⟩ := ⟨hk, hx, hn, hs⟩
theorem num_right (k : Int) (x : Nat) (hk : k = 0 ∨ k = 2 ∨ k = 3) : rightB ⟨k, x, 0, nilS⟩ = true := by
  rcases hk with rfl | rfl | rfl <;> simp [rightB, nil_list, show nilS.size = 0 from rfl]
theorem numA_again {k : Int} {m : List UInt8} (h : (numA k m).2 = 0) :
    ∃ x, x < two64 ∧ (numA k m).1 = ⟨k, x, 0, nilS⟩ ∧ bytesN8 (fkey x) = m := by
  unfold numA at h ⊢
  split
  · rename_i q
    exact ⟨_, gR_lt (gN_lt8 q.1).2, rfl, bytes_gR q.1 q.2⟩
  · rename_i q; rw [if_neg q] at h; exact absurd h (by decide)
theorem putA1 (n : Int) : putA ⟨1, 0, n, nilS⟩ = 1 :: bytesN8 (n % 18446744073709551616).toNat := by
  unfold putA
  rw [if_neg (show ¬ (1 : Int) = 0 by decide), if_pos rfl]
theorem putA2 (x : Nat) : putA ⟨2, x, 0, nilS⟩ = 2 :: bytesN8 (fkey x) := by
  unfold putA
  rw [if_neg (show ¬ (2 : Int) = 0 by decide), if_neg (show ¬ (2 : Int) = 1 by decide), if_pos rfl]
theorem putA3 (x : Nat) : putA ⟨3, x, 0, nilS⟩ = 3 :: bytesN8 (fkey x) := by
  unfold putA
  rw [if_neg (show ¬ (3 : Int) = 0 by decide), if_neg (show ¬ (3 : Int) = 1 by decide), if_neg (show ¬ (3 : Int) = 2 by decide), if_pos rfl]
/-- what is got is put again as it was, and is a right act -/
theorem putA_getA (l : List UInt8) (h : (getA l).2 = 0) : putA (getA l).1 = l ∧ rightB (getA l).1 = true ∧ (getA l).1.Ok := by
  have hno : ∀ {P : Prop}, badA.2 = 0 → P := fun q => absurd q (by decide)
  cases l with
  | nil => exact hno h
  | cons c l =>
    have e : getA (c :: l) = if c = 0 then setA l else if c = 1 then (if l.length = 8 then (⟨1, 0, wrap64 (getN l), nilS⟩, 0) else badA) else if c = 2 then numA 2 l else if c = 3 then numA 3 l else if c = 4 then (if l = [] then (⟨4, 0, 0, nilS⟩, 0) else badA) else badA := by
      unfold getA; rw [if_neg (by simp)]; rfl
    rw [e] at h ⊢
    by_cases h0 : c = 0
    · rw [if_pos h0] at h ⊢; subst h0
      by_cases h1 : l = []
      · subst h1; exact hno h
      · obtain ⟨d, m, rfl⟩ := List.exists_cons_of_ne_nil h1
        have e1 : setA (d :: m) = if d = 110 then numA 0 m else if d = 116 then (if 2 ≤ (d :: m).length ∧ (d :: m).length ≤ 1025 then (⟨0, 0, 0, ⟨m.toArray⟩⟩, 0) else badA) else badA := by
          unfold setA; rw [if_neg (by simp)]; rfl
        rw [e1] at h ⊢
        clear e1
        by_cases h2 : d = 110
        · rw [if_pos h2] at h ⊢; subst h2
          obtain ⟨x, hx, e1, e2⟩ := numA_again h
          rw [e1]
          refine ⟨?_, num_right 0 x (.inl rfl), actOkB (by decide) hx (by decide) nil_small⟩
          unfold putA
          rw [if_pos rfl, nil_empty, if_pos rfl]
          rw [e2]
        · rw [if_neg h2] at h ⊢
          by_cases h3 : d = 116
          · rw [if_pos h3] at h ⊢; subst h3
            by_cases h4 : 2 ≤ (116 :: m).length ∧ (116 :: m).length ≤ 1025
            · rw [if_pos h4]
              have hm : m ≠ [] := by rintro rfl; simp at h4
              have hs : (⟨m.toArray⟩ : ByteArray).size = m.length := (SB.mk m).size
              have hne : (⟨m.toArray⟩ : ByteArray).toList.isEmpty = false := by
                rw [ByteArray.toList_eq]
                cases m with
                | nil => exact absurd rfl hm
                | cons a l => rfl
              have hl := h4.2
              rw [List.length_cons] at hl
              refine ⟨?_, ?_, actOkB (by decide) (by decide) (by decide) ?_⟩
              · unfold putA
                rw [if_pos rfl, hne, if_neg (by simp)]
              · simp only [rightB, hs]
                rw [decide_eq_true (by omega : m.length ≤ 1024)]
                simp [nought_zero]
              · show (⟨m.toArray⟩ : ByteArray).size ≤ _
                rw [hs]; omega
            · rw [if_neg h4] at h; exact hno h
          · rw [if_neg h3] at h; exact hno h
    · rw [if_neg h0] at h ⊢
      by_cases h1 : c = 1
      · rw [if_pos h1] at h ⊢; subst h1
        by_cases hl : l.length = 8
        · rw [if_pos hl]
          refine ⟨?_, right_add _, actOkB (by decide) (by decide) (wrap64_bds _) nil_small⟩
          rw [putA1, bytes_wrap8 hl]
        · rw [if_neg hl] at h; exact hno h
      · rw [if_neg h1] at h ⊢
        by_cases h2 : c = 2
        · rw [if_pos h2] at h ⊢; subst h2
          obtain ⟨x, hx, e1, e2⟩ := numA_again h
          rw [e1]
          refine ⟨?_, num_right 2 x (.inr (.inl rfl)), actOkB (by decide) hx (by decide) nil_small⟩
          rw [putA2, e2]
        · rw [if_neg h2] at h ⊢
          by_cases h3 : c = 3
          · rw [if_pos h3] at h ⊢; subst h3
            obtain ⟨x, hx, e1, e2⟩ := numA_again h
            rw [e1]
            refine ⟨?_, num_right 3 x (.inr (.inr rfl)), actOkB (by decide) hx (by decide) nil_small⟩
            rw [putA3, e2]
          · rw [if_neg h3] at h ⊢
            by_cases h4 : c = 4
            · rw [if_pos h4] at h ⊢; subst h4
              by_cases hl : l = []
              · rw [if_pos hl]; subst hl
                refine ⟨rfl, by decide +kernel, ⟨by decide, by decide, by decide, by decide⟩⟩
              · rw [if_neg hl] at h; exact hno h
            · rw [if_neg h4] at h; exact hno h
end Go.Proofs.YtkpikmfijcffiaaGreat
end

/- requests in bytes: plain definitions and laws. By an AI agent. -/
section
set_option linter.unusedVariables false
set_option linter.unusedSimpArgs false
namespace Go.Proofs.YtkpikmfijcffiaaGreat
open Go.RowKit

/-! ### numbers, texts, vectors in bytes, and read -/
def numB (x : Int) (n : Nat) : List UInt8 := bytesN (putN x n n)
theorem numB_len (x : Int) (n : Nat) : (numB x n).length = n := by unfold numB; rw [bytesN_len, putN_len]
theorem numB_succ (x : Int) (n : Nat) : numB x (n + 1) = numB (x / 256) n ++ [UInt8.ofNat (x % 256).toNat] := by
  have e : putN x (n + 1) (n + 1) = putN (x / 256) n n ++ [x % 256] := by
    unfold putN
    rw [List.range_succ, List.map_append]
    congr 1
    · apply List.map_congr_left
      intro j hj
      rw [List.mem_range] at hj
      rw [if_pos (by omega), if_pos (by omega)]
      unfold byteAt
      rw [show n + 1 - 1 - j = (n - 1 - j) + 1 by omega, Nat.mul_succ, Nat.add_comm, Int.pow_add, Int.ediv_ediv_of_nonneg (by decide)]
      rfl
    · simp [byteAt]
  unfold numB
  rw [e, bytesN_append]
  rfl
theorem getN_numB (n : Nat) : ∀ x : Int, 0 ≤ x → x < 256 ^ n → getN (numB x n) = x := by
  induction n with
  | zero => intro x h0 h1; simp at h1; have : x = 0 := by omega
            subst this; rfl
  | succ n ih =>
    intro x h0 h1
    rw [numB_succ, getN_snoc, ih (x / 256) (by omega) (by rw [Int.pow_succ] at h1; omega)]
    have : ((UInt8.ofNat (x % 256).toNat).toNat : Int) = x % 256 := by simp; omega
    rw [this]; omega
theorem numB_getN {l : List UInt8} {n : Nat} (h : l.length = n) : numB (getN l) n = l := by
  have hb := getN_bound l
  rw [h] at hb
  exact gN_inj n _ _ (numB_len _ _) h (getN_numB n _ hb.1 hb.2)
def textB (l : List UInt8) : List UInt8 := numB (l.length : Int) 4 ++ l
def vecS (xs : List Int) : List UInt8 := if validL xs then putL xs else []
def vecB (xs : List Int) : List UInt8 := textB (vecS xs)
theorem textB_len (l : List UInt8) : (textB l).length = 4 + l.length := by unfold textB; rw [List.length_append, numB_len]

def rdTake (n : Nat) (l : List UInt8) : Option (List UInt8 × List UInt8) := if n ≤ l.length then some (l.take n, l.drop n) else none
def rdNum (n : Nat) (l : List UInt8) : Option (Int × List UInt8) := if n ≤ l.length then some (getN (l.take n), l.drop n) else none
def rdText (l : List UInt8) : Option (List UInt8 × List UInt8) := (rdNum 4 l).bind fun p => rdTake p.1.toNat p.2
def vecP : List UInt8 → Option (List Int)
  | [] => some []
  | c :: m => if 1 ≤ c.toNat ∧ c.toNat ≤ 8 ∧ m.length = 6 * c.toNat then some (valsL c.toNat m) else none
theorem vecP_cons (c : UInt8) (m : List UInt8) : vecP (c :: m) = if 1 ≤ c.toNat ∧ c.toNat ≤ 8 ∧ m.length = 6 * c.toNat then some (valsL c.toNat m) else none := rfl
def rdVec (l : List UInt8) : Option (List Int × List UInt8) := (rdText l).bind fun p => (vecP p.1).map fun xs => (xs, p.2)
def rdAct (l : List UInt8) : Option (ActL × List UInt8) := (rdText l).bind fun p => if (getA p.1).2 = 0 then some ((getA p.1).1, p.2) else none

theorem rdNum_put (n : Nat) (x : Int) (m : List UInt8) (h0 : 0 ≤ x) (h1 : x < 256 ^ n) : rdNum n (numB x n ++ m) = some (x, m) := by
  unfold rdNum
  rw [if_pos (by rw [List.length_append, numB_len]; omega), List.take_left' (numB_len _ _), List.drop_left' (numB_len _ _), getN_numB n x h0 h1]
theorem rdNum_back {n : Nat} {l m : List UInt8} {x : Int} (h : rdNum n l = some (x, m)) : l = numB x n ++ m ∧ 0 ≤ x ∧ x < 256 ^ n := by
  unfold rdNum at h
  split at h
  · rename_i hn
    simp only [Option.some.injEq, Prod.mk.injEq] at h
    obtain ⟨rfl, rfl⟩ := h
    have hl : (l.take n).length = n := by rw [List.length_take]; omega
    have hb := getN_bound (l.take n)
    rw [hl] at hb
    rw [numB_getN hl, List.take_append_drop]
    exact ⟨rfl, hb⟩
  · cases h
theorem rdTake_back {n : Nat} {l t m : List UInt8} (h : rdTake n l = some (t, m)) : l = t ++ m ∧ t.length = n := by
  unfold rdTake at h
  split at h
  · rename_i hn
    simp only [Option.some.injEq, Prod.mk.injEq] at h
    obtain ⟨rfl, rfl⟩ := h
    exact ⟨(List.take_append_drop _ _).symm, by rw [List.length_take]; omega⟩
  · cases h
theorem rdText_put (l m : List UInt8) (h : l.length < 4294967296) : rdText (textB l ++ m) = some (l, m) := by
  unfold rdText textB
  rw [List.append_assoc, rdNum_put 4 _ _ (by omega) (by rw [show (256 : Int) ^ 4 = 4294967296 from rfl]; omega)]
  show rdTake ((l.length : Int)).toNat (l ++ m) = _
  unfold rdTake
  rw [Int.toNat_natCast, if_pos (by rw [List.length_append]; omega), List.take_left, List.drop_left]
theorem rdText_back {l t m : List UInt8} (h : rdText l = some (t, m)) : l = textB t ++ m := by
  unfold rdText at h
  obtain ⟨p, hp, h2⟩ := Option.bind_eq_some_iff.1 h
  obtain ⟨e1, h0, h1⟩ := rdNum_back (x := p.1) (m := p.2) hp
  obtain ⟨e2, e3⟩ := rdTake_back h2
  unfold textB
  rw [e1, e2, e3, Int.toNat_of_nonneg h0, List.append_assoc]
theorem body_vals (m : List UInt8) : ∀ k, 6 * k ≤ m.length → putBodyL (valsL k m) = m.take (6 * k) := by
  intro k
  induction k with
  | zero => intro _; simp [valsL, putBodyL]
  | succ k ih =>
    intro h
    rw [valsL_succ, putBodyL_snoc, ih (by omega)]
    have hl : ((m.drop (6 * k)).take 6).length = 6 := by rw [List.length_take, List.length_drop]; omega
    have := numB_getN hl
    unfold numB at this
    rw [this, show 6 * (k + 1) = 6 * k + 6 by omega, List.take_add]
theorem validL_of {xs : List Int} (h1 : 1 ≤ xs.length) (h8 : xs.length ≤ 8) (hx : ∀ x ∈ xs, 0 ≤ x ∧ x < 281474976710656) : validL xs = true := by
  unfold validL
  rw [decide_eq_true h1, decide_eq_true h8]
  simp only [Bool.true_and, Bool.not_eq_true']
  rw [List.any_eq_false]
  intro x hm
  have := hx x hm
  simp only [badT, decide_eq_true_eq]
  omega
theorem vecS_len (xs : List Int) : (vecS xs).length ≤ 49 := by
  unfold vecS
  split
  · rename_i h
    have := (valid_parts h).2.1
    unfold putL
    rw [List.length_cons, putBodyL_len]; omega
  · simp
theorem vecP_put {xs : List Int} (h : xs = [] ∨ validL xs = true) : vecP (vecS xs) = some xs := by
  unfold vecS
  rcases h with rfl | h
  · rfl
  · rw [if_pos h]
    have hv := valid_parts h
    unfold putL
    rw [vecP_cons]
    have e : (UInt8.ofNat xs.length).toNat = xs.length := by simp; omega
    have hb : (putBodyL xs).length = 6 * xs.length := putBodyL_len xs
    have := vals_put xs [] hv.2.2
    rw [List.append_nil] at this
    rw [e, if_pos ⟨hv.1, hv.2.1, hb⟩, this]
theorem vecP_back {t : List UInt8} {xs : List Int} (h : vecP t = some xs) : t = vecS xs ∧ (xs = [] ∨ validL xs = true) := by
  cases t with
  | nil =>
    obtain rfl : ([] : List Int) = xs := by simpa [vecP] using h
    exact ⟨rfl, .inl rfl⟩
  | cons c m =>
    rw [vecP_cons] at h
    split at h
    · rename_i hc
      simp only [Option.some.injEq] at h
      subst h
      have hv : validL (valsL c.toNat m) = true := validL_of (by rw [valsL_len]; exact hc.1) (by rw [valsL_len]; exact hc.2.1) (valsL_bound _ _)
      refine ⟨?_, .inr hv⟩
      unfold vecS
      rw [if_pos hv]
      unfold putL
      rw [valsL_len, body_vals m _ (by omega), List.take_of_length_le (by omega)]
      simp
    · cases h
theorem rdVec_put (xs : List Int) (m : List UInt8) (h : xs = [] ∨ validL xs = true) : rdVec (vecB xs ++ m) = some (xs, m) := by
  unfold rdVec vecB
  rw [rdText_put _ _ (by have := vecS_len xs; omega)]
  show (vecP (vecS xs)).map _ = _
  rw [vecP_put h]; rfl
theorem rdVec_back {l m : List UInt8} {xs : List Int} (h : rdVec l = some (xs, m)) : l = vecB xs ++ m ∧ (xs = [] ∨ validL xs = true) := by
  unfold rdVec at h
  obtain ⟨p, hp, h2⟩ := Option.bind_eq_some_iff.1 h
  obtain ⟨ys, hy, h3⟩ := Option.map_eq_some_iff.1 h2
  simp only [Prod.mk.injEq] at h3
  obtain ⟨rfl, rfl⟩ := h3
  have e1 := rdText_back (t := p.1) (m := p.2) hp
  obtain ⟨e2, e3⟩ := vecP_back hy
  refine ⟨?_, e3⟩
  unfold vecB
  rw [e1, e2]
theorem rdAct_put {a : ActL} (m : List UInt8) (ok : a.Ok) (h : rightB a = true) : ∃ b, rdAct (textB (putS a) ++ m) = some (b, m) ∧ sameA a b = true := by
  have e : putS a = putA a := by unfold putS; rw [h]; rfl
  obtain ⟨h1, h2⟩ := getA_putA ok h
  refine ⟨(getA (putA a)).1, ?_, h2⟩
  unfold rdAct
  rw [e, rdText_put _ _ (by have := putA_len h; omega)]
  show (if (getA (putA a)).2 = 0 then some ((getA (putA a)).1, m) else none) = _
  rw [if_pos h1]
theorem rdAct_back {l m : List UInt8} {a : ActL} (h : rdAct l = some (a, m)) : l = textB (putS a) ++ m ∧ rightB a = true ∧ a.Ok := by
  unfold rdAct at h
  obtain ⟨p, hp, h2⟩ := Option.bind_eq_some_iff.1 h
  split at h2
  · rename_i hc
    simp only [Option.some.injEq, Prod.mk.injEq] at h2
    obtain ⟨rfl, rfl⟩ := h2
    obtain ⟨e1, e2, e3⟩ := putA_getA p.1 hc
    have e := rdText_back (t := p.1) (m := p.2) hp
    refine ⟨?_, e2, e3⟩
    unfold putS
    rw [e2, if_pos rfl, e1]
    exact e
  · cases h2

/-! ### requests -/
structure AskL where
  kind : Int
  ses : Int
  tx : Int
  id : Int
  num : Int
  at_ : List Int
  key : ByteArray
  text : ByteArray
  act : ActL
def zeroAct : ActL := ⟨0, 0, 0, nilS⟩
def uSes (k : Int) : Bool := decide (k ≠ 0)
def uAt (k : Int) : Bool := decide (k = 2 ∨ k = 8 ∨ k = 14)
def uTx (k : Int) : Bool := decide (3 ≤ k ∧ k ≤ 7)
def uKey (k : Int) : Bool := decide (k = 3 ∨ k = 4 ∨ k = 7)
def uAct (k : Int) : Bool := decide (k = 4)
def uText (k : Int) : Bool := decide (k = 7 ∨ k = 15)
def uNum (k : Int) : Bool := decide (k = 7 ∨ k = 8 ∨ k = 9)
def uId (k : Int) : Bool := decide (k = 9 ∨ k = 10)
def rangeB (x : Int) (used : Bool) : Bool := decide (0 ≤ x) && (decide (x ≤ 281474976710655) && (used || decide (x = 0)))
/-- the bytes of what is a request at all -/
def askFrontB (a : AskL) : Bool := decide (0 ≤ a.kind ∧ a.kind ≤ 15) && (decide (a.key.size ≤ 64) && (decide (a.text.size ≤ 32768) && (decide (a.at_.length = 0) || (uAt a.kind && validL a.at_))))
def askActB (a : AskL) : Bool := if uAct a.kind then rightB a.act else sameA a.act zeroAct
def askTextsB (a : AskL) : Bool := (uKey a.kind || decide (a.key.size = 0)) && (uText a.kind || decide (a.text.size = 0))
def askNumsB (a : AskL) : Bool := rangeB a.ses (uSes a.kind) && (rangeB a.tx (uTx a.kind) && (rangeB a.id (uId a.kind) && rangeB a.num (uNum a.kind)))
def validA (a : AskL) : Bool := askFrontB a && (askActB a && (askTextsB a && askNumsB a))
def putAsk (a : AskL) : List UInt8 :=
  numB a.kind 1 ++ (numB a.ses 6 ++ (numB a.tx 6 ++ (numB a.id 6 ++ (numB a.num 6 ++ (vecB a.at_ ++ (textB a.key.data.toList ++ (textB a.text.data.toList ++ textB (putS a.act))))))))
def rdAsk (l : List UInt8) : Option AskL :=
  (rdNum 1 l).bind fun p1 => (rdNum 6 p1.2).bind fun p2 => (rdNum 6 p2.2).bind fun p3 => (rdNum 6 p3.2).bind fun p4 => (rdNum 6 p4.2).bind fun p5 =>
  (rdVec p5.2).bind fun p6 => (rdText p6.2).bind fun p7 => (rdText p7.2).bind fun p8 => (rdAct p8.2).bind fun p9 =>
    if p9.2 = [] ∧ validA ⟨p1.1, p2.1, p3.1, p4.1, p5.1, p6.1, ⟨p7.1.toArray⟩, ⟨p8.1.toArray⟩, p9.1⟩ = true then some ⟨p1.1, p2.1, p3.1, p4.1, p5.1, p6.1, ⟨p7.1.toArray⟩, ⟨p8.1.toArray⟩, p9.1⟩ else none
def sameAsk (a b : AskL) : Bool := decide (a.kind = b.kind) && (decide (a.ses = b.ses) && (decide (a.tx = b.tx) && (decide (a.id = b.id) && (decide (a.num = b.num) && (decide (a.at_ = b.at_) && (decide (a.key = b.key) && (decide (a.text = b.text) && sameA a.act b.act)))))))

structure ValidA (a : AskL) : Prop where
  k0 : 0 ≤ a.kind
  k1 : a.kind ≤ 15
  key : a.key.size ≤ 64
  text : a.text.size ≤ 32768
  at_ : a.at_ = [] ∨ validL a.at_ = true
  act : rightB a.act = true
  ses : 0 ≤ a.ses ∧ a.ses ≤ 281474976710655
  tx : 0 ≤ a.tx ∧ a.tx ≤ 281474976710655
  id : 0 ≤ a.id ∧ a.id ≤ 281474976710655
  num : 0 ≤ a.num ∧ a.num ≤ 281474976710655
theorem rangeB_in {x : Int} {u : Bool} (h : rangeB x u = true) : 0 ≤ x ∧ x ≤ 281474976710655 := by
  simp only [rangeB, Bool.and_eq_true, decide_eq_true_eq] at h
  exact ⟨h.1, h.2.1⟩
theorem sameA_iff {a b : ActL} : sameA a b = true ↔ a.k = b.k ∧ fkey a.x = fkey b.x ∧ a.n = b.n ∧ a.s = b.s := by
  simp only [sameA, Bool.and_eq_true, decide_eq_true_eq, beq_iff_eq]
  constructor
  · rintro ⟨h1, h2, h3, h4⟩
    refine ⟨h1, h2, h3, ?_⟩
    rw [ByteArray.toList_eq, ByteArray.toList_eq] at h4
    exact ByteArray.ext (Array.toList_inj.1 h4)
  · rintro ⟨h1, h2, h3, h4⟩
    exact ⟨h1, h2, h3, by rw [h4]⟩
theorem sameA_right {a b : ActL} (h : sameA a b = true) : rightB a = rightB b := by
  obtain ⟨h1, h2, h3, h4⟩ := sameA_iff.1 h
  unfold rightB noughtB
  rw [h1, h2, h3, h4]
theorem sameA_put {a b : ActL} (h : sameA a b = true) : putS a = putS b := by
  have hr := sameA_right h
  obtain ⟨h1, h2, h3, h4⟩ := sameA_iff.1 h
  unfold putS putA
  rw [hr, h1, h2, h3, h4]
theorem zeroAct_right : rightB zeroAct = true := num_right 0 0 (.inl rfl)
theorem validA_parts {a : AskL} (h : validA a = true) : ValidA a := by
  simp only [validA, askFrontB, askActB, askTextsB, askNumsB, Bool.and_eq_true, decide_eq_true_eq] at h
  obtain ⟨⟨⟨k0, k1⟩, key, text, hat⟩, hact, -, s, t, i, n⟩ := h
  refine ⟨k0, k1, key, text, ?_, ?_, rangeB_in s, rangeB_in t, rangeB_in i, rangeB_in n⟩
  · rw [Bool.or_eq_true] at hat
    rcases hat with h | h
    · exact .inl (List.eq_nil_of_length_eq_zero (of_decide_eq_true h))
    · rw [Bool.and_eq_true] at h; exact .inr h.2
  · split at hact
    · exact hact
    · rw [sameA_right hact]; exact zeroAct_right
theorem sameAsk_iff {a b : AskL} : sameAsk a b = true ↔ a.kind = b.kind ∧ a.ses = b.ses ∧ a.tx = b.tx ∧ a.id = b.id ∧ a.num = b.num ∧ a.at_ = b.at_ ∧ a.key = b.key ∧ a.text = b.text ∧ sameA a.act b.act = true := by
  simp only [sameAsk, Bool.and_eq_true, decide_eq_true_eq]
theorem sameAsk_put {a b : AskL} (h : sameAsk a b = true) : putAsk a = putAsk b := by
  obtain ⟨h1, h2, h3, h4, h5, h6, h7, h8, h9⟩ := sameAsk_iff.1 h
  unfold putAsk
  rw [h1, h2, h3, h4, h5, h6, h7, h8, sameA_put h9]
theorem sameAsk_valid {a b : AskL} (h : sameAsk a b = true) : validA a = validA b := by
  obtain ⟨h1, h2, h3, h4, h5, h6, h7, h8, h9⟩ := sameAsk_iff.1 h
  have h10 := sameA_right h9
  have h11 : sameA a.act zeroAct = sameA b.act zeroAct := by
    obtain ⟨e1, e2, e3, e4⟩ := sameA_iff.1 h9
    unfold sameA
    rw [e1, e2, e3, e4]
  unfold validA askFrontB askActB askTextsB askNumsB
  rw [h1, h2, h3, h4, h5, h6, h7, h8, h10, h11]
/-- what is put is read as it was -/
theorem rdAsk_put {a : AskL} (ok : a.act.Ok) (h : validA a = true) : ∃ b, rdAsk (putAsk a) = some b ∧ sameAsk a b = true := by
  have V := validA_parts h
  obtain ⟨c, hc, hs⟩ := rdAct_put [] ok V.act
  rw [List.append_nil] at hc
  have hn : ∀ x : Int, x ≤ 281474976710655 → x < 256 ^ 6 := fun x hx => by rw [show (256 : Int) ^ 6 = 281474976710656 from rfl]; omega
  have hk : (⟨a.key.data.toList.toArray⟩ : ByteArray) = a.key := by simp
  have ht : (⟨a.text.data.toList.toArray⟩ : ByteArray) = a.text := by simp
  have hsame : sameAsk a ⟨a.kind, a.ses, a.tx, a.id, a.num, a.at_, a.key, a.text, c⟩ = true := sameAsk_iff.2 ⟨rfl, rfl, rfl, rfl, rfl, rfl, rfl, rfl, hs⟩
  refine ⟨⟨a.kind, a.ses, a.tx, a.id, a.num, a.at_, a.key, a.text, c⟩, ?_, hsame⟩
  unfold rdAsk putAsk
  rw [rdNum_put 1 _ _ V.k0 (by have := V.k1; rw [show (256 : Int) ^ 1 = 256 from rfl]; omega), Option.bind_some]
  rw [rdNum_put 6 _ _ V.ses.1 (hn _ V.ses.2), Option.bind_some]
  rw [rdNum_put 6 _ _ V.tx.1 (hn _ V.tx.2), Option.bind_some]
  rw [rdNum_put 6 _ _ V.id.1 (hn _ V.id.2), Option.bind_some]
  rw [rdNum_put 6 _ _ V.num.1 (hn _ V.num.2), Option.bind_some]
  rw [rdVec_put _ _ V.at_, Option.bind_some]
  rw [rdText_put _ _ (by have := V.key; rw [← ByteArray.size_data, ← Array.length_toList] at this; omega), Option.bind_some]
  rw [rdText_put _ _ (by have := V.text; rw [← ByteArray.size_data, ← Array.length_toList] at this; omega), Option.bind_some]
  rw [hc, Option.bind_some]
  dsimp only
  rw [hk, ht, if_pos ⟨rfl, by rw [← sameAsk_valid hsame]; exact h⟩]
/-- what is read is put as it was -/
theorem rdAsk_back {l : List UInt8} {a : AskL} (h : rdAsk l = some a) : putAsk a = l ∧ validA a = true ∧ a.act.Ok := by
  unfold rdAsk at h
  obtain ⟨p1, h1, h⟩ := Option.bind_eq_some_iff.1 h
  obtain ⟨p2, h2, h⟩ := Option.bind_eq_some_iff.1 h
  obtain ⟨p3, h3, h⟩ := Option.bind_eq_some_iff.1 h
  obtain ⟨p4, h4, h⟩ := Option.bind_eq_some_iff.1 h
  obtain ⟨p5, h5, h⟩ := Option.bind_eq_some_iff.1 h
  obtain ⟨p6, h6, h⟩ := Option.bind_eq_some_iff.1 h
  obtain ⟨p7, h7, h⟩ := Option.bind_eq_some_iff.1 h
  obtain ⟨p8, h8, h⟩ := Option.bind_eq_some_iff.1 h
  obtain ⟨p9, h9, h⟩ := Option.bind_eq_some_iff.1 h
  split at h
  · rename_i hc
    simp only [Option.some.injEq] at h
    subst h
    refine ⟨?_, hc.2, (rdAct_back (a := p9.1) (m := p9.2) h9).2.2⟩
    have e9 := (rdAct_back (a := p9.1) (m := p9.2) h9).1
    rw [hc.1, List.append_nil] at e9
    unfold putAsk
    rw [(rdNum_back (x := p1.1) (m := p1.2) h1).1, (rdNum_back (x := p2.1) (m := p2.2) h2).1, (rdNum_back (x := p3.1) (m := p3.2) h3).1, (rdNum_back (x := p4.1) (m := p4.2) h4).1, (rdNum_back (x := p5.1) (m := p5.2) h5).1, (rdVec_back (xs := p6.1) (m := p6.2) h6).1, rdText_back (t := p7.1) (m := p7.2) h7, rdText_back (t := p8.1) (m := p8.2) h8, e9]
  · cases h
theorem sameAsk_refl (a : AskL) : sameAsk a a = true := sameAsk_iff.2 ⟨rfl, rfl, rfl, rfl, rfl, rfl, rfl, rfl, sameA_iff.2 ⟨rfl, rfl, rfl, rfl⟩⟩
theorem sameAsk_symm {a b : AskL} (h : sameAsk a b = true) : sameAsk b a = true := by
  obtain ⟨h1, h2, h3, h4, h5, h6, h7, h8, h9⟩ := sameAsk_iff.1 h
  obtain ⟨e1, e2, e3, e4⟩ := sameA_iff.1 h9
  exact sameAsk_iff.2 ⟨h1.symm, h2.symm, h3.symm, h4.symm, h5.symm, h6.symm, h7.symm, h8.symm, sameA_iff.2 ⟨e1.symm, e2.symm, e3.symm, e4.symm⟩⟩
theorem sameAsk_trans {a b c : AskL} (h : sameAsk a b = true) (k : sameAsk b c = true) : sameAsk a c = true := by
  obtain ⟨h1, h2, h3, h4, h5, h6, h7, h8, h9⟩ := sameAsk_iff.1 h
  obtain ⟨e1, e2, e3, e4⟩ := sameA_iff.1 h9
  obtain ⟨k1, k2, k3, k4, k5, k6, k7, k8, k9⟩ := sameAsk_iff.1 k
  obtain ⟨f1, f2, f3, f4⟩ := sameA_iff.1 k9
  exact sameAsk_iff.2 ⟨h1.trans k1, h2.trans k2, h3.trans k3, h4.trans k4, h5.trans k5, h6.trans k6, h7.trans k7, h8.trans k8, sameA_iff.2 ⟨e1.trans f1, e2.trans f2, e3.trans f3, e4.trans f4⟩⟩
/-- bytes tell requests apart -/
theorem putAsk_same {a b : AskL} (oa : a.act.Ok) (ob : b.act.Ok) (ha : validA a = true) (hb : validA b = true) : decide (putAsk a = putAsk b) = sameAsk a b := by
  rw [Bool.eq_iff_iff, decide_eq_true_eq]
  constructor
  · intro e
    obtain ⟨c, h1, h2⟩ := rdAsk_put oa ha
    obtain ⟨d, k1, k2⟩ := rdAsk_put ob hb
    rw [e, k1] at h1
    cases h1
    exact sameAsk_trans h2 (sameAsk_symm k2)
  · exact sameAsk_put
theorem putAsk_len {a : AskL} (h : validA a = true) : (putAsk a).length ≤ 40000 := by
  have V := validA_parts h
  have h1 := vecS_len a.at_
  have h2 : (putS a.act).length ≤ 1026 := by unfold putS; rw [V.act, if_pos rfl]; exact putA_len V.act
  have h3 : a.key.data.toList.length ≤ 64 := by simpa using V.key
  have h4 : a.text.data.toList.length ≤ 32768 := by simpa using V.text
  unfold putAsk vecB
  simp only [List.length_append, numB_len, textB_len]
  omega
theorem putAsk_pos (a : AskL) : 1 ≤ (putAsk a).length := by
  unfold putAsk
  rw [List.length_append, numB_len]; omega
end Go.Proofs.YtkpikmfijcffiaaGreat
end

/- a vector at the head of some bytes; vec.Get in these words. By an AI agent. -/
section
set_option linter.unusedVariables false
namespace Go.Proofs.YtkpikmfijcffiaaGreat
open Go.RowKit

/-- a vector at the head of some bytes -/
def rdV : List UInt8 → Option (List Int × List UInt8)
  | [] => none
  | d :: m => if (1 ≤ d.toNat ∧ d.toNat ≤ 8) ∧ 6 * d.toNat ≤ m.length then some (valsL d.toNat m, m.drop (6 * d.toNat)) else none
theorem rdV_cons (d : UInt8) (m : List UInt8) : rdV (d :: m) = if (1 ≤ d.toNat ∧ d.toNat ≤ 8) ∧ 6 * d.toNat ≤ m.length then some (valsL d.toNat m, m.drop (6 * d.toNat)) else none := rfl
theorem rdV_back {l m : List UInt8} {xs : List Int} (h : rdV l = some (xs, m)) : l = putL xs ++ m ∧ validL xs = true := by
  cases l with
  | nil => cases h
  | cons d t =>
    rw [rdV_cons] at h
    split at h
    · rename_i hc
      simp only [Option.some.injEq, Prod.mk.injEq] at h
      obtain ⟨rfl, rfl⟩ := h
      refine ⟨?_, validL_of (by rw [valsL_len]; exact hc.1.1) (by rw [valsL_len]; exact hc.1.2) (valsL_bound _ _)⟩
      unfold putL
      rw [valsL_len, body_vals t _ (by omega)]
      simp
    · cases h
theorem rdV_len {l m : List UInt8} {xs : List Int} (h : rdV l = some (xs, m)) : l.length = 1 + 6 * xs.length + m.length := by
  obtain ⟨e, hv⟩ := rdV_back h
  rw [e, List.length_append, putL_len]
/-- the code of what is no vector -/
def codeV : List UInt8 → Int
  | [] => 3
  | d :: m => if d.toNat < 1 ∨ 8 < d.toNat then 4 else 3
theorem codeV_cons (d : UInt8) (m : List UInt8) : codeV (d :: m) = if d.toNat < 1 ∨ 8 < d.toNat then 4 else 3 := rfl
theorem codeV_is (l : List UInt8) : codeV l = 3 ∨ codeV l = 4 := by
  cases l with
  | nil => exact .inl rfl
  | cons d m => rw [codeV_cons]; split <;> simp
/-- what reading a vector comes to -/
def RdPostC (w : World) (l : List UInt8) (e : Ending) (w' : World) : Prop :=
  (∃ (xs : List Int) (m : List UInt8) (v : Value), rdV l = some (xs, m) ∧ e = .returned (.tuple #[v, .int .i64 ((1 + 6 * xs.length : Nat) : Int), .int .i64 0]) ∧ FI w.heap.size w' v xs ∧ Bl w w') ∨
  (rdV l = none ∧ e = .returned (.tuple #[.slice none 0 0, .int .i64 0, .int .i64 (codeV l)]) ∧ Bl w w')
set_option maxHeartbeats 800000 in
theorem vget_rdc (s : ByteArray) (l : List UInt8) (w : World) (hs : SB s l) (hz : l.length ≤ 2000000) :
    Calls Tryz.prog 157 #[.string s] w (RdPostC w l) := by
  by_cases h0 : s.size = 0
  · refine (vget_none s w h0).mono ?_
    rintro e w' ⟨rfl, hb⟩
    rw [hs.size] at h0
    have : l = [] := List.eq_nil_of_length_eq_zero h0
    subst this
    exact .inr ⟨rfl, rfl, hb⟩
  · have hl1 : 1 ≤ l.length := by rw [← hs.size]; omega
    cases l with
    | nil => simp at hl1
    | cons d l =>
      have hh : (d :: l).head?.map (·.toNat) = some d.toNat := rfl
      by_cases hf : d.toNat < 1 ∨ 8 < d.toNat
      · refine (vget_form s (d :: l) d.toNat w hs hl1 hh hf).mono ?_
        rintro e w' ⟨rfl, hb⟩
        exact .inr ⟨by rw [rdV_cons, if_neg (by omega)], by rw [codeV_cons, if_pos hf], hb⟩
      · refine (vget_loop s (d :: l) d.toNat w hs hz hl1 hh (by omega)).mono ?_
        intro e w' hp
        unfold GetPost at hp
        split at hp
        · rename_i hyes
          obtain ⟨v, rfl, hfi, hb⟩ := hp
          rw [List.length_cons] at hyes
          refine .inl ⟨valsL d.toNat l, l.drop (6 * d.toNat), v, ?_, ?_, hfi, hb⟩
          · rw [rdV_cons, if_pos (by omega)]
          · rw [valsL_len]
        · rename_i hno
          obtain ⟨rfl, hb⟩ := hp
          rw [List.length_cons] at hno
          exact .inr ⟨by rw [rdV_cons, if_neg (by omega)], by rw [codeV_cons, if_neg hf], hb⟩
theorem vget_rd (s : ByteArray) (l : List UInt8) (w : World) (hs : SB s l) (hz : l.length ≤ 2000000) :
    Calls Tryz.prog 157 #[.string s] w fun e w' =>
      (∃ (xs : List Int) (m : List UInt8) (v : Value), rdV l = some (xs, m) ∧ e = .returned (.tuple #[v, .int .i64 ((1 + 6 * xs.length : Nat) : Int), .int .i64 0]) ∧ FI w.heap.size w' v xs ∧ Bl w w') ∨
      (rdV l = none ∧ ∃ c : Int, (c = 3 ∨ c = 4) ∧ e = .returned (.tuple #[.slice none 0 0, .int .i64 0, .int .i64 c]) ∧ Bl w w') := by
  refine (vget_rdc s l w hs hz).mono ?_
  rintro e w' (⟨xs, m, v, h1, h2, h3, h4⟩ | ⟨h1, h2, h3⟩)
  · exact .inl ⟨xs, m, v, h1, h2, h3, h4⟩
  · exact .inr ⟨h1, codeV l, codeV_is l, h2, h3⟩
end Go.Proofs.YtkpikmfijcffiaaGreat
end

/- noughts. By an AI agent. -/
section
namespace Go.Proofs.YtkpikmfijcffiaaGreat
def zeroI (i : Int) : List Int := if 1 ≤ i ∧ i ≤ 8 then List.replicate i.toNat 0 else []
/-- noughts -/
def zeroL (n : Nat) : List Int := List.replicate n 0
theorem putL_small {xs : List Int} (h : validL xs = true) : (putL xs).length ≤ 49 := by
  have := (valid_parts h).2.1
  rw [putL_len]; omega
end Go.Proofs.YtkpikmfijcffiaaGreat
end

/- The check sum of bytes: plain definition and laws. No program is named here. By an AI agent. -/
section
namespace Go.Proofs.YtkpikmfijcffiaaGreat
open Go.RowKit

def crcStep (x : Nat) : Nat := if x % 2 = 1 then (x / 2) ^^^ 2197175160 else x / 2
def crcN : Nat → Nat → Nat
  | 0, x => x
  | k + 1, x => crcStep (crcN k x)
def crcByte (x : Nat) (b : UInt8) : Nat := crcN 8 (x ^^^ b.toNat)
def crcL (l : List UInt8) : Nat := l.foldl crcByte 4294967295
/-- the check sum of bytes -/
def sumL (l : List UInt8) : Nat := crcL l ^^^ 4294967295

theorem xor32 {a b : Nat} (ha : a < 4294967296) (hb : b < 4294967296) : a ^^^ b < 4294967296 := Nat.xor_lt_two_pow (n := 32) ha hb
theorem byte32 (b : UInt8) : b.toNat < 4294967296 := Nat.lt_of_lt_of_le (UInt8.toNat_lt b) (by decide)
theorem crcStep_lt {x : Nat} (h : x < 4294967296) : crcStep x < 4294967296 := by
  unfold crcStep
  split
  · exact xor32 (by omega) (by decide)
  · omega
theorem crcN_lt {x : Nat} (h : x < 4294967296) : ∀ k, crcN k x < 4294967296
  | 0 => h
  | k + 1 => crcStep_lt (crcN_lt h k)
theorem crcByte_lt {x : Nat} (h : x < 4294967296) (b : UInt8) : crcByte x b < 4294967296 := crcN_lt (xor32 h (byte32 b)) 8
theorem foldl_crc_lt (l : List UInt8) : ∀ x, x < 4294967296 → l.foldl crcByte x < 4294967296 := by
  induction l with
  | nil => intro x h; exact h
  | cons b l ih => intro x h; exact ih _ (crcByte_lt h b)
theorem crcL_lt (l : List UInt8) : crcL l < 4294967296 := foldl_crc_lt l _ (by decide)
theorem sumL_lt (l : List UInt8) : sumL l < 4294967296 := xor32 (crcL_lt l) (by decide)
theorem crcL_snoc (l : List UInt8) (b : UInt8) : crcL (l ++ [b]) = crcByte (crcL l) b := by simp [crcL]
theorem crcL_take {s : ByteArray} {k : Nat} (h : k < s.size) : crcL (s.data.toList.take (k + 1)) = crcByte (crcL (s.data.toList.take k)) s[k] := by
  have h' : k < s.data.toList.length := by simpa using h
  rw [List.take_succ_eq_append_getElem h', crcL_snoc]
  rfl

theorem xor_cancel {a b c : Nat} (h : a ^^^ c = b ^^^ c) : a = b := by
  have := congrArg (· ^^^ c) h
  simpa [Nat.xor_assoc] using this
theorem top_not {a b : Nat} (ha : a < 2147483648) (hb : b < 2147483648) : a ^^^ 2197175160 ≠ b := by
  intro h
  have h1 : (a ^^^ 2197175160).testBit 31 = b.testBit 31 := by rw [h]
  rw [Nat.testBit_xor, Nat.testBit_lt_two_pow (show a < 2 ^ 31 from ha), Nat.testBit_lt_two_pow (show b < 2 ^ 31 from hb)] at h1
  revert h1
  decide
theorem crcStep_inj {x y : Nat} (hx : x < 4294967296) (hy : y < 4294967296) (h : crcStep x = crcStep y) : x = y := by
  unfold crcStep at h
  have h1 : x / 2 < 2147483648 := by omega
  have h2 : y / 2 < 2147483648 := by omega
  split at h <;> split at h
  · have := xor_cancel h; omega
  · exact absurd h (top_not h1 h2)
  · exact absurd h.symm (top_not h2 h1)
  · omega
theorem crcN_inj {x y : Nat} (hx : x < 4294967296) (hy : y < 4294967296) : ∀ k, crcN k x = crcN k y → x = y
  | 0, h => h
  | k + 1, h => crcN_inj hx hy k (crcStep_inj (crcN_lt hx k) (crcN_lt hy k) h)
theorem crcByte_inj {x y : Nat} (hx : x < 4294967296) (hy : y < 4294967296) {b : UInt8} (h : crcByte x b = crcByte y b) : x = y :=
  xor_cancel (crcN_inj (xor32 hx (byte32 b)) (xor32 hy (byte32 b)) 8 h)
theorem crcByte_other {x : Nat} (hx : x < 4294967296) {b c : UInt8} (h : crcByte x b = crcByte x c) : b = c := by
  have h1 := crcN_inj (xor32 hx (byte32 b)) (xor32 hx (byte32 c)) 8 h
  rw [Nat.xor_comm x, Nat.xor_comm x] at h1
  exact UInt8.toNat_inj.1 (xor_cancel h1)
theorem foldl_crc_inj (l : List UInt8) : ∀ x y, x < 4294967296 → y < 4294967296 → l.foldl crcByte x = l.foldl crcByte y → x = y := by
  induction l with
  | nil => intro x y _ _ h; exact h
  | cons b l ih => intro x y hx hy h; exact crcByte_inj hx hy (ih _ _ (crcByte_lt hx b) (crcByte_lt hy b) h)
/-- one byte that is another one makes another sum -/
theorem sumL_other (p q : List UInt8) {b c : UInt8} (h : b ≠ c) : sumL (p ++ b :: q) ≠ sumL (p ++ c :: q) := by
  intro e
  have e1 := xor_cancel e
  unfold crcL at e1
  rw [List.foldl_append, List.foldl_append, List.foldl_cons, List.foldl_cons] at e1
  have hp := foldl_crc_lt p 4294967295 (by decide)
  exact h (crcByte_other hp (foldl_crc_inj q _ _ (crcByte_lt hp b) (crcByte_lt hp c) e1))

/-! ### in the machine's words -/
theorem wraps_u32 (n : Int) (_h0 : 0 ≤ n) (h1 : n < 2 ^ 32) : IntKind.u32.wrap n = n := by rw [IntKind.wrap_u32]; omega
theorem bits_xor_nat (k : IntKind) (j : Nat) (hj : j ≤ k.bits) (hk : ∀ n : Int, 0 ≤ n → n < 2 ^ j → k.wrap n = n) (a b : Nat) (ha : a < 2 ^ j) (hb : b < 2 ^ j) : bits .xor k a b = ((a ^^^ b : Nat) : Int) := by
  have hp : 2 ^ j ≤ 2 ^ k.bits := Nat.pow_le_pow_right (by decide) hj
  have ha' : a % 2 ^ k.bits = a := Nat.mod_eq_of_lt (Nat.lt_of_lt_of_le ha hp)
  have hb' : b % 2 ^ k.bits = b := Nat.mod_eq_of_lt (Nat.lt_of_lt_of_le hb hp)
  simp only [bits, BitVec.ofInt_natCast, BitVec.toNat_xor, BitVec.toNat_ofNat, ha', hb']
  exact hk _ (Int.natCast_nonneg _) (by exact_mod_cast Nat.xor_lt_two_pow ha hb)
theorem xor_u32 (a b : Nat) (ha : a < 4294967296) (hb : b < 4294967296) : bits .xor .u32 (a : Int) (b : Int) = ((a ^^^ b : Nat) : Int) := bits_xor_nat .u32 32 (by decide) wraps_u32 a b ha hb
theorem xor_i64 (a b : Nat) (ha : a < 4294967296) (hb : b < 4294967296) : bits .xor .i64 (a : Int) (b : Int) = ((a ^^^ b : Nat) : Int) := bits_xor_nat .i64 63 (by decide) wraps_i64 a b (by omega) (by omega)
theorem odd_u32 (a : Nat) (ha : a < 4294967296) : bits .and .u32 (a : Int) 1 = ((a % 2 : Nat) : Int) := by
  have := bits_mask .u32 32 (by decide) wraps_u32 1 (by decide) (a : Int) (by omega) (by omega)
  rw [show ((2 : Int) ^ 1 - 1) = 1 by decide] at this
  rw [this]; omega
end Go.Proofs.YtkpikmfijcffiaaGreat
end

/- raw.Sum, proto.num, proto.Frame. By an AI agent. -/
section
set_option linter.unusedVariables false
set_option linter.unusedSimpArgs false
namespace Go.Proofs.YtkpikmfijcffiaaGreat
open Go.RowKit

theorem wrap_u32 (b : Nat) (h : b < 4294967296) : IntKind.u32.wrap (b : Int) = (b : Int) := by rw [IntKind.wrap_u32]; omega
theorem crcN_full (x : Nat) (b : UInt8) : crcN 8 (x ^^^ b.toNat) = crcByte x b := rfl
theorem crc_odd {x : Nat} (h : x % 2 = 1) : crcStep x = x / 2 ^^^ 2197175160 := by unfold crcStep; rw [if_pos h]
theorem crc_even {x : Nat} (h : x % 2 = 0) : crcStep x = x / 2 := by unfold crcStep; rw [if_neg (by omega)]
theorem sum_end (x : Nat) (h : x < 4294967296) : bits .xor .u32 (x : Int) 4294967295 = ((x ^^^ 4294967295 : Nat) : Int) := xor_u32 x 4294967295 h (by decide)

theorem xor_half (y : Nat) (h : y < 4294967296) : bits .xor .u32 ((y : Int) / 2) 2197175160 = ((y / 2 ^^^ 2197175160 : Nat) : Int) := by
  rw [show ((y : Int) / 2) = ((y / 2 : Nat) : Int) by omega]
  exact xor_u32 (y / 2) 2197175160 (by omega) (by decide)
theorem half_u32 (y : Nat) : (y : Int).fdiv (2 ^ min (Int.toNat 1) IntKind.u32.bits) = ((y / 2 : Nat) : Int) := by
  rw [show (2 : Int) ^ min (Int.toNat 1) IntKind.u32.bits = 2 by decide, Int.fdiv_eq_ediv_of_nonneg _ (by decide)]
  omega

set_option maxHeartbeats 800000 in
set_option maxRecDepth 100000 in
theorem sum_any (s : ByteArray) (w : World) (hs : s.size ≤ 140737488351232) :
    Calls Tryz.prog 34 #[.string s] w fun e w' => e = .returned (.int .i64 (sumL s.data.toList)) ∧ w = w' := by
  go_enter Tryz.func34, Tryz.ntmps34
  go_wp2
  go_loop [3, 8] (fun x i => ∃ k : Nat, k ≤ s.size ∧ i = .int .i64 k ∧ x = .int .u32 (crcL (s.data.toList.take k) : Nat)) (fun _ i => s.size - (intOf i).toNat)
  case atStart => exact ⟨0, Nat.zero_le _, rfl, rfl⟩
  case round =>
    obtain ⟨k, hk, rfl, rfl⟩ := hrel
    have hc := crcL_lt (s.data.toList.take k)
    by_cases hlt : k < s.size
    · have hT := Lib.hid (crcL_take hlt)
      have hb := byte32 s[k]
      have hx := xor_u32 (crcL (s.data.toList.take k)) s[k].toNat hc hb
      have hwb := wrap_u32 s[k].toNat hb
      generalize crcL (s.data.toList.take k) = c at *
      have hx2 := xor32 hc hb
      have HB := Lib.hid (crcN_full c s[k])
      clear hb
      generalize c ^^^ s[k].toNat = c0 at *
      go_wp2
      go_loop [3, 17] (fun x i => ∃ j : Nat, j ≤ 8 ∧ i = .int .i64 j ∧ x = .int .u32 (crcN j c0 : Nat)) (fun _ i => 8 - (intOf i).toNat)
      case atStart => exact ⟨0, Nat.zero_le _, rfl, rfl⟩
      case round =>
        obtain ⟨j, hj, rfl, rfl⟩ := hrel
        have hcj := crcN_lt hx2 j
        by_cases hj8 : j < 8
        · have hS : crcN (j + 1) c0 = crcStep (crcN j c0) := rfl
          have HS := Lib.hid hS
          clear hS
          generalize crcN j c0 = y at *
          have ho := odd_u32 y hcj
          have hd := half_u32 y
          by_cases hodd : y % 2 = 1
          · rw [hodd] at ho
            have hxo := xor_half y hcj
            have HE := Lib.hid (crc_odd hodd)
            clear hodd
            go_wp2
            go_round
            case rel => exact ⟨j + 1, by omega, by go_num, by rw [HS.out, HE.out]⟩
            case measure => simp [intOf]; omega
          · have he : y % 2 = 0 := by omega
            rw [he] at ho
            have HE := Lib.hid (crc_even he)
            clear hodd he
            go_wp2
            go_round
            case rel => exact ⟨j + 1, by omega, by go_num, by rw [HS.out, HE.out]; exact congrArg (Value.int .u32) (by omega)⟩
            case measure => simp [intOf]; omega
        · have e8 : j = 8 := by omega
          subst e8
          have HE := Lib.hid (hT.out.trans HB.out.symm)
          generalize crcN 8 c0 = y at *
          go_wp2
          go_round
          case rel => exact ⟨k + 1, by omega, by go_num, by rw [HE.out]⟩
          case measure => simp [intOf]; omega
    · have e : s.data.toList.take k = s.data.toList := List.take_of_length_le (by simp; omega)
      have he := sum_end _ hc
      have hr := sumL_lt s.data.toList
      rw [e] at hc he ⊢
      change bits .xor .u32 _ _ = ((sumL s.data.toList : Nat) : Int) at he
      generalize hq : sumL s.data.toList = r at he hr
      go_wp2
      go_ret
      exact ⟨rfl, rfl⟩
end Go.Proofs.YtkpikmfijcffiaaGreat
end

/- strings of bytes; strings.Clone. By an AI agent. -/
section
set_option linter.unusedVariables false
set_option linter.unusedSimpArgs false
namespace Go.Proofs.YtkpikmfijcffiaaGreat
open Go.RowKit

theorem cloneB_any (s : ByteArray) (w : World) (hs : s.size ≤ 140737488351232) : Calls Tryz.prog 159 #[.string s] w fun e w' => e = .returned (.string s) ∧ Bl w w' := by
  go_enter Tryz.func159, Tryz.ntmps159
  go_wp2_with fail
  refine (Tryz.stringslite_Clone s _ (by omega)).mono ?_
  rintro e w' ⟨rfl, hb⟩
  go_wp2_with fail
  go_ret
  exact ⟨rfl, hb⟩
/-- the string of these bytes -/
def strL (l : List UInt8) : ByteArray := ⟨l.toArray⟩
theorem strL_SB (l : List UInt8) : SB (strL l) l := rfl
theorem strL_size (l : List UInt8) : (strL l).size = l.length := (strL_SB l).size
theorem strL_of {s : ByteArray} {l : List UInt8} (h : SB s l) : s = strL l := SB.eq h (strL_SB l)
theorem strL_app (l m : List UInt8) : strL l ++ strL m = strL (l ++ m) := SB.eq ((strL_SB l).append (strL_SB m)) (strL_SB _)
theorem strL_nums (x : Int) (n : Nat) : strOfNums (putN x n n) = strL (numB x n) := SB.eq (strOfNums_list _) (strL_SB _)
theorem strL_ext (l : List UInt8) (a b : Nat) : (strL l).extract a b = strL ((l.drop a).take (b - a)) := by
  refine strL_of ?_
  rw [SB, Lib.extract_data, strL_SB]
theorem strL_take (l : List UInt8) (n : Nat) : (strL l).extract 0 n = strL (l.take n) := by
  rw [strL_ext, List.drop_zero, Nat.sub_zero]
theorem strL_drop (l : List UInt8) (n : Nat) : (strL l).extract n (strL l).size = strL (l.drop n) := by
  rw [strL_ext, strL_size, List.take_of_length_le (by rw [List.length_drop]; omega)]
theorem getL_any (l : List UInt8) (w : World) (h1 : 1 ≤ l.length) (h7 : l.length ≤ 7) :
    Calls Tryz.prog 178 #[.string (strL l)] w fun e w' => e = .returned (.tuple #[.int .i64 (getN l), .int .i64 0]) ∧ w = w' :=
  get_any (strL l) w (by rw [strL_size]; exact h1) (by rw [strL_size]; exact h7)
theorem strL_data (s : ByteArray) : strL s.data.toList = s := by unfold strL; simp
end Go.Proofs.YtkpikmfijcffiaaGreat
end

/- laws of acts, values and sealed bytes. By an AI agent. -/
section
set_option linter.unusedVariables false
set_option linter.unusedSimpArgs false
namespace Go.Proofs.YtkpikmfijcffiaaGreat
open Go.RowKit

theorem fits_same (key : ByteArray) {a b : ActL} (h : sameA a b = true) : fitsB key a = fitsB key b := by
  obtain ⟨h1, h2, h3, h4⟩ := sameA_parts h
  have hn : noughtB a.x = noughtB b.x := by unfold noughtB; rw [h2]
  unfold fitsB rightB
  rw [h1, h3, h4, hn]
theorem valOf_same {a b : ActL} (h : sameA a b = true) : sameV (valOf a) (valOf b) = true := by
  obtain ⟨h1, h2, h3, h4⟩ := sameA_parts h
  unfold valOf
  rw [h1]
  split
  · exact sameV_refl _
  · exact sameV_of rfl h2 h3 h4
theorem sameV_trans {a b c : ValL} (h : sameV a b = true) (k : sameV b c = true) : sameV a c = true := by
  obtain ⟨h1, h2, h3, h4⟩ := sameV_parts h
  obtain ⟨k1, k2, k3, k4⟩ := sameV_parts k
  exact sameV_of (h1.trans k1) (h2.trans k2) (h3.trans k3) (h4.trans k4)
theorem sameV_symm {a b : ValL} (h : sameV a b = true) : sameV b a = true := by
  obtain ⟨h1, h2, h3, h4⟩ := sameV_parts h
  exact sameV_of h1.symm h2.symm h3.symm h4.symm
theorem key_size {key : ByteArray} (h : isKeyB key = true) : key.size ≤ 64 := by
  simp only [isKeyB, Bool.and_eq_true, decide_eq_true_eq] at h
  exact h.2.1
theorem rdV_put {xs : List Int} (h : validL xs = true) (m : List UInt8) : rdV (putL xs ++ m) = some (xs, m) := by
  have hv := valid_parts h
  have e : (UInt8.ofNat xs.length).toNat = xs.length := by simp; omega
  have hb : (putBodyL xs).length = 6 * xs.length := putBodyL_len xs
  unfold putL
  rw [List.cons_append, rdV_cons, e, if_pos ⟨⟨hv.1, hv.2.1⟩, by rw [List.length_append]; omega⟩, vals_put xs m hv.2.2, List.drop_left' hb]
theorem rdTake_put (l m : List UInt8) {n : Nat} (h : l.length = n) : rdTake n (l ++ m) = some (l, m) := by
  subst h
  unfold rdTake
  rw [if_pos (by rw [List.length_append]; omega), List.take_left, List.drop_left]
def sealL (l : List UInt8) : List UInt8 := l ++ numB (sumL l : Int) 4
theorem sealL_len (l : List UInt8) : (sealL l).length = l.length + 4 := by unfold sealL; rw [List.length_append, numB_len]
theorem sealL_take (l : List UInt8) : (sealL l).take ((sealL l).length - 4) = l := by
  rw [sealL_len, Nat.add_sub_cancel]
  unfold sealL
  exact List.take_left
theorem sealL_drop (l : List UInt8) : (sealL l).drop ((sealL l).length - 4) = numB (sumL l : Int) 4 := by
  rw [sealL_len, Nat.add_sub_cancel]
  unfold sealL
  exact List.drop_left
theorem seal_changed {l m : List UInt8} {k : Nat} {c : UInt8} (hk : k < (sealL l).length) (h : sealL m = (sealL l).set k c) : c = (sealL l)[k] := by
  have hlen : m.length = l.length := by
    have := congrArg List.length h
    rw [List.length_set, sealL_len, sealL_len] at this
    omega
  have hsl := sealL_len l
  by_cases hkl : k < l.length
  · have e1 : (sealL l).set k c = l.set k c ++ numB (sumL l : Int) 4 := by
      unfold sealL
      rw [List.set_append_left _ _ hkl]
    rw [e1] at h
    unfold sealL at h
    obtain ⟨h1, h2⟩ := List.append_inj h (by rw [List.length_set, hlen])
    have h3 : sumL m = sumL l := by
      have g1 := getN_numB 4 (sumL m : Int) (by omega) (by rw [show (256 : Int) ^ 4 = 4294967296 from rfl]; have := sumL_lt m; omega)
      have g2 := getN_numB 4 (sumL l : Int) (by omega) (by rw [show (256 : Int) ^ 4 = 4294967296 from rfl]; have := sumL_lt l; omega)
      rw [h2] at g1
      omega
    have e2 : (sealL l)[k] = l[k] := by
      unfold sealL
      exact List.getElem_append_left hkl
    rw [e2]
    refine Classical.byContradiction fun hne => ?_
    have s1 : l = l.take k ++ l[k] :: l.drop (k + 1) := by rw [← List.drop_eq_getElem_cons hkl, List.take_append_drop]
    have s2 : m = l.take k ++ c :: l.drop (k + 1) := by rw [h1, List.set_eq_take_append_cons_drop, if_pos hkl]
    rw [s2] at h3
    conv at h3 => rhs; rw [s1]
    exact sumL_other _ _ hne h3
  · have e1 : (sealL l).set k c = l ++ (numB (sumL l : Int) 4).set (k - l.length) c := by
      unfold sealL
      rw [List.set_append_right _ _ (by omega)]
    rw [e1] at h
    unfold sealL at h
    obtain ⟨h1, h2⟩ := List.append_inj h hlen
    subst h1
    have e2 : (sealL m)[k] = (numB (sumL m : Int) 4)[k - m.length]'(by rw [numB_len]; omega) := by
      unfold sealL
      exact List.getElem_append_right (by omega)
    rw [e2]
    have h3 : ((numB (sumL m : Int) 4).set (k - m.length) c)[k - m.length]'(by rw [List.length_set, numB_len]; omega) = c := List.getElem_set_self ..
    rw [← h3]
    simp only [← h2]
theorem putS_right {a : ActL} (h : rightB a = true) : putS a = putA a ∧ putC a = 0 := by unfold putS putC; rw [if_pos h, if_pos h]; exact ⟨rfl, rfl⟩
theorem bcells_len (l : List UInt8) : (Lib.byteCells l).length = l.length := by simp [Lib.byteCells]
/-- worlds that go on from W1 and hold a box -/
def HoldB (W1 : World) (g : Nat) (cs : List Value) (W' : World) : Prop := Bl W1 W' ∧ AC W' g cs
theorem HoldB.keep {W1 : World} {g : Nat} {cs : List Value} (w w' : World) (h : HoldB W1 g cs w) (k : Bl w w') : HoldB W1 g cs w' := ⟨h.1.trans k, h.2.keep k⟩
end Go.Proofs.YtkpikmfijcffiaaGreat
end

/- a list with another number at a place. By an AI agent. -/
section
set_option linter.unusedVariables false
set_option linter.unusedSimpArgs false
namespace Go.Proofs.YtkpikmfijcffiaaGreat
open Go.RowKit

/-- a list with another number at a place -/
def withL (xs : List Int) (i t : Int) : List Int := if 0 ≤ i then xs.set i.toNat t else xs

theorem withL_len (xs : List Int) (i t : Int) : (withL xs i t).length = xs.length := by unfold withL; split <;> simp
theorem withL_nth (xs : List Int) (i t : Int) (j : Nat) (hj : j < xs.length) : nth (withL xs i t) j = if (j : Int) = i then t else nth xs j := by
  unfold withL
  split
  · rename_i h0
    rw [nth_eq (by simpa using hj), nth_eq hj, List.getElem_set]
    split <;> split <;> first | rfl | omega
  · rw [if_neg (by omega)]

theorem withL_wf {xs : List Int} {i t : Int} (hx : ∀ x ∈ xs, -9223372036854775808 ≤ x ∧ x ≤ 9223372036854775807) (ht : -9223372036854775808 ≤ t ∧ t ≤ 9223372036854775807) : ∀ x ∈ withL xs i t, -9223372036854775808 ≤ x ∧ x ≤ 9223372036854775807 := by
  intro x h
  unfold withL at h
  split at h
  · rcases List.mem_or_eq_of_mem_set h with h | h
    · exact hx x h
    · rw [h]; exact ht
  · exact hx x h
end Go.Proofs.YtkpikmfijcffiaaGreat
end
