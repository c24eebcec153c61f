import Derived.Test.YtaplefelfiefaaaGreatQArchiveTellsUptoP6
import Derived.Test.YtaplefelfiefaaaGreatQArchiveTellsUptoP2
import Derived.Test.YtaplefelfiefaaaGreatQArchiveTellsUptoP5

/- acts in bytes: plain definitions and laws. By an AI agent. -/
section
namespace Go.Proofs.YtaplefelfiefaaaGreat
open Go.RowKit

/-- an act's bytes -/
def putA (a : ActL) : List UInt8 :=
  if a.k = 0 then (if a.s.toList.isEmpty then 0 :: 110 :: bytesN8 (fkey a.x) else 0 :: 116 :: a.s.data.toList)
  else if a.k = 1 then 1 :: bytesN8 (a.n % 18446744073709551616).toNat
  else if a.k = 2 then 2 :: bytesN8 (fkey a.x)
  else if a.k = 3 then 3 :: bytesN8 (fkey a.x)
  else [4]
def badA : ActL × Int := (⟨0, 0, 0, nilS⟩, 4)
/-- an act with a number, read -/
def numA (k : Int) (m : List UInt8) : ActL × Int := if m.length = 8 ∧ (getR (getN m).toNat).2 = 0 then (⟨k, (getR (getN m).toNat).1, 0, nilS⟩, 0) else badA
/-- what comes behind the kind 0 -/
def setA (l : List UInt8) : ActL × Int :=
  if l = [] then badA
  else if l.headD 0 = 110 then numA 0 l.tail
  else if l.headD 0 = 116 then (if 2 ≤ l.length ∧ l.length ≤ 1025 then (⟨0, 0, 0, ⟨l.tail.toArray⟩⟩, 0) else badA)
  else badA
/-- an act read out of bytes: the act, and the code -/
def getA (l : List UInt8) : ActL × Int :=
  if l = [] then badA
  else if l.headD 0 = 0 then setA l.tail
  else if l.headD 0 = 1 then (if l.tail.length = 8 then (⟨1, 0, wrap64 (getN l.tail), nilS⟩, 0) else badA)
  else if l.headD 0 = 2 then numA 2 l.tail
  else if l.headD 0 = 3 then numA 3 l.tail
  else if l.headD 0 = 4 then (if l.tail = [] then (⟨4, 0, 0, nilS⟩, 0) else badA)
  else badA

def putS (a : ActL) : List UInt8 := if rightB a then putA a else []
def putC (a : ActL) : Int := if rightB a then 0 else 40
theorem numA_back (k : Int) {x : Nat} (hx : x < two64) : numA k (bytesN8 (fkey x)) = (⟨k, canon x, 0, nilS⟩, 0) := by
  have h : getN (bytesN8 (fkey x)) = (fkey x : Int) := getN_put8 _ (fkey_lt hx)
  unfold numA
  rw [h, Int.toNat_natCast, getR_back hx, if_pos ⟨bytesN8_len _, rfl⟩]
theorem right_size {a : ActL} (h : rightB a = true) : a.s.size ≤ 1024 := by
  simp only [rightB, Bool.and_eq_true, decide_eq_true_eq] at h
  exact h.1
theorem right_kind {a : ActL} (ok : a.Ok) (h : rightB a = true) :
    (a.k = 0 ∧ a.n = 0 ∧ (a.s = nilS ∨ (a.s ≠ nilS ∧ a.x = 0))) ∨ (a.k = 1 ∧ a.x = 0 ∧ a.s = nilS) ∨ ((a.k = 2 ∨ a.k = 3) ∧ a.n = 0 ∧ a.s = nilS) ∨ (a.k = 4 ∧ a.x = 0 ∧ a.n = 0 ∧ a.s = nilS) := by
  simp only [rightB, Bool.and_eq_true] at h
  have h := h.2
  by_cases h0 : a.k = 0
  · rw [if_pos h0] at h
    simp only [Bool.and_eq_true, Bool.or_eq_true, decide_eq_true_eq] at h
    refine .inl ⟨h0, h.1, ?_⟩
    by_cases hs : a.s = nilS
    · exact .inl hs
    · refine .inr ⟨hs, ?_⟩
      rcases h.2 with k | k
      · exact absurd (nil_of (by simpa using k)) hs
      · exact nought_eq ok.x k
  · rw [if_neg h0] at h
    by_cases h1 : a.k = 1
    · rw [if_pos h1] at h
      simp only [Bool.and_eq_true] at h
      exact .inr (.inl ⟨h1, nought_eq ok.x h.1, nil_of (by simpa using h.2)⟩)
    · rw [if_neg h1] at h
      by_cases h2 : a.k = 2 ∨ a.k = 3
      · rw [if_pos h2] at h
        simp only [Bool.and_eq_true, decide_eq_true_eq] at h
        exact .inr (.inr (.inl ⟨h2, h.1, nil_of (by simpa using h.2)⟩))
      · rw [if_neg h2] at h
        by_cases h4 : a.k = 4
        · rw [if_pos h4] at h
          simp only [Bool.and_eq_true, decide_eq_true_eq] at h
          exact .inr (.inr (.inr ⟨h4, nought_eq ok.x h.1, h.2.1, nil_of (by simpa using h.2.2)⟩))
        · rw [if_neg h4] at h; cases h
theorem nil_empty : nilS.toList.isEmpty = true := by rw [nil_list]; rfl
theorem not_empty {s : ByteArray} (h : s ≠ nilS) : s.toList.isEmpty = false := by
  cases hs : s.toList with
  | nil => exact absurd (nil_of hs) h
  | cons a l => rfl
theorem back_int {n : Int} (h : -9223372036854775808 ≤ n ∧ n ≤ 9223372036854775807) : wrap64 (getN (bytesN8 (n % 18446744073709551616).toNat)) = n := by
  have hb : (n % 18446744073709551616).toNat < two64 := by unfold two64; omega
  rw [getN_put8 _ hb]
  unfold wrap64; omega
/-- what is put is got as it was -/
theorem getA_putA {a : ActL} (ok : a.Ok) (h : rightB a = true) : (getA (putA a)).2 = 0 ∧ sameA a (getA (putA a)).1 = true := by
  have hz := right_size h
  rcases right_kind ok h with ⟨k, n0, hs | ⟨hs, x0⟩⟩ | ⟨k, x0, s0⟩ | ⟨k, n0, s0⟩ | ⟨k, x0, n0, s0⟩
  · have e : putA a = 0 :: 110 :: bytesN8 (fkey a.x) := by unfold putA; rw [if_pos k, hs, nil_empty]; rfl
    have e2 : getA (putA a) = (⟨0, canon a.x, 0, nilS⟩, 0) := by
      rw [e]
      show numA 0 (bytesN8 (fkey a.x)) = _
      exact numA_back 0 ok.x
    rw [e2]
    refine ⟨rfl, ?_⟩
    simp [sameA, k, n0, hs, canon_key]
  · have e : putA a = 0 :: 116 :: a.s.data.toList := by unfold putA; rw [if_pos k, not_empty hs]; rfl
    have hl : 1 ≤ a.s.data.toList.length := by
      cases hd : a.s.data.toList with
      | nil => exact absurd (nil_of (by rw [ByteArray.toList_eq]; exact hd)) hs
      | cons b l => simp
    have hl2 : a.s.data.toList.length ≤ 1024 := by simpa using hz
    have e2 : getA (putA a) = (⟨0, 0, 0, ⟨a.s.data.toList.toArray⟩⟩, 0) := by
      rw [e]
      show (if 2 ≤ (116 :: a.s.data.toList).length ∧ (116 :: a.s.data.toList).length ≤ 1025 then ((⟨0, 0, 0, ⟨a.s.data.toList.toArray⟩⟩, 0) : ActL × Int) else badA) = _
      rw [if_pos (by rw [List.length_cons]; omega)]
    rw [e2]
    refine ⟨rfl, ?_⟩
    simp [sameA, k, n0, x0]
  · have e : putA a = 1 :: bytesN8 (a.n % 18446744073709551616).toNat := by unfold putA; rw [if_neg (by omega), if_pos k]
    have e2 : getA (putA a) = (⟨1, 0, a.n, nilS⟩, 0) := by
      rw [e]
      show (if (bytesN8 (a.n % 18446744073709551616).toNat).length = 8 then ((⟨1, 0, wrap64 (getN (bytesN8 (a.n % 18446744073709551616).toNat)), nilS⟩, 0) : ActL × Int) else badA) = _
      rw [if_pos (bytesN8_len _), back_int ok.n]
    rw [e2]
    refine ⟨rfl, ?_⟩
    simp [sameA, k, x0, s0]
  · rcases k with k | k
    · have e : putA a = 2 :: bytesN8 (fkey a.x) := by unfold putA; rw [if_neg (by omega), if_neg (by omega), if_pos k]
      have e2 : getA (putA a) = (⟨2, canon a.x, 0, nilS⟩, 0) := by
        rw [e]
        show numA 2 (bytesN8 (fkey a.x)) = _
        exact numA_back 2 ok.x
      rw [e2]
      refine ⟨rfl, ?_⟩
      simp [sameA, k, n0, s0, canon_key]
    · have e : putA a = 3 :: bytesN8 (fkey a.x) := by unfold putA; rw [if_neg (by omega), if_neg (by omega), if_neg (by omega), if_pos k]
      have e2 : getA (putA a) = (⟨3, canon a.x, 0, nilS⟩, 0) := by
        rw [e]
        show numA 3 (bytesN8 (fkey a.x)) = _
        exact numA_back 3 ok.x
      rw [e2]
      refine ⟨rfl, ?_⟩
      simp [sameA, k, n0, s0, canon_key]
  · have e : putA a = [4] := by unfold putA; rw [if_neg (by omega), if_neg (by omega), if_neg (by omega), if_neg (by omega)]
    have e2 : getA (putA a) = (⟨4, 0, 0, nilS⟩, 0) := by rw [e]; rfl
    rw [e2]
    refine ⟨rfl, ?_⟩
    simp [sameA, k, n0, s0, x0]
theorem getA_codes (l : List UInt8) : (getA l).2 = 0 ∨ (getA l).2 = 4 := by
  have hn : ∀ k m, (numA k m).2 = 0 ∨ (numA k m).2 = 4 := fun k m => by unfold numA; split; exact .inl rfl; exact .inr rfl
  unfold getA setA
  (repeat' split) <;> first | exact .inl rfl | exact .inr rfl | exact hn _ _
theorem putA_len {a : ActL} (h : rightB a = true) : (putA a).length ≤ 1026 := by
  have hz := right_size h
  have hz2 : a.s.data.toList.length ≤ 1024 := by simpa using hz
  unfold putA
  (repeat' split) <;> simp only [List.length_cons, bytesN8_len, List.length_nil] <;> omega
end Go.Proofs.YtaplefelfiefaaaGreat
end

/- acts read out of bytes are put again as those bytes. By an AI agent. -/
section
namespace Go.Proofs.YtaplefelfiefaaaGreat
open Go.RowKit

theorem gN_inj : ∀ (n : Nat) (l m : List UInt8), l.length = n → m.length = n → getN l = getN m → l = m := by
  intro n
  induction n with
  | zero => intro l m hl hm _; rw [List.eq_nil_of_length_eq_zero hl, List.eq_nil_of_length_eq_zero hm]
  | succ n ih =>
    intro l m hl hm h
    have hl0 : l ≠ [] := by rintro rfl; simp at hl
    have hm0 : m ≠ [] := by rintro rfl; simp at hm
    have el := List.dropLast_concat_getLast hl0
    have em := List.dropLast_concat_getLast hm0
    rw [← el, ← em, getN_snoc, getN_snoc] at h
    have b1 := UInt8.toNat_lt (l.getLast hl0)
    have b2 := UInt8.toNat_lt (m.getLast hm0)
    have h1 : getN l.dropLast = getN m.dropLast := by omega
    have h2 : (l.getLast hl0).toNat = (m.getLast hm0).toNat := by omega
    have h3 := ih l.dropLast m.dropLast (by simp [hl]) (by simp [hm]) h1
    have h4 : l.getLast hl0 = m.getLast hm0 := UInt8.toNat_inj.1 h2
    rw [← el, ← em, h3, h4]
theorem gN_lt8 {l : List UInt8} (h : l.length = 8) : 0 ≤ getN l ∧ (getN l).toNat < two64 := by
  have hb := getN_bound l
  rw [h] at hb
  unfold two64
  exact ⟨hb.1, by omega⟩
theorem bytes_gN {l : List UInt8} (h : l.length = 8) : bytesN8 (getN l).toNat = l := by
  obtain ⟨h0, h1⟩ := gN_lt8 h
  refine gN_inj 8 _ _ (bytesN8_len _) h ?_
  rw [getN_put8 _ h1]; omega
theorem fkey_gR {u : Nat} (h : u < two64) (hc : (getR u).2 = 0) : fkey (getR u).1 = u := by
  unfold getR at *
  by_cases h0 : u = 0
  · rw [if_pos h0]; subst h0; decide +kernel
  · rw [if_neg h0] at hc ⊢
    cases hn : nanB (backW u)
    · rw [if_neg (by simp)]
      show fkey (backW u) = u
      rw [fkey_num hn]
      unfold backW
      by_cases k : two63 ≤ u
      · rw [if_pos k, if_neg (by unfold two63 two64 at *; omega)]; omega
      · rw [if_neg k, if_pos (by unfold two63 two64 at *; omega)]; unfold two64 at *; omega
    · rw [hn, if_pos rfl] at hc; exact absurd hc (by decide)
theorem bytes_gR {l : List UInt8} (h : l.length = 8) (hc : (getR (getN l).toNat).2 = 0) : bytesN8 (fkey (getR (getN l).toNat).1) = l := by
  rw [fkey_gR (gN_lt8 h).2 hc, bytes_gN h]
theorem bytes_wrap8 {l : List UInt8} (h : l.length = 8) : bytesN8 (wrap64 (getN l) % 18446744073709551616).toNat = l := by
  have hb := getN_bound l
  rw [h] at hb
  have e : (wrap64 (getN l) % 18446744073709551616).toNat = (getN l).toNat := by unfold wrap64; omega
  rw [e, bytes_gN h]
theorem gR_lt {u : Nat} (h : u < two64) : (getR u).1 < two64 := by
  unfold getR
  split
  · show nanW < two64; decide
  · split
    · show 0 < two64; decide
    · exact backW_lt h
theorem wrap64_bds (a : Int) : -9223372036854775808 ≤ wrap64 a ∧ wrap64 a ≤ 9223372036854775807 := by unfold wrap64; omega
theorem actOkB {k : Int} {x : Nat} {n : Int} {s : ByteArray} (hk : -9223372036854775808 ≤ k ∧ k ≤ 9223372036854775807) (hx : x < two64) (hn : -9223372036854775808 ≤ n ∧ n ≤ 9223372036854775807) (hs : s.size ≤ 140737488351232) : ActL.Ok ⟨k, x, n, s⟩ := ⟨hk, hx, hn, hs⟩
theorem num_right (k : Int) (x : Nat) (hk : k = 0 ∨ k = 2 ∨ k = 3) : rightB ⟨k, x, 0, nilS⟩ = true := by
  rcases hk with rfl | rfl | rfl <;> simp [rightB, nil_list, show nilS.size = 0 from rfl]
theorem numA_again {k : Int} {m : List UInt8} (h : (numA k m).2 = 0) :
    ∃ x, x < two64 ∧ (numA k m).1 = ⟨k, x, 0, nilS⟩ ∧ bytesN8 (fkey x) = m := by
  unfold numA at h ⊢
  split
  · rename_i q
    exact ⟨_, gR_lt (gN_lt8 q.1).2, rfl, bytes_gR q.1 q.2⟩
  · rename_i q; rw [if_neg q] at h; exact absurd h (by decide)
theorem putA1 (n : Int) : putA ⟨1, 0, n, nilS⟩ = 1 :: bytesN8 (n % 18446744073709551616).toNat := by
  unfold putA
  rw [if_neg (show ¬ (1 : Int) = 0 by decide), if_pos rfl]
theorem putA2 (x : Nat) : putA ⟨2, x, 0, nilS⟩ = 2 :: bytesN8 (fkey x) := by
  unfold putA
  rw [if_neg (show ¬ (2 : Int) = 0 by decide), if_neg (show ¬ (2 : Int) = 1 by decide), if_pos rfl]
theorem putA3 (x : Nat) : putA ⟨3, x, 0, nilS⟩ = 3 :: bytesN8 (fkey x) := by
  unfold putA
  rw [if_neg (show ¬ (3 : Int) = 0 by decide), if_neg (show ¬ (3 : Int) = 1 by decide), if_neg (show ¬ (3 : Int) = 2 by decide), if_pos rfl]
/-- what is got is put again as it was, and is a right act -/
theorem putA_getA (l : List UInt8) (h : (getA l).2 = 0) : putA (getA l).1 = l ∧ rightB (getA l).1 = true ∧ (getA l).1.Ok := by
  have hno : ∀ {P : Prop}, badA.2 = 0 → P := fun q => absurd q (by decide)
  cases l with
  | nil => exact hno h
  | cons c l =>
    have e : getA (c :: l) = if c = 0 then setA l else if c = 1 then (if l.length = 8 then (⟨1, 0, wrap64 (getN l), nilS⟩, 0) else badA) else if c = 2 then numA 2 l else if c = 3 then numA 3 l else if c = 4 then (if l = [] then (⟨4, 0, 0, nilS⟩, 0) else badA) else badA := by
      unfold getA; rw [if_neg (by simp)]; rfl
    rw [e] at h ⊢
    by_cases h0 : c = 0
    · rw [if_pos h0] at h ⊢; subst h0
      by_cases h1 : l = []
      · subst h1; exact hno h
      · obtain ⟨d, m, rfl⟩ := List.exists_cons_of_ne_nil h1
        have e1 : setA (d :: m) = if d = 110 then numA 0 m else if d = 116 then (if 2 ≤ (d :: m).length ∧ (d :: m).length ≤ 1025 then (⟨0, 0, 0, ⟨m.toArray⟩⟩, 0) else badA) else badA := by
          unfold setA; rw [if_neg (by simp)]; rfl
        rw [e1] at h ⊢
        clear e1
        by_cases h2 : d = 110
        · rw [if_pos h2] at h ⊢; subst h2
          obtain ⟨x, hx, e1, e2⟩ := numA_again h
          rw [e1]
          refine ⟨?_, num_right 0 x (.inl rfl), actOkB (by decide) hx (by decide) nil_small⟩
          unfold putA
          rw [if_pos rfl, nil_empty, if_pos rfl]
          rw [e2]
        · rw [if_neg h2] at h ⊢
          by_cases h3 : d = 116
          · rw [if_pos h3] at h ⊢; subst h3
            by_cases h4 : 2 ≤ (116 :: m).length ∧ (116 :: m).length ≤ 1025
            · rw [if_pos h4]
              have hm : m ≠ [] := by rintro rfl; simp at h4
              have hs : (⟨m.toArray⟩ : ByteArray).size = m.length := (SB.mk m).size
              have hne : (⟨m.toArray⟩ : ByteArray).toList.isEmpty = false := by
                rw [ByteArray.toList_eq]
                cases m with
                | nil => exact absurd rfl hm
                | cons a l => rfl
              have hl := h4.2
              rw [List.length_cons] at hl
              refine ⟨?_, ?_, actOkB (by decide) (by decide) (by decide) ?_⟩
              · unfold putA
                rw [if_pos rfl, hne, if_neg (by simp)]
              · simp only [rightB, hs]
                rw [decide_eq_true (by omega : m.length ≤ 1024)]
                simp [nought_zero]
              · show (⟨m.toArray⟩ : ByteArray).size ≤ _
                rw [hs]; omega
            · rw [if_neg h4] at h; exact hno h
          · rw [if_neg h3] at h; exact hno h
    · rw [if_neg h0] at h ⊢
      by_cases h1 : c = 1
      · rw [if_pos h1] at h ⊢; subst h1
        by_cases hl : l.length = 8
        · rw [if_pos hl]
          refine ⟨?_, right_add _, actOkB (by decide) (by decide) (wrap64_bds _) nil_small⟩
          rw [putA1, bytes_wrap8 hl]
        · rw [if_neg hl] at h; exact hno h
      · rw [if_neg h1] at h ⊢
        by_cases h2 : c = 2
        · rw [if_pos h2] at h ⊢; subst h2
          obtain ⟨x, hx, e1, e2⟩ := numA_again h
          rw [e1]
          refine ⟨?_, num_right 2 x (.inr (.inl rfl)), actOkB (by decide) hx (by decide) nil_small⟩
          rw [putA2, e2]
        · rw [if_neg h2] at h ⊢
          by_cases h3 : c = 3
          · rw [if_pos h3] at h ⊢; subst h3
            obtain ⟨x, hx, e1, e2⟩ := numA_again h
            rw [e1]
            refine ⟨?_, num_right 3 x (.inr (.inr rfl)), actOkB (by decide) hx (by decide) nil_small⟩
            rw [putA3, e2]
          · rw [if_neg h3] at h ⊢
            by_cases h4 : c = 4
            · rw [if_pos h4] at h ⊢; subst h4
              by_cases hl : l = []
              · rw [if_pos hl]; subst hl
                refine ⟨rfl, by decide +kernel, ⟨by decide, by decide, by decide, by decide⟩⟩
              · rw [if_neg hl] at h; exact hno h
            · rw [if_neg h4] at h; exact hno h
end Go.Proofs.YtaplefelfiefaaaGreat
end

/- requests in bytes: plain definitions and laws. By an AI agent. -/
section
set_option linter.unusedVariables false
set_option linter.unusedSimpArgs false
namespace Go.Proofs.YtaplefelfiefaaaGreat
open Go.RowKit

/-! ### numbers, texts, vectors in bytes, and read -/
def numB (x : Int) (n : Nat) : List UInt8 := bytesN (putN x n n)
theorem numB_len (x : Int) (n : Nat) : (numB x n).length = n := by unfold numB; rw [bytesN_len, putN_len]
theorem numB_succ (x : Int) (n : Nat) : numB x (n + 1) = numB (x / 256) n ++ [UInt8.ofNat (x % 256).toNat] := by
  have e : putN x (n + 1) (n + 1) = putN (x / 256) n n ++ [x % 256] := by
    unfold putN
    rw [List.range_succ, List.map_append]
    congr 1
    · apply List.map_congr_left
      intro j hj
      rw [List.mem_range] at hj
      rw [if_pos (by omega), if_pos (by omega)]
      unfold byteAt
      rw [show n + 1 - 1 - j = (n - 1 - j) + 1 by omega, Nat.mul_succ, Nat.add_comm, Int.pow_add, Int.ediv_ediv_of_nonneg (by decide)]
      rfl
    · simp [byteAt]
  unfold numB
  rw [e, bytesN_append]
  rfl
theorem getN_numB (n : Nat) : ∀ x : Int, 0 ≤ x → x < 256 ^ n → getN (numB x n) = x := by
  induction n with
  | zero => intro x h0 h1; simp at h1; have : x = 0 := by omega
            subst this; rfl
  | succ n ih =>
    intro x h0 h1
    rw [numB_succ, getN_snoc, ih (x / 256) (by omega) (by rw [Int.pow_succ] at h1; omega)]
    have : ((UInt8.ofNat (x % 256).toNat).toNat : Int) = x % 256 := by simp; omega
    rw [this]; omega
theorem numB_getN {l : List UInt8} {n : Nat} (h : l.length = n) : numB (getN l) n = l := by
  have hb := getN_bound l
  rw [h] at hb
  exact gN_inj n _ _ (numB_len _ _) h (getN_numB n _ hb.1 hb.2)

def rdTake (n : Nat) (l : List UInt8) : Option (List UInt8 × List UInt8) := if n ≤ l.length then some (l.take n, l.drop n) else none
def rdNum (n : Nat) (l : List UInt8) : Option (Int × List UInt8) := if n ≤ l.length then some (getN (l.take n), l.drop n) else none

theorem rdNum_put (n : Nat) (x : Int) (m : List UInt8) (h0 : 0 ≤ x) (h1 : x < 256 ^ n) : rdNum n (numB x n ++ m) = some (x, m) := by
  unfold rdNum
  rw [if_pos (by rw [List.length_append, numB_len]; omega), List.take_left' (numB_len _ _), List.drop_left' (numB_len _ _), getN_numB n x h0 h1]
theorem rdNum_back {n : Nat} {l m : List UInt8} {x : Int} (h : rdNum n l = some (x, m)) : l = numB x n ++ m ∧ 0 ≤ x ∧ x < 256 ^ n := by
  unfold rdNum at h
  split at h
  · rename_i hn
    simp only [Option.some.injEq, Prod.mk.injEq] at h
    obtain ⟨rfl, rfl⟩ := h
    have hl : (l.take n).length = n := by rw [List.length_take]; omega
    have hb := getN_bound (l.take n)
    rw [hl] at hb
    rw [numB_getN hl, List.take_append_drop]
    exact ⟨rfl, hb⟩
  · cases h
theorem rdTake_back {n : Nat} {l t m : List UInt8} (h : rdTake n l = some (t, m)) : l = t ++ m ∧ t.length = n := by
  unfold rdTake at h
  split at h
  · rename_i hn
    simp only [Option.some.injEq, Prod.mk.injEq] at h
    obtain ⟨rfl, rfl⟩ := h
    exact ⟨(List.take_append_drop _ _).symm, by rw [List.length_take]; omega⟩
  · cases h
theorem body_vals (m : List UInt8) : ∀ k, 6 * k ≤ m.length → putBodyL (valsL k m) = m.take (6 * k) := by
  intro k
  induction k with
  | zero => intro _; simp [valsL, putBodyL]
  | succ k ih =>
    intro h
    rw [valsL_succ, putBodyL_snoc, ih (by omega)]
    have hl : ((m.drop (6 * k)).take 6).length = 6 := by rw [List.length_take, List.length_drop]; omega
    have := numB_getN hl
    unfold numB at this
    rw [this, show 6 * (k + 1) = 6 * k + 6 by omega, List.take_add]
theorem validL_of {xs : List Int} (h1 : 1 ≤ xs.length) (h8 : xs.length ≤ 8) (hx : ∀ x ∈ xs, 0 ≤ x ∧ x < 281474976710656) : validL xs = true := by
  unfold validL
  rw [decide_eq_true h1, decide_eq_true h8]
  simp only [Bool.true_and, Bool.not_eq_true']
  rw [List.any_eq_false]
  intro x hm
  have := hx x hm
  simp only [badT, decide_eq_true_eq]
  omega

/-! ### requests -/

end Go.Proofs.YtaplefelfiefaaaGreat
end
