import Derived.Test.YtfmabjoindlfeaaGreatQTxnTellsUptoP8
import Derived.Test.YtfmabjoindlfeaaGreatQTxnTellsUptoP19
import Derived.Test.YtfmabjoindlfeaaGreatQTxnTellsUptoP9

/- real.Get: plain facts. By an AI agent. -/
section
namespace Go.Proofs.YtfmabjoindlfeaaGreat
open Go.RowKit

theorem wraps_u64' (n : Int) (h₀ : 0 ≤ n) (h₁ : n < 2 ^ 64) : IntKind.u64.wrap n = n := by rw [IntKind.wrap_u64]; omega
theorem or_u8 (a b : Int) (h0 : 0 ≤ a) (h1 : a * 256 + 255 < 18446744073709551616) (h2 : 0 ≤ b) (h3 : b < 256) : bits .or .u64 (a * 256) b = a * 256 + b :=
  bits_join .u64 64 (by decide) wraps_u64' 8 _ _ (by omega) (by omega) (by omega) h2 (by omega) (by omega)
theorem top_test (u : Nat) (h : u < two64) : u.testBit 63 = decide (two63 ≤ u) := by
  rw [Nat.testBit_eq_decide_div_mod_eq]
  congr 1
  unfold two63 two64 at *
  apply propext
  omega
theorem and_bit (u : Nat) (h : u < two64) : u &&& 2 ^ 63 = if two63 ≤ u then 2 ^ 63 else 0 := by
  apply Nat.eq_of_testBit_eq
  intro i
  rw [Nat.testBit_and, Nat.testBit_two_pow]
  by_cases k : 63 = i
  · subst k
    rw [top_test u h]
    by_cases q : two63 ≤ u
    · rw [if_pos q, decide_eq_true q, Nat.testBit_two_pow_self]; rfl
    · rw [if_neg q, decide_eq_false q]; simp
  · rw [decide_eq_false k, Bool.and_false]
    split
    · rw [Nat.testBit_two_pow, decide_eq_false k]
    · simp
theorem and_top (u : Nat) (h : u < two64) : bits .and .u64 (u : Int) 9223372036854775808 = if two63 ≤ u then 9223372036854775808 else 0 := by
  rw [show (9223372036854775808 : Int) = ((9223372036854775808 : Nat) : Int) from rfl, u64_and_nat _ _ h (by decide), show (9223372036854775808 : Nat) = 2 ^ 63 from rfl, and_bit u h]
  by_cases k : two63 ≤ u
  · rw [if_pos k, if_pos k]
  · rw [if_neg k, if_neg k]; rfl
theorem andNot_top (u : Nat) (h : u < two64) (k : two63 ≤ u) : bits .andNot .u64 (u : Int) 9223372036854775808 = ((u - two63 : Nat) : Int) := by
  have e : u % 2 ^ 63 = u - two63 := by unfold two63 two64 at *; omega
  rw [show (9223372036854775808 : Int) = ((9223372036854775808 : Nat) : Int) from rfl, u64_andNot_nat _ _ h (by decide), show 18446744073709551615 - 9223372036854775808 = 2 ^ 63 - 1 from rfl, Nat.and_two_pow_sub_one_eq_mod, e]

/-- what eight bytes are -/
def backW (u : Nat) : Nat := if two63 ≤ u then u - two63 else two64 - 1 - u
def getR (u : Nat) : Nat × Int := if u = 0 then (nanW, 0) else if nanB (backW u) then (0, 4) else (backW u, 0)
theorem backW_lt {u : Nat} (h : u < two64) : backW u < two64 := by unfold backW two63 two64 at *; split <;> omega
theorem getR_back {x : Nat} (hx : x < two64) : getR (fkey x) = (canon x, 0) := by
  unfold canon
  cases h : nanB x
  · have hk := fkey_num h
    have hi : x % two63 ≤ infR := by
      unfold nanB at h
      rw [decide_eq_false_iff_not] at h; omega
    have e : fkey x ≠ 0 ∧ backW (fkey x) = x := by
      rw [hk]
      unfold backW
      by_cases k : two63 ≤ x
      · rw [if_pos k]
        refine ⟨by unfold infR two63 two64 at *; omega, ?_⟩
        rw [if_neg (by unfold two63 two64 at *; omega)]
        unfold two63 two64 at *; omega
      · rw [if_neg k]
        refine ⟨by unfold two63; omega, ?_⟩
        rw [if_pos (by omega)]; omega
    unfold getR
    rw [if_neg e.1, e.2, h]; rfl
  · unfold getR fkey
    rw [h]; rfl
theorem getN_put8 (u : Nat) (h : u < two64) : getN (bytesN8 u) = u := by
  have hl := bytesN8_len u
  have hp := put8_at u
  generalize bytesN8 u = l at *
  match l, hl with
  | [b0, b1, b2, b3, b4, b5, b6, b7], _ =>
    have h0 := hp 0 (by decide)
    have h1 := hp 1 (by decide)
    have h2 := hp 2 (by decide)
    have h3 := hp 3 (by decide)
    have h4 := hp 4 (by decide)
    have h5 := hp 5 (by decide)
    have h6 := hp 6 (by decide)
    have h7 := hp 7 (by decide)
    simp only [List.drop_succ_cons, List.drop_zero, List.head?_cons, Option.map_some, Option.some.injEq] at h0 h1 h2 h3 h4 h5 h6 h7
    simp only [getN, List.foldl_cons, List.foldl_nil]
    unfold two64 at h
    omega
end Go.Proofs.YtfmabjoindlfeaaGreat
end

/- acts in bytes: plain definitions and laws. By an AI agent. -/
section
namespace Go.Proofs.YtfmabjoindlfeaaGreat
open Go.RowKit

/-- an act's bytes -/
def putA (a : ActL) : List UInt8 :=
  if a.k = 0 then (if a.s.toList.isEmpty then 0 :: 110 :: bytesN8 (fkey a.x) else 0 :: 116 :: a.s.data.toList)
  else if a.k = 1 then 1 :: bytesN8 (a.n % 18446744073709551616).toNat
  else if a.k = 2 then 2 :: bytesN8 (fkey a.x)
  else if a.k = 3 then 3 :: bytesN8 (fkey a.x)
  else [4]
def badA : ActL × Int := (⟨0, 0, 0, nilS⟩, 4)
/-- an act with a number, read -/
def numA (k : Int) (m : List UInt8) : ActL × Int := if m.length = 8 ∧ (getR (getN m).toNat).2 = 0 then (⟨k, (getR (getN m).toNat).1, 0, nilS⟩, 0) else badA
/-- what comes behind the kind 0 -/
def setA (l : List UInt8) : ActL × Int :=
  if l = [] then badA
  else if l.headD 0 = 110 then numA 0 l.tail
  else if l.headD 0 = 116 then (if 2 ≤ l.length ∧ l.length ≤ 1025 then (⟨0, 0, 0, ⟨l.tail.toArray⟩⟩, 0) else badA)
  else badA
/-- an act read out of bytes: the act, and the code -/
def getA (l : List UInt8) : ActL × Int :=
  if l = [] then badA
  else if l.headD 0 = 0 then setA l.tail
  else if l.headD 0 = 1 then (if l.tail.length = 8 then (⟨1, 0, wrap64 (getN l.tail), nilS⟩, 0) else badA)
  else if l.headD 0 = 2 then numA 2 l.tail
  else if l.headD 0 = 3 then numA 3 l.tail
  else if l.headD 0 = 4 then (if l.tail = [] then (⟨4, 0, 0, nilS⟩, 0) else badA)
  else badA

def putS (a : ActL) : List UInt8 := if rightB a then putA a else []
def putC (a : ActL) : Int := if rightB a then 0 else 40
theorem numA_back (k : Int) {x : Nat} (hx : x < two64) : numA k (bytesN8 (fkey x)) = (⟨k, canon x, 0, nilS⟩, 0) := by
  have h : getN (bytesN8 (fkey x)) = (fkey x : Int) := getN_put8 _ (fkey_lt hx)
  unfold numA
  rw [h, Int.toNat_natCast, getR_back hx, if_pos ⟨bytesN8_len _, rfl⟩]
theorem right_size {a : ActL} (h : rightB a = true) : a.s.size ≤ 1024 := by
  simp only [rightB, Bool.and_eq_true, decide_eq_true_eq] at h
  exact h.1
theorem right_kind {a : ActL} (ok : a.Ok) (h : rightB a = true) :
    (a.k = 0 ∧ a.n = 0 ∧ (a.s = nilS ∨ (a.s ≠ nilS ∧ a.x = 0))) ∨ (a.k = 1 ∧ a.x = 0 ∧ a.s = nilS) ∨ ((a.k = 2 ∨ a.k = 3) ∧ a.n = 0 ∧ a.s = nilS) ∨ (a.k = 4 ∧ a.x = 0 ∧ a.n = 0 ∧ a.s = nilS) := by
  simp only [rightB, Bool.and_eq_true] at h
  have h := h.2
  by_cases h0 : a.k = 0
  · rw [if_pos h0] at h
    simp only [Bool.and_eq_true, Bool.or_eq_true, decide_eq_true_eq] at h
    refine .inl ⟨h0, h.1, ?_⟩
    by_cases hs : a.s = nilS
    · exact .inl hs
    · refine .inr ⟨hs, ?_⟩
      rcases h.2 with k | k
      · exact absurd (nil_of (by simpa using k)) hs
      · exact nought_eq ok.x k
  · rw [if_neg h0] at h
    by_cases h1 : a.k = 1
    · rw [if_pos h1] at h
      simp only [Bool.and_eq_true] at h
      exact .inr (.inl ⟨h1, nought_eq ok.x h.1, nil_of (by simpa using h.2)⟩)
    · rw [if_neg h1] at h
      by_cases h2 : a.k = 2 ∨ a.k = 3
      · rw [if_pos h2] at h
        simp only [Bool.and_eq_true, decide_eq_true_eq] at h
        exact .inr (.inr (.inl ⟨h2, h.1, nil_of (by simpa using h.2)⟩))
      · rw [if_neg h2] at h
        by_cases h4 : a.k = 4
        · rw [if_pos h4] at h
          simp only [Bool.and_eq_true, decide_eq_true_eq] at h
          exact .inr (.inr (.inr ⟨h4, nought_eq ok.x h.1, h.2.1, nil_of (by simpa using h.2.2)⟩))
        · rw [if_neg h4] at h; cases h
theorem nil_empty : nilS.toList.isEmpty = true := by rw [nil_list]; rfl
theorem not_empty {s : ByteArray} (h : s ≠ nilS) : s.toList.isEmpty = false := by
  cases hs : s.toList with
  | nil => exact absurd (nil_of hs) h
  | cons a l => rfl
theorem back_int {n : Int} (h : -9223372036854775808 ≤ n ∧ n ≤ 9223372036854775807) : wrap64 (getN (bytesN8 (n % 18446744073709551616).toNat)) = n := by
  have hb : (n % 18446744073709551616).toNat < two64 := by unfold two64; omega
  rw [getN_put8 _ hb]
  unfold wrap64; omega
/-- what is put is got as it was -/
theorem getA_putA {a : ActL} (ok : a.Ok) (h : rightB a = true) : (getA (putA a)).2 = 0 ∧ sameA a (getA (putA a)).1 = true := by
  have hz := right_size h
  rcases right_kind ok h with ⟨k, n0, hs | ⟨hs, x0⟩⟩ | ⟨k, x0, s0⟩ | ⟨k, n0, s0⟩ | ⟨k, x0, n0, s0⟩
  · have e : putA a = 0 :: 110 :: bytesN8 (fkey a.x) := by unfold putA; rw [if_pos k, hs, nil_empty]; rfl
    have e2 : getA (putA a) = (⟨0, canon a.x, 0, nilS⟩, 0) := by
      rw [e]
      show numA 0 (bytesN8 (fkey a.x)) = _
      exact numA_back 0 ok.x
    rw [e2]
    refine ⟨rfl, ?_⟩
    simp [sameA, k, n0, hs, canon_key]
  · have e : putA a = 0 :: 116 :: a.s.data.toList := by unfold putA; rw [if_pos k, not_empty hs]; rfl
    have hl : 1 ≤ a.s.data.toList.length := by
      cases hd : a.s.data.toList with
      | nil => exact absurd (nil_of (by rw [ByteArray.toList_eq]; exact hd)) hs
      | cons b l => simp
    have hl2 : a.s.data.toList.length ≤ 1024 := by simpa using hz
    have e2 : getA (putA a) = (⟨0, 0, 0, ⟨a.s.data.toList.toArray⟩⟩, 0) := by
      rw [e]
      show (if 2 ≤ (116 :: a.s.data.toList).length ∧ (116 :: a.s.data.toList).length ≤ 1025 then ((⟨0, 0, 0, ⟨a.s.data.toList.toArray⟩⟩, 0) : ActL × Int) else badA) = _
      rw [if_pos (by rw [List.length_cons]; omega)]
    rw [e2]
    refine ⟨rfl, ?_⟩
    simp [sameA, k, n0, x0]
  · have e : putA a = 1 :: bytesN8 (a.n % 18446744073709551616).toNat := by unfold putA; rw [if_neg (by omega), if_pos k]
    have e2 : getA (putA a) = (⟨1, 0, a.n, nilS⟩, 0) := by
      rw [e]
      show (if (bytesN8 (a.n % 18446744073709551616).toNat).length = 8 then ((⟨1, 0, wrap64 (getN (bytesN8 (a.n % 18446744073709551616).toNat)), nilS⟩, 0) : ActL × Int) else badA) = _
      rw [if_pos (bytesN8_len _), back_int ok.n]
    rw [e2]
    refine ⟨rfl, ?_⟩
    simp [sameA, k, x0, s0]
  · rcases k with k | k
    · have e : putA a = 2 :: bytesN8 (fkey a.x) := by unfold putA; rw [if_neg (by omega), if_neg (by omega), if_pos k]
      have e2 : getA (putA a) = (⟨2, canon a.x, 0, nilS⟩, 0) := by
        rw [e]
        show numA 2 (bytesN8 (fkey a.x)) = _
        exact numA_back 2 ok.x
      rw [e2]
      refine ⟨rfl, ?_⟩
      simp [sameA, k, n0, s0, canon_key]
    · have e : putA a = 3 :: bytesN8 (fkey a.x) := by unfold putA; rw [if_neg (by omega), if_neg (by omega), if_neg (by omega), if_pos k]
      have e2 : getA (putA a) = (⟨3, canon a.x, 0, nilS⟩, 0) := by
        rw [e]
        show numA 3 (bytesN8 (fkey a.x)) = _
        exact numA_back 3 ok.x
      rw [e2]
      refine ⟨rfl, ?_⟩
      simp [sameA, k, n0, s0, canon_key]
  · have e : putA a = [4] := by unfold putA; rw [if_neg (by omega), if_neg (by omega), if_neg (by omega), if_neg (by omega)]
    have e2 : getA (putA a) = (⟨4, 0, 0, nilS⟩, 0) := by rw [e]; rfl
    rw [e2]
    refine ⟨rfl, ?_⟩
    simp [sameA, k, n0, s0, x0]
theorem getA_codes (l : List UInt8) : (getA l).2 = 0 ∨ (getA l).2 = 4 := by
  have hn : ∀ k m, (numA k m).2 = 0 ∨ (numA k m).2 = 4 := fun k m => by unfold numA; split; exact .inl rfl; exact .inr rfl
  unfold getA setA
  (repeat' split) <;> first | exact .inl rfl | exact .inr rfl | exact hn _ _
theorem putA_len {a : ActL} (h : rightB a = true) : (putA a).length ≤ 1026 := by
  have hz := right_size h
  have hz2 : a.s.data.toList.length ≤ 1024 := by simpa using hz
  unfold putA
  (repeat' split) <;> simp only [List.length_cons, bytesN8_len, List.length_nil] <;> omega
end Go.Proofs.YtfmabjoindlfeaaGreat
end

/- acts read out of bytes are put again as those bytes. By an AI agent. -/
section
namespace Go.Proofs.YtfmabjoindlfeaaGreat
open Go.RowKit

theorem gN_inj : ∀ (n : Nat) (l m : List UInt8), l.length = n → m.length = n → getN l = getN m → l = m := by
  intro n
  induction n with
  | zero => intro l m hl hm _; rw [List.eq_nil_of_length_eq_zero hl, List.eq_nil_of_length_eq_zero hm]
  | succ n ih =>
    intro l m hl hm h
    have hl0 : l ≠ [] := by rintro rfl; simp at hl
    have hm0 : m ≠ [] := by rintro rfl; simp at hm
    have el := List.dropLast_concat_getLast hl0
    have em := List.dropLast_concat_getLast hm0
    rw [← el, ← em, getN_snoc, getN_snoc] at h
    have b1 := UInt8.toNat_lt (l.getLast hl0)
    have b2 := UInt8.toNat_lt (m.getLast hm0)
    have h1 : getN l.dropLast = getN m.dropLast := by omega
    have h2 : (l.getLast hl0).toNat = (m.getLast hm0).toNat := by omega
    have h3 := ih l.dropLast m.dropLast (by simp [hl]) (by simp [hm]) h1
    have h4 : l.getLast hl0 = m.getLast hm0 := UInt8.toNat_inj.1 h2
    rw [← el, ← em, h3, h4]
theorem gN_lt8 {l : List UInt8} (h : l.length = 8) : 0 ≤ getN l ∧ (getN l).toNat < two64 := by
  have hb := getN_bound l
  rw [h] at hb
  unfold two64
  exact ⟨hb.1, by omega⟩
theorem bytes_gN {l : List UInt8} (h : l.length = 8) : bytesN8 (getN l).toNat = l := by
  obtain ⟨h0, h1⟩ := gN_lt8 h
  refine gN_inj 8 _ _ (bytesN8_len _) h ?_
  rw [getN_put8 _ h1]; omega
theorem fkey_gR {u : Nat} (h : u < two64) (hc : (getR u).2 = 0) : fkey (getR u).1 = u := by
  unfold getR at *
  by_cases h0 : u = 0
  · rw [if_pos h0]; subst h0; decide +kernel
  · rw [if_neg h0] at hc ⊢
    cases hn : nanB (backW u)
    · rw [if_neg (by simp)]
      show fkey (backW u) = u
      rw [fkey_num hn]
      unfold backW
      by_cases k : two63 ≤ u
      · rw [if_pos k, if_neg (by unfold two63 two64 at *; omega)]; omega
      · rw [if_neg k, if_pos (by unfold two63 two64 at *; omega)]; unfold two64 at *; omega
    · rw [hn, if_pos rfl] at hc; exact absurd hc (by decide)
theorem bytes_gR {l : List UInt8} (h : l.length = 8) (hc : (getR (getN l).toNat).2 = 0) : bytesN8 (fkey (getR (getN l).toNat).1) = l := by
  rw [fkey_gR (gN_lt8 h).2 hc, bytes_gN h]
theorem bytes_wrap8 {l : List UInt8} (h : l.length = 8) : bytesN8 (wrap64 (getN l) % 18446744073709551616).toNat = l := by
  have hb := getN_bound l
  rw [h] at hb
  have e : (wrap64 (getN l) % 18446744073709551616).toNat = (getN l).toNat := by unfold wrap64; omega
  rw [e, bytes_gN h]
theorem gR_lt {u : Nat} (h : u < two64) : (getR u).1 < two64 := by
  unfold getR
  split
  · show nanW < two64; decide
  · split
    · show 0 < two64; decide
    · exact backW_lt h
theorem wrap64_bds (a : Int) : -9223372036854775808 ≤ wrap64 a ∧ wrap64 a ≤ 9223372036854775807 := by unfold wrap64; omega
theorem actOkB {k : Int} {x : Nat} {n : Int} {s : ByteArray} (hk : -9223372036854775808 ≤ k ∧ k ≤ 9223372036854775807) (hx : x < two64) (hn : -9223372036854775808 ≤ n ∧ n ≤ 9223372036854775807) (hs : s.size ≤ 140737488351232) : ActL.Ok ⟨k, x, n, s⟩ := ⟨hk, hx, hn, hs⟩
theorem num_right (k : Int) (x : Nat) (hk : k = 0 ∨ k = 2 ∨ k = 3) : rightB ⟨k, x, 0, nilS⟩ = true := by
  rcases hk with rfl | rfl | rfl <;> simp [rightB, nil_list, show nilS.size = 0 from rfl]
theorem numA_again {k : Int} {m : List UInt8} (h : (numA k m).2 = 0) :
    ∃ x, x < two64 ∧ (numA k m).1 = ⟨k, x, 0, nilS⟩ ∧ bytesN8 (fkey x) = m := by
  unfold numA at h ⊢
  split
  · rename_i q
    exact ⟨_, gR_lt (gN_lt8 q.1).2, rfl, bytes_gR q.1 q.2⟩
  · rename_i q; rw [if_neg q] at h; exact absurd h (by decide)
theorem putA1 (n : Int) : putA ⟨1, 0, n, nilS⟩ = 1 :: bytesN8 (n % 18446744073709551616).toNat := by
  unfold putA
  rw [if_neg (show ¬ (1 : Int) = 0 by decide), if_pos rfl]
theorem putA2 (x : Nat) : putA ⟨2, x, 0, nilS⟩ = 2 :: bytesN8 (fkey x) := by
  unfold putA
  rw [if_neg (show ¬ (2 : Int) = 0 by decide), if_neg (show ¬ (2 : Int) = 1 by decide), if_pos rfl]
theorem putA3 (x : Nat) : putA ⟨3, x, 0, nilS⟩ = 3 :: bytesN8 (fkey x) := by
  unfold putA
  rw [if_neg (show ¬ (3 : Int) = 0 by decide), if_neg (show ¬ (3 : Int) = 1 by decide), if_neg (show ¬ (3 : Int) = 2 by decide), if_pos rfl]
/-- what is got is put again as it was, and is a right act -/
theorem putA_getA (l : List UInt8) (h : (getA l).2 = 0) : putA (getA l).1 = l ∧ rightB (getA l).1 = true ∧ (getA l).1.Ok := by
  have hno : ∀ {P : Prop}, badA.2 = 0 → P := fun q => absurd q (by decide)
  cases l with
  | nil => exact hno h
  | cons c l =>
    have e : getA (c :: l) = if c = 0 then setA l else if c = 1 then (if l.length = 8 then (⟨1, 0, wrap64 (getN l), nilS⟩, 0) else badA) else if c = 2 then numA 2 l else if c = 3 then numA 3 l else if c = 4 then (if l = [] then (⟨4, 0, 0, nilS⟩, 0) else badA) else badA := by
      unfold getA; rw [if_neg (by simp)]; rfl
    rw [e] at h ⊢
    by_cases h0 : c = 0
    · rw [if_pos h0] at h ⊢; subst h0
      by_cases h1 : l = []
      · subst h1; exact hno h
      · obtain ⟨d, m, rfl⟩ := List.exists_cons_of_ne_nil h1
        have e1 : setA (d :: m) = if d = 110 then numA 0 m else if d = 116 then (if 2 ≤ (d :: m).length ∧ (d :: m).length ≤ 1025 then (⟨0, 0, 0, ⟨m.toArray⟩⟩, 0) else badA) else badA := by
          unfold setA; rw [if_neg (by simp)]; rfl
        rw [e1] at h ⊢
        clear e1
        by_cases h2 : d = 110
        · rw [if_pos h2] at h ⊢; subst h2
          obtain ⟨x, hx, e1, e2⟩ := numA_again h
          rw [e1]
          refine ⟨?_, num_right 0 x (.inl rfl), actOkB (by decide) hx (by decide) nil_small⟩
          unfold putA
          rw [if_pos rfl, nil_empty, if_pos rfl]
          rw [e2]
        · rw [if_neg h2] at h ⊢
          by_cases h3 : d = 116
          · rw [if_pos h3] at h ⊢; subst h3
            by_cases h4 : 2 ≤ (116 :: m).length ∧ (116 :: m).length ≤ 1025
            · rw [if_pos h4]
              have hm : m ≠ [] := by rintro rfl; simp at h4
              have hs : (⟨m.toArray⟩ : ByteArray).size = m.length := (SB.mk m).size
              have hne : (⟨m.toArray⟩ : ByteArray).toList.isEmpty = false := by
                rw [ByteArray.toList_eq]
                cases m with
                | nil => exact absurd rfl hm
                | cons a l => rfl
              have hl := h4.2
              rw [List.length_cons] at hl
              refine ⟨?_, ?_, actOkB (by decide) (by decide) (by decide) ?_⟩
              · unfold putA
                rw [if_pos rfl, hne, if_neg (by simp)]
              · simp only [rightB, hs]
                rw [decide_eq_true (by omega : m.length ≤ 1024)]
                simp [nought_zero]
              · show (⟨m.toArray⟩ : ByteArray).size ≤ _
                rw [hs]; omega
            · rw [if_neg h4] at h; exact hno h
          · rw [if_neg h3] at h; exact hno h
    · rw [if_neg h0] at h ⊢
      by_cases h1 : c = 1
      · rw [if_pos h1] at h ⊢; subst h1
        by_cases hl : l.length = 8
        · rw [if_pos hl]
          refine ⟨?_, right_add _, actOkB (by decide) (by decide) (wrap64_bds _) nil_small⟩
          rw [putA1, bytes_wrap8 hl]
        · rw [if_neg hl] at h; exact hno h
      · rw [if_neg h1] at h ⊢
        by_cases h2 : c = 2
        · rw [if_pos h2] at h ⊢; subst h2
          obtain ⟨x, hx, e1, e2⟩ := numA_again h
          rw [e1]
          refine ⟨?_, num_right 2 x (.inr (.inl rfl)), actOkB (by decide) hx (by decide) nil_small⟩
          rw [putA2, e2]
        · rw [if_neg h2] at h ⊢
          by_cases h3 : c = 3
          · rw [if_pos h3] at h ⊢; subst h3
            obtain ⟨x, hx, e1, e2⟩ := numA_again h
            rw [e1]
            refine ⟨?_, num_right 3 x (.inr (.inr rfl)), actOkB (by decide) hx (by decide) nil_small⟩
            rw [putA3, e2]
          · rw [if_neg h3] at h ⊢
            by_cases h4 : c = 4
            · rw [if_pos h4] at h ⊢; subst h4
              by_cases hl : l = []
              · rw [if_pos hl]; subst hl
                refine ⟨rfl, by decide +kernel, ⟨by decide, by decide, by decide, by decide⟩⟩
              · rw [if_neg hl] at h; exact hno h
            · rw [if_neg h4] at h; exact hno h
end Go.Proofs.YtfmabjoindlfeaaGreat
end
