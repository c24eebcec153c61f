/- The document's own answer to chapter 2: numbers by their odd digits; plain facts. · The document's own answer to chapter 2: bytes and keys in halves; plain facts. By an AI agent. -/
import Derived.Test.YtgdlcoicejgdkaaDoorTwo0
import Derived.Test.YtgdlcoicejgdkaaDoorScale0
import Derived.Test.YtgdlcoicejgdkaaDoorGetR
namespace Go.Proofs.YtgdlcoicejgdkaaDoor
open Go.RowKit Ieee

/-! ### a number's odd digits, as the document finds them -/
theorem oddE_ge {r : Nat} (h0 : r ≠ 0) : -1074 ≤ oddE r := by
  obtain ⟨o1, o2, _⟩ := oddM_odd h0
  by_cases hs : r < two52
  · have hl := log2_sub h0 hs
    obtain ⟨m, z, hm, ho⟩ := odd_part r h0
    have e1 : normS r = m * 2 ^ (z + (52 - r.log2)) := by
      unfold normS; rw [if_pos hs, Nat.pow_add, ← Nat.mul_assoc, ← hm]
    rw [o2] at e1
    obtain ⟨q1, q2⟩ := odd_mul o1 ho e1
    unfold oddE normP
    rw [if_pos hs]; omega
  · have : 1 ≤ r / two52 := by rw [Nat.le_div_iff_mul_le (by decide)]; omega
    unfold oddE normP
    rw [if_neg hs]; omega
theorem odd_dig {r m z : Nat} (h0 : r ≠ 0) (hm : m % 2 = 1) (h : digS r = m * 2 ^ z) : oddM r = m ∧ oddE r = digP r + z := by
  obtain ⟨o1, o2, _⟩ := oddM_odd h0
  by_cases hs : r < two52
  · have hl := log2_sub h0 hs
    have e1 : normS r = m * 2 ^ (z + (52 - r.log2)) := by
      unfold digS at h; rw [if_pos hs] at h
      unfold normS; rw [if_pos hs, Nat.pow_add, ← Nat.mul_assoc, ← h]
    rw [o2] at e1
    obtain ⟨q1, q2⟩ := odd_mul o1 hm e1
    refine ⟨q2, ?_⟩
    unfold oddE normP digP
    rw [if_pos hs, if_pos hs]; omega
  · have e1 : normS r = m * 2 ^ z := by
      unfold digS at h; rw [if_neg hs] at h
      unfold normS; rw [if_neg hs]; exact h
    rw [o2] at e1
    obtain ⟨q1, q2⟩ := odd_mul o1 hm e1
    refine ⟨q2, ?_⟩
    unfold oddE normP digP
    rw [if_neg hs, if_neg hs, q1]
theorem bitLen_bits {M : Nat} (h0 : M ≠ 0) (h : M < 2 ^ 64) : Lib.bitLen M = bitsN M := by
  have h1 : Lib.bitLen M ≤ M.log2 + 1 := bitLen_le Nat.lt_log2_self
  have h2 : M.log2 < Lib.bitLen M := (Nat.log2_lt h0).2 (lt_bitLen h)
  unfold bitsN
  rw [if_neg h0]; omega
theorem whole_iff {M : Nat} {E : Int} (h0 : M ≠ 0) (hM : M < 2 ^ 53) (hE : 0 ≤ E) : wholeB M E = decide (M * 2 ^ E.toNat < 2 ^ 53) := by
  cases hw : wholeB M E
  · symm
    rw [decide_eq_false_iff_not]
    intro hlt
    have hb := bitLen_bits h0 (show M < 2 ^ 64 by omega)
    have h1 : 2 ^ M.log2 * 2 ^ E.toNat ≤ M * 2 ^ E.toNat := Nat.mul_le_mul_right _ (Nat.log2_self_le h0)
    rw [← Nat.pow_add] at h1
    have h2 : M.log2 + E.toNat < 53 := (Nat.pow_lt_pow_iff_right (by decide)).1 (Nat.lt_of_le_of_lt h1 hlt)
    have : wholeB M E = true := by
      unfold wholeB
      rw [hb, bitsN, if_neg h0]
      simp only [Bool.and_eq_true, decide_eq_true_eq]
      omega
    rw [this] at hw; cases hw
  · symm
    exact decide_eq_true (whole_bound (by omega) hw)
theorem bits_shift {m z : Nat} (h : m ≠ 0) : bitsN (m * 2 ^ z) = bitsN m + z := by
  have : m * 2 ^ z ≠ 0 := Nat.mul_ne_zero h (Nat.ne_of_gt (Nat.two_pow_pos _))
  unfold bitsN
  rw [if_neg h, if_neg this, log2_shift h]; omega

theorem shift_down (n b : Nat) (k : Int) : rung n k = rung (n * 2 ^ b) (k - b) := by
  rw [rung_shift]; congr 1; omega
theorem numF_hi {n : Nat} {k : Int} (h0 : n ≠ 0) (hn : n < 2 ^ 53) (h : 1024 < (bitsN n : Int) + k) : numF n k = (0, 11) := by
  obtain ⟨b1, b2, b3, b4⟩ := bitsN_bd h0 hn
  refine numF_edge h0 (.inr ?_)
  rw [shift_down n (53 - bitsN n) k]
  exact rung_huge b3 b4 (by omega)
theorem numF_mid {n : Nat} {k : Int} (h0 : n ≠ 0) (hn : n < 2 ^ 53) (h : (bitsN n : Int) + k ≤ 1024) (h' : -1021 ≤ (bitsN n : Int) + k) : numF n k = (rung n k, 0) := by
  obtain ⟨b1, b2, b3, b4⟩ := bitsN_bd h0 hn
  have er : rung n k = (k - ((53 - bitsN n : Nat) : Int) + 1074).toNat * two52 + n * 2 ^ (53 - bitsN n) := by
    rw [shift_down n (53 - bitsN n) k]
    exact rung_exact b3 b4 (by omega) (by omega)
  generalize hM : n * 2 ^ (53 - bitsN n) = M at *
  obtain ⟨q, hq⟩ : ∃ q : Nat, (k - ((53 - bitsN n : Nat) : Int) + 1074).toNat = q := ⟨_, rfl⟩
  rw [hq] at er
  have hq2 : q ≤ 2045 := by omega
  have e2 : rung n k = (q + 1) * two52 + (M - two52) := by
    rw [er, Nat.succ_mul]
    generalize q * two52 = Z
    omega
  obtain ⟨p1, p2⟩ := word_parts (q + 1) (M - two52) (by omega)
  have hlt := word_lt_inf (q + 1) (M - two52) (by omega) (by omega)
  have hge : two52 ≤ rung n k := by
    rw [e2]; exact Nat.le_trans (Nat.le_mul_of_pos_left two52 (by omega)) (Nat.le_add_right _ _)
  rw [← e2] at p1 p2 hlt
  have r0 : rung n k ≠ 0 := by unfold two52 at hge; omega
  have hs : ¬ rung n k < two52 := by omega
  have hx : exactB n k (rung n k) = true := by
    unfold exactB normS normP
    rw [if_neg hs, if_neg hs, p1, p2, hM]
    simp only [Bool.and_eq_true, decide_eq_true_eq]
    omega
  rw [numF_exact h0 hn r0 (by omega), hx, if_pos rfl]
theorem numF_sub {m z : Nat} {k : Int} (hm : m % 2 = 1) (hn : m * 2 ^ z < 2 ^ 53) (h : (bitsN (m * 2 ^ z) : Int) + k < -1021) (h' : -1074 ≤ k + z) : numF (m * 2 ^ z) k = (rung (m * 2 ^ z) k, 0) := by
  have hm0 : m ≠ 0 := by omega
  have h0 : m * 2 ^ z ≠ 0 := Nat.mul_ne_zero hm0 (Nat.ne_of_gt (Nat.two_pow_pos _))
  obtain ⟨b1, b2, b3, b4⟩ := bitsN_bd h0 hn
  have hb := bits_shift (z := z) hm0
  obtain ⟨j, hj⟩ : ∃ j : Nat, k + z = -1074 + (j : Int) := ⟨(k + z + 1074).toNat, by omega⟩
  have hbm : bitsN m = m.log2 + 1 := if_neg hm0
  have hlt : m * 2 ^ j < two52 := by
    calc m * 2 ^ j < 2 ^ (m.log2 + 1) * 2 ^ j := Nat.mul_lt_mul_of_pos_right Nat.lt_log2_self (Nat.two_pow_pos _)
      _ = 2 ^ (m.log2 + 1 + j) := by rw [← Nat.pow_add]
      _ ≤ 2 ^ 52 := Nat.pow_le_pow_right (by decide) (by omega)
  have er : rung (m * 2 ^ z) k = m * 2 ^ j := by
    rw [rung_shift, hj, ← rung_shift]
    exact rung_sub hlt
  have hR0 : m * 2 ^ j ≠ 0 := Nat.mul_ne_zero hm0 (Nat.ne_of_gt (Nat.two_pow_pos _))
  have hx : exactB (m * 2 ^ z) k (rung (m * 2 ^ z) k) = true := by
    rw [er]
    unfold exactB normS normP
    rw [if_pos hlt, if_pos hlt, log2_shift hm0, Nat.mul_assoc, ← Nat.pow_add, Nat.mul_assoc, ← Nat.pow_add, show j + (52 - (m.log2 + j)) = z + (53 - bitsN (m * 2 ^ z)) by omega]
    simp only [Bool.and_eq_true, decide_eq_true_eq]
    refine ⟨trivial, ?_⟩
    omega
  rw [numF_exact h0 hn (by rw [er]; exact hR0) (by rw [er]; unfold infR; unfold two52 at hlt; omega), hx, if_pos rfl]
theorem numF_low {m z : Nat} {k : Int} (hm : m % 2 = 1) (hn : m * 2 ^ z < 2 ^ 53) (h : k + z < -1074) : numF (m * 2 ^ z) k = (0, 11) := by
  have hm0 : m ≠ 0 := by omega
  have h0 : m * 2 ^ z ≠ 0 := Nat.mul_ne_zero hm0 (Nat.ne_of_gt (Nat.two_pow_pos _))
  by_cases hr : rung (m * 2 ^ z) k = 0 ∨ rung (m * 2 ^ z) k = infR
  · exact numF_edge h0 hr
  · have r0 : rung (m * 2 ^ z) k ≠ 0 := fun e => hr (.inl e)
    rw [numF_exact h0 hn r0 (fun e => hr (.inr e)), if_neg]
    intro hx
    have hc := ctz_odd (e := z) hm (by omega)
    have he := ((exact_iff h0 hn r0).1 hx).2
    rw [hc.1] at he
    have := oddE_ge r0
    omega
/-- digits and a power of two: which of them are just a number -/
theorem numF_odd {m z : Nat} {k : Int} (hm : m % 2 = 1) (hn : m * 2 ^ z < 2 ^ 53) :
    numF (m * 2 ^ z) k = if (bitsN m : Int) + (k + z) > 1024 ∨ k + z < -1074 then (0, 11) else (rung m (k + z), 0) := by
  have hm0 : m ≠ 0 := by omega
  have h0 : m * 2 ^ z ≠ 0 := Nat.mul_ne_zero hm0 (Nat.ne_of_gt (Nat.two_pow_pos _))
  have hb := bits_shift (z := z) hm0
  by_cases h1 : (bitsN m : Int) + (k + z) > 1024
  · rw [if_pos (.inl h1)]
    exact numF_hi h0 hn (by omega)
  · by_cases h2 : k + z < -1074
    · rw [if_pos (.inr h2)]
      exact numF_low hm hn h2
    · rw [if_neg (by omega), ← rung_shift]
      by_cases h3 : -1021 ≤ (bitsN (m * 2 ^ z) : Int) + k
      · exact numF_mid h0 hn (by omega) h3
      · exact numF_sub hm hn (by omega) (by omega)

/-! ### a text of digits, as the document reads it -/
theorem dig_no {l : List UInt8} {c : UInt8} (hd : l.all isDig = true) (hc : isDig c = false) : c ∉ l := by
  intro h
  have := List.all_eq_true.1 hd c h
  rw [hc] at this; cases this
theorem dig_sign {l : List UInt8} (hd : l.all isDig = true) : signB l = false ∧ restL l = l := by
  cases l with
  | nil => exact ⟨rfl, rfl⟩
  | cons b l =>
    have hb : isDig b = true := List.all_eq_true.1 hd b (List.mem_cons_self ..)
    have h2 := (isDig_iff b).1 hb
    exact no_sign (by show b.toNat ≠ 45; omega) (by simp)
theorem numC_long {l : List UInt8} (hd : l.all isDig = true) (h : 16 < l.length) : numC l ≠ 0 := by
  unfold numC
  rw [(dig_sign hd).2]
  rw [if_neg (by rw [show digOk l (signB l) = false from by unfold digOk; rw [decide_eq_false (by omega)]; simp]; simp)]
  decide
theorem head_bad {d : List UInt8} (hd : d.all isDig = true) : (numC d ≠ 0 ∨ 16 < d.length ∨ signB d = true) ↔ numC d ≠ 0 := by
  constructor
  · rintro (h | h | h)
    · exact h
    · exact numC_long hd h
    · rw [(dig_sign hd).1] at h; cases h
  · exact fun h => .inl h
theorem numP_all {d : List UInt8} (hd : d.all isDig = true) :
    numP d = if numC d ≠ 0 then (0, 4) else if 9007199254740992 ≤ numV d then (0, 11) else numF (numV d).toNat 0 := by
  have hcut := cut_no d 112 (dig_no hd (by decide))
  have hh : headP d = d := by unfold headP; rw [hcut]
  have hp : isP d = false := by unfold isP; rw [hcut]
  have hk : kP d = 0 := by unfold kP; rw [hp]; rfl
  have hb := head_bad hd
  unfold numP
  rw [hh, hp, hk]
  by_cases h : numC d ≠ 0
  · rw [if_pos (hb.2 h), if_pos h]
  · rw [if_neg (fun x => h (hb.1 x)), if_neg h, if_neg (by simp)]
theorem numP_p {d t : List UInt8} (hd : d.all isDig = true) :
    numP (d ++ 112 :: t) = if numC t ≠ 0 ∨ 5 < t.length ∨ numC d ≠ 0 then (0, 4) else if 9007199254740992 ≤ numV d then (0, 11) else numF (numV d).toNat (numV t) := by
  have hcut := cut_at d t 112 (dig_no hd (by decide))
  have hh : headP (d ++ 112 :: t) = d := by unfold headP; rw [hcut]
  have ht : tailP (d ++ 112 :: t) = t := by unfold tailP; rw [hcut]
  have hp : isP (d ++ 112 :: t) = true := by unfold isP; rw [hcut]
  have hk : kP (d ++ 112 :: t) = numV t := by unfold kP; rw [hp, ht]; rfl
  have hb := head_bad hd
  unfold numP
  rw [hh, hp, hk, ht]
  by_cases h : numC d ≠ 0
  · rw [if_pos (hb.2 h), if_pos (.inr (.inr h))]
  · rw [if_neg (fun x => h (hb.1 x))]
    by_cases h2 : numC t ≠ 0 ∨ 5 < t.length
    · rw [if_pos ⟨rfl, h2⟩, if_pos (by rcases h2 with h2 | h2; exact .inl h2; exact .inr (.inl h2))]
    · rw [if_neg (fun x => h2 x.2), if_neg (show ¬ (numC t ≠ 0 ∨ 5 < t.length ∨ numC d ≠ 0) from fun x => x.elim (fun a => h2 (.inl a)) (fun x => x.elim (fun a => h2 (.inr a)) (fun a => h a)))]
theorem mem_first {t : List UInt8} {c : UInt8} (ht : c ∈ t) : ∃ p q, t = p ++ c :: q ∧ c ∉ p := by
  induction t with
  | nil => cases ht
  | cons b t ih =>
    by_cases hb : b = c
    · exact ⟨[], t, by rw [hb]; rfl, by simp⟩
    · have hm : c ∈ t := by
        rcases List.mem_cons.1 ht with h | h
        · exact absurd h.symm hb
        · exact h
      obtain ⟨p, q, e, hp⟩ := ih hm
      refine ⟨b :: p, q, by rw [e]; rfl, ?_⟩
      intro h
      rcases List.mem_cons.1 h with h | h
      · exact hb h.symm
      · exact hp h
theorem head_mem {d t : List UInt8} {c : UInt8} (hd : (112 : UInt8) ∉ d) (hc : c ≠ 112) : c ∈ headP (d ++ c :: t) := by
  by_cases ht : (112 : UInt8) ∈ t
  · obtain ⟨p, q, rfl, hp⟩ := mem_first ht
    have hn2 : (112 : UInt8) ∉ d ++ c :: p := by
      intro h
      rcases List.mem_append.1 h with h | h
      · exact hd h
      · rcases List.mem_cons.1 h with h | h
        · exact hc h.symm
        · exact hp h
    have e : d ++ c :: (p ++ 112 :: q) = (d ++ c :: p) ++ 112 :: q := by simp
    rw [e]
    unfold headP
    rw [cut_at _ _ _ hn2]
    simp
  · have hn2 : (112 : UInt8) ∉ d ++ c :: t := by
      intro h
      rcases List.mem_append.1 h with h | h
      · exact hd h
      · rcases List.mem_cons.1 h with h | h
        · exact hc h.symm
        · exact ht h
    unfold headP
    rw [cut_no _ _ hn2]
    simp
theorem rest_id {l : List UInt8} (h : signB l = false) : restL l = l := by
  unfold restL Lib.trimPrefix
  unfold signB at h
  rw [h]; rfl
theorem numP_no {d t : List UInt8} {c : UInt8} (hd : d.all isDig = true) (hc : isDig c = false) (hp : c ≠ 112) : numP (d ++ c :: t) = (0, 4) := by
  have h1 := head_mem (t := t) (dig_no hd (show isDig 112 = false by decide)) hp
  unfold numP
  rw [if_pos]
  generalize headP (d ++ c :: t) = H at *
  cases hs : signB H
  · left
    unfold numC
    rw [rest_id hs, if_neg]
    · decide
    · intro h
      have := List.all_eq_true.1 (digOk_all h).2.2 c h1
      rw [hc] at this; cases this
  · exact .inr (.inr rfl)
end Go.Proofs.YtgdlcoicejgdkaaDoor

namespace Go.Proofs.YtgdlcoicejgdkaaDoor
open Go.RowKit Ieee

/-- the halves of a number's key -/
def keyH (x : Nat) : Nat := fkey x / 4294967296
def keyL (x : Nat) : Nat := fkey x % 4294967296
theorem keyH_lt {x : Nat} (hx : x < two64) : keyH x < 4294967296 := by
  have := fkey_lt hx
  unfold keyH; unfold two64 at this; omega
theorem keyL_lt (x : Nat) : keyL x < 4294967296 := by unfold keyL; omega
theorem key_nan {x : Nat} (h : nanB x = true) : keyH x = 0 ∧ keyL x = 0 := by
  have : fkey x = 0 := by unfold fkey; rw [h]; rfl
  unfold keyH keyL; rw [this]; exact ⟨rfl, rfl⟩
theorem key_neg {x : Nat} (h : nanB x = false) (hx : x < two64) (k : 2147483648 ≤ x / 4294967296) : keyH x = 4294967295 - x / 4294967296 ∧ keyL x = 4294967295 - x % 4294967296 := by
  have e := fkey_num h
  unfold two63 at e
  rw [if_pos (by omega)] at e
  unfold keyH keyL
  rw [e]
  unfold two64 at *
  omega
theorem half_pos {x : Nat} (h : nanB x = false) (k : ¬ 2147483648 ≤ x / 4294967296) : keyH x = x / 4294967296 + 2147483648 ∧ keyL x = x % 4294967296 := by
  have e := fkey_num h
  unfold two63 at e
  rw [if_neg (by omega)] at e
  unfold keyH keyL
  rw [e]
  omega
theorem key_order (x y : Nat) : cmpN (fkey x) (fkey y) = if keyH x < keyH y ∨ (keyH x = keyH y ∧ keyL x < keyL y) then -1 else if keyH y < keyH x ∨ keyL y < keyL x then 1 else 0 := by
  have h1 : fkey x < fkey y ↔ (keyH x < keyH y ∨ (keyH x = keyH y ∧ keyL x < keyL y)) := by unfold keyH keyL; omega
  have h2 : ¬ fkey x < fkey y → (fkey y < fkey x ↔ (keyH y < keyH x ∨ keyL y < keyL x)) := by unfold keyH keyL; omega
  unfold cmpN
  by_cases h : fkey x < fkey y
  · rw [if_pos h, if_pos (h1.1 h)]
  · rw [if_neg h, if_neg (fun k => h (h1.2 k))]
    by_cases h3 : fkey y < fkey x
    · rw [if_pos h3, if_pos ((h2 h).1 h3)]
    · rw [if_neg h3, if_neg (fun k => h3 ((h2 h).2 k))]
theorem key_same (x y : Nat) : fkey x = fkey y ↔ keyH x = keyH y ∧ keyL x = keyL y := by unfold keyH keyL; omega

/-- eight bytes in two halves -/
theorem put_halves (x : Nat) : putN (keyH x : Int) 4 4 ++ putN (keyL x : Int) 4 4 = putN (fkey x : Int) 8 8 := by
  unfold keyH keyL
  generalize fkey x = u
  simp only [putN, byteAt, List.range_succ, List.range_zero, List.map_nil, List.map_cons, List.nil_append, List.cons_append]
  simp
  omega
theorem str_append (a b : List Int) : strOfNums a ++ strOfNums b = strOfNums (a ++ b) := by
  have h : SB (strOfNums a ++ strOfNums b) (strOfNums (a ++ b)).data.toList := by
    rw [SB]; simp [strOfNums]
  exact h.eq rfl
theorem getN_append (l m : List UInt8) (h : m.length = 4) : getN (l ++ m) = getN l * 4294967296 + getN m := by
  match m, h with
  | [a, b, c, d], _ =>
    simp only [getN, List.foldl_append, List.foldl_cons, List.foldl_nil]
    omega
end Go.Proofs.YtgdlcoicejgdkaaDoor
