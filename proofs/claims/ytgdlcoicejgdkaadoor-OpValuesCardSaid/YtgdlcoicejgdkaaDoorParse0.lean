/- numbers read out of a text: plain definitions; a number's text reads as that number. By an AI agent. -/
import Derived.Test.YtgdlcoicejgdkaaDoorNum0
import Derived.Test.YtgdlcoicejgdkaaDoorRealT2
namespace Go.Proofs.YtgdlcoicejgdkaaDoor
open Go.RowKit Ieee

/-- a whole number times a power of two, where it is just so: the word, and the code -/
def numF (n : Nat) (k : Int) : Nat × Int :=
  if n = 0 then (0, 0)
  else if rung n k = 0 ∨ rung n k = infR then (0, 11)
  else if oddM (rung n k) ≠ n / 2 ^ Lib.ctz 64 n ∨ oddE (rung n k) ≠ k + (Lib.ctz 64 n : Int) then (0, 11)
  else (rung n k, 0)
def headP (l : List UInt8) : List UInt8 := (Lib.cut l [112]).1
def tailP (l : List UInt8) : List UInt8 := (Lib.cut l [112]).2.1
def isP (l : List UInt8) : Bool := (Lib.cut l [112]).2.2
def kP (l : List UInt8) : Int := if isP l then numV (tailP l) else 0
/-- a number's text without its sign -/
def numP (l : List UInt8) : Nat × Int :=
  if numC (headP l) ≠ 0 ∨ 16 < (headP l).length ∨ signB (headP l) = true then (0, 4)
  else if isP l = true ∧ (numC (tailP l) ≠ 0 ∨ 5 < (tailP l).length) then (0, 4)
  else if 9007199254740992 ≤ numV (headP l) then (0, 11)
  else numF (numV (headP l)).toNat (kP l)
def nanL : List UInt8 := [110, 97, 110]
def infL : List UInt8 := [105, 110, 102]
def nanW : Nat := 9221120237041090561
def withS (b : Bool) (x : Nat) : Nat := if b then x + two63 else x
/-- real.Parse -/
def parseP (l : List UInt8) : Nat × Int :=
  if l = nanL then (nanW, 0)
  else if restL l = infL then (withS (signB l) infR, 0)
  else if (numP (restL l)).2 = 0 then (withS (signB l) (numP (restL l)).1, 0)
  else (0, (numP (restL l)).2)

theorem rung_norm {r : Nat} (h0 : r ≠ 0) (h : r < infR) : rung (normS r) (normP r) = r := by
  have h1 := normS_ge h0
  have h2 := normS_lt h0
  by_cases hs : r < two52
  · have hl := log2_sub h0 hs
    unfold normS normP
    rw [if_pos hs, if_pos hs, rung_shift, show (r.log2 : Int) - 1126 + ((52 - r.log2 : Nat) : Int) = -1074 by omega]
    exact rung_sub hs
  · have hp := normP_bd h0 h
    have hq : 1 ≤ r / two52 := by rw [Nat.le_div_iff_mul_le (by decide)]; omega
    have e1 : normP r = ((r / two52 : Nat) : Int) - 1075 := by unfold normP; rw [if_neg hs]
    have e2 : normS r = two52 + r % two52 := by unfold normS; rw [if_neg hs]
    rw [rung_exact h1 h2 (by omega) hp.2, e1, e2]
    have e3 : (((r / two52 : Nat) : Int) - 1075 + 1074).toNat = r / two52 - 1 := by omega
    rw [e3]
    have e4 := Nat.div_add_mod r two52
    have e5 : (r / two52 - 1) * two52 + two52 = r / two52 * two52 := by rw [← Nat.succ_mul]; congr 1; omega
    rw [Nat.mul_comm] at e4
    omega
theorem rung_odd {r : Nat} (h0 : r ≠ 0) (h : r < infR) : rung (oddM r) (oddE r) = r := by
  have e := (oddM_odd h0).2.1
  have k := rung_shift (oddM r) (tzS r) (normP r)
  rw [← e, rung_norm h0 h] at k
  exact k.symm

theorem odd_mul {m n a b : Nat} (hm : m % 2 = 1) (hn : n % 2 = 1) (h : m * 2 ^ a = n * 2 ^ b) : a = b ∧ m = n := by
  induction a generalizing b with
  | zero =>
    cases b with
    | zero => simpa using h
    | succ b => rw [Nat.pow_succ, ← Nat.mul_assoc] at h; omega
  | succ a ih =>
    cases b with
    | zero => rw [Nat.pow_succ, ← Nat.mul_assoc] at h; omega
    | succ b =>
      rw [Nat.pow_succ, Nat.pow_succ, ← Nat.mul_assoc, ← Nat.mul_assoc] at h
      have := ih (b := b) (by omega)
      omega
theorem ctz_odd {m e : Nat} (hm : m % 2 = 1) (h : m * 2 ^ e < 2 ^ 64) : Lib.ctz 64 (m * 2 ^ e) = e ∧ m * 2 ^ e / 2 ^ Lib.ctz 64 (m * 2 ^ e) = m := by
  have h0 : m * 2 ^ e ≠ 0 := Nat.mul_ne_zero (by omega) (Nat.ne_of_gt (Nat.two_pow_pos _))
  have e1 : Lib.ctz 64 (m * 2 ^ e) = Lib.ctzFrom 64 (m * 2 ^ e) := by unfold Lib.ctz; rw [if_neg h0]
  obtain ⟨j, hj, _⟩ := Lib.ctzFrom_spec 64 (m * 2 ^ e) (by omega) h
  rw [← e1] at hj
  have := odd_mul (m := m) (n := 2 * j + 1) (a := e) (b := Lib.ctz 64 (m * 2 ^ e)) hm (by omega) (by rw [Nat.mul_comm (2 * j + 1)]; exact hj)
  refine ⟨this.1.symm, ?_⟩
  rw [← this.1]
  exact Nat.mul_div_cancel _ (Nat.two_pow_pos _)

theorem no_p (v : Int) : (112 : UInt8) ∉ intB v := by
  intro h
  rcases mem_intB h with h | h
  · exact absurd h (by decide)
  · exact absurd h (by decide)
theorem intB_len {v : Int} (k : Nat) (h : v.natAbs < 10 ^ (k + 1)) : (intB v).length ≤ k + 2 ∧ (0 ≤ v → (intB v).length ≤ k + 1) := by
  have hl := decB_len k _ h
  by_cases hv : v < 0
  · rw [intB_neg hv]
    exact ⟨by simp; omega, fun h => by omega⟩
  · obtain ⟨u, rfl⟩ : ∃ u : Nat, v = u := ⟨v.toNat, by omega⟩
    rw [Int.natAbs_natCast] at hl
    rw [intB_nat]
    exact ⟨by omega, fun _ => hl.2⟩
theorem sign_intB (u : Nat) : signB (intB (u : Int)) = false := by
  rw [intB_nat]
  have hf := decB_first u
  exact (no_sign (l := decB u) (by omega) (decB_ne u)).1

/-- what the text of a number without its sign reads as -/
theorem numP_numL {M : Nat} {E : Int} (hM : M % 2 = 1) (hM2 : M < 2 ^ 53) (hE : -1126 ≤ E ∧ E ≤ 1023) (h1 : rung M E ≠ 0) (h2 : rung M E ≠ infR) (h3 : oddM (rung M E) = M) (h4 : oddE (rung M E) = E) :
    numP (numL M E) = (rung M E, 0) := by
  by_cases hw : wholeB M E = true
  · have hlt := whole_bound (M := M) (E := E) (by omega) hw
    have hE0 : 0 ≤ E := by
      simp only [wholeB, Bool.and_eq_true, decide_eq_true_eq] at hw
      exact hw.1
    have e0 : numL M E = intB ((M * 2 ^ E.toNat : Nat) : Int) := by unfold numL; rw [if_pos hw]; rfl
    generalize hW : M * 2 ^ E.toNat = W at *
    have hWne : W ≠ 0 := by
      rw [← hW]; exact Nat.mul_ne_zero (by omega) (Nat.ne_of_gt (Nat.two_pow_pos _))
    have er : rung W 0 = rung M E := by
      rw [← hW, rung_shift]; congr 1; omega
    have hc := ctz_odd (e := E.toNat) hM (by rw [hW]; omega)
    rw [hW] at hc
    obtain ⟨n1, n2⟩ := num_intB (v := (W : Int)) (by rw [Int.natAbs_natCast]; omega)
    have hcut := cut_no (intB (W : Int)) 112 (no_p _)
    have hh : headP (intB (W : Int)) = intB (W : Int) := by unfold headP; rw [hcut]
    have hp : isP (intB (W : Int)) = false := by unfold isP; rw [hcut]
    have hlen := (intB_len (v := (W : Int)) 15 (by rw [Int.natAbs_natCast]; omega)).2 (by omega)
    have hk : kP (intB (W : Int)) = 0 := by unfold kP; rw [hp]; rfl
    rw [e0]
    unfold numP
    rw [hk, hh, hp, n1, n2, sign_intB, if_neg (by simp; omega), if_neg (by simp), if_neg (by omega), Int.toNat_natCast]
    unfold numF
    rw [if_neg hWne, er, if_neg (by simp [h1, h2]), if_neg (by rw [h3, h4, hc.2, hc.1]; simp; omega)]
  · have e0 : numL M E = intB (M : Int) ++ 112 :: intB E := by unfold numL; rw [if_neg hw]; rfl
    have hc := ctz_odd (m := M) (e := 0) hM (by omega)
    rw [Nat.pow_zero, Nat.mul_one] at hc
    obtain ⟨n1, n2⟩ := num_intB (v := (M : Int)) (by rw [Int.natAbs_natCast]; omega)
    obtain ⟨k1, k2⟩ := num_intB (v := E) (by omega)
    have hcut := cut_at (intB (M : Int)) (intB E) 112 (no_p _)
    rw [← e0] at hcut
    have hh : headP (numL M E) = intB (M : Int) := by unfold headP; rw [hcut]
    have ht : tailP (numL M E) = intB E := by unfold tailP; rw [hcut]
    have hp : isP (numL M E) = true := by unfold isP; rw [hcut]
    have hlen := (intB_len (v := (M : Int)) 15 (by rw [Int.natAbs_natCast]; omega)).2 (by omega)
    have hlen2 := (intB_len (v := E) 3 (by omega)).1
    have hk : kP (numL M E) = E := by unfold kP; rw [hp, ht, k1]; rfl
    unfold numP
    rw [hk, hh, hp, ht, n1, n2, k2, sign_intB, if_neg (by simp; omega), if_neg (by simp; omega), if_neg (by omega), Int.toNat_natCast]
    unfold numF
    rw [if_neg (by omega), if_neg (by simp [h1, h2]), if_neg (by rw [h3, h4, hc.2, hc.1]; simp)]

theorem sign_two {l : List UInt8} (x : Nat) (h : (l.headD 0).toNat ≠ 45) (hn : l ≠ []) : signB (signL x ++ l) = decide (two63 ≤ x) ∧ restL (signL x ++ l) = l := by
  by_cases hx : two63 ≤ x
  · rw [decide_eq_true hx, signL, if_pos hx]
    exact sign_cons l
  · rw [decide_eq_false hx, signL, if_neg hx]
    exact no_sign h hn
theorem numL_first (M : Nat) (E : Int) : 48 ≤ ((numL M E).headD 0).toNat ∧ ((numL M E).headD 0).toNat ≤ 57 ∧ numL M E ≠ [] := by
  unfold numL
  split
  · show 48 ≤ ((intB _).headD 0).toNat ∧ ((intB _).headD 0).toNat ≤ 57 ∧ intB _ ≠ []
    rw [intB_nat]
    exact ⟨(decB_first _).1, (decB_first _).2, decB_ne _⟩
  · show 48 ≤ ((intB _ ++ _).headD 0).toNat ∧ ((intB _ ++ _).headD 0).toNat ≤ 57 ∧ intB _ ++ _ ≠ []
    rw [intB_nat, head_append (decB_ne _)]
    exact ⟨(decB_first _).1, (decB_first _).2, by simp [decB_ne]⟩
theorem withS_back {x : Nat} (hx : x < two64) : withS (decide (two63 ≤ x)) (x % two63) = x := by
  unfold withS
  by_cases h : two63 ≤ x
  · rw [decide_eq_true h, if_pos rfl]; unfold two63 two64 at *; omega
  · rw [decide_eq_false h, if_neg (by simp)]; unfold two63 two64 at *; omega
/-- a number's text reads as that number -/
theorem parse_text {x : Nat} (hx : x < two64) : parseP (textF x) = (if nanB x then nanW else x, 0) := by
  cases hn : nanB x
  · rw [if_neg (by simp)]
    by_cases hz : x % two63 = 0
    · have e : textF x = signL x ++ [48] := by unfold textF; rw [hn, if_neg (by simp), if_pos hz]
      obtain ⟨s1, s2⟩ := sign_two (l := [48]) x (by decide) (by simp)
      have hb := withS_back hx
      rw [hz] at hb
      rw [e]
      unfold parseP
      rw [s1, s2, if_neg (by unfold signL nanL; split <;> decide), if_neg (by decide), show numP [48] = (0, 0) from by decide +kernel, if_pos rfl, hb]
    · by_cases hi : x % two63 = infR
      · have e : textF x = signL x ++ infL := by unfold textF; rw [hn, if_neg (by simp), if_neg hz, if_pos hi]; rfl
        obtain ⟨s1, s2⟩ := sign_two (l := infL) x (by decide) (by decide)
        have hb := withS_back hx
        rw [hi] at hb
        rw [e]
        unfold parseP
        rw [s1, s2, if_neg (by unfold signL nanL infL; split <;> decide), if_pos rfl, hb]
      · have hlt : x % two63 < infR := by
          rcases fin_or_inf hn with h | h
          · exact h
          · exact absurd h hi
        have e : textF x = signL x ++ numL (oddM (x % two63)) (oddE (x % two63)) := by unfold textF; rw [hn, if_neg (by simp), if_neg hz, if_neg hi]
        have hf := numL_first (oddM (x % two63)) (oddE (x % two63))
        obtain ⟨s1, s2⟩ := sign_two (l := numL (oddM (x % two63)) (oddE (x % two63))) x (by omega) hf.2.2
        have hb := withS_back hx
        have ho := oddM_odd hz
        have hM53 : oddM (x % two63) < 2 ^ 53 := by
          have : 2 * two52 = 2 ^ 53 := by decide
          omega
        have er := rung_odd hz hlt
        have hp := numP_numL (M := oddM (x % two63)) (E := oddE (x % two63)) ho.1 hM53 (oddE_bd hz hlt) (by rw [er]; exact hz) (by rw [er]; exact hi) (by rw [er]) (by rw [er])
        rw [er] at hp
        have hhead : ∀ t : List UInt8, (t.headD 0).toNat = 110 ∨ (t.headD 0).toNat = 105 → numL (oddM (x % two63)) (oddE (x % two63)) ≠ t := by
          rintro t h rfl
          omega
        rw [e]
        unfold parseP
        rw [s1, s2, hp, if_neg (by
          intro hc
          have h2 : restL (signL x ++ numL (oddM (x % two63)) (oddE (x % two63))) = restL nanL := by rw [hc]
          rw [s2] at h2
          exact hhead nanL (.inl (by decide)) h2), if_neg (hhead infL (.inr (by decide))), if_pos rfl, hb]
  · rw [if_pos rfl]
    have e : textF x = nanL := by unfold textF; rw [hn, if_pos rfl]; rfl
    rw [e]
    rfl

def canon (x : Nat) : Nat := if nanB x then nanW else x
theorem canon_key (x : Nat) : fkey (canon x) = fkey x := by
  cases h : nanB x
  · have : canon x = x := by unfold canon; rw [h]; rfl
    rw [this]
  · have : canon x = nanW := by unfold canon; rw [h]; rfl
    have h2 : fkey x = 0 := by unfold fkey; rw [h]; rfl
    rw [this, h2]
    decide +kernel
theorem parse_key {x : Nat} (hx : x < two64) : fkey (parseP (textF x)).1 = fkey x := by
  rw [parse_text hx]
  exact canon_key x
theorem textF_inj {x y : Nat} (hx : x < two64) (hy : y < two64) (h : textF x = textF y) : fkey x = fkey y := by
  rw [← parse_key hx, ← parse_key hy, h]
theorem textF_key {x y : Nat} (hx : x < two64) (hy : y < two64) (h : fkey x = fkey y) : textF x = textF y := by
  by_cases h0 : fkey y = 0
  · have nx := fkey_zero' hx (by rw [h]; exact h0)
    have ny := fkey_zero' hy h0
    unfold textF; rw [nx, ny]; rfl
  · rw [fkey_inj' hx hy h h0]
theorem textF_len (x : Nat) : (textF x).length ≤ 24 := by
  have hs : (signL x).length ≤ 1 := by unfold signL; split <;> simp
  unfold textF
  split
  · simp
  · split
    · rw [List.length_append]; simp; omega
    · split
      · rw [List.length_append]; simp; omega
      · rename_i hn hz hi
        have hn' : nanB x = false := by simpa using hn
        have hlt : x % two63 < infR := by
          rcases fin_or_inf hn' with h | h
          · exact h
          · exact absurd h hi
        have ho := oddM_odd hz
        have hM53 : oddM (x % two63) < 2 ^ 53 := by
          have : 2 * two52 = 2 ^ 53 := by decide
          omega
        have hE := oddE_bd hz hlt
        rw [List.length_append]
        have : (numL (oddM (x % two63)) (oddE (x % two63))).length ≤ 22 := by
          unfold numL
          split
          · rename_i hw
            have hb := whole_bound (M := oddM (x % two63)) (by omega) hw
            have := (intB_len (v := ((oddM (x % two63) * 2 ^ (oddE (x % two63)).toNat : Nat) : Int)) 15 (by rw [Int.natAbs_natCast]; omega)).2 (by omega)
            show (intB _).length ≤ 22
            omega
          · have h1 := (intB_len (v := (oddM (x % two63) : Int)) 15 (by rw [Int.natAbs_natCast]; omega)).2 (by omega)
            have h2 := (intB_len (v := oddE (x % two63)) 3 (by omega)).1
            show (intB _ ++ ([112] ++ intB _)).length ≤ 22
            simp
            omega
        omega
end Go.Proofs.YtgdlcoicejgdkaaDoor
