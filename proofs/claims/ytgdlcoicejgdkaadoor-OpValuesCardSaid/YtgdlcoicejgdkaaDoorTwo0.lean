/- RealTwo: the plain law. By an AI agent. -/
import Derived.Test.YtgdlcoicejgdkaaDoorParse0
namespace Go.Proofs.YtgdlcoicejgdkaaDoor
open Go.RowKit Ieee

/-- the text of digits and a power of two, without a sign -/
def mpL (n : Nat) (e : Int) : List UInt8 := intB (n : Int) ++ 112 :: intB e
theorem numP_mp {n : Nat} {e : Int} (hn : n < 2 ^ 53) (he : -2000 ≤ e ∧ e ≤ 2000) : numP (mpL n e) = numF n e := by
  obtain ⟨n1, n2⟩ := num_intB (v := (n : Int)) (by rw [Int.natAbs_natCast]; omega)
  obtain ⟨k1, k2⟩ := num_intB (v := e) (by omega)
  have hcut := cut_at (intB (n : Int)) (intB e) 112 (no_p _)
  have hh : headP (mpL n e) = intB (n : Int) := by unfold headP mpL; rw [hcut]
  have ht : tailP (mpL n e) = intB e := by unfold tailP mpL; rw [hcut]
  have hp : isP (mpL n e) = true := by unfold isP mpL; rw [hcut]
  have hlen := (intB_len (v := (n : Int)) 15 (by rw [Int.natAbs_natCast]; omega)).2 (by omega)
  have hlen2 := (intB_len (v := e) 3 (by omega)).1
  have hk : kP (mpL n e) = e := by unfold kP; rw [hp, ht, k1]; rfl
  unfold numP
  rw [hk, hh, hp, ht, n1, n2, k2, sign_intB, if_neg (by simp; omega), if_neg (by simp; omega), if_neg (by omega), Int.toNat_natCast]

theorem odd_part (n : Nat) (h : n ≠ 0) : ∃ m z, n = m * 2 ^ z ∧ m % 2 = 1 := by
  induction n using Nat.strongRecOn with
  | ind n ih =>
    by_cases hp : n % 2 = 1
    · exact ⟨n, 0, by simp, hp⟩
    · obtain ⟨m, z, h1, h2⟩ := ih (n / 2) (by omega) (by omega)
      refine ⟨m, z + 1, ?_, h2⟩
      rw [Nat.pow_succ, ← Nat.mul_assoc, ← h1]; omega
theorem same_pow {m a b : Nat} (h1 : two52 ≤ m * 2 ^ a) (h2 : m * 2 ^ a < 2 * two52) (h3 : two52 ≤ m * 2 ^ b) (h4 : m * 2 ^ b < 2 * two52) : a = b := by
  have key : ∀ c d : Nat, c < d → two52 ≤ m * 2 ^ c → m * 2 ^ d < 2 * two52 → False := by
    intro c d hcd hc hd
    have h : m * 2 ^ (c + 1) ≤ m * 2 ^ d := Nat.mul_le_mul_left _ (Nat.pow_le_pow_right (by decide) hcd)
    rw [Nat.pow_succ, ← Nat.mul_assoc] at h
    omega
  rcases Nat.lt_trichotomy a b with h | h | h
  · exact (key a b h h1 h4).elim
  · exact h
  · exact (key b a h h3 h2).elim

/-- how many binary digits a number has -/
def bitsN (n : Nat) : Nat := if n = 0 then 0 else n.log2 + 1
theorem bitsN_bd {n : Nat} (h0 : n ≠ 0) (h : n < 2 ^ 53) : 1 ≤ bitsN n ∧ bitsN n ≤ 53 ∧ two52 ≤ n * 2 ^ (53 - bitsN n) ∧ n * 2 ^ (53 - bitsN n) < 2 * two52 := by
  have hl : n.log2 < 53 := (Nat.log2_lt h0).2 h
  have h1 : 2 ^ n.log2 ≤ n := Nat.log2_self_le h0
  have h2 : n < 2 ^ (n.log2 + 1) := Nat.lt_log2_self
  have hp := Nat.two_pow_pos (52 - n.log2)
  have e1 : 2 ^ n.log2 * 2 ^ (52 - n.log2) = two52 := by rw [← Nat.pow_add, show n.log2 + (52 - n.log2) = 52 by omega]; rfl
  have e2 : 2 ^ (n.log2 + 1) * 2 ^ (52 - n.log2) = 2 * two52 := by rw [← Nat.pow_add, show n.log2 + 1 + (52 - n.log2) = 53 by omega]; rfl
  unfold bitsN
  rw [if_neg h0, show 53 - (n.log2 + 1) = 52 - n.log2 by omega]
  refine ⟨by omega, by omega, ?_, ?_⟩
  · rw [← e1]; exact Nat.mul_le_mul_right _ h1
  · rw [← e2]; exact Nat.mul_lt_mul_of_pos_right h2 hp
/-- whether digits and a power of two are just a number -/
def exactB (n : Nat) (e : Int) (r : Nat) : Bool := decide (normS r = n * 2 ^ (53 - bitsN n)) && decide (normP r + 53 = e + bitsN n)
theorem exact_iff {n r : Nat} {e : Int} (h0 : n ≠ 0) (h : n < 2 ^ 53) (r0 : r ≠ 0) :
    exactB n e r = true ↔ oddM r = n / 2 ^ Lib.ctz 64 n ∧ oddE r = e + (Lib.ctz 64 n : Int) := by
  obtain ⟨m, z, hm, ho⟩ := odd_part n h0
  obtain ⟨b1, b2, b3, b4⟩ := bitsN_bd h0 h
  obtain ⟨c1, c2⟩ := ctz_odd (e := z) ho (by rw [← hm]; omega)
  rw [← hm] at c1 c2
  obtain ⟨o1, o2, _⟩ := oddM_odd r0
  have s1 := normS_ge r0
  have s2 := normS_lt r0
  have e3 : n * 2 ^ (53 - bitsN n) = m * 2 ^ (z + (53 - bitsN n)) := by rw [Nat.pow_add, ← Nat.mul_assoc, ← hm]
  rw [c2, c1]
  simp only [exactB, Bool.and_eq_true, decide_eq_true_eq]
  unfold oddE
  constructor
  · rintro ⟨k1, k2⟩
    rw [o2, e3] at k1
    obtain ⟨q1, q2⟩ := odd_mul o1 ho k1
    exact ⟨q2, by omega⟩
  · rintro ⟨k1, k2⟩
    rw [k1] at o2
    rw [e3] at b3 b4 ⊢
    have q := same_pow (m := m) (a := tzS r) (b := z + (53 - bitsN n)) (by omega) (by omega) b3 b4
    exact ⟨by rw [o2, q], by omega⟩
/-- what real.Parse makes of such a text -/
theorem numF_exact {n : Nat} {e : Int} (h0 : n ≠ 0) (h : n < 2 ^ 53) (r0 : rung n e ≠ 0) (ri : rung n e ≠ infR) :
    numF n e = if exactB n e (rung n e) then (rung n e, 0) else (0, 11) := by
  have k := exact_iff (e := e) h0 h r0
  unfold numF
  rw [if_neg h0, if_neg (by simp [r0, ri])]
  cases hx : exactB n e (rung n e)
  · rw [if_pos, if_neg (by simp)]
    apply Classical.byContradiction
    intro hn
    rw [hx] at k
    have : ¬ (oddM (rung n e) ≠ n / 2 ^ Lib.ctz 64 n) ∧ ¬ (oddE (rung n e) ≠ e + (Lib.ctz 64 n : Int)) := not_or.1 hn
    have k2 := k.2 ⟨Classical.not_not.1 this.1, Classical.not_not.1 this.2⟩
    cases k2
  · have k2 := k.1 hx
    rw [if_neg (by simp [k2.1, k2.2]), if_pos rfl]
theorem numF_edge {n : Nat} {e : Int} (h0 : n ≠ 0) (r0 : rung n e = 0 ∨ rung n e = infR) : numF n e = (0, 11) := by
  unfold numF
  rw [if_neg h0, if_pos r0]
theorem mp_first (n : Nat) (e : Int) : ((mpL n e).headD 0).toNat ≠ 45 ∧ mpL n e ≠ [] ∧ 48 ≤ ((mpL n e).headD 0).toNat ∧ ((mpL n e).headD 0).toNat ≤ 57 := by
  unfold mpL
  rw [intB_nat, head_append (decB_ne _)]
  have := decB_first n
  exact ⟨by omega, by simp [decB_ne], this.1, this.2⟩
/-- real.Parse of the text with or without a sign -/
theorem parse_mp {n : Nat} {e : Int} (b : Bool) (hn : n < 2 ^ 53) (he : -2000 ≤ e ∧ e ≤ 2000) :
    parseP ((if b then [45] else []) ++ mpL n e) = if (numF n e).2 = 0 then (withS b (numF n e).1, 0) else (0, (numF n e).2) := by
  obtain ⟨f1, f2, f3, f4⟩ := mp_first n e
  have hs : signB ((if b then [45] else []) ++ mpL n e) = b ∧ restL ((if b then [45] else []) ++ mpL n e) = mpL n e := by
    cases b
    · exact no_sign f1 f2
    · exact sign_cons _
  have q1 : (if b then [45] else []) ++ mpL n e ≠ nanL := by
    intro h
    cases b
    · have h2 : mpL n e = nanL := h
      rw [h2] at f4; exact absurd f4 (by decide)
    · have h2 : (45 : UInt8) :: mpL n e = nanL := h
      have := congrArg (fun l => l.headD 0) h2
      exact absurd this (by simp [nanL])
  have q2 : mpL n e ≠ infL := by
    intro h
    rw [h] at f4; exact absurd f4 (by decide)
  unfold parseP
  rw [if_neg q1, hs.1, hs.2, if_neg q2, numP_mp hn he]
end Go.Proofs.YtgdlcoicejgdkaaDoor
