/- a frame of which one byte is changed: the plain law. By an AI agent. -/
import Derived.Test.YtechiehbigmjbaaProt9
import Derived.Test.YtechiehbigmjbaaByteRow
set_option linter.unusedVariables false
set_option linter.unusedSimpArgs false
namespace Go.Proofs.Ytechiehbigmjbaa
open Go.RowKit

theorem head_parts (S l : List UInt8) (hS : S.length = 4) (hl : l.length ≤ 65536) : headF (numB (l.length : Int) 4 ++ (S ++ l)) = if (sumL l : Int) = getN S then 1 else 2 := by
  have e4 : (numB (l.length : Int) 4 ++ (S ++ l)).take 4 = numB (l.length : Int) 4 := List.take_left' (numB_len _ _)
  have ed : (numB (l.length : Int) 4 ++ (S ++ l)).drop 4 = S ++ l := List.drop_left' (numB_len _ _)
  have e8 : (numB (l.length : Int) 4 ++ (S ++ l)).drop 8 = l := by rw [show (8 : Nat) = 4 + 4 from rfl, ← List.drop_drop, ed, List.drop_left' hS]
  have en : getN (numB (l.length : Int) 4) = (l.length : Int) := getN_numB 4 _ (by omega) (by rw [show (256 : Int) ^ 4 = 4294967296 from rfl]; omega)
  have hlen : (numB (l.length : Int) 4 ++ (S ++ l)).length = 8 + l.length := by rw [List.length_append, List.length_append, numB_len, hS]; omega
  unfold headF
  rw [e4, en, ed, e8, hlen, Int.toNat_natCast, List.take_of_length_le (Nat.le_refl _), List.take_left' hS]
  rw [if_neg (by omega), if_neg (by omega), if_neg (by omega)]
theorem set_split {l : List UInt8} {j : Nat} (h : j < l.length) (c : UInt8) : l = l.take j ++ l[j] :: l.drop (j + 1) ∧ l.set j c = l.take j ++ c :: l.drop (j + 1) := by
  constructor
  · rw [← List.drop_eq_getElem_cons h, List.take_append_drop]
  · rw [List.set_eq_take_append_cons_drop, if_pos h]
theorem frame_changed (l : List UInt8) (hl : l.length ≤ 65536) (K : Nat) (h4 : 4 ≤ K) (hK : K < (frameL l).length) (c : UInt8) (hc : c ≠ (frameL l)[K]) : headF ((frameL l).set K c) = 2 := by
  have hS := numB_len (sumL l : Int) 4
  have hs := sumL_lt l
  have hgS : getN (numB (sumL l : Int) 4) = (sumL l : Int) := getN_numB 4 _ (by omega) (by rw [show (256 : Int) ^ 4 = 4294967296 from rfl]; omega)
  have hlen := frameL_len l
  have e0 : (frameL l).set K c = numB (l.length : Int) 4 ++ (numB (sumL l : Int) 4 ++ l).set (K - 4) c := by
    unfold frameL
    rw [List.set_append_right _ _ (by rw [numB_len]; exact h4), numB_len]
  have g0 : (frameL l)[K] = (numB (sumL l : Int) 4 ++ l)[K - 4]'(by rw [List.length_append, numB_len]; omega) := by
    unfold frameL
    exact (List.getElem_append_right (by rw [numB_len]; exact h4)).trans (by simp only [numB_len])
  rw [e0]
  rw [g0] at hc
  clear g0 e0
  by_cases h8 : K < 8
  · rw [List.set_append_left _ _ (by rw [hS]; omega), head_parts _ _ (by rw [List.length_set, hS]) hl, if_neg]
    intro e
    rw [List.getElem_append_left (by rw [hS]; omega)] at hc
    have h2 := gN_inj 4 _ _ (by rw [List.length_set, hS]) hS (e.symm.trans hgS.symm)
    have h3 : ((numB (sumL l : Int) 4).set (K - 4) c)[K - 4]'(by rw [List.length_set, hS]; omega) = (numB (sumL l : Int) 4)[K - 4]'(by rw [hS]; omega) := by simp only [h2]
    rw [List.getElem_set_self] at h3
    exact hc h3
  · rw [List.set_append_right _ _ (by rw [hS]; omega), hS, show K - 4 - 4 = K - 8 by omega]
    rw [List.getElem_append_right (by rw [hS]; omega)] at hc
    simp only [hS, show K - 4 - 4 = K - 8 by omega] at hc
    have hj : K - 8 < l.length := by omega
    have e1 : (l.set (K - 8) c).length = l.length := List.length_set
    rw [← e1, head_parts _ _ hS (by rw [e1]; exact hl), if_neg]
    rw [hgS]
    intro e
    obtain ⟨p1, p2⟩ := set_split hj c
    have h3 : sumL (l.set (K - 8) c) = sumL l := by omega
    rw [p2] at h3
    conv at h3 => rhs; rw [p1]
    exact sumL_other _ _ hc h3
theorem and_mask (x : Int) : 0 ≤ bits .and .i64 x 1048575 ∧ bits .and .i64 x 1048575 ≤ 1048575 := by
  have h1 : (BitVec.ofInt 64 x &&& BitVec.ofInt 64 1048575).toNat ≤ 1048575 := by
    rw [BitVec.toNat_and]
    exact Nat.and_le_right
  have e : bits .and .i64 x 1048575 = IntKind.i64.wrap ((BitVec.ofInt 64 x &&& BitVec.ofInt 64 1048575).toNat : Int) := rfl
  rw [e, IntKind.wrap_i64]
  omega
end Go.Proofs.Ytechiehbigmjbaa
