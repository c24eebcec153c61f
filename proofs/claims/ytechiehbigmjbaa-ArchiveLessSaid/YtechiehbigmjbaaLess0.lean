/- an archive without one of its pairs, with one twice, with two changed about: the plain law. By an AI agent. -/
import Derived.Test.YtechiehbigmjbaaArc1
set_option linter.unusedVariables false
set_option linter.unusedSimpArgs false
namespace Go.Proofs.Ytechiehbigmjbaa
open Go.RowKit

theorem cb_self (a : List UInt8) : Lib.compareBytes a a = 0 := by
  induction a with
  | nil => rfl
  | cons x a ih => simp [Lib.compareBytes, ih]
theorem cb_cons (a b : UInt8) (l m : List UInt8) : Lib.compareBytes (a :: l) (b :: m) = if a.toNat < b.toNat then -1 else if b.toNat < a.toNat then 1 else Lib.compareBytes l m := by
  simp only [Lib.compareBytes, UInt8.lt_iff_toNat_lt]
theorem cb_trans : ∀ a b c : List UInt8, Lib.compareBytes a b < 0 → Lib.compareBytes b c < 0 → Lib.compareBytes a c < 0
  | [], [], _, h, _ => absurd h (by decide)
  | _ :: _, [], _, h, _ => absurd (show (1 : Int) < 0 from h) (by decide)
  | [], _ :: _, [], _, h => absurd (show (1 : Int) < 0 from h) (by decide)
  | _ :: _, _ :: _, [], _, h => absurd (show (1 : Int) < 0 from h) (by decide)
  | [], _ :: _, _ :: _, _, _ => show (-1 : Int) < 0 by decide
  | a :: l, b :: m, c :: n, h1, h2 => by
    rw [cb_cons] at h1 h2 ⊢
    have ih := cb_trans l m n
    split at h1
    · split at h2
      · rw [if_pos (by omega)]; decide
      · split at h2
        · exact absurd h2 (by decide)
        · rw [if_pos (by omega)]; decide
    · split at h1
      · exact absurd h1 (by decide)
      · split at h2
        · rw [if_pos (by omega)]; decide
        · split at h2
          · exact absurd h2 (by decide)
          · rw [if_neg (by omega), if_neg (by omega)]
            exact ih h1 h2
theorem less_irr (s : ByteArray) : lessK s s = false := by unfold lessK; rw [cb_self]; rfl
theorem less_trans {s t u : ByteArray} (h : lessK s t = true) (k : lessK t u = true) : lessK s u = true := by
  unfold lessK at *
  rw [decide_eq_true_eq] at *
  exact cb_trans _ _ _ h k
theorem less_asymm {s t : ByteArray} (h : lessK s t = true) : lessK t s = false := by
  cases k : lessK t s
  · rfl
  · have := less_trans h k
    rw [less_irr] at this; cases this
theorem okAt_less {ps : List (ByteArray × ValL)} {i : Nat} (h : okAt ps (i + 1) = true) : lessK (nthQ ps i).1 (nthQ ps (i + 1)).1 = true := by
  simp only [okAt, Bool.and_eq_true, Bool.or_eq_true, decide_eq_true_eq, Nat.add_sub_cancel] at h
  rcases h.1 with h | h
  · omega
  · exact h
theorem okAt_pair {ps : List (ByteArray × ValL)} {i : Nat} (h : okAt ps i = true) : pairB (nthQ ps i) = true := by
  simp only [okAt, Bool.and_eq_true] at h
  exact h.2
theorem rises_all {ps : List (ByteArray × ValL)} (h : ∀ i, i < ps.length → okAt ps i = true) : ∀ j, j < ps.length → ∀ i, i < j → lessK (nthQ ps i).1 (nthQ ps j).1 = true
  | 0, _, i, hi => absurd hi (Nat.not_lt_zero _)
  | j + 1, hj, i, hi => by
    have h1 := okAt_less (h (j + 1) hj)
    by_cases e : i = j
    · subst e; exact h1
    · exact less_trans (rises_all h j (by omega) i (by omega)) h1
theorem okAt_mk {ps : List (ByteArray × ValL)} {i : Nat} (h1 : 0 < i → lessK (nthQ ps (i - 1)).1 (nthQ ps i).1 = true) (h2 : pairB (nthQ ps i) = true) : okAt ps i = true := by
  unfold okAt
  rw [h2, Bool.and_true]
  rcases Nat.eq_zero_or_pos i with h | h
  · subst h; rfl
  · rw [h1 h, Bool.or_true]
/-! ### lists -/
def outP (ps : List (ByteArray × ValL)) (k : Nat) : List (ByteArray × ValL) := ps.take k ++ ps.drop (k + 1)
def twiceP (ps : List (ByteArray × ValL)) (k : Nat) : List (ByteArray × ValL) := (ps.take (k + 1) ++ [nthQ ps k]) ++ ps.drop (k + 1)
def swapP (ps : List (ByteArray × ValL)) (k : Nat) : List (ByteArray × ValL) := (ps.set 0 (nthQ ps k)).set k (nthQ ps 0)
theorem nthQ_left {l m : List (ByteArray × ValL)} {i : Nat} (h : i < l.length) : nthQ (l ++ m) i = nthQ l i := by
  unfold nthQ
  rw [List.getD_eq_getElem?_getD, List.getD_eq_getElem?_getD, List.getElem?_append_left h]
theorem nthQ_right {l m : List (ByteArray × ValL)} {i : Nat} (h : l.length ≤ i) : nthQ (l ++ m) i = nthQ m (i - l.length) := by
  unfold nthQ
  rw [List.getD_eq_getElem?_getD, List.getD_eq_getElem?_getD, List.getElem?_append_right h]
theorem nthQ_take {l : List (ByteArray × ValL)} {i n : Nat} (h : i < n) : nthQ (l.take n) i = nthQ l i := by
  unfold nthQ
  rw [List.getD_eq_getElem?_getD, List.getD_eq_getElem?_getD, List.getElem?_take_of_lt h]
theorem nthQ_drop (l : List (ByteArray × ValL)) (i n : Nat) : nthQ (l.drop n) i = nthQ l (n + i) := by
  unfold nthQ
  rw [List.getD_eq_getElem?_getD, List.getD_eq_getElem?_getD, List.getElem?_drop]
theorem nthQ_set {l : List (ByteArray × ValL)} {i j : Nat} (v : ByteArray × ValL) (hi : i < l.length) : nthQ (l.set j v) i = if i = j then v else nthQ l i := by
  unfold nthQ
  rw [List.getD_eq_getElem?_getD, List.getD_eq_getElem?_getD, List.getElem?_set]
  by_cases h : j = i
  · rw [if_pos h, if_pos h.symm, if_pos (by omega)]; rfl
  · rw [if_neg h, if_neg (fun e => h e.symm)]
theorem nthQ_out {ps : List (ByteArray × ValL)} {k : Nat} (hk : k < ps.length) (i : Nat) : nthQ (outP ps k) i = nthQ ps (if i < k then i else i + 1) := by
  have hl : (ps.take k).length = k := by rw [List.length_take]; omega
  unfold outP
  by_cases h : i < k
  · rw [if_pos h, nthQ_left (by omega), nthQ_take h]
  · rw [if_neg h, nthQ_right (by omega), nthQ_drop, hl]
    congr 1; omega
theorem nthQ_twice {ps : List (ByteArray × ValL)} {k : Nat} (hk : k < ps.length) : nthQ (twiceP ps k) k = nthQ ps k ∧ nthQ (twiceP ps k) (k + 1) = nthQ ps k := by
  have hl : (ps.take (k + 1)).length = k + 1 := by rw [List.length_take]; omega
  unfold twiceP
  constructor
  · rw [nthQ_left (by rw [List.length_append, hl]; omega), nthQ_left (by omega), nthQ_take (by omega)]
  · rw [nthQ_left (by rw [List.length_append, hl]; simp), nthQ_right (by omega), hl, Nat.sub_self]
    rfl
theorem nthQ_swap {ps : List (ByteArray × ValL)} {k : Nat} (hk : k < ps.length) {i : Nat} (hi : i < ps.length) : nthQ (swapP ps k) i = if i = k then nthQ ps 0 else if i = 0 then nthQ ps k else nthQ ps i := by
  unfold swapP
  rw [nthQ_set _ (by rw [List.length_set]; exact hi), nthQ_set _ hi]
theorem out_len {ps : List (ByteArray × ValL)} {k : Nat} (hk : k < ps.length) : (outP ps k).length = ps.length - 1 := by
  unfold outP
  rw [List.length_append, List.length_take, List.length_drop]; omega
theorem twice_len {ps : List (ByteArray × ValL)} {k : Nat} (hk : k < ps.length) : (twiceP ps k).length = ps.length + 1 := by
  unfold twiceP
  rw [List.length_append, List.length_append, List.length_take, List.length_drop]; simp; omega
theorem swap_len (ps : List (ByteArray × ValL)) (k : Nat) : (swapP ps k).length = ps.length := by unfold swapP; simp
/-! ### the law -/
theorem valid_out {n parts : Int} {xs : List Int} {ps : List (ByteArray × ValL)} {k : Nat} (h : validArc ⟨n, parts, xs, ps⟩ = true) (hk : k < ps.length) : validArc ⟨n, parts, xs, outP ps k⟩ = true := by
  have p := validArc_parts h
  have hlen := out_len hk
  have hz : xs ≠ zeroL xs.length := by
    rcases p.zero with h | h
    · have h : ps.length = 0 := h
      omega
    · exact h
  have hfew : ps.length ≤ 10000 := p.few
  have hok : ∀ i, i < ps.length → okAt ps i = true := p.ok
  refine validArc_of ⟨p.n, p.parts, p.len, by show (outP ps k).length ≤ _; omega, p.at_, .inr hz, fun i hi => ?_⟩
  have hi : i < (outP ps k).length := hi
  refine okAt_mk (fun h0 => ?_) ?_
  · show lessK (nthQ (outP ps k) (i - 1)).1 (nthQ (outP ps k) i).1 = true
    rw [nthQ_out hk, nthQ_out hk]
    exact rises_all hok _ (by split <;> omega) _ (by split <;> split <;> omega)
  · show pairB (nthQ (outP ps k) i) = true
    rw [nthQ_out hk]
    exact okAt_pair (hok _ (by split <;> omega))
theorem valid_twice {n parts : Int} {xs : List Int} {ps : List (ByteArray × ValL)} {k : Nat} (hk : k < ps.length) : validArc ⟨n, parts, xs, twiceP ps k⟩ = false := by
  cases h : validArc ⟨n, parts, xs, twiceP ps k⟩
  · rfl
  · have p := validArc_parts h
    have := okAt_less (p.ok (k + 1) (by show k + 1 < (twiceP ps k).length; rw [twice_len hk]; omega))
    have e : lessK (nthQ (twiceP ps k) k).1 (nthQ (twiceP ps k) (k + 1)).1 = true := this
    rw [(nthQ_twice hk).1, (nthQ_twice hk).2, less_irr] at e
    cases e
theorem swap_zero {ps : List (ByteArray × ValL)} (h : 0 < ps.length) : swapP ps 0 = ps := by
  refine List.ext_getElem (swap_len _ _) fun i h1 h2 => ?_
  have := nthQ_swap h h2
  rw [nthQ_eq h1, nthQ_eq h2] at this
  rw [this]
  by_cases e : i = 0
  · subst e; rw [if_pos rfl, nthQ_eq h2]
  · rw [if_neg e, if_neg e]
theorem valid_swap {n parts : Int} {xs : List Int} {ps : List (ByteArray × ValL)} {k : Nat} (h : validArc ⟨n, parts, xs, ps⟩ = true) (hk : k < ps.length) : validArc ⟨n, parts, xs, swapP ps k⟩ = decide (k = 0) := by
  by_cases h0 : k = 0
  · subst h0
    rw [swap_zero hk, h]; rfl
  · rw [decide_eq_false h0]
    cases h2 : validArc ⟨n, parts, xs, swapP ps k⟩
    · rfl
    · have hok : ∀ i, i < ps.length → okAt ps i = true := (validArc_parts h).ok
      have e : lessK (nthQ (swapP ps k) 0).1 (nthQ (swapP ps k) 1).1 = true := okAt_less ((validArc_parts h2).ok 1 (by show 1 < (swapP ps k).length; rw [swap_len]; omega))
      rw [nthQ_swap hk (by omega), nthQ_swap hk (by omega), if_neg (fun e => h0 e.symm), if_pos rfl] at e
      by_cases h1 : 1 = k
      · rw [if_pos h1] at e
        rw [less_asymm (rises_all hok k hk 0 (by omega))] at e
        cases e
      · rw [if_neg h1, if_neg (by decide)] at e
        rw [less_asymm (rises_all hok k hk 1 (by omega))] at e
        cases e
end Go.Proofs.Ytechiehbigmjbaa
