/- the plain law of GossipGrows: rows set in any order, what all have, what some have. By an AI agent. -/
import Derived.Test.YtpfpefapdcdkeaaGossip9
import Derived.Test.YtpfpefapdcdkeaaFloat7
import Derived.Test.YtpfpefapdcdkeaaLawC
import Derived.Test.YtpfpefapdcdkeaaGossip8
namespace Go.Proofs.Ytpfpefapdcdkeaa
open Go.RowKit

theorem valid_mk {xs : List Int} (h1 : 1 ≤ xs.length) (h8 : xs.length ≤ 8) (h : ∀ j, j < xs.length → 0 ≤ nth xs j ∧ nth xs j < 281474976710656) : validL xs = true := by
  simp only [validL, Bool.and_eq_true, decide_eq_true_eq, Bool.not_eq_true']
  refine ⟨⟨h1, h8⟩, ?_⟩
  rw [List.any_eq_false]
  intro x hx
  obtain ⟨j, hj, rfl⟩ := List.getElem_of_mem hx
  have h2 := h j hj
  rw [nth_eq hj] at h2
  simp [badT]; omega

theorem join_valid {xs ys : List Int} (hx : validL xs = true) (hy : validL ys = true) (hl : xs.length = ys.length) : validL (joinL xs ys) = true := by
  have a := valid_parts hx
  have b := valid_parts hy
  have e := join_len' hl
  refine valid_mk (by omega) (by omega) fun j hj => ?_
  rw [e] at hj
  rw [join_nth hl hj]
  have p := a.2.2 j hj
  have q := b.2.2 j (by omega)
  omega
theorem meet_valid {xs ys : List Int} (hx : validL xs = true) (hy : validL ys = true) (hl : xs.length = ys.length) : validL (meetL xs ys) = true := by
  have a := valid_parts hx
  have b := valid_parts hy
  have e := meet_len' hl
  refine valid_mk (by omega) (by omega) fun j hj => ?_
  rw [e] at hj
  rw [meet_nth hl hj]
  have p := a.2.2 j hj
  have q := b.2.2 j (by omega)
  omega

theorem join_swap (r u v : List Int) (h : u.length = v.length) : joinL (joinL r u) v = joinL (joinL r v) u := by
  by_cases hr : r.length = u.length
  · have h2 : r.length = v.length := hr.trans h
    have e1 := join_len' hr
    have e2 := join_len' h2
    refine getD_ext ?_ fun j hj => ?_
    · rw [join_len' (e1.trans h2), join_len' (e2.trans hr), e1, e2]
    · rw [join_len' (e1.trans h2), e1] at hj
      rw [join_nth (e1.trans h2) (by omega), join_nth (e2.trans hr) (by omega), join_nth hr hj, join_nth h2 hj]
      omega
  · have e1 : joinL r u = [] := by rw [joinL, eachL, if_neg hr]
    have e2 : joinL r v = [] := by rw [joinL, eachL, if_neg (by omega)]
    rw [e1, e2]
    unfold joinL eachL
    simp

theorem setR_swap (rows : List (List Int)) (i j : Int) (x y : List Int) : setR (setR rows i x) j y = setR (setR rows j y) i x := by
  have hl := fun i x => setR_len rows i x
  have go : ∀ R : List (List Int), R.length = rows.length → ∀ i x, setR R i x = if ¬ (i < 0 ∨ (rows.length : Int) ≤ i) ∧ validL x = true ∧ x.length = rows.length then R.set i.toNat (joinL (nthR R i.toNat) x) else R := fun R hR i x => by
    unfold setR
    rw [hR]
    by_cases h1 : i < 0 ∨ (rows.length : Int) ≤ i
    · rw [if_pos h1, if_neg (by intro h; exact h.1 h1)]
    · rw [if_neg h1]
      by_cases h2 : validL x = true ∧ x.length = rows.length
      · rw [if_pos h2, if_pos ⟨h1, h2⟩]
      · rw [if_neg h2, if_neg (by intro h; exact h2 h.2)]
  rw [go _ (hl i x) j y, go _ (hl j y) i x, go rows rfl i x, go rows rfl j y]
  by_cases hi : ¬ (i < 0 ∨ (rows.length : Int) ≤ i) ∧ validL x = true ∧ x.length = rows.length
  · by_cases hj : ¬ (j < 0 ∨ (rows.length : Int) ≤ j) ∧ validL y = true ∧ y.length = rows.length
    · simp only [if_pos hi, if_pos hj]
      by_cases he : i.toNat = j.toNat
      · rw [he, nthR_set (by omega), nthR_set (by omega), if_pos rfl, if_pos rfl, List.set_set, List.set_set, join_swap _ _ _ (hi.2.2.trans hj.2.2.symm)]
      · rw [nthR_set (by omega), nthR_set (by omega), if_neg (Ne.symm he), if_neg he, List.set_comm _ _ he]
    · simp only [if_neg hj]
  · simp only [if_neg hi]

def stepR (rows : List (List Int)) (o : Int × List Int) : List (List Int) := setR rows o.1 o.2
theorem stepR_swap (rows : List (List Int)) (o p : Int × List Int) : stepR (stepR rows o) p = stepR (stepR rows p) o := setR_swap rows o.1 p.1 o.2 p.2
theorem foldR_push (l : List (Int × List Int)) (rows : List (List Int)) (o : Int × List Int) : l.foldl stepR (stepR rows o) = stepR (l.foldl stepR rows) o := by
  induction l generalizing rows with
  | nil => rfl
  | cons a l ih => rw [List.foldl_cons, stepR_swap, ih, List.foldl_cons]
theorem foldR_rev (l : List (Int × List Int)) (rows : List (List Int)) : l.reverse.foldl stepR rows = l.foldl stepR rows := by
  induction l generalizing rows with
  | nil => rfl
  | cons a l ih => rw [List.reverse_cons, List.foldl_append, ih, List.foldl_cons, List.foldl_nil, List.foldl_cons, foldR_push]
/-- the j-th thing that is done -/
def nthO (l : List (Int × List Int)) (j : Nat) : Int × List Int := l.getD j (0, [])
theorem take_nthO {l : List (Int × List Int)} {k : Nat} (h : k < l.length) : l.take (k + 1) = l.take k ++ [nthO l k] := by
  rw [List.take_succ_eq_append_getElem h]; simp [nthO, List.getD, h]
theorem nthO_rev {l : List (Int × List Int)} {k : Nat} (h : k < l.length) : nthO l.reverse k = nthO l (l.length - 1 - k) := by
  have h2 : l.length - 1 - k < l.length := by omega
  simp [nthO, List.getD, h, h2]

/-- rows of three valid vectors of three -/
def Three (rows : List (List Int)) : Prop := ∃ r0 r1 r2, rows = [r0, r1, r2] ∧ (validL r0 = true ∧ r0.length = 3) ∧ (validL r1 = true ∧ r1.length = 3) ∧ (validL r2 = true ∧ r2.length = 3)
theorem three_zero : Three (List.replicate 3 (zeroL 3)) := ⟨zeroL 3, zeroL 3, zeroL 3, rfl, by decide, by decide, by decide⟩
theorem Three.set {rows : List (List Int)} (h : Three rows) (i : Int) (x : List Int) : Three (setR rows i x) := by
  obtain ⟨r0, r1, r2, rfl, h0, h1, h2⟩ := h
  unfold setR
  by_cases hi : i < 0 ∨ (([r0, r1, r2].length : Nat) : Int) ≤ i
  · rw [if_pos hi]; exact ⟨_, _, _, rfl, h0, h1, h2⟩
  · rw [if_neg hi]
    by_cases hv : validL x = true ∧ x.length = [r0, r1, r2].length
    · rw [if_pos hv]
      have hx : x.length = 3 := hv.2
      have J : ∀ r, (validL r = true ∧ r.length = 3) → (validL (joinL r x) = true ∧ (joinL r x).length = 3) := fun r hr =>
        ⟨join_valid hr.1 hv.1 (by omega), by rw [join_len' (by omega)]; exact hr.2⟩
      have hi2 : i = 0 ∨ i = 1 ∨ i = 2 := by simp at hi; omega
      rcases hi2 with rfl | rfl | rfl
      · exact ⟨_, _, _, rfl, J _ h0, h1, h2⟩
      · exact ⟨_, _, _, rfl, h0, J _ h1, h2⟩
      · exact ⟨_, _, _, rfl, h0, h1, J _ h2⟩
    · rw [if_neg hv]; exact ⟨_, _, _, rfl, h0, h1, h2⟩
theorem Three.len {rows : List (List Int)} (h : Three rows) : rows.length = 3 := by obtain ⟨_, _, _, rfl, _⟩ := h; rfl
theorem Three.valid {rows : List (List Int)} (h : Three rows) : ∀ r ∈ rows, validL r = true := by
  obtain ⟨r0, r1, r2, rfl, h0, h1, h2⟩ := h
  intro r hr
  simp at hr
  rcases hr with rfl | rfl | rfl
  · exact h0.1
  · exact h1.1
  · exact h2.1
theorem Three.putLen {rows : List (List Int)} (h : Three rows) : (rows.flatMap putL).length = 57 := by
  obtain ⟨r0, r1, r2, rfl, h0, h1, h2⟩ := h
  simp [putL_len, h0.2, h1.2, h2.2]

section
variable {r0 r1 r2 : List Int} (h0 : validL r0 = true ∧ r0.length = 3) (h1 : validL r1 = true ∧ r1.length = 3) (h2 : validL r2 = true ∧ r2.length = 3)
include h0 h1 h2
theorem min3 : validL (allL min [r0, r1, r2]) = true ∧ (allL min [r0, r1, r2]).length = 3 ∧ ∀ j, j < 3 → nth (allL min [r0, r1, r2]) j = min (nth r0 j) (min (nth r1 j) (nth r2 j)) := by
  have e : allL min [r0, r1, r2] = meetL (meetL (meetL r0 r0) r1) r2 := rfl
  have l0 := meet_len' (rfl : r0.length = r0.length)
  have l1 := meet_len' (show (meetL r0 r0).length = r1.length by omega)
  have l2 := meet_len' (show (meetL (meetL r0 r0) r1).length = r2.length by omega)
  rw [e]
  refine ⟨meet_valid (meet_valid (meet_valid h0.1 h0.1 rfl) h1.1 (by omega)) h2.1 (by omega), by omega, fun j hj => ?_⟩
  rw [meet_nth (by omega) (by omega), meet_nth (by omega) (by omega), meet_nth (by omega) (by omega)]
  omega
theorem max3 : validL (allL max [r0, r1, r2]) = true ∧ (allL max [r0, r1, r2]).length = 3 ∧ ∀ j, j < 3 → nth (allL max [r0, r1, r2]) j = max (nth r0 j) (max (nth r1 j) (nth r2 j)) := by
  have e : allL max [r0, r1, r2] = joinL (joinL (joinL r0 r0) r1) r2 := rfl
  have l0 := join_len' (rfl : r0.length = r0.length)
  have l1 := join_len' (show (joinL r0 r0).length = r1.length by omega)
  have l2 := join_len' (show (joinL (joinL r0 r0) r1).length = r2.length by omega)
  rw [e]
  refine ⟨join_valid (join_valid (join_valid h0.1 h0.1 rfl) h1.1 (by omega)) h2.1 (by omega), by omega, fun j hj => ?_⟩
  rw [join_nth (by omega) (by omega), join_nth (by omega) (by omega), join_nth (by omega) (by omega)]
  omega
end
theorem Three.row {rows : List (List Int)} (h : Three rows) (k : Nat) (hk : k < 3) : (nthR rows k).length = 3 ∧ ∀ j, j < 3 → nth (allL min rows) j ≤ nth (nthR rows k) j ∧ nth (nthR rows k) j ≤ nth (allL max rows) j := by
  obtain ⟨r0, r1, r2, rfl, h0, h1, h2⟩ := h
  have a := (min3 h0 h1 h2).2.2
  have b := (max3 h0 h1 h2).2.2
  have hk2 : k = 0 ∨ k = 1 ∨ k = 2 := by omega
  rcases hk2 with rfl | rfl | rfl
  · exact ⟨h0.2, fun j hj => by rw [a j hj, b j hj]; show _ ≤ nth r0 j ∧ nth r0 j ≤ _; omega⟩
  · exact ⟨h1.2, fun j hj => by rw [a j hj, b j hj]; show _ ≤ nth r1 j ∧ nth r1 j ≤ _; omega⟩
  · exact ⟨h2.2, fun j hj => by rw [a j hj, b j hj]; show _ ≤ nth r2 j ∧ nth r2 j ≤ _; omega⟩
theorem Three.minLen {rows : List (List Int)} (h : Three rows) : (allL min rows).length = 3 := by
  obtain ⟨r0, r1, r2, rfl, h0, h1, h2⟩ := h
  exact (min3 h0 h1 h2).2.1
theorem Three.maxLen {rows : List (List Int)} (h : Three rows) : (allL max rows).length = 3 := by
  obtain ⟨r0, r1, r2, rfl, h0, h1, h2⟩ := h
  exact (max3 h0 h1 h2).2.1
theorem Three.min_row {rows : List (List Int)} (h : Three rows) (k : Nat) (hk : k < 3) : leqL (allL min rows) (nthR rows k) = true :=
  (leqL_iff (by rw [h.minLen, (h.row k hk).1])).2 fun j hj => ((h.row k hk).2 j (by rw [h.minLen] at hj; exact hj)).1
theorem Three.row_max {rows : List (List Int)} (h : Three rows) (k : Nat) (hk : k < 3) : leqL (nthR rows k) (allL max rows) = true :=
  (leqL_iff (by rw [h.maxLen, (h.row k hk).1])).2 fun j hj => ((h.row k hk).2 j (by rw [(h.row k hk).1] at hj; exact hj)).2
theorem Three.min_max {rows : List (List Int)} (h : Three rows) : leqL (allL min rows) (allL max rows) = true :=
  leq_trans (by rw [h.minLen, (h.row 0 (by decide)).1]) (by rw [h.maxLen, (h.row 0 (by decide)).1]) (h.min_row 0 (by decide)) (h.row_max 0 (by decide))
theorem Three.grows {rows : List (List Int)} (h : Three rows) (i : Int) (x : List Int) : leqL (allL min rows) (allL min (setR rows i x)) = true := by
  have h' := h.set i x
  refine (leqL_iff (by rw [h.minLen, h'.minLen])).2 fun j hj => ?_
  rw [h.minLen] at hj
  obtain ⟨r0, r1, r2, rfl, h0, h1, h2⟩ := h
  have a := (min3 h0 h1 h2).2.2 j hj
  revert h'
  unfold setR
  by_cases hi : i < 0 ∨ (([r0, r1, r2].length : Nat) : Int) ≤ i
  · rw [if_pos hi]; intro _; exact Int.le_refl _
  · rw [if_neg hi]
    by_cases hv : validL x = true ∧ x.length = [r0, r1, r2].length
    · rw [if_pos hv]
      have hx : x.length = 3 := hv.2
      have J : ∀ r, (validL r = true ∧ r.length = 3) → (validL (joinL r x) = true ∧ (joinL r x).length = 3) ∧ nth r j ≤ nth (joinL r x) j := fun r hr =>
        ⟨⟨join_valid hr.1 hv.1 (by omega), by rw [join_len' (by omega)]; exact hr.2⟩, by rw [join_nth (by omega) (by omega)]; omega⟩
      have hi2 : i = 0 ∨ i = 1 ∨ i = 2 := by simp at hi; omega
      intro _
      rcases hi2 with rfl | rfl | rfl
      · show _ ≤ nth (allL min [joinL r0 x, r1, r2]) j
        rw [a, (min3 (J _ h0).1 h1 h2).2.2 j hj]; have := (J _ h0).2; omega
      · show _ ≤ nth (allL min [r0, joinL r1 x, r2]) j
        rw [a, (min3 h0 (J _ h1).1 h2).2.2 j hj]; have := (J _ h1).2; omega
      · show _ ≤ nth (allL min [r0, r1, joinL r2 x]) j
        rw [a, (min3 h0 h1 (J _ h2).1).2.2 j hj]; have := (J _ h2).2; omega
    · rw [if_neg hv]; intro _; exact Int.le_refl _
theorem Three.lag {rows : List (List Int)} (h : Three rows) : InOne (lagK (allL min rows) (allL max rows) (allL min rows).length) := by
  rw [h.minLen]
  refine lagK_inOne _ _ _ fun j hj => ?_
  have hr := (h.row 0 (by decide)).2 j hj
  obtain ⟨r0, r1, r2, rfl, h0, h1, h2⟩ := h
  have a := min3 h0 h1 h2
  have b := max3 h0 h1 h2
  have p := (valid_parts a.1).2.2 j (by omega)
  have q := (valid_parts b.1).2.2 j (by omega)
  exact kOf_inOne _ _ p.1 (by omega) q.2
theorem three_fold (l : List (Int × List Int)) : ∀ rows, Three rows → Three (l.foldl stepR rows) := by
  induction l with
  | nil => intro rows h; exact h
  | cons a l ih => intro rows h; exact ih _ (h.set a.1 a.2)
end Go.Proofs.Ytpfpefapdcdkeaa
