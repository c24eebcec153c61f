import Derived.Test.YtibabgokmacnaaaGreatQGossipPlaysUptoP41
import Derived.Test.YtibabgokmacnaaaGreatQGossipPlaysUptoP3
import Derived.Test.YtibabgokmacnaaaGreatQGossipPlaysUptoP34
import Derived.Test.YtibabgokmacnaaaGreatQGossipPlaysUptoP21

/- joins and meets of valid vectors are valid. By an AI agent. -/
section
set_option linter.unusedVariables false
namespace Go.Proofs.YtibabgokmacnaaaGreat
open Go.RowKit

theorem valid_mk {xs : List Int} (h1 : 1 ≤ xs.length) (h8 : xs.length ≤ 8) (h : ∀ j, j < xs.length → 0 ≤ nth xs j ∧ nth xs j < 281474976710656) : validL xs = true := by
  simp only [validL, Bool.and_eq_true, decide_eq_true_eq, Bool.not_eq_true']
  refine ⟨⟨h1, h8⟩, ?_⟩
  rw [List.any_eq_false]
  intro x hx
  obtain ⟨j, hj, rfl⟩ := List.getElem_of_mem hx
  have h2 := h j hj
  rw [nth_eq hj] at h2
  simp [badT]; omega

theorem join_valid {xs ys : List Int} (hx : validL xs = true) (hy : validL ys = true) (hl : xs.length = ys.length) : validL (joinL xs ys) = true := by
  have a := valid_parts hx
  have b := valid_parts hy
  have e := join_len' hl
  refine valid_mk (by omega) (by omega) fun j hj => ?_
  rw [e] at hj
  rw [join_nth hl hj]
  have p := a.2.2 j hj
  have q := b.2.2 j (by omega)
  omega
theorem meet_valid {xs ys : List Int} (hx : validL xs = true) (hy : validL ys = true) (hl : xs.length = ys.length) : validL (meetL xs ys) = true := by
  have a := valid_parts hx
  have b := valid_parts hy
  have e := meet_len' hl
  refine valid_mk (by omega) (by omega) fun j hj => ?_
  rw [e] at hj
  rw [meet_nth hl hj]
  have p := a.2.2 j hj
  have q := b.2.2 j (by omega)
  omega
end Go.Proofs.YtibabgokmacnaaaGreat
end

/- GossipPlays: the plain law of rows. By an AI agent. -/
section
set_option linter.unusedVariables false
set_option linter.unusedSimpArgs false
namespace Go.Proofs.YtibabgokmacnaaaGreat
open Go.RowKit

theorem rdV_put (xs : List Int) (m : List UInt8) (h : validL xs = true) : rdV (putL xs ++ m) = some (xs, m) := by
  have hv := valid_parts h
  have e : (UInt8.ofNat xs.length).toNat = xs.length := by simp; omega
  have hb : (putBodyL xs).length = 6 * xs.length := putBodyL_len xs
  have := vals_put xs m hv.2.2
  unfold putL
  rw [List.cons_append, rdV_cons, e, if_pos ⟨⟨hv.1, hv.2.1⟩, by rw [List.length_append]; omega⟩, this, List.drop_left' hb]
theorem rdVs_put (n : Nat) (m : List UInt8) : ∀ rows : List (List Int), (∀ r ∈ rows, validL r = true ∧ r.length = n) → rdVs n rows.length (rows.flatMap putL ++ m) = some (rows, m)
  | [], _ => rfl
  | r :: rows, h => by
    obtain ⟨h1, h2⟩ := h r (by simp)
    rw [List.flatMap_cons, List.append_assoc, List.length_cons]
    unfold rdVs
    rw [rdV_put r _ h1, Option.bind_some]
    dsimp only
    rw [if_pos h2, rdVs_put n m rows (fun q hq => h q (by simp [hq]))]
    rfl
/-- so many valid rows, each as long as there are rows -/
structure InvR (n : Nat) (rows : List (List Int)) : Prop where
  len : rows.length = n
  all : ∀ r ∈ rows, validL r = true ∧ r.length = n
theorem rdRows_put {n : Nat} {rows : List (List Int)} (h : InvR n rows) (h1 : 1 ≤ n) (h8 : n ≤ 8) : rdRows (putRows rows) = some rows := by
  have e : (UInt8.ofNat rows.length).toNat = rows.length := by simp; have := h.len; omega
  have hv := rdVs_put rows.length [] rows (fun r hr => ⟨(h.all r hr).1, by rw [(h.all r hr).2, h.len]⟩)
  rw [List.append_nil] at hv
  unfold putRows
  rw [rdRows_cons, e, if_pos (by have := h.len; omega), hv, Option.bind_some, if_pos rfl]
theorem InvR.row {n : Nat} {rows : List (List Int)} (h : InvR n rows) {k : Nat} (hk : k < n) : validL (nthR rows k) = true ∧ (nthR rows k).length = n := by
  have hk2 : k < rows.length := by rw [h.len]; exact hk
  have : nthR rows k = rows[k] := by simp [nthR, hk2]
  rw [this]
  exact h.all _ (List.getElem_mem _)
theorem InvR.set {n : Nat} {rows : List (List Int)} (h : InvR n rows) (i : Int) (xs : List Int) : InvR n (setR rows i xs) := by
  refine ⟨by rw [setR_len]; exact h.len, ?_⟩
  unfold setR
  split
  · exact h.all
  · rename_i hi
    split
    · rename_i hv
      intro r hr
      rcases List.mem_or_eq_of_mem_set hr with q | q
      · exact h.all r q
      · subst q
        have := h.row (k := i.toNat) (by have := h.len; omega)
        have hl : (nthR rows i.toNat).length = xs.length := by rw [this.2, hv.2, h.len]
        exact ⟨join_valid this.1 hv.1 hl, by rw [join_len' hl]; exact this.2⟩
    · exact h.all
theorem InvR.zero {n : Nat} (h1 : 1 ≤ n) (h8 : n ≤ 8) : InvR n (List.replicate n (zeroL n)) := by
  refine ⟨by simp, fun r hr => ?_⟩
  obtain ⟨_, rfl⟩ := List.mem_replicate.1 hr
  have hl : (zeroL n).length = n := by simp [zeroL]
  refine ⟨valid_mk (by omega) (by omega) (fun j hj => ?_), hl⟩
  have : nth (zeroL n) j = 0 := by
    rw [nth_eq hj]; simp [zeroL]
  rw [this]; decide
theorem fold_len (t : Int → Int → Int) {n : Nat} : ∀ (rows : List (List Int)) (a : List Int), a.length = n → (∀ r ∈ rows, r.length = n) → (rows.foldl (eachL t) a).length = n
  | [], a, h, _ => h
  | r :: rows, a, h, hr => fold_len t rows _ (by rw [each_len t (by rw [h, hr r (by simp)]), h]) (fun q hq => hr q (by simp [hq]))
theorem InvR.all_len {n : Nat} {rows : List (List Int)} (h : InvR n rows) (h1 : 1 ≤ n) (t : Int → Int → Int) : (allL t rows).length = n :=
  fold_len t rows _ (h.row (by omega)).2 (fun r hr => (h.all r hr).2)
theorem InvR.put_len {n : Nat} {rows : List (List Int)} (h : InvR n rows) (h8 : n ≤ 8) : (putRows rows).length ≤ 900000 := by
  have := flat_len rows (fun r hr => (h.all r hr).1)
  unfold putRows
  rw [List.length_cons]
  have := h.len
  omega
end Go.Proofs.YtibabgokmacnaaaGreat
end
