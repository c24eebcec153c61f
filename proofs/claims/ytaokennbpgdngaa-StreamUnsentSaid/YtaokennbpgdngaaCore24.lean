import Derived.Test.YtaokennbpgdngaaCore1

/- what 'each' tells, plain. By an AI agent. -/
section
set_option linter.unusedVariables false
set_option linter.unusedSimpArgs false
namespace Go.Proofs.Ytaokennbpgdngaa
open Go.RowKit

theorem zip_take {t : Int → Int → Int} {xs ys : List Int} (h : xs.length = ys.length) {k : Nat} (hk : k < xs.length) :
    (List.zipWith t xs ys).take (k + 1) = (List.zipWith t xs ys).take k ++ [t (nth xs k) (nth ys k)] := by
  have h' : k < (List.zipWith t xs ys).length := by simp; omega
  rw [List.take_succ_eq_append_getElem h', List.getElem_zipWith, nth_eq hk, nth_eq (by omega : k < ys.length)]
theorem zip_wf {t : Int → Int → Int} (ht : ∀ x y, t x y = x ∨ t x y = y) {P : Int → Prop} {xs ys : List Int} (hx : ∀ x ∈ xs, P x) (hy : ∀ x ∈ ys, P x) : ∀ x ∈ List.zipWith t xs ys, P x := by
  induction xs generalizing ys with
  | nil => simp
  | cons x xs ih =>
    cases ys with
    | nil => simp
    | cons y ys =>
      intro z hz
      simp only [List.zipWith_cons_cons, List.mem_cons] at hz
      rcases hz with rfl | hz
      · rcases ht x y with e | e <;> rw [e]
        · exact hx x (by simp)
        · exact hy y (by simp)
      · exact ih (fun a ha => hx a (by simp [ha])) (fun a ha => hy a (by simp [ha])) z hz
/-- what 'each' tells -/
def eachL (t : Int → Int → Int) (xs ys : List Int) : List Int := if xs.length = ys.length then List.zipWith t xs ys else []
def joinL : List Int → List Int → List Int := eachL max
def meetL : List Int → List Int → List Int := eachL min
end Go.Proofs.Ytaokennbpgdngaa
end

/- the lattice of vectors, number by number: plain laws. By an AI agent. -/
section
set_option linter.unusedVariables false
namespace Go.Proofs.Ytaokennbpgdngaa
open Go.RowKit

/-! ### the lattice, number by number -/
theorem each_len (t : Int → Int → Int) {xs ys : List Int} (h : xs.length = ys.length) : (eachL t xs ys).length = xs.length := by
  rw [eachL, if_pos h]; simp; omega
theorem each_nth (t : Int → Int → Int) {xs ys : List Int} (h : xs.length = ys.length) {j : Nat} (hj : j < xs.length) : nth (eachL t xs ys) j = t (nth xs j) (nth ys j) := by
  have h1 := zip_take (t := t) h hj
  have hl : (List.zipWith t xs ys).length = xs.length := by simp; omega
  rw [eachL, if_pos h, nth_eq (by rw [hl]; exact hj), List.getElem_zipWith, nth_eq hj, nth_eq (by omega)]
theorem join_len' {xs ys : List Int} (h : xs.length = ys.length) : (joinL xs ys).length = xs.length := each_len _ h
theorem meet_len' {xs ys : List Int} (h : xs.length = ys.length) : (meetL xs ys).length = xs.length := each_len _ h
theorem join_nth {xs ys : List Int} (h : xs.length = ys.length) {j : Nat} (hj : j < xs.length) : nth (joinL xs ys) j = max (nth xs j) (nth ys j) := each_nth _ h hj
theorem meet_nth {xs ys : List Int} (h : xs.length = ys.length) {j : Nat} (hj : j < xs.length) : nth (meetL xs ys) j = min (nth xs j) (nth ys j) := each_nth _ h hj

theorem leq_refl (xs : List Int) : leqL xs xs = true := (leqL_iff rfl).2 fun _ _ => Int.le_refl _
theorem leq_trans {xs ys zs : List Int} (h1 : xs.length = ys.length) (h2 : ys.length = zs.length) (ha : leqL xs ys = true) (hb : leqL ys zs = true) : leqL xs zs = true :=
  (leqL_iff (h1.trans h2)).2 fun j hj => Int.le_trans ((leqL_iff h1).1 ha j hj) ((leqL_iff h2).1 hb j (by omega))
theorem leq_anti {xs ys : List Int} (h : xs.length = ys.length) (ha : leqL xs ys = true) : leqL ys xs = decide (xs = ys) := by
  rw [Bool.eq_iff_iff, decide_eq_true_eq]
  constructor
  · intro hb
    exact getD_ext h fun j hj => Int.le_antisymm ((leqL_iff h).1 ha j hj) ((leqL_iff h.symm).1 hb j (by omega))
  · rintro rfl; exact leq_refl _
section
variable {xs ys zs : List Int} (h : xs.length = ys.length) (h2 : ys.length = zs.length)
include h
theorem leq_join1 : leqL xs (joinL xs ys) = true := (leqL_iff (join_len' h).symm).2 fun j hj => by rw [join_nth h hj]; omega
theorem leq_join2 : leqL ys (joinL xs ys) = true := (leqL_iff ((join_len' h).trans h).symm).2 fun j hj => by rw [join_nth h (by omega)]; omega
theorem meet_leq1 : leqL (meetL xs ys) xs = true := (leqL_iff (meet_len' h)).2 fun j hj => by rw [meet_len' h] at hj; rw [meet_nth h hj]; omega
theorem meet_leq2 : leqL (meetL xs ys) ys = true := (leqL_iff ((meet_len' h).trans h)).2 fun j hj => by rw [meet_len' h] at hj; rw [meet_nth h hj]; omega
theorem leq_eq_join : leqL xs ys = decide (joinL xs ys = ys) := by
  rw [Bool.eq_iff_iff, decide_eq_true_eq, leqL_iff h]
  constructor
  · intro ha
    refine getD_ext ((join_len' h).trans h) fun j hj => ?_
    rw [join_len' h] at hj
    rw [join_nth h hj]; have := ha j hj; omega
  · intro e j hj
    have := join_nth h hj
    rw [e] at this; omega
theorem join_comm' : decide (joinL xs ys = joinL ys xs) = true := decide_eq_true (getD_ext ((join_len' h).trans (h.trans (join_len' h.symm).symm)) fun j hj => by
  rw [join_len' h] at hj
  rw [join_nth h hj, join_nth h.symm (by omega)]; omega)
include h2
theorem join_least (ha : leqL xs zs = true) (hb : leqL ys zs = true) : leqL (joinL xs ys) zs = true :=
  (leqL_iff ((join_len' h).trans (h.trans h2))).2 fun j hj => by
    rw [join_len' h] at hj
    have h3 := (leqL_iff (h.trans h2)).1 ha j hj
    have h4 := (leqL_iff h2).1 hb j (by omega)
    rw [join_nth h hj]; omega
theorem meet_most (ha : leqL zs xs = true) (hb : leqL zs ys = true) : leqL zs (meetL xs ys) = true :=
  (leqL_iff ((meet_len' h).trans (h.trans h2)).symm).2 fun j hj => by
    have h3 := (leqL_iff (h.trans h2).symm).1 ha j hj
    have h4 := (leqL_iff h2.symm).1 hb j hj
    rw [meet_nth h (by omega)]; omega
theorem join_assoc' : decide (joinL (joinL xs ys) zs = joinL xs (joinL ys zs)) = true := by
  have l1 := join_len' h
  have l2 := join_len' h2
  refine decide_eq_true (getD_ext ?_ fun j hj => ?_)
  · rw [join_len' (by omega), join_len' (xs := xs) (ys := joinL ys zs) (by omega)]; exact l1
  · rw [join_len' (by omega)] at hj
    rw [join_nth (by omega) hj, join_nth h (by omega), join_nth (by omega) (by omega), join_nth h2 (by omega)]
    omega
theorem distrib : decide (meetL xs (joinL ys zs) = joinL (meetL xs ys) (meetL xs zs)) = true := by
  have l1 := meet_len' h
  have l2 := join_len' h2
  have l3 := meet_len' (h.trans h2)
  refine decide_eq_true (getD_ext ?_ fun j hj => ?_)
  · rw [meet_len' (by omega), join_len' (by omega)]; exact l1.symm
  · rw [meet_len' (by omega)] at hj
    rw [meet_nth (by omega) hj, join_nth h2 (by omega), join_nth (by omega) (by omega), meet_nth h (by omega), meet_nth (by omega) (by omega)]
    omega
end
end Go.Proofs.Ytaokennbpgdngaa
end
