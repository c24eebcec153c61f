import Derived.Test.YtfjjnffifnohkaaGreatQFoldTellsUptoP1

/- what 'each' tells, plain. By an AI agent. -/
section
set_option linter.unusedVariables false
set_option linter.unusedSimpArgs false
namespace Go.Proofs.YtfjjnffifnohkaaGreat
open Go.RowKit

theorem zip_take {t : Int → Int → Int} {xs ys : List Int} (h : xs.length = ys.length) {k : Nat} (hk : k < xs.length) :
    (List.zipWith t xs ys).take (k + 1) = (List.zipWith t xs ys).take k ++ [t (nth xs k) (nth ys k)] := by
  have h' : k < (List.zipWith t xs ys).length := by simp; omega
  rw [List.take_succ_eq_append_getElem h', List.getElem_zipWith, nth_eq hk, nth_eq (by omega : k < ys.length)]
theorem zip_wf {t : Int → Int → Int} (ht : ∀ x y, t x y = x ∨ t x y = y) {P : Int → Prop} {xs ys : List Int} (hx : ∀ x ∈ xs, P x) (hy : ∀ x ∈ ys, P x) : ∀ x ∈ List.zipWith t xs ys, P x := by
  induction xs generalizing ys with
  | nil => simp
  | cons x xs ih =>
    cases ys with
    | nil => simp
    | cons y ys =>
      intro z hz
      simp only [List.zipWith_cons_cons, List.mem_cons] at hz
      rcases hz with rfl | hz
      · rcases ht x y with e | e <;> rw [e]
        · exact hx x (by simp)
        · exact hy y (by simp)
      · exact ih (fun a ha => hx a (by simp [ha])) (fun a ha => hy a (by simp [ha])) z hz
/-- what 'each' tells -/
def eachL (t : Int → Int → Int) (xs ys : List Int) : List Int := if xs.length = ys.length then List.zipWith t xs ys else []
def joinL : List Int → List Int → List Int := eachL max
end Go.Proofs.YtfjjnffifnohkaaGreat
end

/- the lattice of vectors, number by number: plain laws. By an AI agent. -/
section
set_option linter.unusedVariables false
namespace Go.Proofs.YtfjjnffifnohkaaGreat
open Go.RowKit

/-! ### the lattice, number by number -/
theorem each_len (t : Int → Int → Int) {xs ys : List Int} (h : xs.length = ys.length) : (eachL t xs ys).length = xs.length := by
  rw [eachL, if_pos h]; simp; omega
theorem each_nth (t : Int → Int → Int) {xs ys : List Int} (h : xs.length = ys.length) {j : Nat} (hj : j < xs.length) : nth (eachL t xs ys) j = t (nth xs j) (nth ys j) := by
  have h1 := zip_take (t := t) h hj
  have hl : (List.zipWith t xs ys).length = xs.length := by simp; omega
  rw [eachL, if_pos h, nth_eq (by rw [hl]; exact hj), List.getElem_zipWith, nth_eq hj, nth_eq (by omega)]
theorem join_len' {xs ys : List Int} (h : xs.length = ys.length) : (joinL xs ys).length = xs.length := each_len _ h
theorem join_nth {xs ys : List Int} (h : xs.length = ys.length) {j : Nat} (hj : j < xs.length) : nth (joinL xs ys) j = max (nth xs j) (nth ys j) := each_nth _ h hj

theorem leq_trans {xs ys zs : List Int} (h1 : xs.length = ys.length) (h2 : ys.length = zs.length) (ha : leqL xs ys = true) (hb : leqL ys zs = true) : leqL xs zs = true :=
  (leqL_iff (h1.trans h2)).2 fun j hj => Int.le_trans ((leqL_iff h1).1 ha j hj) ((leqL_iff h2).1 hb j (by omega))
section
variable {xs ys zs : List Int} (h : xs.length = ys.length) (h2 : ys.length = zs.length)
include h
include h2
end
end Go.Proofs.YtfjjnffifnohkaaGreat
end
