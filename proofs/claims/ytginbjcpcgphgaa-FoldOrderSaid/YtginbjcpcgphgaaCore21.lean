import Derived.Test.YtginbjcpcgphgaaCore20
import Derived.Test.YtginbjcpcgphgaaCore1

/- an act behind another one is both as one. By an AI agent. -/
section
set_option linter.unusedVariables false
set_option linter.unusedSimpArgs false
namespace Go.Proofs.Ytginbjcpcgphgaa
open Go.RowKit

theorem after_both {key : ByteArray} {a b : ActL} (v : ValL) (oa : a.Ok) (ob : b.Ok) (ha : fitsB key a = true) (hb : fitsB key b = true) :
    sameV (afterL key (afterL key v a) b) (afterL key v (bothL key a b)) = true ∧ fitsB key (bothL key a b) = true := by
  have hi := (fits_key ha).1
  cases hr : regB key
  · rcases key_head hi with h | h | h | h | h
    · simp [regB, h] at hr
    · simp [regB, h] at hr
    · rw [fits_add oa h ha, fits_add ob h hb]
      simp only [after_add _ hi h, both_add hi h, fits_add' hi h, if_true]
      refine ⟨?_, trivial⟩
      cases v.there <;> (refine sameV_of rfl rfl ?_ rfl; first | (simp; done) | (simp; unfold wrap64; omega))
    · rw [fits_max h ha, fits_max h hb]
      simp only [after_max _ hi h, both_max hi h, fits_max' hi h, if_true]
      refine ⟨?_, trivial⟩
      cases v.there <;> (refine sameV_of rfl ?_ rfl rfl; first | (simp [rmax_key']; done) | (simp [rmax_key']; omega))
    · rw [fits_min h ha, fits_min h hb]
      simp only [after_min _ hi h, both_min hi h, fits_min' hi h, if_true]
      refine ⟨?_, trivial⟩
      cases v.there <;> (refine sameV_of rfl ?_ rfl rfl; first | (simp [rmin_key]; done) | (simp [rmin_key]; omega))
  · rw [both_reg hr, after_reg _ hr hb, after_reg _ hr hb]
    exact ⟨sameV_refl _, hb⟩
/-- values that are the same go on so -/
theorem after_same {key : ByteArray} {v u : ValL} {a : ActL} (oa : a.Ok) (ha : fitsB key a = true) (h : sameV v u = true) : sameV (afterL key v a) (afterL key u a) = true := by
  obtain ⟨h1, h2, h3, h4⟩ := sameV_parts h
  have hi := (fits_key ha).1
  cases hr : regB key
  · rcases key_head hi with k | k | k | k | k
    · simp [regB, k] at hr
    · simp [regB, k] at hr
    · rw [fits_add oa k ha, after_add _ hi k, after_add _ hi k, h1, h3]
      exact sameV_refl _
    · rw [fits_max k ha, after_max _ hi k, after_max _ hi k, h1]
      refine sameV_of rfl ?_ rfl rfl
      cases u.there <;> simp [rmax_key', h2]
    · rw [fits_min k ha, after_min _ hi k, after_min _ hi k, h1]
      refine sameV_of rfl ?_ rfl rfl
      cases u.there <;> simp [rmin_key, h2]
  · rw [after_reg _ hr ha, after_reg _ hr ha]
    exact sameV_refl _
end Go.Proofs.Ytginbjcpcgphgaa
end

/- what 'each' tells, plain. By an AI agent. -/
section
set_option linter.unusedVariables false
set_option linter.unusedSimpArgs false
namespace Go.Proofs.Ytginbjcpcgphgaa
open Go.RowKit

theorem zip_take {t : Int → Int → Int} {xs ys : List Int} (h : xs.length = ys.length) {k : Nat} (hk : k < xs.length) :
    (List.zipWith t xs ys).take (k + 1) = (List.zipWith t xs ys).take k ++ [t (nth xs k) (nth ys k)] := by
  have h' : k < (List.zipWith t xs ys).length := by simp; omega
  rw [List.take_succ_eq_append_getElem h', List.getElem_zipWith, nth_eq hk, nth_eq (by omega : k < ys.length)]
theorem zip_wf {t : Int → Int → Int} (ht : ∀ x y, t x y = x ∨ t x y = y) {P : Int → Prop} {xs ys : List Int} (hx : ∀ x ∈ xs, P x) (hy : ∀ x ∈ ys, P x) : ∀ x ∈ List.zipWith t xs ys, P x := by
  induction xs generalizing ys with
  | nil => simp
  | cons x xs ih =>
    cases ys with
    | nil => simp
    | cons y ys =>
      intro z hz
      simp only [List.zipWith_cons_cons, List.mem_cons] at hz
      rcases hz with rfl | hz
      · rcases ht x y with e | e <;> rw [e]
        · exact hx x (by simp)
        · exact hy y (by simp)
      · exact ih (fun a ha => hx a (by simp [ha])) (fun a ha => hy a (by simp [ha])) z hz
/-- what 'each' tells -/
def eachL (t : Int → Int → Int) (xs ys : List Int) : List Int := if xs.length = ys.length then List.zipWith t xs ys else []
def joinL : List Int → List Int → List Int := eachL max
def meetL : List Int → List Int → List Int := eachL min
end Go.Proofs.Ytginbjcpcgphgaa
end
