import Derived.Test.YtfjjnffifnohkaaGreatQFoldTellsUptoP11
import Derived.Test.YtfjjnffifnohkaaGreatQFoldTellsUptoP3

/- OpShuffled in plain Lean: what a key has does not hang on the order of versions that have stamps of their own. By an AI agent. -/
section
namespace Go.Proofs.YtfjjnffifnohkaaGreat
open Go.RowKit



/-! values that add up -/
structure SamV (v u : ValL) : Prop where
  there : v.there = u.there
  x : fkey v.x = fkey u.x
  n : v.n = u.n
  s : v.s.toList = u.s.toList
theorem samV {v u : ValL} : SamV v u ↔ sameV v u = true := by
  simp only [sameV, Bool.and_eq_true, decide_eq_true_eq, beq_iff_eq]
  exact ⟨fun h => ⟨h.there, h.x, h.n, h.s⟩, fun h => ⟨h.1, h.2.1, h.2.2.1, h.2.2.2⟩⟩
theorem SamV.refl (v : ValL) : SamV v v := ⟨rfl, rfl, rfl, rfl⟩
theorem SamV.trans {a b c : ValL} (h : SamV a b) (k : SamV b c) : SamV a c := ⟨h.there.trans k.there, h.x.trans k.x, h.n.trans k.n, h.s.trans k.s⟩
theorem w64 (x y : Int) : wrap64 (wrap64 x + y) = wrap64 (x + y) := by unfold wrap64; omega
theorem after_skip {key : ByteArray} {v : ValL} {a : ActL} (h : fitsB key a = false) : afterL key v a = v := by unfold afterL; rw [h]; rfl
/-- the three kinds of keys whose acts add up -/
theorem num_kind {key : ByteArray} {a : ActL} (hr : regB key = false) (h : fitsB key a = true) : isKeyB key = true ∧ (hd key = 99 ∨ hd key = 120 ∨ hd key = 110) := by
  have hk := (fits_key h).1
  refine ⟨hk, ?_⟩
  simp only [regB, Bool.or_eq_false_iff, decide_eq_false_iff_not] at hr
  rcases key_head hk with h1 | h1 | h1 | h1 | h1
  · exact absurd h1 hr.1
  · exact absurd h1 hr.2
  · exact .inl h1
  · exact .inr (.inl h1)
  · exact .inr (.inr h1)
theorem after_cong {key : ByteArray} {v u : ValL} {a : ActL} (hr : regB key = false) (ok : a.Ok) (h : SamV v u) : SamV (afterL key v a) (afterL key u a) := by
  cases hf : fitsB key a
  · rw [after_skip hf, after_skip hf]; exact h
  · obtain ⟨hi, hk | hk | hk⟩ := num_kind hr hf
    · rw [fits_add ok hk hf, after_add v hi hk, after_add u hi hk, h.there, h.n]; exact SamV.refl _
    · rw [fits_max hk hf, after_max v hi hk, after_max u hi hk]
      refine ⟨rfl, ?_, rfl, rfl⟩
      simp only [h.there]
      split
      · rw [rmax_key', rmax_key', h.x]
      · rfl
    · rw [fits_min hk hf, after_min v hi hk, after_min u hi hk]
      refine ⟨rfl, ?_, rfl, rfl⟩
      simp only [h.there]
      split
      · rw [rmin_key, rmin_key, h.x]
      · rfl
theorem after_comm {key : ByteArray} {v : ValL} {a b : ActL} (hr : regB key = false) (oa : a.Ok) (ob : b.Ok) : SamV (afterL key (afterL key v a) b) (afterL key (afterL key v b) a) := by
  cases hf : fitsB key a
  · rw [after_skip hf, after_skip hf]; exact SamV.refl _
  · cases hg : fitsB key b
    · rw [after_skip hg, after_skip hg]; exact SamV.refl _
    · obtain ⟨hi, hk | hk | hk⟩ := num_kind hr hf
      · rw [fits_add oa hk hf, fits_add ob hk hg, after_add v hi hk, after_add v hi hk, after_add _ hi hk, after_add _ hi hk]
        refine ⟨rfl, rfl, ?_, rfl⟩
        simp only [if_true]
        split
        · rw [w64, w64]; congr 1; omega
        · congr 1; omega
      · rw [fits_max hk hf, fits_max hk hg, after_max v hi hk, after_max v hi hk, after_max _ hi hk, after_max _ hi hk]
        refine ⟨rfl, ?_, rfl, rfl⟩
        simp only [if_true]
        rw [rmax_key', rmax_key']
        split
        · rw [rmax_key', rmax_key']; omega
        · omega
      · rw [fits_min hk hf, fits_min hk hg, after_min v hi hk, after_min v hi hk, after_min _ hi hk, after_min _ hi hk]
        refine ⟨rfl, ?_, rfl, rfl⟩
        simp only [if_true]
        rw [rmin_key, rmin_key]
        split
        · rw [rmin_key, rmin_key]; omega
        · omega
theorem out_cong {key : ByteArray} (hr : regB key = false) : ∀ (vs : List VerL) (o p : ValL), (∀ v ∈ vs, v.act.Ok) → SamV o p → SamV (vs.foldl (fun o v => afterL key o v.act) o) (vs.foldl (fun o v => afterL key o v.act) p)
  | [], _, _, _, h => h
  | v :: vs, _, _, hok, h => out_cong hr vs _ _ (fun u hu => hok u (by simp [hu])) (after_cong hr (hok v (by simp)) h)
theorem out_perm {key : ByteArray} (hr : regB key = false) {vs us : List VerL} (h : vs.Perm us) : ∀ (o : ValL), (∀ v ∈ vs, v.act.Ok) → SamV (vs.foldl (fun o v => afterL key o v.act) o) (us.foldl (fun o v => afterL key o v.act) o) := by
  induction h with
  | nil => exact fun o _ => SamV.refl _
  | cons v _ ih => exact fun o hok => ih _ (fun u hu => hok u (by simp [hu]))
  | swap v u l => exact fun o hok => out_cong hr l _ _ (fun x hx => hok x (by simp [hx])) (after_comm hr (hok u (by simp)) (hok v (by simp)))
  | trans h1 _ ih1 ih2 => exact fun o hok => (ih1 o hok).trans (ih2 o (fun u hu => hok u (h1.mem_iff.2 hu)))
end Go.Proofs.YtfjjnffifnohkaaGreat
end

/- an act behind another one is both as one. By an AI agent. -/
section
set_option linter.unusedVariables false
set_option linter.unusedSimpArgs false
namespace Go.Proofs.YtfjjnffifnohkaaGreat
open Go.RowKit

theorem after_both {key : ByteArray} {a b : ActL} (v : ValL) (oa : a.Ok) (ob : b.Ok) (ha : fitsB key a = true) (hb : fitsB key b = true) :
    sameV (afterL key (afterL key v a) b) (afterL key v (bothL key a b)) = true ∧ fitsB key (bothL key a b) = true := by
  have hi := (fits_key ha).1
  cases hr : regB key
  · rcases key_head hi with h | h | h | h | h
    · simp [regB, h] at hr
    · simp [regB, h] at hr
    · rw [fits_add oa h ha, fits_add ob h hb]
      simp only [after_add _ hi h, both_add hi h, fits_add' hi h, if_true]
      refine ⟨?_, trivial⟩
      cases v.there <;> (refine sameV_of rfl rfl ?_ rfl; first | (simp; done) | (simp; unfold wrap64; omega))
    · rw [fits_max h ha, fits_max h hb]
      simp only [after_max _ hi h, both_max hi h, fits_max' hi h, if_true]
      refine ⟨?_, trivial⟩
      cases v.there <;> (refine sameV_of rfl ?_ rfl rfl; first | (simp [rmax_key']; done) | (simp [rmax_key']; omega))
    · rw [fits_min h ha, fits_min h hb]
      simp only [after_min _ hi h, both_min hi h, fits_min' hi h, if_true]
      refine ⟨?_, trivial⟩
      cases v.there <;> (refine sameV_of rfl ?_ rfl rfl; first | (simp [rmin_key]; done) | (simp [rmin_key]; omega))
  · rw [both_reg hr, after_reg _ hr hb, after_reg _ hr hb]
    exact ⟨sameV_refl _, hb⟩
end Go.Proofs.YtfjjnffifnohkaaGreat
end
