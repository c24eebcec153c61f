import Derived.Test.YtginbjcpcgphgaaCore19
import Derived.Test.YtginbjcpcgphgaaCore3

/- OpShuffled in plain Lean: what a key has does not hang on the order of versions that have stamps of their own. By an AI agent. -/
section
namespace Go.Proofs.Ytginbjcpcgphgaa
open Go.RowKit

/-- another stamp -/
def Apart (a b : VerL) : Prop := timeL a ≠ timeL b ∨ a.origin ≠ b.origin ∨ a.tx ≠ b.tx
theorem Apart.symm {a b : VerL} (h : Apart a b) : Apart b a := by
  rcases h with h | h | h
  · exact .inl (Ne.symm h)
  · exact .inr (.inl (Ne.symm h))
  · exact .inr (.inr (Ne.symm h))
/-- a greater stamp -/
def Gt (a b : VerL) : Prop := timeL b < timeL a ∨ (timeL b = timeL a ∧ (b.origin < a.origin ∨ (b.origin = a.origin ∧ b.tx < a.tx)))
theorem gt_of_order {a b : VerL} (h : Apart a b) : orderL a b < 0 ↔ Gt a b := by
  unfold orderL Gt Apart at *
  by_cases h1 : timeL b < timeL a
  · rw [cmp_lt h1]
    refine ⟨fun _ => .inl h1, fun _ => ?_⟩
    show (if (-1 : Int) = 0 then _ else (-1 : Int)) < 0
    rw [if_neg (by decide)]; decide
  · by_cases h2 : timeL a < timeL b
    · rw [cmp_gt h2]
      refine ⟨fun h => ?_, fun h => by omega⟩
      have h' : (if (1 : Int) = 0 then _ else (1 : Int)) < 0 := h
      rw [if_neg (by decide)] at h'
      exact absurd h' (by decide)
    · have e1 : timeL b = timeL a := by omega
      have z1 : Lib.compareInt (timeL b) (timeL a) = 0 := compare_zero.2 e1
      rw [z1]
      show (if (0 : Int) = 0 then orL _ else (0 : Int)) < 0 ↔ _
      rw [if_pos rfl]
      by_cases h3 : b.origin < a.origin
      · rw [cmp_lt h3]
        refine ⟨fun _ => .inr ⟨e1, .inl h3⟩, fun _ => ?_⟩
        show (if (-1 : Int) = 0 then _ else (-1 : Int)) < 0
        rw [if_neg (by decide)]; decide
      · by_cases h4 : a.origin < b.origin
        · rw [cmp_gt h4]
          refine ⟨fun h => ?_, fun h => by omega⟩
          have h' : (if (1 : Int) = 0 then _ else (1 : Int)) < 0 := h
          rw [if_neg (by decide)] at h'
          exact absurd h' (by decide)
        · have e2 : b.origin = a.origin := by omega
          rw [compare_zero.2 e2]
          show (if (0 : Int) = 0 then orL _ else (0 : Int)) < 0 ↔ _
          rw [if_pos rfl]
          by_cases h5 : b.tx < a.tx
          · rw [cmp_lt h5]
            refine ⟨fun _ => .inr ⟨e1, .inr ⟨e2, h5⟩⟩, fun _ => ?_⟩
            show (if (-1 : Int) = 0 then _ else (-1 : Int)) < 0
            rw [if_neg (by decide)]; decide
          · have h6 : a.tx < b.tx := by omega
            rw [cmp_gt h6]
            refine ⟨fun h => ?_, fun h => by omega⟩
            have h' : (if (1 : Int) = 0 then _ else (1 : Int)) < 0 := h
            rw [if_neg (by decide)] at h'
            exact absurd h' (by decide)
theorem Gt.asymm {a b : VerL} (h : Gt a b) (k : Gt b a) : False := by unfold Gt at *; omega
theorem Gt.trans {a b c : VerL} (h : Gt a b) (k : Gt b c) : Gt a c := by unfold Gt at *; omega
theorem gt_or {a b : VerL} (h : Apart a b) : Gt a b ∨ Gt b a := by unfold Gt Apart at *; omega

/-- the best of those that count -/
def Best (key : ByteArray) (vs : List VerL) : Option VerL → Prop
  | none => ∀ v ∈ vs, fitsB key v.act = false
  | some u => u ∈ vs ∧ fitsB key u.act = true ∧ ∀ v ∈ vs, fitsB key v.act = true → v = u ∨ Gt u v
theorem best_step {key : ByteArray} {vs : List VerL} {o : Option VerL} {v : VerL} (h : Best key vs o) (ha : ∀ u ∈ vs, Apart u v) : Best key (vs ++ [v]) (stepL key o v) := by
  unfold stepL
  cases hf : fitsB key v.act
  · rw [if_neg (by decide)]
    cases o with
    | none =>
      intro u hu
      rcases List.mem_append.1 hu with hu | hu
      · exact h u hu
      · rw [List.mem_singleton] at hu; subst hu; exact hf
    | some x =>
      obtain ⟨h1, h2, h3⟩ := h
      refine ⟨List.mem_append.2 (.inl h1), h2, fun u hu hfu => ?_⟩
      rcases List.mem_append.1 hu with hu | hu
      · exact h3 u hu hfu
      · rw [List.mem_singleton] at hu; subst hu; rw [hf] at hfu; cases hfu
  · rw [if_pos rfl]
    cases o with
    | none =>
      refine ⟨by simp, hf, fun u hu hfu => ?_⟩
      rcases List.mem_append.1 hu with hu | hu
      · rw [h u hu] at hfu; cases hfu
      · rw [List.mem_singleton] at hu; exact .inl hu
    | some x =>
      obtain ⟨h1, h2, h3⟩ := h
      have hap := (ha x h1).symm
      simp only
      by_cases ho : orderL v x < 0
      · rw [if_pos ho]
        have hg := (gt_of_order hap).1 ho
        refine ⟨by simp, hf, fun u hu hfu => ?_⟩
        rcases List.mem_append.1 hu with hu | hu
        · rcases h3 u hu hfu with rfl | h4
          · exact .inr hg
          · exact .inr (hg.trans h4)
        · rw [List.mem_singleton] at hu; exact .inl hu
      · rw [if_neg ho]
        have hg : Gt x v := by
          rcases gt_or hap with h4 | h4
          · exact absurd ((gt_of_order hap).2 h4) ho
          · exact h4
        refine ⟨List.mem_append.2 (.inl h1), h2, fun u hu hfu => ?_⟩
        rcases List.mem_append.1 hu with hu | hu
        · exact h3 u hu hfu
        · rw [List.mem_singleton] at hu; subst hu; exact .inr hg
theorem best_fold {key : ByteArray} : ∀ (vs us : List VerL) (o : Option VerL), Best key us o → (us ++ vs).Pairwise Apart → Best key (us ++ vs) (vs.foldl (stepL key) o)
  | [], us, o, h, _ => by simpa using h
  | v :: vs, us, o, h, hp => by
    have h1 := best_step (v := v) h (fun u hu => by
      rw [List.pairwise_append] at hp
      exact hp.2.2 u hu v (by simp))
    have := best_fold vs (us ++ [v]) (stepL key o v) h1 (by simpa using hp)
    simpa using this
theorem best_last {key : ByteArray} {vs : List VerL} (hp : vs.Pairwise Apart) : Best key vs (lastL key vs) := by
  have := best_fold (key := key) vs [] none (by intro _ hv; cases hv) (by simpa using hp)
  rw [List.nil_append] at this
  exact this
theorem best_one {key : ByteArray} {vs us : List VerL} {o p : Option VerL} (hm : ∀ v, v ∈ vs ↔ v ∈ us) (h : Best key vs o) (k : Best key us p) : o = p := by
  cases o with
  | none =>
    cases p with
    | none => rfl
    | some u => have := h u ((hm u).2 k.1); rw [k.2.1] at this; cases this
  | some x =>
    cases p with
    | none => have := k x ((hm x).1 h.1); rw [h.2.1] at this; cases this
    | some u =>
      rcases h.2.2 u ((hm u).2 k.1) k.2.1 with rfl | h1
      · rfl
      · rcases k.2.2 x ((hm x).1 h.1) h.2.1 with rfl | h2
        · rfl
        · exact (h1.asymm h2).elim
theorem last_perm {key : ByteArray} {vs us : List VerL} (h : vs.Perm us) (hp : vs.Pairwise Apart) : lastL key vs = lastL key us :=
  best_one (fun _ => h.mem_iff) (best_last hp) (best_last ((h.pairwise_iff (fun h => h.symm)).1 hp))

/-! values that add up -/
structure SamV (v u : ValL) : Prop where
  there : v.there = u.there
  x : fkey v.x = fkey u.x
  n : v.n = u.n
  s : v.s.toList = u.s.toList
theorem samV {v u : ValL} : SamV v u ↔ sameV v u = true := by
  simp only [sameV, Bool.and_eq_true, decide_eq_true_eq, beq_iff_eq]
  exact ⟨fun h => ⟨h.there, h.x, h.n, h.s⟩, fun h => ⟨h.1, h.2.1, h.2.2.1, h.2.2.2⟩⟩
theorem SamV.refl (v : ValL) : SamV v v := ⟨rfl, rfl, rfl, rfl⟩
theorem SamV.trans {a b c : ValL} (h : SamV a b) (k : SamV b c) : SamV a c := ⟨h.there.trans k.there, h.x.trans k.x, h.n.trans k.n, h.s.trans k.s⟩
theorem w64 (x y : Int) : wrap64 (wrap64 x + y) = wrap64 (x + y) := by unfold wrap64; omega
theorem after_skip {key : ByteArray} {v : ValL} {a : ActL} (h : fitsB key a = false) : afterL key v a = v := by unfold afterL; rw [h]; rfl
/-- the three kinds of keys whose acts add up -/
theorem num_kind {key : ByteArray} {a : ActL} (hr : regB key = false) (h : fitsB key a = true) : isKeyB key = true ∧ (hd key = 99 ∨ hd key = 120 ∨ hd key = 110) := by
  have hk := (fits_key h).1
  refine ⟨hk, ?_⟩
  simp only [regB, Bool.or_eq_false_iff, decide_eq_false_iff_not] at hr
  rcases key_head hk with h1 | h1 | h1 | h1 | h1
  · exact absurd h1 hr.1
  · exact absurd h1 hr.2
  · exact .inl h1
  · exact .inr (.inl h1)
  · exact .inr (.inr h1)
theorem after_cong {key : ByteArray} {v u : ValL} {a : ActL} (hr : regB key = false) (ok : a.Ok) (h : SamV v u) : SamV (afterL key v a) (afterL key u a) := by
  cases hf : fitsB key a
  · rw [after_skip hf, after_skip hf]; exact h
  · obtain ⟨hi, hk | hk | hk⟩ := num_kind hr hf
    · rw [fits_add ok hk hf, after_add v hi hk, after_add u hi hk, h.there, h.n]; exact SamV.refl _
    · rw [fits_max hk hf, after_max v hi hk, after_max u hi hk]
      refine ⟨rfl, ?_, rfl, rfl⟩
      simp only [h.there]
      split
      · rw [rmax_key', rmax_key', h.x]
      · rfl
    · rw [fits_min hk hf, after_min v hi hk, after_min u hi hk]
      refine ⟨rfl, ?_, rfl, rfl⟩
      simp only [h.there]
      split
      · rw [rmin_key, rmin_key, h.x]
      · rfl
theorem after_comm {key : ByteArray} {v : ValL} {a b : ActL} (hr : regB key = false) (oa : a.Ok) (ob : b.Ok) : SamV (afterL key (afterL key v a) b) (afterL key (afterL key v b) a) := by
  cases hf : fitsB key a
  · rw [after_skip hf, after_skip hf]; exact SamV.refl _
  · cases hg : fitsB key b
    · rw [after_skip hg, after_skip hg]; exact SamV.refl _
    · obtain ⟨hi, hk | hk | hk⟩ := num_kind hr hf
      · rw [fits_add oa hk hf, fits_add ob hk hg, after_add v hi hk, after_add v hi hk, after_add _ hi hk, after_add _ hi hk]
        refine ⟨rfl, rfl, ?_, rfl⟩
        simp only [if_true]
        split
        · rw [w64, w64]; congr 1; omega
        · congr 1; omega
      · rw [fits_max hk hf, fits_max hk hg, after_max v hi hk, after_max v hi hk, after_max _ hi hk, after_max _ hi hk]
        refine ⟨rfl, ?_, rfl, rfl⟩
        simp only [if_true]
        rw [rmax_key', rmax_key']
        split
        · rw [rmax_key', rmax_key']; omega
        · omega
      · rw [fits_min hk hf, fits_min hk hg, after_min v hi hk, after_min v hi hk, after_min _ hi hk, after_min _ hi hk]
        refine ⟨rfl, ?_, rfl, rfl⟩
        simp only [if_true]
        rw [rmin_key, rmin_key]
        split
        · rw [rmin_key, rmin_key]; omega
        · omega
theorem out_cong {key : ByteArray} (hr : regB key = false) : ∀ (vs : List VerL) (o p : ValL), (∀ v ∈ vs, v.act.Ok) → SamV o p → SamV (vs.foldl (fun o v => afterL key o v.act) o) (vs.foldl (fun o v => afterL key o v.act) p)
  | [], _, _, _, h => h
  | v :: vs, _, _, hok, h => out_cong hr vs _ _ (fun u hu => hok u (by simp [hu])) (after_cong hr (hok v (by simp)) h)
theorem out_perm {key : ByteArray} (hr : regB key = false) {vs us : List VerL} (h : vs.Perm us) : ∀ (o : ValL), (∀ v ∈ vs, v.act.Ok) → SamV (vs.foldl (fun o v => afterL key o v.act) o) (us.foldl (fun o v => afterL key o v.act) o) := by
  induction h with
  | nil => exact fun o _ => SamV.refl _
  | cons v _ ih => exact fun o hok => ih _ (fun u hu => hok u (by simp [hu]))
  | swap v u l => exact fun o hok => out_cong hr l _ _ (fun x hx => hok x (by simp [hx])) (after_comm hr (hok u (by simp)) (hok v (by simp)))
  | trans h1 _ ih1 ih2 => exact fun o hok => (ih1 o hok).trans (ih2 o (fun u hu => hok u (h1.mem_iff.2 hu)))
theorem value_perm {key : ByteArray} {vs us : List VerL} (h : vs.Perm us) (hp : vs.Pairwise Apart) (hok : ∀ v ∈ vs, v.act.Ok) : sameV (valueL key vs) (valueL key us) = true := by
  unfold valueL
  cases hr : regB key
  · simp only [Bool.false_eq_true, if_false]
    exact samV.1 (out_perm hr h noVal hok)
  · simp only [if_true]
    rw [last_perm h hp]
    exact sameV_refl _
theorem perm_turned {α : Type} (l : List α) (k : Nat) : l.Perm (l.drop k ++ l.take k) := by
  have h : (l.take k ++ l.drop k).Perm (l.drop k ++ l.take k) := List.perm_append_comm
  rwa [List.take_append_drop] at h
theorem perm_back {α : Type} (l : List α) : l.Perm l.reverse := (List.reverse_perm l).symm
end Go.Proofs.Ytginbjcpcgphgaa
end

/- what is the same, part by part. By an AI agent. -/
section
set_option linter.unusedVariables false
namespace Go.Proofs.Ytginbjcpcgphgaa
open Go.RowKit

theorem size_nil (s : ByteArray) : s.data.toList.length = s.size := by simp
theorem toList_inj {s t : ByteArray} (h : s.toList = t.toList) : s = t := by
  rw [ByteArray.toList_eq, ByteArray.toList_eq] at h
  exact ByteArray.ext (Array.toList_inj.1 h)
theorem sameA_parts {a b : ActL} (h : sameA a b = true) : a.k = b.k ∧ fkey a.x = fkey b.x ∧ a.n = b.n ∧ a.s = b.s := by
  simp only [sameA, Bool.and_eq_true, decide_eq_true_eq, beq_iff_eq] at h
  exact ⟨h.1, h.2.1, h.2.2.1, toList_inj h.2.2.2⟩
theorem sameV_parts {a b : ValL} (h : sameV a b = true) : a.there = b.there ∧ fkey a.x = fkey b.x ∧ a.n = b.n ∧ a.s = b.s := by
  simp only [sameV, Bool.and_eq_true, decide_eq_true_eq, beq_iff_eq] at h
  exact ⟨h.1, h.2.1, h.2.2.1, toList_inj h.2.2.2⟩
end Go.Proofs.Ytginbjcpcgphgaa
end
