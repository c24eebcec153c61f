/- OpTexts: the plain law. By an AI agent. -/
import Derived.Test.YtgdlcoicejgdkaaDoorParse0
import Derived.Test.YtgdlcoicejgdkaaDoorQuote1
import Derived.Test.YtgdlcoicejgdkaaDoorOp4
namespace Go.Proofs.YtgdlcoicejgdkaaDoor
open Go.RowKit

def noneL : List UInt8 := [110, 111, 110, 101]
/-- a value's text -/
def textV (key : ByteArray) (v : ValL) : List UInt8 :=
  if v.there && isKeyB key then (if hd key = 99 then intB v.n else if hd key = 116 then quoL v.s.data.toList else textF v.x) else noneL
theorem restL_intB (v : Int) : restL (intB v) = decB v.natAbs ∧ signB (intB v) = decide (v < 0) := by
  by_cases h : v < 0
  · rw [intB_neg h, decide_eq_true h]
    exact ⟨(sign_cons _).2, (sign_cons _).1⟩
  · obtain ⟨u, rfl⟩ : ∃ u : Nat, v = u := ⟨v.toNat, by omega⟩
    rw [intB_nat, Int.natAbs_natCast, decide_eq_false h]
    have hf := decB_first u
    have := no_sign (l := decB u) (by omega) (decB_ne u)
    exact ⟨this.2, this.1⟩
theorem intB_inj {x y : Int} (h : intB x = intB y) : x = y := by
  have h1 := restL_intB x
  have h2 := restL_intB y
  rw [h] at h1
  have e1 : decB x.natAbs = decB y.natAbs := h1.1.symm.trans h2.1
  have e2 : decide (x < 0) = decide (y < 0) := h1.2.symm.trans h2.2
  have e3 := congrArg valD e1
  rw [valD_decB, valD_decB] at e3
  rw [decide_eq_decide] at e2
  omega
theorem intB_none (v : Int) : intB v ≠ noneL := by
  intro h
  have : (110 : UInt8) ∈ intB v := by rw [h]; decide
  rcases mem_intB this with h | h
  · exact absurd h (by decide)
  · exact absurd h (by decide)
theorem quoL_none (l : List UInt8) : quoL l ≠ noneL := by
  intro h
  have := congrArg (fun l => l.headD 0) h
  exact absurd this (by simp [quoL, noneL])
theorem signL_head (x : Nat) (l : List UInt8) (h : (l.headD 0) ≠ 110) : ((signL x ++ l).headD 0) ≠ 110 := by
  unfold signL
  split
  · show (45 : UInt8) ≠ 110; decide
  · exact h
theorem textF_none (x : Nat) : textF x ≠ noneL := by
  unfold textF
  split
  · decide
  · intro h
    have hd : ∀ l : List UInt8, l = noneL → l.headD 0 = 110 := fun l h => by rw [h]; rfl
    have h0 := hd _ h
    revert h0
    split
    · exact signL_head _ _ (by decide)
    · split
      · exact signL_head _ _ (by decide)
      · refine signL_head _ _ fun k => ?_
        have hf := numL_first (oddM (x % two63)) (oddE (x % two63))
        rw [k] at hf
        exact absurd hf.2.1 (by decide)
theorem fits_kind {key : ByteArray} {a : ActL} (ok : a.Ok) (h : fitsB key a = true) :
    (a.k = 4) ∨ (a.k ≠ 4 ∧ ((hd key = 114 ∧ a.n = 0 ∧ a.s = nilS) ∨ (hd key = 116 ∧ a.x = 0 ∧ a.n = 0) ∨ (hd key = 99 ∧ a.x = 0 ∧ a.s = nilS) ∨ ((hd key = 120 ∨ hd key = 110) ∧ a.n = 0 ∧ a.s = nilS))) := by
  by_cases h4 : a.k = 4
  · exact .inl h4
  · refine .inr ⟨h4, ?_⟩
    have hk := key_head (fits_key h).1
    have hr := (fits_key h).2
    rcases hk with hk | hk | hk | hk | hk
    · refine .inl ⟨hk, ?_⟩
      simp only [fitsB, Bool.and_eq_true, hk] at h
      have h2 := h.2.2
      simp [h4] at h2
      simp only [rightB, h2.1, Bool.and_eq_true] at hr
      have h3 := hr.2
      simp at h3
      exact ⟨h3.1, nil_of h2.2⟩
    · refine .inr (.inl ⟨hk, ?_⟩)
      simp only [fitsB, Bool.and_eq_true, hk] at h
      have h2 := h.2.2
      simp [h4] at h2
      simp only [rightB, h2.1, Bool.and_eq_true] at hr
      have h3 := hr.2
      simp at h3
      exact ⟨nought_eq ok.x h2.2, h3.1⟩
    · have e := fits_add ok hk h
      refine .inr (.inr (.inl ⟨hk, ?_⟩))
      rw [e]; exact ⟨rfl, rfl⟩
    · have e := fits_max hk h
      refine .inr (.inr (.inr ⟨.inl hk, ?_⟩))
      rw [e]; exact ⟨rfl, rfl⟩
    · have e := fits_min hk h
      refine .inr (.inr (.inr ⟨.inr hk, ?_⟩))
      rw [e]; exact ⟨rfl, rfl⟩
theorem after_none {key : ByteArray} {a : ActL} (h : fitsB key a = true) : afterL key noVal a = valOf a := by simp [afterL, h, noVal]
theorem after_not {key : ByteArray} {a : ActL} (v : ValL) (h : fitsB key a = false) : afterL key v a = v := by simp [afterL, h]
theorem text_clear (key : ByteArray) : textV key noVal = noneL := rfl
theorem text_there {key : ByteArray} (v : ValL) (hv : v.there = true) (hk : isKeyB key = true) : textV key v = if hd key = 99 then intB v.n else if hd key = 116 then quoL v.s.data.toList else textF v.x := by
  unfold textV; rw [hv, hk]; rfl
theorem text_not_none {key : ByteArray} (v : ValL) (hv : v.there = true) (hk : isKeyB key = true) : textV key v ≠ noneL := by
  rw [text_there v hv hk]
  split
  · exact intB_none _
  · split
    · exact quoL_none _
    · exact textF_none _
/-- the law -/
theorem texts_law {key : ByteArray} {a b : ActL} (oa : a.Ok) (ob : b.Ok) (ha : fitsB key a = true) (hb : fitsB key b = true) :
    decide (textV key (afterL key noVal a) = textV key (afterL key noVal b)) = sameV (afterL key noVal a) (afterL key noVal b) := by
  have hk := (fits_key ha).1
  rw [after_none ha, after_none hb]
  rcases fits_kind oa ha with a4 | ⟨a4, ca⟩
  · rcases fits_kind ob hb with b4 | ⟨b4, cb⟩
    · rw [valOf, if_pos a4, valOf, if_pos b4, sameV_refl]; simp
    · rw [valOf, if_pos a4, valOf, if_neg b4, text_clear, decide_eq_false (fun h => text_not_none _ rfl hk h.symm)]
      simp [sameV, noVal]
  · rcases fits_kind ob hb with b4 | ⟨b4, cb⟩
    · rw [valOf, if_neg a4, valOf, if_pos b4, text_clear, decide_eq_false (fun h => text_not_none _ rfl hk h)]
      simp [sameV, noVal]
    · rw [valOf, if_neg a4, valOf, if_neg b4, text_there _ rfl hk, text_there _ rfl hk]
      rcases ca with ⟨h, a1, a2⟩ | ⟨h, a1, a2⟩ | ⟨h, a1, a2⟩ | ⟨h, a1, a2⟩
      · rcases cb with ⟨g, b1, b2⟩ | ⟨g, b1, b2⟩ | ⟨g, b1, b2⟩ | ⟨g, b1, b2⟩
        · rw [if_neg (by omega), if_neg (by omega), if_neg (by omega), if_neg (by omega), Bool.eq_iff_iff]
          simp only [sameV, a1, a2, b1, b2, decide_eq_true_eq, Bool.and_eq_true, beq_self_eq_true, and_true, true_and]
          exact ⟨textF_inj oa.x ob.x, textF_key oa.x ob.x⟩
        all_goals omega
      · rcases cb with ⟨g, b1, b2⟩ | ⟨g, b1, b2⟩ | ⟨g, b1, b2⟩ | ⟨g, b1, b2⟩
        · omega
        · rw [if_neg (by omega), if_pos h, if_neg (by omega), if_pos h, Bool.eq_iff_iff]
          simp only [sameV, a1, a2, b1, b2, decide_eq_true_eq, Bool.and_eq_true, true_and, beq_iff_eq, ByteArray.toList_eq]
          exact ⟨quoL_inj, fun h => by rw [h]⟩
        all_goals omega
      · rcases cb with ⟨g, b1, b2⟩ | ⟨g, b1, b2⟩ | ⟨g, b1, b2⟩ | ⟨g, b1, b2⟩
        · omega
        · omega
        · rw [if_pos h, if_pos h, Bool.eq_iff_iff]
          simp only [sameV, a1, a2, b1, b2, decide_eq_true_eq, Bool.and_eq_true, beq_self_eq_true, and_true, true_and]
          exact ⟨intB_inj, fun h => by rw [h]⟩
        · omega
      · rcases cb with ⟨g, b1, b2⟩ | ⟨g, b1, b2⟩ | ⟨g, b1, b2⟩ | ⟨g, b1, b2⟩
        · omega
        · omega
        · omega
        · rw [if_neg (by omega), if_neg (by omega), if_neg (by omega), if_neg (by omega), Bool.eq_iff_iff]
          simp only [sameV, a1, a2, b1, b2, decide_eq_true_eq, Bool.and_eq_true, beq_self_eq_true, and_true, true_and]
          exact ⟨textF_inj oa.x ob.x, textF_key oa.x ob.x⟩
theorem valOf_there (a : ActL) : (valOf a).there = decide (a.k ≠ 4) := by
  unfold valOf
  split
  · rename_i h; rw [h]; rfl
  · rename_i h; simp [h]
end Go.Proofs.YtgdlcoicejgdkaaDoor
