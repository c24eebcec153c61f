import Derived.Test.YtfjjnffifnohkaaGreatQFoldTellsUptoP6
import Derived.Test.YtfjjnffifnohkaaGreatQFoldTellsUptoP9
import Derived.Test.YtfjjnffifnohkaaGreatQFoldTellsUptoP3

/- the order of versions: an order in which any two stand. By an AI agent. -/
section
set_option linter.unusedVariables false
set_option linter.unusedSimpArgs false
namespace Go.Proofs.YtfjjnffifnohkaaGreat
open Go.RowKit

theorem cmpI_lt {x y : Int} : Lib.compareInt x y < 0 ↔ x < y := by
  unfold Lib.compareInt
  split
  · simp; omega
  · split
    · simp; omega
    · simp; omega
theorem cmpI_neg (x y : Int) : Lib.compareInt y x = - Lib.compareInt x y := by
  unfold Lib.compareInt
  by_cases h1 : x < y
  · rw [if_pos h1, if_neg (by omega), if_pos h1]; rfl
  · by_cases h2 : y < x
    · rw [if_pos h2, if_neg h1, if_pos h2]
    · rw [if_neg h2, if_neg h1, if_neg h1, if_neg h2]; rfl
theorem cmpV_neg : ∀ xs ys : List Int, cmpV ys xs = - cmpV xs ys
  | [], [] => rfl
  | [], _ :: _ => rfl
  | _ :: _, [] => rfl
  | x :: xs, y :: ys => by
    unfold cmpV
    rw [cmpI_neg x y]
    by_cases h : Lib.compareInt x y = 0
    · rw [if_pos h, if_pos (by omega), cmpV_neg xs ys]
    · rw [if_neg h, if_neg (by omega)]
theorem cmpV_zero : ∀ {xs ys : List Int}, cmpV xs ys = 0 ↔ xs = ys
  | [], [] => by simp [cmpV]
  | [], _ :: _ => by simp [cmpV]
  | _ :: _, [] => by simp [cmpV]
  | x :: xs, y :: ys => by
    unfold cmpV
    by_cases h : Lib.compareInt x y = 0
    · rw [if_pos h, cmpV_zero, List.cons.injEq]
      have := compare_zero.1 h
      simp [this]
    · rw [if_neg h]
      constructor
      · exact fun e => absurd e h
      · intro e
        rw [List.cons.injEq] at e
        exact absurd (compare_zero.2 e.1) h
theorem cmpV_trans : ∀ {xs ys zs : List Int}, cmpV xs ys < 0 → cmpV ys zs < 0 → cmpV xs zs < 0
  | [], [], _, h, _ => by simp [cmpV] at h
  | [], _ :: _, [], _, h => by simp [cmpV] at h
  | [], _ :: _, _ :: _, _, _ => by simp [cmpV]
  | _ :: _, [], _, h, _ => by simp [cmpV] at h
  | _ :: _, _ :: _, [], _, h => by simp [cmpV] at h
  | x :: xs, y :: ys, z :: zs, h1, h2 => by
    unfold cmpV at h1 h2 ⊢
    by_cases e1 : Lib.compareInt x y = 0
    · have f1 := compare_zero.1 e1
      subst f1
      rw [if_pos e1] at h1
      by_cases e2 : Lib.compareInt x z = 0
      · rw [if_pos e2] at h2 ⊢
        exact cmpV_trans h1 h2
      · rw [if_neg e2] at h2 ⊢
        exact h2
    · rw [if_neg e1] at h1
      have g1 := cmpI_lt.1 h1
      by_cases e2 : Lib.compareInt y z = 0
      · have f2 := compare_zero.1 e2
        subst f2
        rw [if_neg e1]; exact h1
      · rw [if_neg e2] at h2
        have g2 := cmpI_lt.1 h2
        have g3 : Lib.compareInt x z < 0 := cmpI_lt.2 (by omega)
        rw [if_neg (by omega)]; exact g3
/-- a version stands ahead of another one -/
def LtV (a b : VerL) : Prop :=
  timeL b < timeL a ∨ (timeL b = timeL a ∧ (b.origin < a.origin ∨ (b.origin = a.origin ∧ (b.tx < a.tx ∨ (b.tx = a.tx ∧ (a.at_.length < b.at_.length ∨ (a.at_.length = b.at_.length ∧ cmpV a.at_ b.at_ < 0)))))))
/-- of one stamp -/
def AlV (a b : VerL) : Prop := timeL a = timeL b ∧ a.origin = b.origin ∧ a.tx = b.tx ∧ a.at_ = b.at_
theorem orL_cons (x : Int) (xs : List Int) : orL (x :: xs) = if x = 0 then orL xs else x := rfl
theorem orderL_lt {a b : VerL} : orderL a b < 0 ↔ LtV a b := by
  unfold orderL LtV
  rw [orL_cons]
  by_cases h1 : Lib.compareInt (timeL b) (timeL a) = 0
  · have e1 := compare_zero.1 h1
    rw [if_pos h1, orL_cons]
    by_cases h2 : Lib.compareInt b.origin a.origin = 0
    · have e2 := compare_zero.1 h2
      rw [if_pos h2, orL_cons]
      by_cases h3 : Lib.compareInt b.tx a.tx = 0
      · have e3 := compare_zero.1 h3
        rw [if_pos h3, orL_cons]
        by_cases h4 : Lib.compareInt (a.at_.length : Int) (b.at_.length : Int) = 0
        · have e4 := compare_zero.1 h4
          rw [if_pos h4, orL_cons]
          have e5 : orL [] = 0 := rfl
          by_cases h5 : cmpV a.at_ b.at_ = 0
          · rw [if_pos h5, e5]
            constructor
            · intro h; omega
            · intro h; omega
          · rw [if_neg h5]
            constructor
            · intro h; exact .inr ⟨e1, .inr ⟨e2, .inr ⟨e3, .inr ⟨by omega, h⟩⟩⟩⟩
            · intro h; omega
        · rw [if_neg h4, cmpI_lt]
          have e4 : (a.at_.length : Int) ≠ (b.at_.length : Int) := fun e => h4 (compare_zero.2 e)
          omega
      · rw [if_neg h3, cmpI_lt]
        have e3 : b.tx ≠ a.tx := fun e => h3 (compare_zero.2 e)
        omega
    · rw [if_neg h2, cmpI_lt]
      have e2 : b.origin ≠ a.origin := fun e => h2 (compare_zero.2 e)
      omega
  · rw [if_neg h1, cmpI_lt]
    have e1 : timeL b ≠ timeL a := fun e => h1 (compare_zero.2 e)
    omega
theorem orderL_zero {a b : VerL} : orderL a b = 0 ↔ AlV a b := by
  unfold orderL AlV
  rw [orL_cons]
  by_cases h1 : Lib.compareInt (timeL b) (timeL a) = 0
  · have e1 := compare_zero.1 h1
    rw [if_pos h1, orL_cons]
    by_cases h2 : Lib.compareInt b.origin a.origin = 0
    · have e2 := compare_zero.1 h2
      rw [if_pos h2, orL_cons]
      by_cases h3 : Lib.compareInt b.tx a.tx = 0
      · have e3 := compare_zero.1 h3
        rw [if_pos h3, orL_cons]
        by_cases h4 : Lib.compareInt (a.at_.length : Int) (b.at_.length : Int) = 0
        · rw [if_pos h4, orL_cons]
          have e5 : orL [] = 0 := rfl
          by_cases h5 : cmpV a.at_ b.at_ = 0
          · rw [if_pos h5, e5]
            exact ⟨fun _ => ⟨e1.symm, e2.symm, e3.symm, cmpV_zero.1 h5⟩, fun _ => rfl⟩
          · rw [if_neg h5]
            exact ⟨fun e => absurd e h5, fun e => absurd (cmpV_zero.2 e.2.2.2) h5⟩
        · rw [if_neg h4]
          exact ⟨fun e => absurd e h4, fun e => absurd (compare_zero.2 (by rw [e.2.2.2])) h4⟩
      · rw [if_neg h3]
        exact ⟨fun e => absurd e h3, fun e => absurd (compare_zero.2 e.2.2.1.symm) h3⟩
    · rw [if_neg h2]
      exact ⟨fun e => absurd e h2, fun e => absurd (compare_zero.2 e.2.1.symm) h2⟩
  · rw [if_neg h1]
    exact ⟨fun e => absurd e h1, fun e => absurd (compare_zero.2 e.1.symm) h1⟩
theorem LtV.trans {a b c : VerL} (h : LtV a b) (k : LtV b c) : LtV a c := by
  have ht := fun (x : cmpV a.at_ b.at_ < 0) (y : cmpV b.at_ c.at_ < 0) => cmpV_trans x y
  unfold LtV at *
  omega
theorem LtV.irrefl {a : VerL} (h : LtV a a) : False := by
  have hz : cmpV a.at_ a.at_ = 0 := cmpV_zero.2 rfl
  unfold LtV at h
  omega
theorem ltV_total (a b : VerL) : LtV a b ∨ AlV a b ∨ LtV b a := by
  have h1 := cmpV_neg a.at_ b.at_
  have h2 := @cmpV_zero a.at_ b.at_
  unfold LtV AlV
  by_cases e : a.at_ = b.at_
  · rw [e]; simp; omega
  · have : cmpV a.at_ b.at_ ≠ 0 := fun q => e (h2.1 q)
    omega
theorem AlV.refl (a : VerL) : AlV a a := ⟨rfl, rfl, rfl, rfl⟩
theorem AlV.symm {a b : VerL} (h : AlV a b) : AlV b a := ⟨h.1.symm, h.2.1.symm, h.2.2.1.symm, h.2.2.2.symm⟩
theorem AlV.trans {a b c : VerL} (h : AlV a b) (k : AlV b c) : AlV a c := ⟨h.1.trans k.1, h.2.1.trans k.2.1, h.2.2.1.trans k.2.2.1, h.2.2.2.trans k.2.2.2⟩
theorem LtV.al {a b c : VerL} (h : LtV a b) (k : AlV b c) : LtV a c := by
  obtain ⟨k1, k2, k3, k4⟩ := k
  unfold LtV at *
  rw [← k1, ← k2, ← k3, ← k4]; exact h
theorem AlV.lt {a b c : VerL} (k : AlV a b) (h : LtV b c) : LtV a c := by
  obtain ⟨k1, k2, k3, k4⟩ := k
  unfold LtV at *
  rw [k1, k2, k3, k4]; exact h
/-- ahead of, or of one stamp -/
def leV (a b : VerL) : Bool := !(decide (orderL b a < 0))
theorem leV_iff {a b : VerL} : leV a b = true ↔ ¬ LtV b a := by
  unfold leV
  rw [Bool.not_eq_true', decide_eq_false_iff_not, orderL_lt]
theorem leV_pre : Pre leV := by
  refine ⟨fun a b => ?_, fun a b c h1 h2 => ?_⟩
  · rw [leV_iff, leV_iff]
    by_cases h : LtV b a
    · exact .inr (fun k => (h.trans k).irrefl)
    · exact .inl h
  · rw [leV_iff] at *
    intro h
    rcases ltV_total a b with q | q | q
    · exact h2 (h.trans q)
    · exact h2 (h.al q)
    · exact h1 q
end Go.Proofs.YtfjjnffifnohkaaGreat
end

/- versions in order, each stamp once: plain laws. By an AI agent. -/
section
set_option linter.unusedVariables false
set_option linter.unusedSimpArgs false
namespace Go.Proofs.YtfjjnffifnohkaaGreat
open Go.RowKit

section
variable {α : Type}
/-- what is left behind p where neighbours that are alike are struck -/
def cptGo (eq : α → α → Bool) : α → List α → List α
  | _, [] => []
  | p, y :: l => if eq y p then cptGo eq y l else y :: cptGo eq y l
def cpt (eq : α → α → Bool) : List α → List α
  | [] => []
  | x :: l => x :: cptGo eq x l
theorem cptGo_sub (eq : α → α → Bool) : ∀ (l : List α) (p : α), (cptGo eq p l).Sublist l
  | [], p => List.Sublist.refl _
  | y :: l, p => by
    unfold cptGo
    split
    · exact (cptGo_sub eq l y).cons _
    · exact (cptGo_sub eq l y).cons_cons _
theorem cpt_sub (eq : α → α → Bool) (l : List α) : (cpt eq l).Sublist l := by
  cases l with
  | nil => exact List.Sublist.refl _
  | cons x l => exact (cptGo_sub eq l x).cons_cons _
end
def eqV (a b : VerL) : Bool := decide (orderL a b = 0)
theorem eqV_iff {a b : VerL} : eqV a b = true ↔ AlV a b := by unfold eqV; rw [decide_eq_true_iff, orderL_zero]
theorem cptGo_strict : ∀ (l : List VerL) (p : VerL), Srt leV (p :: l) → (p :: cptGo eqV p l).Pairwise LtV
  | [], p, _ => List.pairwise_singleton _ _
  | y :: l, p, h => by
    obtain ⟨h1, h2⟩ := List.pairwise_cons.1 h
    have ih := cptGo_strict l y h2
    obtain ⟨i1, i2⟩ := List.pairwise_cons.1 ih
    unfold cptGo
    cases e : eqV y p with
    | true =>
      rw [if_pos rfl]
      have ha := eqV_iff.1 e
      exact List.pairwise_cons.2 ⟨fun z hz => ha.symm.lt (i1 z hz), i2⟩
    | false =>
      rw [if_neg (by decide)]
      have hl := leV_iff.1 (h1 y (by simp))
      have hy : LtV p y := by
        rcases ltV_total p y with q | q | q
        · exact q
        · rw [eqV_iff.2 q.symm] at e; cases e
        · exact absurd q hl
      refine List.pairwise_cons.2 ⟨fun z hz => ?_, ih⟩
      rcases List.mem_cons.1 hz with q | q
      · subst q; exact hy
      · exact hy.trans (i1 z q)
theorem cptGo_cover : ∀ (l : List VerL) (p v : VerL), v ∈ p :: l → ∃ o ∈ p :: cptGo eqV p l, AlV o v
  | [], p, v, h => ⟨p, by simp, by rw [List.mem_singleton.1 h]; exact AlV.refl _⟩
  | y :: l, p, v, h => by
    unfold cptGo
    rcases List.mem_cons.1 h with q | q
    · subst q
      refine ⟨v, ?_, AlV.refl _⟩
      split <;> simp
    · obtain ⟨o, ho, ha⟩ := cptGo_cover l y v q
      cases e : eqV y p with
      | true =>
        rw [if_pos rfl]
        rcases List.mem_cons.1 ho with r | r
        · subst r
          exact ⟨p, by simp, (eqV_iff.1 e).symm.trans ha⟩
        · exact ⟨o, by simp [r], ha⟩
      | false =>
        rw [if_neg (by decide)]
        exact ⟨o, by simp [ho], ha⟩
/-- versions by their stamps, each stamp once -/
def orderOf (l : List VerL) : List VerL := cpt eqV (srt leV l)
theorem order_strict (l : List VerL) : (orderOf l).Pairwise LtV := by
  unfold orderOf
  have h := srt_sorted leV_pre l
  cases e : srt leV l with
  | nil => exact List.Pairwise.nil
  | cons p m => rw [e] at h; exact cptGo_strict m p h
theorem order_mem {l : List VerL} {o : VerL} (h : o ∈ orderOf l) : o ∈ l := (srt_perm l).mem_iff.1 ((cpt_sub eqV _).subset h)
theorem order_len (l : List VerL) : (orderOf l).length ≤ l.length := by
  rw [← srt_len (le := leV) l]; exact (cpt_sub eqV _).length_le
theorem order_cover {l : List VerL} {v : VerL} (h : v ∈ l) : ∃ o ∈ orderOf l, AlV o v := by
  unfold orderOf
  have hm := (srt_perm (le := leV) l).mem_iff.2 h
  cases e : srt leV l with
  | nil => rw [e] at hm; cases hm
  | cons p m => rw [e] at hm; exact cptGo_cover m p v hm
/-- two strict lists with the same elements are one -/
theorem strict_eq : ∀ (xs ys : List VerL), xs.Pairwise LtV → ys.Pairwise LtV → (∀ v, v ∈ xs ↔ v ∈ ys) → xs = ys
  | [], [], _, _, _ => rfl
  | [], y :: ys, _, _, h => by have := (h y).2 (by simp); cases this
  | x :: xs, [], _, _, h => by have := (h x).1 (by simp); cases this
  | x :: xs, y :: ys, h1, h2, h3 => by
    obtain ⟨p1, p2⟩ := List.pairwise_cons.1 h1
    obtain ⟨q1, q2⟩ := List.pairwise_cons.1 h2
    have hh : x = y := by
      have a := (h3 x).1 (by simp)
      have b := (h3 y).2 (by simp)
      rcases List.mem_cons.1 a with r | r
      · exact r
      · rcases List.mem_cons.1 b with s | s
        · exact s.symm
        · exact absurd ((q1 x r).trans (p1 y s)) LtV.irrefl
    subst hh
    congr 1
    refine strict_eq xs ys p2 q2 (fun v => ⟨fun hv => ?_, fun hv => ?_⟩)
    · rcases List.mem_cons.1 ((h3 v).1 (by simp [hv])) with r | r
      · subst r; exact absurd (p1 v hv) LtV.irrefl
      · exact r
    · rcases List.mem_cons.1 ((h3 v).2 (by simp [hv])) with r | r
      · subst r; exact absurd (q1 v hv) LtV.irrefl
      · exact r
/-- where no two are of one stamp all stand there -/
theorem order_all {l : List VerL} (h : l.Pairwise (fun a b => ¬ AlV a b)) {v : VerL} : v ∈ orderOf l ↔ v ∈ l := by
  refine ⟨order_mem, fun hv => ?_⟩
  obtain ⟨o, ho, ha⟩ := order_cover hv
  have hm := order_mem ho
  by_cases e : o = v
  · exact e ▸ ho
  · exfalso
    obtain ⟨i, hi, rfl⟩ := List.mem_iff_getElem.1 hv
    obtain ⟨j, hj, rfl⟩ := List.mem_iff_getElem.1 hm
    have hij : i ≠ j := fun q => e (by subst q; rfl)
    rcases Nat.lt_or_gt_of_ne hij with q | q
    · exact List.pairwise_iff_getElem.1 h i j hi hj q ha.symm
    · exact List.pairwise_iff_getElem.1 h j i hj hi q ha
theorem order_perm {l : List VerL} (h : l.Pairwise (fun a b => ¬ AlV a b)) : (orderOf l).Perm l := by
  have hs : (srt leV l).Pairwise (fun a b => ¬ AlV a b) := (srt_perm (le := leV) l).symm.pairwise h (fun q r => q r.symm)
  have : orderOf l = srt leV l := by
    unfold orderOf
    refine strict_eq _ _ (order_strict l) ?_ (fun v => ?_)
    · have h1 := srt_sorted leV_pre l
      refine List.pairwise_iff_getElem.2 (fun i j hi hj hij => ?_)
      have a := List.pairwise_iff_getElem.1 hs i j hi hj hij
      have b := leV_iff.1 (List.pairwise_iff_getElem.1 h1 i j hi hj hij)
      rcases ltV_total (srt leV l)[i] (srt leV l)[j] with q | q | q
      · exact q
      · exact absurd q a
      · exact absurd q b
    · exact ((order_all h).trans (srt_perm (le := leV) l).mem_iff.symm)
  rw [this]; exact srt_perm l
theorem strict_apart {l : List VerL} (h : l.Pairwise LtV) : l.Pairwise (fun a b => ¬ AlV a b) := h.imp (fun q r => (q.al r.symm).irrefl)
theorem order_id {l : List VerL} (h : l.Pairwise LtV) : orderOf l = l := strict_eq _ _ (order_strict l) h (fun v => order_all (strict_apart h))
end Go.Proofs.YtfjjnffifnohkaaGreat
end

/- contracts of the package op with structs taken apart. By an AI agent. -/
section
namespace Go.Proofs.YtfjjnffifnohkaaGreat
open Go.RowKit

theorem after_agg (key : ByteArray) (vb : Bool) (vx : Nat) (vn : Int) (vs : ByteArray) (k : Int) (x : Nat) (n : Int) (s : ByteArray) (rb : Bool) (rx : Nat) (rn : Int) (rs : ByteArray) (w : World)
    (h : Hid (afterL key ⟨vb, vx, vn, vs⟩ ⟨k, x, n, s⟩ = ⟨rb, rx, rn, rs⟩)) (hkey : key.size ≤ 140737488351232) (ov : Hid (ValL.Ok ⟨vb, vx, vn, vs⟩)) (oa : Hid (ActL.Ok ⟨k, x, n, s⟩)) :
    Calls Tryz.prog 137 #[.string key, .agg #[.bool vb, .float .f64 vx, .int .i64 vn, .string vs], .agg #[.int .i64 k, .float .f64 x, .int .i64 n, .string s]] w fun e w' => e = .returned (.agg #[.bool rb, .float .f64 rx, .int .i64 rn, .string rs]) ∧ Bl w w' := by
  refine (after_any key ⟨vb, vx, vn, vs⟩ ⟨k, x, n, s⟩ w hkey ov.out oa.out).mono ?_
  rintro e w' ⟨rfl, hb⟩
  rw [h.out]
  exact ⟨rfl, hb⟩
theorem fits_agg (key : ByteArray) (k : Int) (x : Nat) (n : Int) (s : ByteArray) (r : Bool) (w : World)
    (h : Hid (fitsB key ⟨k, x, n, s⟩ = r)) (hkey : key.size ≤ 140737488351232) (oa : Hid (ActL.Ok ⟨k, x, n, s⟩)) :
    Calls Tryz.prog 28 #[.string key, .agg #[.int .i64 k, .float .f64 x, .int .i64 n, .string s]] w fun e w' => e = .returned (.bool r) ∧ Bl w w' := by
  refine (fits_any key ⟨k, x, n, s⟩ w hkey oa.out).mono ?_
  rintro e w' ⟨rfl, hb⟩
  rw [h.out]
  exact ⟨rfl, hb⟩
end Go.Proofs.YtfjjnffifnohkaaGreat
end
