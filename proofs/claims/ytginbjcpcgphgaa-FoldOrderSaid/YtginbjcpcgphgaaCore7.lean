import Derived.Test.YtginbjcpcgphgaaCore6
import Derived.Test.YtginbjcpcgphgaaCore5

/- places in lists; where a merge may be cut; blocks that are sorted: plain laws. By an AI agent. -/
section
set_option linter.unusedVariables false
set_option linter.unusedSectionVars false
namespace Go.Proofs.Ytginbjcpcgphgaa

section
variable {α : Type} [Inhabited α] {le : α → α → Bool}
def el (xs : List α) (j : Nat) : α := (xs[j]?).getD default
theorem el_eq {xs : List α} {j : Nat} (h : j < xs.length) : el xs j = xs[j] := by simp [el, h]
theorem el_left {A : List α} (B : List α) {j : Nat} (h : j < A.length) : el (A ++ B) j = el A j := by
  unfold el; rw [List.getElem?_append_left h]
theorem el_right (A B : List α) (j : Nat) : el (A ++ B) (A.length + j) = el B j := by
  unfold el; rw [List.getElem?_append_right (by omega)]; congr 1; rw [Nat.add_sub_cancel_left]
theorem el_at {P A : List α} (B : List α) {k j : Nat} (hp : P.length = k) (h : j < A.length) : el (P ++ (A ++ B)) (k + j) = el A j := by
  subst hp; rw [el_right, el_left B h]
theorem el_mem {xs : List α} {j : Nat} (h : j < xs.length) : el xs j ∈ xs := by rw [el_eq h]; exact List.getElem_mem h
theorem mem_el {xs : List α} {x : α} (h : x ∈ xs) : ∃ j, j < xs.length ∧ el xs j = x := by
  obtain ⟨j, hj, e⟩ := List.mem_iff_getElem.1 h
  exact ⟨j, hj, by rw [el_eq hj]; exact e⟩
theorem take_el {xs : List α} {j : Nat} (h : j < xs.length) : xs.take (j + 1) = xs.take j ++ [el xs j] := by
  rw [el_eq h, List.take_add_one, List.getElem?_eq_getElem h]; rfl
theorem drop_el {xs : List α} {j : Nat} (h : j < xs.length) : xs.drop j = el xs j :: xs.drop (j + 1) := by
  rw [el_eq h]; exact List.drop_eq_getElem_cons h
theorem srt_el {xs : List α} (h : Srt le xs) {i j : Nat} (hij : i < j) (hj : j < xs.length) : le (el xs i) (el xs j) = true := by
  rw [el_eq (by omega), el_eq hj]
  exact List.pairwise_iff_getElem.1 h i j (by omega) hj hij
theorem srt_le {xs : List α} (hp : Pre le) (h : Srt le xs) {i j : Nat} (hij : i ≤ j) (hj : j < xs.length) : le (el xs i) (el xs j) = true := by
  rcases Nat.lt_or_eq_of_le hij with q | q
  · exact srt_el h q hj
  · subst q; exact hp.refl _
theorem head_drop {xs : List α} {e : Nat} {x : α} (h : x ∈ (xs.drop e).head?) : e < xs.length ∧ x = Go.Proofs.Ytginbjcpcgphgaa.el xs e := by
  by_cases hl : e < xs.length
  · rw [drop_el hl] at h
    simp at h
    exact ⟨hl, h.symm⟩
  · rw [List.drop_eq_nil_of_le (by omega)] at h
    simp at h
/-- where a merge may be cut -/
theorem sym_split (hp : Pre le) {L R : List α} (hL : Srt le L) (hR : Srt le R) {s e : Nat} (hs : s ≤ L.length) (he : e ≤ R.length) (c1 : 0 < s → e < R.length → le (el L (s - 1)) (el R e) = true) (c2 : 0 < e → s < L.length → le (el L s) (el R (e - 1)) = false) :
    mrg le L R = mrg le (L.take s) (R.take e) ++ mrg le (L.drop s) (R.drop e) := by
  have := mrg_split (le := le) (L.take s) (R.take e) (L.drop s) (R.drop e) (fun l q r hr => ?_) (fun r q l hl => ?_)
  · rw [List.take_append_drop, List.take_append_drop] at this
    exact this
  · obtain ⟨h1, rfl⟩ := head_drop hr
    obtain ⟨j, hj, rfl⟩ := mem_el q
    rw [List.length_take] at hj
    have e1 : el (L.take s) j = el L j := by unfold el; rw [List.getElem?_take_of_lt (by omega)]
    rw [e1]
    exact hp.trans _ _ _ (srt_le hp hL (show j ≤ s - 1 by omega) (by omega)) (c1 (by omega) h1)
  · obtain ⟨h1, rfl⟩ := head_drop hl
    obtain ⟨j, hj, rfl⟩ := mem_el q
    rw [List.length_take] at hj
    have e1 : el (R.take e) j = el R j := by unfold el; rw [List.getElem?_take_of_lt (by omega)]
    rw [e1]
    cases h : le (el L s) (el R j) with
    | false => rfl
    | true =>
      have := hp.trans _ _ _ h (srt_le hp hR (show j ≤ e - 1 by omega) (by omega))
      rw [c2 (by omega) h1] at this
      cases this
/-- one element is put into a sorted list -/
theorem one_first (hp : Pre le) (x : α) {R : List α} (hR : Srt le R) {i : Nat} (hi : i ≤ R.length) (c1 : 0 < i → le x (el R (i - 1)) = false) (c2 : i < R.length → le x (el R i) = true) : mrg le [x] R = R.take i ++ x :: R.drop i := by
  have := mrg_first (le := le) x (R.take i) (R.drop i) (fun b q => ?_) (fun b q => ?_)
  · rw [List.take_append_drop] at this
    exact this
  · obtain ⟨j, hj, rfl⟩ := mem_el q
    rw [List.length_take] at hj
    have e1 : el (R.take i) j = el R j := by unfold el; rw [List.getElem?_take_of_lt (by omega)]
    rw [e1]
    cases h : le x (el R j) with
    | false => rfl
    | true =>
      have := hp.trans _ _ _ h (srt_le hp hR (show j ≤ i - 1 by omega) (by omega))
      rw [c1 (by omega)] at this
      cases this
  · obtain ⟨h1, rfl⟩ := head_drop q
    exact c2 h1
theorem one_last (hp : Pre le) (x : α) {L : List α} (hL : Srt le L) {i : Nat} (hi : i ≤ L.length) (c1 : 0 < i → le (el L (i - 1)) x = true) (c2 : i < L.length → le (el L i) x = false) : mrg le L [x] = L.take i ++ x :: L.drop i := by
  have := mrg_one (le := le) x (L.take i) (L.drop i) (fun b q => ?_) (fun b q => ?_)
  · rw [List.take_append_drop] at this
    exact this
  · obtain ⟨j, hj, rfl⟩ := mem_el q
    rw [List.length_take] at hj
    have e1 : el (L.take i) j = el L j := by unfold el; rw [List.getElem?_take_of_lt (by omega)]
    rw [e1]
    exact hp.trans _ _ _ (srt_le hp hL (show j ≤ i - 1 by omega) (by omega)) (c1 (by omega))
  · obtain ⟨h1, rfl⟩ := head_drop q
    exact c2 h1

/-! ### blocks, each sorted -/
def blks (le : α → α → Bool) (s : Nat) : Nat → List α → List α
  | 0, _ => []
  | f + 1, l => if l.length ≤ s then srt le l else srt le (l.take s) ++ blks le s f (l.drop s)
/-- blocks of s, each sorted -/
def bk (le : α → α → Bool) (s : Nat) (l : List α) : List α := blks le s (l.length + 1) l
theorem blks_fuel {s : Nat} (hs : 0 < s) : ∀ (f g : Nat) (l : List α), l.length < f → l.length < g → blks le s f l = blks le s g l
  | f + 1, g + 1, l, h1, h2 => by
    unfold blks
    split
    · rfl
    · rw [blks_fuel hs f g (l.drop s) (by rw [List.length_drop]; omega) (by rw [List.length_drop]; omega)]
theorem bk_small {s : Nat} {l : List α} (h : l.length ≤ s) : bk le s l = srt le l := by unfold bk blks; rw [if_pos h]
theorem bk_step {s : Nat} (hs : 0 < s) {l : List α} (h : s ≤ l.length) : bk le s l = srt le (l.take s) ++ bk le s (l.drop s) := by
  by_cases e : l.length ≤ s
  · rw [bk_small e, List.take_of_length_le e, List.drop_eq_nil_of_le e, bk_small (by simp)]
    simp [srt_nil]
  · unfold bk
    rw [show blks le s (l.length + 1) l = srt le (l.take s) ++ blks le s l.length (l.drop s) from if_neg e]
    congr 1
    exact blks_fuel hs _ _ _ (by rw [List.length_drop]; omega) (by rw [List.length_drop]; omega)
theorem bk_len {s : Nat} (hs : 0 < s) : ∀ (k : Nat) (l : List α), l.length ≤ k → (bk le s l).length = l.length
  | k, l, h => by
    by_cases e : l.length ≤ s
    · rw [bk_small e, srt_len]
    · cases k with
      | zero => omega
      | succ k =>
        rw [bk_step hs (by omega), List.length_append, srt_len, bk_len hs k (l.drop s) (by rw [List.length_drop]; omega), List.length_take, List.length_drop]
        omega
/-- two blocks, merged, are one of twice as many -/
theorem bk_two (hp : Pre le) {s : Nat} (l : List α) : mrg le (srt le (l.take s)) (srt le ((l.drop s).take s)) = srt le (l.take (2 * s)) := by
  rw [← srt_append hp, show 2 * s = s + s by omega, List.take_add]
end
end Go.Proofs.Ytginbjcpcgphgaa
end

/- the order of versions: an order in which any two stand. By an AI agent. -/
section
set_option linter.unusedVariables false
set_option linter.unusedSimpArgs false
namespace Go.Proofs.Ytginbjcpcgphgaa
open Go.RowKit

theorem cmpI_lt {x y : Int} : Lib.compareInt x y < 0 ↔ x < y := by
  unfold Lib.compareInt
  split
  · simp; omega
  · split
    · simp; omega
    · simp; omega
theorem cmpI_neg (x y : Int) : Lib.compareInt y x = - Lib.compareInt x y := by
  unfold Lib.compareInt
  by_cases h1 : x < y
  · rw [if_pos h1, if_neg (by omega), if_pos h1]; rfl
  · by_cases h2 : y < x
    · rw [if_pos h2, if_neg h1, if_pos h2]
    · rw [if_neg h2, if_neg h1, if_neg h1, if_neg h2]; rfl
theorem cmpV_neg : ∀ xs ys : List Int, cmpV ys xs = - cmpV xs ys
  | [], [] => rfl
  | [], _ :: _ => rfl
  | _ :: _, [] => rfl
  | x :: xs, y :: ys => by
    unfold cmpV
    rw [cmpI_neg x y]
    by_cases h : Lib.compareInt x y = 0
    · rw [if_pos h, if_pos (by omega), cmpV_neg xs ys]
    · rw [if_neg h, if_neg (by omega)]
theorem cmpV_zero : ∀ {xs ys : List Int}, cmpV xs ys = 0 ↔ xs = ys
  | [], [] => by simp [cmpV]
  | [], _ :: _ => by simp [cmpV]
  | _ :: _, [] => by simp [cmpV]
  | x :: xs, y :: ys => by
    unfold cmpV
    by_cases h : Lib.compareInt x y = 0
    · rw [if_pos h, cmpV_zero, List.cons.injEq]
      have := compare_zero.1 h
      simp [this]
    · rw [if_neg h]
      constructor
      · exact fun e => absurd e h
      · intro e
        rw [List.cons.injEq] at e
        exact absurd (compare_zero.2 e.1) h
theorem cmpV_trans : ∀ {xs ys zs : List Int}, cmpV xs ys < 0 → cmpV ys zs < 0 → cmpV xs zs < 0
  | [], [], _, h, _ => by simp [cmpV] at h
  | [], _ :: _, [], _, h => by simp [cmpV] at h
  | [], _ :: _, _ :: _, _, _ => by simp [cmpV]
  | _ :: _, [], _, h, _ => by simp [cmpV] at h
  | _ :: _, _ :: _, [], _, h => by simp [cmpV] at h
  | x :: xs, y :: ys, z :: zs, h1, h2 => by
    unfold cmpV at h1 h2 ⊢
    by_cases e1 : Lib.compareInt x y = 0
    · have f1 := compare_zero.1 e1
      subst f1
      rw [if_pos e1] at h1
      by_cases e2 : Lib.compareInt x z = 0
      · rw [if_pos e2] at h2 ⊢
        exact cmpV_trans h1 h2
      · rw [if_neg e2] at h2 ⊢
        exact h2
    · rw [if_neg e1] at h1
      have g1 := cmpI_lt.1 h1
      by_cases e2 : Lib.compareInt y z = 0
      · have f2 := compare_zero.1 e2
        subst f2
        rw [if_neg e1]; exact h1
      · rw [if_neg e2] at h2
        have g2 := cmpI_lt.1 h2
        have g3 : Lib.compareInt x z < 0 := cmpI_lt.2 (by omega)
        rw [if_neg (by omega)]; exact g3
/-- a version stands ahead of another one -/
def LtV (a b : VerL) : Prop :=
  timeL b < timeL a ∨ (timeL b = timeL a ∧ (b.origin < a.origin ∨ (b.origin = a.origin ∧ (b.tx < a.tx ∨ (b.tx = a.tx ∧ (a.at_.length < b.at_.length ∨ (a.at_.length = b.at_.length ∧ cmpV a.at_ b.at_ < 0)))))))
/-- of one stamp -/
def AlV (a b : VerL) : Prop := timeL a = timeL b ∧ a.origin = b.origin ∧ a.tx = b.tx ∧ a.at_ = b.at_
theorem orL_cons (x : Int) (xs : List Int) : orL (x :: xs) = if x = 0 then orL xs else x := rfl
theorem orderL_lt {a b : VerL} : orderL a b < 0 ↔ LtV a b := by
  unfold orderL LtV
  rw [orL_cons]
  by_cases h1 : Lib.compareInt (timeL b) (timeL a) = 0
  · have e1 := compare_zero.1 h1
    rw [if_pos h1, orL_cons]
    by_cases h2 : Lib.compareInt b.origin a.origin = 0
    · have e2 := compare_zero.1 h2
      rw [if_pos h2, orL_cons]
      by_cases h3 : Lib.compareInt b.tx a.tx = 0
      · have e3 := compare_zero.1 h3
        rw [if_pos h3, orL_cons]
        by_cases h4 : Lib.compareInt (a.at_.length : Int) (b.at_.length : Int) = 0
        · have e4 := compare_zero.1 h4
          rw [if_pos h4, orL_cons]
          have e5 : orL [] = 0 := rfl
          by_cases h5 : cmpV a.at_ b.at_ = 0
          · rw [if_pos h5, e5]
            constructor
            · intro h; omega
            · intro h; omega
          · rw [if_neg h5]
            constructor
            · intro h; exact .inr ⟨e1, .inr ⟨e2, .inr ⟨e3, .inr ⟨by omega, h⟩⟩⟩⟩
            · intro h; omega
        · rw [if_neg h4, cmpI_lt]
          have e4 : (a.at_.length : Int) ≠ (b.at_.length : Int) := fun e => h4 (compare_zero.2 e)
          omega
      · rw [if_neg h3, cmpI_lt]
        have e3 : b.tx ≠ a.tx := fun e => h3 (compare_zero.2 e)
        omega
    · rw [if_neg h2, cmpI_lt]
      have e2 : b.origin ≠ a.origin := fun e => h2 (compare_zero.2 e)
      omega
  · rw [if_neg h1, cmpI_lt]
    have e1 : timeL b ≠ timeL a := fun e => h1 (compare_zero.2 e)
    omega
theorem orderL_zero {a b : VerL} : orderL a b = 0 ↔ AlV a b := by
  unfold orderL AlV
  rw [orL_cons]
  by_cases h1 : Lib.compareInt (timeL b) (timeL a) = 0
  · have e1 := compare_zero.1 h1
    rw [if_pos h1, orL_cons]
    by_cases h2 : Lib.compareInt b.origin a.origin = 0
    · have e2 := compare_zero.1 h2
      rw [if_pos h2, orL_cons]
      by_cases h3 : Lib.compareInt b.tx a.tx = 0
      · have e3 := compare_zero.1 h3
        rw [if_pos h3, orL_cons]
        by_cases h4 : Lib.compareInt (a.at_.length : Int) (b.at_.length : Int) = 0
        · rw [if_pos h4, orL_cons]
          have e5 : orL [] = 0 := rfl
          by_cases h5 : cmpV a.at_ b.at_ = 0
          · rw [if_pos h5, e5]
            exact ⟨fun _ => ⟨e1.symm, e2.symm, e3.symm, cmpV_zero.1 h5⟩, fun _ => rfl⟩
          · rw [if_neg h5]
            exact ⟨fun e => absurd e h5, fun e => absurd (cmpV_zero.2 e.2.2.2) h5⟩
        · rw [if_neg h4]
          exact ⟨fun e => absurd e h4, fun e => absurd (compare_zero.2 (by rw [e.2.2.2])) h4⟩
      · rw [if_neg h3]
        exact ⟨fun e => absurd e h3, fun e => absurd (compare_zero.2 e.2.2.1.symm) h3⟩
    · rw [if_neg h2]
      exact ⟨fun e => absurd e h2, fun e => absurd (compare_zero.2 e.2.1.symm) h2⟩
  · rw [if_neg h1]
    exact ⟨fun e => absurd e h1, fun e => absurd (compare_zero.2 e.1.symm) h1⟩
theorem LtV.trans {a b c : VerL} (h : LtV a b) (k : LtV b c) : LtV a c := by
  have ht := fun (x : cmpV a.at_ b.at_ < 0) (y : cmpV b.at_ c.at_ < 0) => cmpV_trans x y
  unfold LtV at *
  omega
theorem LtV.irrefl {a : VerL} (h : LtV a a) : False := by
  have hz : cmpV a.at_ a.at_ = 0 := cmpV_zero.2 rfl
  unfold LtV at h
  omega
theorem ltV_total (a b : VerL) : LtV a b ∨ AlV a b ∨ LtV b a := by
  have h1 := cmpV_neg a.at_ b.at_
  have h2 := @cmpV_zero a.at_ b.at_
  unfold LtV AlV
  by_cases e : a.at_ = b.at_
  · rw [e]; simp; omega
  · have : cmpV a.at_ b.at_ ≠ 0 := fun q => e (h2.1 q)
    omega
theorem AlV.refl (a : VerL) : AlV a a := ⟨rfl, rfl, rfl, rfl⟩
theorem AlV.symm {a b : VerL} (h : AlV a b) : AlV b a := ⟨h.1.symm, h.2.1.symm, h.2.2.1.symm, h.2.2.2.symm⟩
theorem AlV.trans {a b c : VerL} (h : AlV a b) (k : AlV b c) : AlV a c := ⟨h.1.trans k.1, h.2.1.trans k.2.1, h.2.2.1.trans k.2.2.1, h.2.2.2.trans k.2.2.2⟩
theorem LtV.al {a b c : VerL} (h : LtV a b) (k : AlV b c) : LtV a c := by
  obtain ⟨k1, k2, k3, k4⟩ := k
  unfold LtV at *
  rw [← k1, ← k2, ← k3, ← k4]; exact h
theorem AlV.lt {a b c : VerL} (k : AlV a b) (h : LtV b c) : LtV a c := by
  obtain ⟨k1, k2, k3, k4⟩ := k
  unfold LtV at *
  rw [k1, k2, k3, k4]; exact h
/-- ahead of, or of one stamp -/
def leV (a b : VerL) : Bool := !(decide (orderL b a < 0))
theorem leV_iff {a b : VerL} : leV a b = true ↔ ¬ LtV b a := by
  unfold leV
  rw [Bool.not_eq_true', decide_eq_false_iff_not, orderL_lt]
theorem leV_pre : Pre leV := by
  refine ⟨fun a b => ?_, fun a b c h1 h2 => ?_⟩
  · rw [leV_iff, leV_iff]
    by_cases h : LtV b a
    · exact .inr (fun k => (h.trans k).irrefl)
    · exact .inl h
  · rw [leV_iff] at *
    intro h
    rcases ltV_total a b with q | q | q
    · exact h2 (h.trans q)
    · exact h2 (h.al q)
    · exact h1 q
end Go.Proofs.Ytginbjcpcgphgaa
end
