/- versions' keys in bytes: plain definitions and their laws. By an AI agent. -/
import Derived.Test.YtgdlcoicejgdkaaDoorHead
import Derived.Test.YtgdlcoicejgdkaaDoorVer1
namespace Go.Proofs.YtgdlcoicejgdkaaDoor
open Go.RowKit Go.Shelf

def validK (v : VerL) : Bool := isKeyB v.key && (validL v.at_ && (decide (0 ≤ v.origin) && ((decide (v.origin < (v.at_.length : Int)) || decide (v.origin = 254)) && (decide (0 ≤ v.tx) && decide (v.tx ≤ 281474976710655)))))
def putB (x : Int) (n : Nat) : List UInt8 := bytesN (putN x n n)
/-- what stands behind a key's head -/
def tailK (v : VerL) : List UInt8 := putB (281474976710655 - timeL v) 6 ++ (putB (255 - v.origin) 1 ++ (putB (281474976710655 - v.tx) 6 ++ putL v.at_))
def putK (v : VerL) : List UInt8 := headL v.key.data.toList ++ tailK v
theorem putB_len (x : Int) (n : Nat) : (putB x n).length = n := by unfold putB; rw [bytesN_len, putN_len]

structure ValidK (v : VerL) : Prop where
  key : isKeyB v.key = true
  at_ : validL v.at_ = true
  o0 : 0 ≤ v.origin
  o1 : v.origin < (v.at_.length : Int) ∨ v.origin = 254
  t0 : 0 ≤ v.tx
  t1 : v.tx ≤ 281474976710655
theorem validK_iff (v : VerL) : validK v = true ↔ ValidK v := by
  simp only [validK, Bool.and_eq_true, Bool.or_eq_true, decide_eq_true_eq]
  exact ⟨fun ⟨a, b, c, d, e, f⟩ => ⟨a, b, c, d, e, f⟩, fun h => ⟨h.key, h.at_, h.o0, h.o1, h.t0, h.t1⟩⟩
theorem ValidK.len {v : VerL} (h : ValidK v) : 1 ≤ v.at_.length ∧ v.at_.length ≤ 8 := ⟨(valid_parts h.at_).1, (valid_parts h.at_).2.1⟩
theorem ValidK.o255 {v : VerL} (h : ValidK v) : v.origin ≤ 254 := by
  have := h.len
  rcases h.o1 with k | k <;> omega
theorem maxL_mem {xs : List Int} (h : xs ≠ []) : maxL xs ∈ xs ∧ ∀ x ∈ xs, x ≤ maxL xs := by
  cases xs with
  | nil => exact absurd rfl h
  | cons a l =>
    have key : ∀ (l : List Int) (a : Int), (l.foldl max a = a ∨ l.foldl max a ∈ l) ∧ a ≤ l.foldl max a ∧ ∀ x ∈ l, x ≤ l.foldl max a := by
      intro l
      induction l with
      | nil => intro a; exact ⟨.inl rfl, Int.le_refl _, fun x hx => by cases hx⟩
      | cons b l ih =>
        intro a
        obtain ⟨h1, h2, h3⟩ := ih (max a b)
        rw [List.foldl_cons]
        refine ⟨?_, by omega, ?_⟩
        · rcases h1 with h1 | h1
          · by_cases hab : a ≤ b
            · right; rw [h1, show max a b = b by omega]; exact List.mem_cons_self ..
            · left; rw [h1]; omega
          · exact .inr (List.mem_cons_of_mem _ h1)
        · intro x hx
          rcases List.mem_cons.1 hx with rfl | hx
          · omega
          · exact h3 x hx
    obtain ⟨h1, h2, h3⟩ := key l a
    show l.foldl max a ∈ a :: l ∧ ∀ x ∈ a :: l, x ≤ l.foldl max a
    refine ⟨?_, ?_⟩
    · rcases h1 with h1 | h1
      · rw [h1]; exact List.mem_cons_self ..
      · exact List.mem_cons_of_mem _ h1
    · intro x hx
      rcases List.mem_cons.1 hx with rfl | hx
      · exact h2
      · exact h3 x hx
theorem valid_mem {xs : List Int} (h : validL xs = true) {x : Int} (hx : x ∈ xs) : 0 ≤ x ∧ x < 281474976710656 := by
  obtain ⟨j, hj, rfl⟩ := List.getElem_of_mem hx
  have := (valid_parts h).2.2 j hj
  rwa [nth_eq hj] at this
theorem ValidK.time {v : VerL} (h : ValidK v) : 0 ≤ timeL v ∧ timeL v ≤ 281474976710655 := by
  have hl := h.len
  unfold timeL
  split
  · have hm := (maxL_mem (xs := v.at_) (by intro e; rw [e] at hl; simp at hl)).1
    have := valid_mem h.at_ hm
    omega
  · split
    · have := (valid_parts h.at_).2.2 v.origin.toNat (by omega)
      omega
    · omega

/-! ### keys' heads -/
theorem head_split : ∀ (a b x y : List UInt8), headL a ++ x = headL b ++ y → a = b ∧ x = y
  | [], [], x, y, h => by simpa [headL, repL] using h
  | [], c :: b, x, y, h => by
    exfalso
    by_cases hc : c = 0
    · simp [headL, repL, repC, hc] at h
    · simp [headL, repL, repC, hc] at h; exact hc h.1.symm
  | c :: a, [], x, y, h => by
    exfalso
    by_cases hc : c = 0
    · simp [headL, repL, repC, hc] at h
    · simp [headL, repL, repC, hc] at h
  | c :: a, d :: b, x, y, h => by
    have e : ∀ (c : UInt8) (l z : List UInt8), headL (c :: l) ++ z = repC c ++ (headL l ++ z) := fun c l z => by simp [headL, repL]
    rw [e, e] at h
    by_cases hc : c = 0
    · by_cases hd : d = 0
      · subst hc; subst hd
        obtain ⟨h1, h2⟩ := head_split a b x y (List.append_cancel_left h)
        exact ⟨by rw [h1], h2⟩
      · exfalso
        simp [repC, hc, hd] at h
        exact hd h.1.symm
    · by_cases hd : d = 0
      · exfalso
        simp [repC, hc, hd] at h
      · simp only [repC, hc, hd, if_false, List.cons_append, List.nil_append, List.cons.injEq] at h
        obtain ⟨h1, h2⟩ := head_split a b x y h.2
        exact ⟨by rw [h.1, h1], h2⟩
theorem head_inj {a b : List UInt8} (h : headL a = headL b) : a = b := (head_split a b [] [] (by rw [h])).1
theorem head_no_prefix {a b x : List UInt8} (h : headL b = headL a ++ x) : a = b := ((head_split b a [] x (by simpa using h)).1).symm
theorem headL_len (l : List UInt8) : 2 ≤ (headL l).length ∧ (headL l).length ≤ 2 * l.length + 2 := by
  have := repL_len l
  unfold headL
  rw [List.length_append]
  simp; omega

/-! ### order -/
def less (x y : List UInt8) : Bool := Op.bytesLess x y
theorem less_nil (x : List UInt8) : less x [] = false := by unfold less; cases x <;> rfl
theorem less_cons (a : UInt8) (x : List UInt8) (b : UInt8) (y : List UInt8) : less (a :: x) (b :: y) = (decide (a < b) || (a == b && less x y)) := rfl
theorem less_same (p x y : List UInt8) : less (p ++ x) (p ++ y) = less x y := by
  induction p with
  | nil => rfl
  | cons a p ih =>
    rw [List.cons_append, List.cons_append, less_cons, ih]
    simp
/-- bytes of one length decide ahead of what stands behind them -/
theorem less_front : ∀ (p q x y : List UInt8), p.length = q.length → p ≠ q → less (p ++ x) (q ++ y) = less p q
  | [], [], _, _, _, h => absurd rfl h
  | [], _ :: _, _, _, h, _ => by simp at h
  | _ :: _, [], _, _, h, _ => by simp at h
  | a :: p, b :: q, x, y, h, hne => by
    rw [List.cons_append, List.cons_append, less_cons, less_cons]
    by_cases hab : a = b
    · subst hab
      rw [less_front p q x y (by simpa using h) (fun e => hne (by rw [e]))]
    · rw [show (a == b) = false from by simpa using hab, Bool.false_and, Bool.false_and]
theorem less_head : ∀ (a b x y : List UInt8), a ≠ b → less (headL a ++ x) (headL b ++ y) = less a b
  | [], [], _, _, h => absurd rfl h
  | [], c :: b, x, y, _ => by
    have e : less [] (c :: b) = true := rfl
    rw [e]
    by_cases hc : c = 0
    · subst hc
      rw [show headL [] ++ x = 0 :: 1 :: x from rfl, show headL (0 :: b) ++ y = 0 :: 255 :: (headL b ++ y) from by simp [headL, repL, repC], less_cons, less_cons]
      rfl
    · have h0 : (0 : UInt8) < c := by
        rw [UInt8.lt_iff_toNat_lt]
        have : c.toNat ≠ 0 := fun e => hc (UInt8.toNat_inj.1 (by rw [e]; rfl))
        show 0 < c.toNat; omega
      rw [show headL [] ++ x = 0 :: 1 :: x from rfl, show headL (c :: b) ++ y = c :: (headL b ++ y) from by simp [headL, repL, repC, hc], less_cons, decide_eq_true h0]
      rfl
  | c :: a, [], x, y, _ => by
    rw [less_nil]
    by_cases hc : c = 0
    · subst hc
      rw [show headL [] ++ y = 0 :: 1 :: y from rfl, show headL (0 :: a) ++ x = 0 :: 255 :: (headL a ++ x) from by simp [headL, repL, repC], less_cons, less_cons]
      rfl
    · have h0 : ¬ c < (0 : UInt8) := by rw [UInt8.lt_iff_toNat_lt]; show ¬ c.toNat < 0; omega
      have h1 : (c == (0 : UInt8)) = false := by simpa using hc
      rw [show headL [] ++ y = 0 :: 1 :: y from rfl, show headL (c :: a) ++ x = c :: (headL a ++ x) from by simp [headL, repL, repC, hc], less_cons, decide_eq_false h0, h1]
      rfl
  | c :: a, d :: b, x, y, hne => by
    have e : ∀ (c : UInt8) (l z : List UInt8), headL (c :: l) ++ z = repC c ++ (headL l ++ z) := fun c l z => by simp [headL, repL]
    rw [e, e, less_cons]
    by_cases hcd : c = d
    · subst hcd
      rw [less_same, less_head a b x y (fun h => hne (by rw [h]))]
      simp
    · have h1 : (c == d) = false := by simpa using hcd
      rw [h1, Bool.false_and, Bool.or_false]
      by_cases hc : c = 0
      · subst hc
        have hd : d ≠ 0 := fun h => hcd h.symm
        rw [show repC 0 = [0, 255] from rfl, show repC d = [d] from by simp [repC, hd]]
        show less (0 :: 255 :: (headL a ++ x)) (d :: (headL b ++ y)) = _
        rw [less_cons, h1]; simp
      · by_cases hd : d = 0
        · subst hd
          rw [show repC 0 = [0, 255] from rfl, show repC c = [c] from by simp [repC, hc]]
          show less (c :: (headL a ++ x)) (0 :: 255 :: (headL b ++ y)) = _
          rw [less_cons, h1]; simp
        · rw [show repC c = [c] from by simp [repC, hc], show repC d = [d] from by simp [repC, hd]]
          show less (c :: (headL a ++ x)) (d :: (headL b ++ y)) = _
          rw [less_cons, h1]; simp
end Go.Proofs.YtgdlcoicejgdkaaDoor
