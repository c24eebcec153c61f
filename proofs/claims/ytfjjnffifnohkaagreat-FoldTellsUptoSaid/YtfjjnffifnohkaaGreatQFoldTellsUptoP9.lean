import Derived.Test.YtfjjnffifnohkaaGreatQFoldTellsUptoP1

/- stable merges and sorts: plain laws. By an AI agent. -/
section
set_option linter.unusedVariables false
set_option linter.unusedSectionVars false
namespace Go.Proofs.YtfjjnffifnohkaaGreat

section
variable {α : Type} {le : α → α → Bool}
/-- an order in which any two stand, some of them alike -/
structure Pre (le : α → α → Bool) : Prop where
  total : ∀ a b, le a b = true ∨ le b a = true
  trans : ∀ a b c, le a b = true → le b c = true → le a c = true
theorem Pre.refl (h : Pre le) (a : α) : le a a = true := (h.total a a).elim id id
theorem Pre.flip (h : Pre le) {a b : α} (q : le a b = false) : le b a = true := (h.total a b).resolve_left (by rw [q]; decide)
abbrev mrg (le : α → α → Bool) (l r : List α) : List α := l.merge r le
theorem mrg_cons (a b : α) (l r : List α) : mrg le (a :: l) (b :: r) = if le a b then a :: mrg le l (b :: r) else b :: mrg le (a :: l) r := List.cons_merge_cons le a b l r
theorem mrg_nil (r : List α) : mrg le [] r = r := List.nil_merge r
theorem mrg_right (l : List α) : mrg le l [] = l := List.merge_right l
/-- what is cut where it may be cut is merged in two parts -/
theorem mrg_split : ∀ (L1 R1 L2 R2 : List α), (∀ l ∈ L1, ∀ r ∈ R2.head?, le l r = true) → (∀ r ∈ R1, ∀ l ∈ L2.head?, le l r = false) → mrg le (L1 ++ L2) (R1 ++ R2) = mrg le L1 R1 ++ mrg le L2 R2
  | [], [], L2, R2, _, _ => by rw [mrg_nil]; rfl
  | a :: L1, [], L2, R2, h1, h2 => by
    have ih := mrg_split L1 [] L2 R2 (fun l q => h1 l (by simp [q])) (fun r q => by cases q)
    rw [List.nil_append, mrg_right] at ih ⊢
    cases R2 with
    | nil => rw [mrg_right, mrg_right]
    | cons b R2 =>
      rw [List.cons_append, mrg_cons, if_pos (h1 a (by simp) b (by simp)), ih, List.cons_append]
  | [], b :: R1, L2, R2, h1, h2 => by
    have ih := mrg_split [] R1 L2 R2 (fun r q => by cases q) (fun l q => h2 l (by simp [q]))
    rw [List.nil_append, mrg_nil] at ih ⊢
    cases L2 with
    | nil => rw [mrg_nil, mrg_nil]
    | cons a L2 =>
      rw [List.cons_append, mrg_cons, if_neg (by rw [h2 b (by simp) a (by simp)]; decide), ih, List.cons_append]
  | a :: L1, b :: R1, L2, R2, h1, h2 => by
    rw [List.cons_append, List.cons_append, mrg_cons, mrg_cons]
    split
    · have ih := mrg_split L1 (b :: R1) L2 R2 (fun l q => h1 l (by simp [q])) h2
      rw [List.cons_append] at ih
      rw [ih, List.cons_append]
    · have ih := mrg_split (a :: L1) R1 L2 R2 h1 (fun l q => h2 l (by simp [q]))
      rw [List.cons_append] at ih
      rw [ih, List.cons_append]
  termination_by L1 R1 => L1.length + R1.length
/-- one that is put into its place -/
theorem mrg_one (x : α) (A1 A2 : List α) (h1 : ∀ a ∈ A1, le a x = true) (h2 : ∀ a ∈ A2.head?, le a x = false) : mrg le (A1 ++ A2) [x] = A1 ++ x :: A2 := by
  have e1 : mrg le A1 [x] = A1 ++ [x] := by
    have := mrg_split (le := le) A1 [] [] [x] (fun l q r hr => by simp at hr; subst hr; exact h1 l q) (fun r q => by cases q)
    rw [List.append_nil, List.nil_append, mrg_right, mrg_nil] at this
    exact this
  have := mrg_split (le := le) A1 [x] A2 [] (fun l q r hr => by simp at hr) (fun r q l hl => by simp at q; subst q; exact h2 l hl)
  rw [List.append_nil, mrg_right, e1] at this
  rw [this]; simp
theorem mrg_first (x : α) (B1 B2 : List α) (h1 : ∀ b ∈ B1, le x b = false) (h2 : ∀ b ∈ B2.head?, le x b = true) : mrg le [x] (B1 ++ B2) = B1 ++ x :: B2 := by
  have e1 : mrg le [x] B2 = x :: B2 := by
    have := mrg_split (le := le) [x] [] [] B2 (fun l q r hr => by simp at q; subst q; exact h2 r hr) (fun r q => by cases q)
    rw [List.append_nil, List.nil_append, mrg_right, mrg_nil] at this
    exact this
  have := mrg_split (le := le) [] B1 [x] B2 (fun l q => by cases q) (fun r q l hl => by simp at hl; subst hl; exact h1 r q)
  rw [List.nil_append, mrg_nil, e1] at this
  exact this
theorem mrg_assoc (h : Pre le) : ∀ (A B C : List α), mrg le (mrg le A B) C = mrg le A (mrg le B C)
  | [], B, C => by rw [mrg_nil, mrg_nil]
  | a :: A, [], C => by rw [mrg_right, mrg_nil]
  | a :: A, b :: B, [] => by rw [mrg_right, mrg_right]
  | a :: A, b :: B, c :: C => by
    have i1 := mrg_assoc h A (b :: B) (c :: C)
    have i2 := mrg_assoc h (a :: A) B (c :: C)
    have i3 := mrg_assoc h (a :: A) (b :: B) C
    rw [mrg_cons a b, mrg_cons b c]
    cases hab : le a b
    · cases hbc : le b c
      · have hac : le a c = false := by
          cases e : le a c with
          | false => rfl
          | true => rw [h.trans a c b e (h.flip hbc)] at hab; cases hab
        simp only [Bool.false_eq_true, if_false]
        rw [mrg_cons b c, if_neg (by rw [hbc]; decide), mrg_cons a c, if_neg (by rw [hac]; decide), ← i3, mrg_cons a b, if_neg (by rw [hab]; decide)]
      · simp only [Bool.false_eq_true, if_false, if_true]
        rw [mrg_cons b c, if_pos hbc, mrg_cons a b, if_neg (by rw [hab]; decide), i2]
    · cases hbc : le b c
      · cases hac : le a c
        · simp only [Bool.false_eq_true, if_false, if_true]
          rw [mrg_cons a c, if_neg (by rw [hac]; decide), mrg_cons a c, if_neg (by rw [hac]; decide), ← i3, mrg_cons a b, if_pos hab]
        · simp only [Bool.false_eq_true, if_false, if_true]
          rw [mrg_cons a c, if_pos hac, mrg_cons a c, if_pos hac, i1, mrg_cons b c, if_neg (by rw [hbc]; decide)]
      · simp only [if_true]
        rw [mrg_cons a c, if_pos (h.trans a b c hab hbc), mrg_cons a b, if_pos hab, i1, mrg_cons b c, if_pos hbc]
  termination_by A B C => A.length + B.length + C.length
/-- sorted -/
abbrev Srt (le : α → α → Bool) (l : List α) : Prop := l.Pairwise (fun a b => le a b = true)
theorem Srt.mrg (h : Pre le) {l r : List α} (hl : Srt le l) (hr : Srt le r) : Srt le (mrg le l r) :=
  List.pairwise_merge h.trans (fun a b => by rcases h.total a b with q | q <;> simp [q]) _ _ hl hr
/-- the stable sort -/
def srt (le : α → α → Bool) (l : List α) : List α := l.foldr (fun x l => Go.Proofs.YtfjjnffifnohkaaGreat.mrg le [x] l) []
theorem srt_nil : srt le ([] : List α) = [] := rfl
theorem srt_cons (x : α) (l : List α) : srt le (x :: l) = mrg le [x] (srt le l) := rfl
theorem srt_one (x : α) : srt le [x] = [x] := by rw [srt_cons, srt_nil, mrg_right]
theorem srt_append (h : Pre le) : ∀ A B : List α, srt le (A ++ B) = mrg le (srt le A) (srt le B)
  | [], B => by rw [srt_nil, mrg_nil]; rfl
  | a :: A, B => by rw [List.cons_append, srt_cons, srt_cons, srt_append h A B, mrg_assoc h]
theorem srt_sorted (h : Pre le) : ∀ l : List α, Srt le (srt le l)
  | [] => List.Pairwise.nil
  | a :: l => Srt.mrg h (List.pairwise_singleton _ _) (srt_sorted h l)
theorem srt_perm : ∀ l : List α, (srt le l).Perm l
  | [] => List.Perm.refl _
  | a :: l => (List.merge_perm_append (le := le) (xs := [a]) (ys := srt le l)).trans ((srt_perm l).cons a)
theorem srt_len (l : List α) : (srt le l).length = l.length := srt_perm l |>.length_eq
end
end Go.Proofs.YtfjjnffifnohkaaGreat
end

/- places in lists; where a merge may be cut; blocks that are sorted: plain laws. By an AI agent. -/
section
set_option linter.unusedVariables false
set_option linter.unusedSectionVars false
namespace Go.Proofs.YtfjjnffifnohkaaGreat

section
variable {α : Type} [Inhabited α] {le : α → α → Bool}
def el (xs : List α) (j : Nat) : α := (xs[j]?).getD default
theorem el_eq {xs : List α} {j : Nat} (h : j < xs.length) : el xs j = xs[j] := by simp [el, h]
theorem el_left {A : List α} (B : List α) {j : Nat} (h : j < A.length) : el (A ++ B) j = el A j := by
  unfold el; rw [List.getElem?_append_left h]
theorem el_right (A B : List α) (j : Nat) : el (A ++ B) (A.length + j) = el B j := by
  unfold el; rw [List.getElem?_append_right (by omega)]; congr 1; rw [Nat.add_sub_cancel_left]
theorem el_mem {xs : List α} {j : Nat} (h : j < xs.length) : el xs j ∈ xs := by rw [el_eq h]; exact List.getElem_mem h
theorem mem_el {xs : List α} {x : α} (h : x ∈ xs) : ∃ j, j < xs.length ∧ el xs j = x := by
  obtain ⟨j, hj, e⟩ := List.mem_iff_getElem.1 h
  exact ⟨j, hj, by rw [el_eq hj]; exact e⟩
theorem take_el {xs : List α} {j : Nat} (h : j < xs.length) : xs.take (j + 1) = xs.take j ++ [el xs j] := by
  rw [el_eq h, List.take_add_one, List.getElem?_eq_getElem h]; rfl
theorem drop_el {xs : List α} {j : Nat} (h : j < xs.length) : xs.drop j = el xs j :: xs.drop (j + 1) := by
  rw [el_eq h]; exact List.drop_eq_getElem_cons h
theorem srt_el {xs : List α} (h : Srt le xs) {i j : Nat} (hij : i < j) (hj : j < xs.length) : le (el xs i) (el xs j) = true := by
  rw [el_eq (by omega), el_eq hj]
  exact List.pairwise_iff_getElem.1 h i j (by omega) hj hij
theorem srt_le {xs : List α} (hp : Pre le) (h : Srt le xs) {i j : Nat} (hij : i ≤ j) (hj : j < xs.length) : le (el xs i) (el xs j) = true := by
  rcases Nat.lt_or_eq_of_le hij with q | q
  · exact srt_el h q hj
  · subst q; exact hp.refl _
theorem head_drop {xs : List α} {e : Nat} {x : α} (h : x ∈ (xs.drop e).head?) : e < xs.length ∧ x = Go.Proofs.YtfjjnffifnohkaaGreat.el xs e := by
  by_cases hl : e < xs.length
  · rw [drop_el hl] at h
    simp at h
    exact ⟨hl, h.symm⟩
  · rw [List.drop_eq_nil_of_le (by omega)] at h
    simp at h
/-- where a merge may be cut -/
theorem sym_split (hp : Pre le) {L R : List α} (hL : Srt le L) (hR : Srt le R) {s e : Nat} (hs : s ≤ L.length) (he : e ≤ R.length) (c1 : 0 < s → e < R.length → le (el L (s - 1)) (el R e) = true) (c2 : 0 < e → s < L.length → le (el L s) (el R (e - 1)) = false) :
    mrg le L R = mrg le (L.take s) (R.take e) ++ mrg le (L.drop s) (R.drop e) := by
  have := mrg_split (le := le) (L.take s) (R.take e) (L.drop s) (R.drop e) (fun l q r hr => ?_) (fun r q l hl => ?_)
  · rw [List.take_append_drop, List.take_append_drop] at this
    exact this
  · obtain ⟨h1, rfl⟩ := head_drop hr
    obtain ⟨j, hj, rfl⟩ := mem_el q
    rw [List.length_take] at hj
    have e1 : el (L.take s) j = el L j := by unfold el; rw [List.getElem?_take_of_lt (by omega)]
    rw [e1]
    exact hp.trans _ _ _ (srt_le hp hL (show j ≤ s - 1 by omega) (by omega)) (c1 (by omega) h1)
  · obtain ⟨h1, rfl⟩ := head_drop hl
    obtain ⟨j, hj, rfl⟩ := mem_el q
    rw [List.length_take] at hj
    have e1 : el (R.take e) j = el R j := by unfold el; rw [List.getElem?_take_of_lt (by omega)]
    rw [e1]
    cases h : le (el L s) (el R j) with
    | false => rfl
    | true =>
      have := hp.trans _ _ _ h (srt_le hp hR (show j ≤ e - 1 by omega) (by omega))
      rw [c2 (by omega) h1] at this
      cases this
/-- one element is put into a sorted list -/
theorem one_first (hp : Pre le) (x : α) {R : List α} (hR : Srt le R) {i : Nat} (hi : i ≤ R.length) (c1 : 0 < i → le x (el R (i - 1)) = false) (c2 : i < R.length → le x (el R i) = true) : mrg le [x] R = R.take i ++ x :: R.drop i := by
  have := mrg_first (le := le) x (R.take i) (R.drop i) (fun b q => ?_) (fun b q => ?_)
  · rw [List.take_append_drop] at this
    exact this
  · obtain ⟨j, hj, rfl⟩ := mem_el q
    rw [List.length_take] at hj
    have e1 : el (R.take i) j = el R j := by unfold el; rw [List.getElem?_take_of_lt (by omega)]
    rw [e1]
    cases h : le x (el R j) with
    | false => rfl
    | true =>
      have := hp.trans _ _ _ h (srt_le hp hR (show j ≤ i - 1 by omega) (by omega))
      rw [c1 (by omega)] at this
      cases this
  · obtain ⟨h1, rfl⟩ := head_drop q
    exact c2 h1
theorem one_last (hp : Pre le) (x : α) {L : List α} (hL : Srt le L) {i : Nat} (hi : i ≤ L.length) (c1 : 0 < i → le (el L (i - 1)) x = true) (c2 : i < L.length → le (el L i) x = false) : mrg le L [x] = L.take i ++ x :: L.drop i := by
  have := mrg_one (le := le) x (L.take i) (L.drop i) (fun b q => ?_) (fun b q => ?_)
  · rw [List.take_append_drop] at this
    exact this
  · obtain ⟨j, hj, rfl⟩ := mem_el q
    rw [List.length_take] at hj
    have e1 : el (L.take i) j = el L j := by unfold el; rw [List.getElem?_take_of_lt (by omega)]
    rw [e1]
    exact hp.trans _ _ _ (srt_le hp hL (show j ≤ i - 1 by omega) (by omega)) (c1 (by omega))
  · obtain ⟨h1, rfl⟩ := head_drop q
    exact c2 h1

/-! ### blocks, each sorted -/
def blks (le : α → α → Bool) (s : Nat) : Nat → List α → List α
  | 0, _ => []
  | f + 1, l => if l.length ≤ s then srt le l else srt le (l.take s) ++ blks le s f (l.drop s)
/-- blocks of s, each sorted -/
def bk (le : α → α → Bool) (s : Nat) (l : List α) : List α := blks le s (l.length + 1) l
theorem blks_fuel {s : Nat} (hs : 0 < s) : ∀ (f g : Nat) (l : List α), l.length < f → l.length < g → blks le s f l = blks le s g l
  | f + 1, g + 1, l, h1, h2 => by
    unfold blks
    split
    · rfl
    · rw [blks_fuel hs f g (l.drop s) (by rw [List.length_drop]; omega) (by rw [List.length_drop]; omega)]
theorem bk_small {s : Nat} {l : List α} (h : l.length ≤ s) : bk le s l = srt le l := by unfold bk blks; rw [if_pos h]
theorem bk_step {s : Nat} (hs : 0 < s) {l : List α} (h : s ≤ l.length) : bk le s l = srt le (l.take s) ++ bk le s (l.drop s) := by
  by_cases e : l.length ≤ s
  · rw [bk_small e, List.take_of_length_le e, List.drop_eq_nil_of_le e, bk_small (by simp)]
    simp [srt_nil]
  · unfold bk
    rw [show blks le s (l.length + 1) l = srt le (l.take s) ++ blks le s l.length (l.drop s) from if_neg e]
    congr 1
    exact blks_fuel hs _ _ _ (by rw [List.length_drop]; omega) (by rw [List.length_drop]; omega)
theorem bk_len {s : Nat} (hs : 0 < s) : ∀ (k : Nat) (l : List α), l.length ≤ k → (bk le s l).length = l.length
  | k, l, h => by
    by_cases e : l.length ≤ s
    · rw [bk_small e, srt_len]
    · cases k with
      | zero => omega
      | succ k =>
        rw [bk_step hs (by omega), List.length_append, srt_len, bk_len hs k (l.drop s) (by rw [List.length_drop]; omega), List.length_take, List.length_drop]
        omega
/-- two blocks, merged, are one of twice as many -/
theorem bk_two (hp : Pre le) {s : Nat} (l : List α) : mrg le (srt le (l.take s)) (srt le ((l.drop s).take s)) = srt le (l.take (2 * s)) := by
  rw [← srt_append hp, show 2 * s = s + s by omega, List.take_add]
end
end Go.Proofs.YtfjjnffifnohkaaGreat
end
