import Derived.Test.YtginbjcpcgphgaaCore1
import Derived.Outline
import Derived.Deep.RegionHeld3
import Derived.Recover
import Derived.Laws.Pointers
import Derived.WalkLawsBesides

/- a block of one cell; recovered panics. By an AI agent. -/
section
namespace Go.Proofs.Ytginbjcpcgphgaa
open Go.RowKit

/-! ### a block of one cell -/
def C1 (w : World) (g : Nat) (v : Value) : Prop := ∃ t, w.heap[g]? = some (.cells #[v] t (0, 0))
theorem C1.cell {w : World} {g : Nat} {v : Value} (h : C1 w g v) : w.cell? ⟨g, 0, none⟩ = some v := by
  obtain ⟨t, h⟩ := h
  rw [cell_of_row w g 0 _ t (0, 0) h]; rfl
theorem C1.frozen {w : World} {g : Nat} {v : Value} (h : C1 w g v) : w.frozen? ⟨g, 0, none⟩ = false := by
  obtain ⟨t, h⟩ := h
  exact frozen_of_row w g 0 _ t h
theorem C1.lt {w : World} {g : Nat} {v : Value} (h : C1 w g v) : g < w.heap.size := by
  obtain ⟨t, h⟩ := h
  exact lt_of_heap h
theorem C1.set {w : World} {g : Nat} {v : Value} (h : C1 w g v) (u : Value) : C1 (w.setCell ⟨g, 0, none⟩ u) g u := by
  obtain ⟨t, h⟩ := h
  exact ⟨t, by rw [heap_setCell_same w g 0 _ t _ h]; rfl⟩
theorem C1.other {w : World} {g g' : Nat} {v : Value} (h : C1 w g v) (hn : g ≠ g') (u : Value) : C1 (w.setCell ⟨g', 0, none⟩ u) g v := by
  obtain ⟨t, h⟩ := h
  exact ⟨t, by rw [Below.heap_setCell _ _ _ _ hn]; exact h⟩
theorem C1.keep {w w' : World} {g : Nat} {v : Value} (h : C1 w g v) (hb : Bl w w') : C1 w' g v := by
  obtain ⟨t, h⟩ := h
  exact ⟨t, hb.heap h⟩
theorem C1.grown {w w' : World} {g : Nat} {v : Value} {row : Option Nat} (h : C1 w g v) (hg : w.grownBy w' row) (hn : some g ≠ row) : C1 w' g v := by
  obtain ⟨t, h⟩ := h
  exact ⟨t, by rw [hg.block g (lt_of_heap h) hn]; exact h⟩
theorem C1.alloc {w : World} {g : Nat} {v : Value} (h : C1 w g v) (o : Obj) : C1 (w.alloc o) g v := h.keep ((Bl.refl w).alloc o)
theorem C1.new (w : World) (g : Nat) (hg : g = w.heap.size) (v : Value) (t : TypeId) : C1 (w.alloc (.cells #[v] t)) g v := by
  subst hg
  exact ⟨t, heap_alloc_new w _⟩

theorem hmf (fn : Fn) (first cap : Array Value) (w : World) : (Instr.makeFunc fn first cap).run Try.prog w = .ok (.func fn first cap) w := rfl
theorem store_fl (a : Addr) (b : Nat) (w : World) : (store a (.float .f64 b)).run Try.prog w = stored Try.prog w a (.float .f64 b) .plain := run_store Try.prog w a _ .plain rfl
/-- a recovered panic settles to a return -/
theorem leaves_back {P : Program} {fn : Func} {tmps : Array Value} {R : Ending → World → Prop} {w : World} {v x : Value} (h : (results fn tmps).run P w = .ok v w) (hR : R (.returned v) w) :
    Leaves P fn tmps R [] (settle (.panicking [{ v := x, recovered := true }])) w := ⟨v, h, hR⟩
theorem leaves_ret {P : Program} {fn : Func} {tmps : Array Value} {R : Ending → World → Prop} {w : World} {v : Value} (h : (results fn tmps).run P w = .ok v w) (hR : R (.returned v) w) :
    Leaves P fn tmps R [] (settle .returning) w := ⟨v, h, hR⟩
end Go.Proofs.Ytginbjcpcgphgaa
end

/- stable merges and sorts: plain laws. By an AI agent. -/
section
set_option linter.unusedVariables false
set_option linter.unusedSectionVars false
namespace Go.Proofs.Ytginbjcpcgphgaa

section
variable {α : Type} {le : α → α → Bool}
/-- an order in which any two stand, some of them alike -/
structure Pre (le : α → α → Bool) : Prop where
  total : ∀ a b, le a b = true ∨ le b a = true
  trans : ∀ a b c, le a b = true → le b c = true → le a c = true
theorem Pre.refl (h : Pre le) (a : α) : le a a = true := (h.total a a).elim id id
theorem Pre.flip (h : Pre le) {a b : α} (q : le a b = false) : le b a = true := (h.total a b).resolve_left (by rw [q]; decide)
/-- one stands ahead of another one and of what that is ahead of -/
theorem Pre.lt_trans (h : Pre le) {a b c : α} (q : le b a = false) (r : le b c = true) : le c a = false := by
  cases e : le c a with
  | false => rfl
  | true => rw [h.trans b c a r e] at q; cases q
theorem Pre.lt_of (h : Pre le) {a b c : α} (q : le b a = false) (r : le c a = true) : le b c = false := by
  cases e : le b c with
  | false => rfl
  | true => rw [h.trans b c a e r] at q; cases q
abbrev mrg (le : α → α → Bool) (l r : List α) : List α := l.merge r le
theorem mrg_cons (a b : α) (l r : List α) : mrg le (a :: l) (b :: r) = if le a b then a :: mrg le l (b :: r) else b :: mrg le (a :: l) r := List.cons_merge_cons le a b l r
theorem mrg_nil (r : List α) : mrg le [] r = r := List.nil_merge r
theorem mrg_right (l : List α) : mrg le l [] = l := List.merge_right l
/-- what is cut where it may be cut is merged in two parts -/
theorem mrg_split : ∀ (L1 R1 L2 R2 : List α), (∀ l ∈ L1, ∀ r ∈ R2.head?, le l r = true) → (∀ r ∈ R1, ∀ l ∈ L2.head?, le l r = false) → mrg le (L1 ++ L2) (R1 ++ R2) = mrg le L1 R1 ++ mrg le L2 R2
  | [], [], L2, R2, _, _ => by rw [mrg_nil]; rfl
  | a :: L1, [], L2, R2, h1, h2 => by
    have ih := mrg_split L1 [] L2 R2 (fun l q => h1 l (by simp [q])) (fun r q => by cases q)
    rw [List.nil_append, mrg_right] at ih ⊢
    cases R2 with
    | nil => rw [mrg_right, mrg_right]
    | cons b R2 =>
      rw [List.cons_append, mrg_cons, if_pos (h1 a (by simp) b (by simp)), ih, List.cons_append]
  | [], b :: R1, L2, R2, h1, h2 => by
    have ih := mrg_split [] R1 L2 R2 (fun r q => by cases q) (fun l q => h2 l (by simp [q]))
    rw [List.nil_append, mrg_nil] at ih ⊢
    cases L2 with
    | nil => rw [mrg_nil, mrg_nil]
    | cons a L2 =>
      rw [List.cons_append, mrg_cons, if_neg (by rw [h2 b (by simp) a (by simp)]; decide), ih, List.cons_append]
  | a :: L1, b :: R1, L2, R2, h1, h2 => by
    rw [List.cons_append, List.cons_append, mrg_cons, mrg_cons]
    split
    · have ih := mrg_split L1 (b :: R1) L2 R2 (fun l q => h1 l (by simp [q])) h2
      rw [List.cons_append] at ih
      rw [ih, List.cons_append]
    · have ih := mrg_split (a :: L1) R1 L2 R2 h1 (fun l q => h2 l (by simp [q]))
      rw [List.cons_append] at ih
      rw [ih, List.cons_append]
  termination_by L1 R1 => L1.length + R1.length
/-- one that is put into its place -/
theorem mrg_one (x : α) (A1 A2 : List α) (h1 : ∀ a ∈ A1, le a x = true) (h2 : ∀ a ∈ A2.head?, le a x = false) : mrg le (A1 ++ A2) [x] = A1 ++ x :: A2 := by
  have e1 : mrg le A1 [x] = A1 ++ [x] := by
    have := mrg_split (le := le) A1 [] [] [x] (fun l q r hr => by simp at hr; subst hr; exact h1 l q) (fun r q => by cases q)
    rw [List.append_nil, List.nil_append, mrg_right, mrg_nil] at this
    exact this
  have := mrg_split (le := le) A1 [x] A2 [] (fun l q r hr => by simp at hr) (fun r q l hl => by simp at q; subst q; exact h2 l hl)
  rw [List.append_nil, mrg_right, e1] at this
  rw [this]; simp
theorem mrg_first (x : α) (B1 B2 : List α) (h1 : ∀ b ∈ B1, le x b = false) (h2 : ∀ b ∈ B2.head?, le x b = true) : mrg le [x] (B1 ++ B2) = B1 ++ x :: B2 := by
  have e1 : mrg le [x] B2 = x :: B2 := by
    have := mrg_split (le := le) [x] [] [] B2 (fun l q r hr => by simp at q; subst q; exact h2 r hr) (fun r q => by cases q)
    rw [List.append_nil, List.nil_append, mrg_right, mrg_nil] at this
    exact this
  have := mrg_split (le := le) [] B1 [x] B2 (fun l q => by cases q) (fun r q l hl => by simp at hl; subst hl; exact h1 r q)
  rw [List.nil_append, mrg_nil, e1] at this
  exact this
theorem mrg_assoc (h : Pre le) : ∀ (A B C : List α), mrg le (mrg le A B) C = mrg le A (mrg le B C)
  | [], B, C => by rw [mrg_nil, mrg_nil]
  | a :: A, [], C => by rw [mrg_right, mrg_nil]
  | a :: A, b :: B, [] => by rw [mrg_right, mrg_right]
  | a :: A, b :: B, c :: C => by
    have i1 := mrg_assoc h A (b :: B) (c :: C)
    have i2 := mrg_assoc h (a :: A) B (c :: C)
    have i3 := mrg_assoc h (a :: A) (b :: B) C
    rw [mrg_cons a b, mrg_cons b c]
    cases hab : le a b
    · cases hbc : le b c
      · have hac : le a c = false := by
          cases e : le a c with
          | false => rfl
          | true => rw [h.trans a c b e (h.flip hbc)] at hab; cases hab
        simp only [Bool.false_eq_true, if_false]
        rw [mrg_cons b c, if_neg (by rw [hbc]; decide), mrg_cons a c, if_neg (by rw [hac]; decide), ← i3, mrg_cons a b, if_neg (by rw [hab]; decide)]
      · simp only [Bool.false_eq_true, if_false, if_true]
        rw [mrg_cons b c, if_pos hbc, mrg_cons a b, if_neg (by rw [hab]; decide), i2]
    · cases hbc : le b c
      · cases hac : le a c
        · simp only [Bool.false_eq_true, if_false, if_true]
          rw [mrg_cons a c, if_neg (by rw [hac]; decide), mrg_cons a c, if_neg (by rw [hac]; decide), ← i3, mrg_cons a b, if_pos hab]
        · simp only [Bool.false_eq_true, if_false, if_true]
          rw [mrg_cons a c, if_pos hac, mrg_cons a c, if_pos hac, i1, mrg_cons b c, if_neg (by rw [hbc]; decide)]
      · simp only [if_true]
        rw [mrg_cons a c, if_pos (h.trans a b c hab hbc), mrg_cons a b, if_pos hab, i1, mrg_cons b c, if_pos hbc]
  termination_by A B C => A.length + B.length + C.length
/-- sorted -/
abbrev Srt (le : α → α → Bool) (l : List α) : Prop := l.Pairwise (fun a b => le a b = true)
theorem Srt.mrg (h : Pre le) {l r : List α} (hl : Srt le l) (hr : Srt le r) : Srt le (mrg le l r) :=
  List.pairwise_merge h.trans (fun a b => by rcases h.total a b with q | q <;> simp [q]) _ _ hl hr
/-- the stable sort -/
def srt (le : α → α → Bool) (l : List α) : List α := l.foldr (fun x l => Go.Proofs.Ytginbjcpcgphgaa.mrg le [x] l) []
theorem srt_nil : srt le ([] : List α) = [] := rfl
theorem srt_cons (x : α) (l : List α) : srt le (x :: l) = mrg le [x] (srt le l) := rfl
theorem srt_one (x : α) : srt le [x] = [x] := by rw [srt_cons, srt_nil, mrg_right]
theorem srt_append (h : Pre le) : ∀ A B : List α, srt le (A ++ B) = mrg le (srt le A) (srt le B)
  | [], B => by rw [srt_nil, mrg_nil]; rfl
  | a :: A, B => by rw [List.cons_append, srt_cons, srt_cons, srt_append h A B, mrg_assoc h]
theorem srt_sorted (h : Pre le) : ∀ l : List α, Srt le (srt le l)
  | [] => List.Pairwise.nil
  | a :: l => Srt.mrg h (List.pairwise_singleton _ _) (srt_sorted h l)
theorem srt_perm : ∀ l : List α, (srt le l).Perm l
  | [] => List.Perm.refl _
  | a :: l => (List.merge_perm_append (le := le) (xs := [a]) (ys := srt le l)).trans ((srt_perm l).cons a)
theorem srt_len (l : List α) : (srt le l).length = l.length := srt_perm l |>.length_eq
theorem srt_id : ∀ {l : List α}, Srt le l → srt le l = l
  | [], _ => rfl
  | a :: l, hs => by
    have h1 := List.pairwise_cons.1 hs
    rw [srt_cons, srt_id h1.2]
    have := mrg_first (le := le) a [] l (fun b q => by cases q) (fun b q => h1.1 b (List.mem_of_mem_head? q))
    exact this
end
end Go.Proofs.Ytginbjcpcgphgaa
end
