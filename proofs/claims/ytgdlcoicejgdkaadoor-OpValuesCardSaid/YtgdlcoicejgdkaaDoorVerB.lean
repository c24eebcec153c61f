/- A version in its box; the greatest of a list. By an AI agent. -/
import Derived.Test.YtgdlcoicejgdkaaDoorVer2
namespace Go.Proofs.YtgdlcoicejgdkaaDoor
open Go.RowKit

theorem maxL_mem {xs : List Int} (h : xs ≠ []) : maxL xs ∈ xs ∧ ∀ x ∈ xs, x ≤ maxL xs := by
  cases xs with
  | nil => exact absurd rfl h
  | cons a l =>
    have key : ∀ (l : List Int) (a : Int), (l.foldl max a = a ∨ l.foldl max a ∈ l) ∧ a ≤ l.foldl max a ∧ ∀ x ∈ l, x ≤ l.foldl max a := by
      intro l
      induction l with
      | nil => intro a; exact ⟨.inl rfl, Int.le_refl _, fun x hx => by cases hx⟩
      | cons b l ih =>
        intro a
        obtain ⟨h1, h2, h3⟩ := ih (max a b)
        rw [List.foldl_cons]
        refine ⟨?_, by omega, ?_⟩
        · rcases h1 with h1 | h1
          · by_cases hab : a ≤ b
            · right; rw [h1, show max a b = b by omega]; exact List.mem_cons_self ..
            · left; rw [h1]; omega
          · exact .inr (List.mem_cons_of_mem _ h1)
        · intro x hx
          rcases List.mem_cons.1 hx with rfl | hx
          · omega
          · exact h3 x hx
    obtain ⟨h1, h2, h3⟩ := key l a
    show l.foldl max a ∈ a :: l ∧ ∀ x ∈ a :: l, x ≤ l.foldl max a
    refine ⟨?_, ?_⟩
    · rcases h1 with h1 | h1
      · rw [h1]; exact List.mem_cons_self ..
      · exact List.mem_cons_of_mem _ h1
    · intro x hx
      rcases List.mem_cons.1 hx with rfl | hx
      · exact h2
      · exact h3 x hx
/-- has one a greater stamp? -/
def LaterP (x o t x' o' t' : Int) : Prop := x > x' ∨ (x = x' ∧ (o > o' ∨ (o = o' ∧ t > t')))
instance (x o t x' o' t' : Int) : Decidable (LaterP x o t x' o' t') := by unfold LaterP; infer_instance
theorem ver_box (w : World) (key : ByteArray) (a : Option Addr) (n ca : Nat) (o t k : Int) (x : Nat) (m : Int) (s : ByteArray) :
    AC (w.alloc (.cells #[.string key, .slice a n ca, .int .i64 o, .int .i64 t, .int .i64 k, .float .f64 x, .int .i64 m, .string s] 30)) w.heap.size (verC key a n ca o t k x m s) :=
  AC.new w _ rfl (verC key a n ca o t k x m s) _

end Go.Proofs.YtgdlcoicejgdkaaDoor
