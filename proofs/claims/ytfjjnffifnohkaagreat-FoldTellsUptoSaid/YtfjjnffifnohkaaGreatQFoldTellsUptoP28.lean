import Derived.Test.YtfjjnffifnohkaaGreatQFoldTellsUptoP1
import Derived.Test.YtfjjnffifnohkaaGreatQFoldTellsUptoP3
import Derived.Test.YtfjjnffifnohkaaGreatQFoldTellsUptoP4

/- acts in bytes: plain definitions and laws. By an AI agent. -/
section
namespace Go.Proofs.YtfjjnffifnohkaaGreat
open Go.RowKit


theorem right_kind {a : ActL} (ok : a.Ok) (h : rightB a = true) :
    (a.k = 0 ∧ a.n = 0 ∧ (a.s = nilS ∨ (a.s ≠ nilS ∧ a.x = 0))) ∨ (a.k = 1 ∧ a.x = 0 ∧ a.s = nilS) ∨ ((a.k = 2 ∨ a.k = 3) ∧ a.n = 0 ∧ a.s = nilS) ∨ (a.k = 4 ∧ a.x = 0 ∧ a.n = 0 ∧ a.s = nilS) := by
  simp only [rightB, Bool.and_eq_true] at h
  have h := h.2
  by_cases h0 : a.k = 0
  · rw [if_pos h0] at h
    simp only [Bool.and_eq_true, Bool.or_eq_true, decide_eq_true_eq] at h
    refine .inl ⟨h0, h.1, ?_⟩
    by_cases hs : a.s = nilS
    · exact .inl hs
    · refine .inr ⟨hs, ?_⟩
      rcases h.2 with k | k
      · exact absurd (nil_of (by simpa using k)) hs
      · exact nought_eq ok.x k
  · rw [if_neg h0] at h
    by_cases h1 : a.k = 1
    · rw [if_pos h1] at h
      simp only [Bool.and_eq_true] at h
      exact .inr (.inl ⟨h1, nought_eq ok.x h.1, nil_of (by simpa using h.2)⟩)
    · rw [if_neg h1] at h
      by_cases h2 : a.k = 2 ∨ a.k = 3
      · rw [if_pos h2] at h
        simp only [Bool.and_eq_true, decide_eq_true_eq] at h
        exact .inr (.inr (.inl ⟨h2, h.1, nil_of (by simpa using h.2)⟩))
      · rw [if_neg h2] at h
        by_cases h4 : a.k = 4
        · rw [if_pos h4] at h
          simp only [Bool.and_eq_true, decide_eq_true_eq] at h
          exact .inr (.inr (.inr ⟨h4, nought_eq ok.x h.1, h.2.1, nil_of (by simpa using h.2.2)⟩))
        · rw [if_neg h4] at h; cases h
end Go.Proofs.YtfjjnffifnohkaaGreat
end

/- bedrockref2.Max. By an AI agent. -/
section
set_option linter.unusedVariables false
namespace Go.Proofs.YtfjjnffifnohkaaGreat
open Go.RowKit

theorem refMax_any (x y : Nat) (w : World) (hx : x < two64) (hy : y < two64) : Calls Tryz.prog 182 #[.float .f64 x, .float .f64 y] w fun e w' => e = .returned (.float .f64 (rmax x y)) ∧ w = w' := by
  by_cases h : cmpN (fkey x) (fkey y) < 0
  · have HR := Lib.hid (show rmax x y = y from if_pos h)
    go_enter Tryz.func182, Tryz.ntmps182
    go_wp2_with fail
    refine (refCompare_any x y _ hx hy).mono ?_
    rintro e w1 ⟨rfl, rfl⟩
    go_wp2_with fail
    go_ret
    exact ⟨congrArg (fun b => Ending.returned (.float .f64 b)) HR.out.symm, rfl⟩
  · have HR := Lib.hid (show rmax x y = x from if_neg h)
    go_enter Tryz.func182, Tryz.ntmps182
    go_wp2_with fail
    refine (refCompare_any x y _ hx hy).mono ?_
    rintro e w1 ⟨rfl, rfl⟩
    go_wp2_with fail
    go_ret
    exact ⟨congrArg (fun b => Ending.returned (.float .f64 b)) HR.out.symm, rfl⟩
end Go.Proofs.YtfjjnffifnohkaaGreat
end
