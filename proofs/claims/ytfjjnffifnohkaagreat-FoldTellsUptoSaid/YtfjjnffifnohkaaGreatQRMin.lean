import Derived.Test.YtfjjnffifnohkaaGreatQFoldTellsUptoP4

/- bedrockref2.Min. By an AI agent. -/
section
set_option linter.unusedVariables false
namespace Go.Proofs.YtfjjnffifnohkaaGreat
open Go.RowKit

theorem refMin_any (x y : Nat) (w : World) (hx : x < two64) (hy : y < two64) : Calls Tryz.prog 183 #[.float .f64 x, .float .f64 y] w fun e w' => e = .returned (.float .f64 (rmin x y)) ∧ w = w' := by
  by_cases h : 0 < cmpN (fkey x) (fkey y)
  · have HR := Lib.hid (show rmin x y = y from if_pos h)
    go_enter Tryz.func183, Tryz.ntmps183
    go_wp2_with fail
    refine (refCompare_any x y _ hx hy).mono ?_
    rintro e w1 ⟨rfl, rfl⟩
    go_wp2_with fail
    go_ret
    exact ⟨congrArg (fun b => Ending.returned (.float .f64 b)) HR.out.symm, rfl⟩
  · have HR := Lib.hid (show rmin x y = x from if_neg h)
    go_enter Tryz.func183, Tryz.ntmps183
    go_wp2_with fail
    refine (refCompare_any x y _ hx hy).mono ?_
    rintro e w1 ⟨rfl, rfl⟩
    go_wp2_with fail
    go_ret
    exact ⟨congrArg (fun b => Ending.returned (.float .f64 b)) HR.out.symm, rfl⟩
end Go.Proofs.YtfjjnffifnohkaaGreat
end
