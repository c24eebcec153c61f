/- math.NaN. By an AI agent. -/
import Derived.Test.YtechiehbigmjbaaCanon
namespace Go.Proofs.Ytechiehbigmjbaa
open Go.RowKit

theorem nan_is (w : World) : Calls Try.prog 81 #[] w fun e w' => e = .returned (.float .f64 nanW) ∧ w = w' := by
  have hrb := run_frombits
  go_enter Try.func81, Try.ntmps81
  go_wp2_with fail
  go_ret
  exact ⟨rfl, rfl⟩
end Go.Proofs.Ytechiehbigmjbaa
