/- math.NaN. By an AI agent. -/
import Derived.Test.YtdkfgoaogmjjfaaCanon
namespace Go.Proofs.Ytdkfgoaogmjjfaa
open Go.RowKit

theorem nan_is (w : World) : Calls Try.prog 171 #[] w fun e w' => e = .returned (.float .f64 nanW) ∧ w = w' := by
  have hrb := run_frombits
  go_enter Try.func171, Try.ntmps171
  go_wp2_with fail
  go_ret
  exact ⟨rfl, rfl⟩
end Go.Proofs.Ytdkfgoaogmjjfaa
