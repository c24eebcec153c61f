import Derived.Test.YtaelghbjbopilaaGreatQProtoRepliesUptoP5
import Derived.Test.YtaelghbjbopilaaGreatQProtoRepliesUptoP7

/- math.Float64frombits. By an AI agent. -/
section
set_option linter.unusedVariables false
namespace Go.Proofs.YtaelghbjbopilaaGreat
open Go.RowKit

theorem run_frombits (n : Int) (w : World) : (callFunc 181 #[.int .u64 n]).run Tryz.prog w = .ok (.value (.float .f64 n.toNat)) w := by
  rw [run_callFunc_extern Tryz.func181 (by kernel_rfl) (by kernel_rfl) (by kernel_rfl) (e := Extern.MathFloatBits.float64frombits) (by kernel_rfl)]
  rfl
end Go.Proofs.YtaelghbjbopilaaGreat
end

/- math.NaN. By an AI agent. -/
section
namespace Go.Proofs.YtaelghbjbopilaaGreat
open Go.RowKit

theorem nan_is (w : World) : Calls Tryz.prog 180 #[] w fun e w' => e = .returned (.float .f64 nanW) ∧ w = w' := by
  have hrb := run_frombits
  go_enter Tryz.func180, Tryz.ntmps180
  go_wp2_with fail
  go_ret
  exact ⟨rfl, rfl⟩
end Go.Proofs.YtaelghbjbopilaaGreat
end
