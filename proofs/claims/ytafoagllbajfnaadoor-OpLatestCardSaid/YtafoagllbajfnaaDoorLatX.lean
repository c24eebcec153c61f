/- bedrocklaw6.OpLatest: the walk, for arguments as they are opened. By an AI agent. -/
import Derived.Test.YtafoagllbajfnaaDoorLatW
import Derived.Test.YtafoagllbajfnaaDoorLatTx
import Derived.Test.YtafoagllbajfnaaDoorOpenV
namespace Go.Proofs.YtafoagllbajfnaaDoor
open Go.RowKit

theorem opLatest_walk (text : Bool) (a : Option Addr) (n ca : Nat) (vs : List VerL) (f : Nat) (w : World) (hv : VA w a n vs ∧ VOk vs) (hf : f < two64) (hT : Tab w) :
    Calls Tryd.prog 7 #[.bool text, .slice a n ca, .float .f64 f] w fun e w' => e = .returned (.bool true) ∧ Bl w w' := by
  cases text
  · exact latest_num a n ca vs f w hv.1 hf hT
  · exact latest_text a n ca vs f w hv.1 hf hT
end Go.Proofs.YtafoagllbajfnaaDoor
