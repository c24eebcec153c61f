/- bedrocklaw6.OpGrows: the walk, for arguments as they are opened. By an AI agent. -/
import Derived.Test.YtafoagllbajfnaaDoorGrowsW
import Derived.Test.YtafoagllbajfnaaDoorOpenV
namespace Go.Proofs.YtafoagllbajfnaaDoor
open Go.RowKit

theorem opGrows_walk (a : Option Addr) (n ca : Nat) (vs : List VerL) (f : Nat) (m : Int) (w : World) (hv : VA w a n vs ∧ VOk vs) (hf : f < two64) (hm : -9223372036854775808 ≤ m ∧ m ≤ 9223372036854775807) (hT : Tab w) :
    Calls Tryd.prog 9 #[.slice a n ca, .float .f64 f, .int .i64 m] w fun e w' => e = .returned (.bool true) ∧ Bl w w' := grows_any a n ca vs f m w hv.1 hf hm hT
end Go.Proofs.YtafoagllbajfnaaDoor
