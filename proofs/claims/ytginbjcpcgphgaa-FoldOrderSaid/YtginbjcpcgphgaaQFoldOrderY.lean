/- bedrocklaw17.FoldOrder: the walk, for arguments as they are opened. By an AI agent. -/
import Derived.Test.YtginbjcpcgphgaaQFoldOrderX
import Derived.Test.YtginbjcpcgphgaaQOpenV2

namespace Go.Proofs.Ytginbjcpcgphgaa
open Go.ChangeShapes Go.WideShapes Go.ChangeAt Go.RowKit

theorem foldOrder_walk (a : Option Addr) (n ca : Nat) (vs : List VerL) (by_ : Int) (w : World) (hv : VA w a n vs ∧ n ≤ ca) (hby : -9223372036854775808 ≤ by_ ∧ by_ ≤ 9223372036854775807) :
    Calls Try.prog 6 #[.slice a n ca, .int .i64 by_] w fun e w' => e = .returned (.bool true) ∧ Bl w w' := foldOrder_any a n ca vs by_ w hv.1 hv.2 hby
end Go.Proofs.Ytginbjcpcgphgaa
