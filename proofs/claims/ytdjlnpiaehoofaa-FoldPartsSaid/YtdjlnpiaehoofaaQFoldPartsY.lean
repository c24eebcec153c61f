/- bedrocklaw17.FoldParts: the walk, for arguments as they are opened. By an AI agent. -/
import Derived.Test.YtdjlnpiaehoofaaQFoldPartsX
import Derived.Test.YtdjlnpiaehoofaaCore15

namespace Go.Proofs.Ytdjlnpiaehoofaa
open Go.ChangeShapes Go.WideShapes Go.ChangeAt Go.RowKit

theorem foldParts_y (key : ByteArray) (a : Option Addr) (n ca : Nat) (vs : List VerL) (fa : Option Addr) (fn fc : Nat) (floor : List Int) (ma : Option Addr) (mn mc : Nat) (more : List Int) (kk : Int) (w : World) (hkey : key.size ≤ 140737488351232) (hv : VA w a n vs ∧ n ≤ ca) (hf : IA w fa fn floor) (hm : IA w ma mn more) (_hb : -9223372036854775808 ≤ kk ∧ kk ≤ 9223372036854775807) :
    Calls Try.prog 6 #[.string key, .slice a n ca, .slice fa fn fc, .slice ma mn mc, .int .i64 kk] w fun e w' => e = .returned (.bool true) ∧ Bl w w' := foldParts_any key a n ca vs fa fn fc floor ma mn mc more kk w hkey hv.1 hv.2 hf hm
end Go.Proofs.Ytdjlnpiaehoofaa
