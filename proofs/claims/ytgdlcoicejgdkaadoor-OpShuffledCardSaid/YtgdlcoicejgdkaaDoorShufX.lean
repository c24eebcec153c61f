/- bedrocklaw6.OpShuffled: the walk, for arguments as they are opened. By an AI agent. -/
import Derived.Test.YtgdlcoicejgdkaaDoorShufW
import Derived.Test.YtgdlcoicejgdkaaDoorOpenV
namespace Go.Proofs.YtgdlcoicejgdkaaDoor
open Go.ChangeShapes Go.WideShapes Go.ChangeAt Go.RowKit Go.Deep

section
variable {H : Type} {enc : TypeId × Value → H}
set_option maxRecDepth 100000 in
theorem open_vers2 {W : World} {base : Nat} {v : Value} {d : DataW H} {p : List MemPlace} (hval : Value.okWide Tryd.prog W .any base 22 v) (h : DataW.Trod enc Tryd.prog W 0 (fun _ => true) true 22 v d p)
    (hw : Wt 22 d) : ∃ a n c vs, v = .slice a n c ∧ VA W a n vs ∧ n ≤ c := by
  obtain ⟨a, n, c, vs, rfl, hv, _⟩ := open_vers hval h hw
  refine ⟨a, n, c, vs, rfl, hv, ?_⟩
  obtain ⟨fuel, hf⟩ := h
  rcases open_slice Tryd.underlying22 hf with ⟨hcs, _⟩ | ⟨a', len, cap, m, q, D, Pl, hcs, _, hl, _⟩
  · have e : [Value.slice a n c] = [.slice none 0 0] := hcs
    simp only [List.cons.injEq, Value.slice.injEq, and_true] at e
    omega
  · have e : [Value.slice a n c] = [.slice (some a') len cap] := hcs
    simp only [List.cons.injEq, Value.slice.injEq, and_true] at e
    omega
end
theorem opShuffled_walk (key : ByteArray) (a : Option Addr) (n ca : Nat) (vs : List VerL) (by_ : Int) (w : World) (hkey : key.size ≤ 140737488351232) (hv : VA w a n vs ∧ n ≤ ca) (hby : -9223372036854775808 ≤ by_ ∧ by_ ≤ 9223372036854775807) (hT : Tab w) :
    Calls Tryd.prog 4 #[.string key, .slice a n ca, .int .i64 by_] w fun e w' => e = .returned (.bool true) ∧ Bl w w' := shuffled_any key a n ca vs by_ w hkey hv.1 hv.2 hby hT
end Go.Proofs.YtgdlcoicejgdkaaDoor
