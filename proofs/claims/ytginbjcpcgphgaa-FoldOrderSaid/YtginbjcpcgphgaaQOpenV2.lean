/- Arguments of type []api.Version opened, with the slice's capacity. By an AI agent. -/
import Derived.Test.YtginbjcpcgphgaaCore33

namespace Go.Proofs.Ytginbjcpcgphgaa
open Go.ChangeShapes Go.WideShapes Go.ChangeAt Go.RowKit Go.Deep

section
variable {H : Type} {enc : TypeId × Value → H}
set_option maxRecDepth 100000 in
theorem open_vers2 {W : World} {base : Nat} {v : Value} {d : DataW H} {p : List MemPlace} (hval : Value.okWide Try.prog W .any base 22 v) (h : DataW.Trod enc Try.prog W 0 (fun _ => true) true 22 v d p)
    (hw : Wt 22 d) : ∃ a n c vs, v = .slice a n c ∧ VA W a n vs ∧ n ≤ c := by
  obtain ⟨a, n, c, vs, rfl, hv, _⟩ := open_vers hval h hw
  refine ⟨a, n, c, vs, rfl, hv, ?_⟩
  obtain ⟨fuel, hf⟩ := h
  rcases open_slice Try.underlying22 hf with ⟨hcs, _⟩ | ⟨a', len, cap, m, q, D, Pl, hcs, _, hl, _⟩
  · have e : [Value.slice a n c] = [.slice none 0 0] := hcs
    simp only [List.cons.injEq, Value.slice.injEq, and_true] at e
    omega
  · have e : [Value.slice a n c] = [.slice (some a') len cap] := hcs
    simp only [List.cons.injEq, Value.slice.injEq, and_true] at e
    omega
end
end Go.Proofs.Ytginbjcpcgphgaa
