/- What the given cards of chapter 5 ask beside a walk: a world for the witness (the two tables of unicode/utf8), a version as an argument. By an AI agent. -/
import Derived.Test.YtgdlcoicejgdkaaDoorLift
import Derived.Test.YtgdlcoicejgdkaaDoorOpenV
import Derived.Test.YtgdlcoicejgdkaaDoorCards
import Derived.Test.YtgdlcoicejgdkaaDoorTie
import Derived.Deep.DeepHandedRow
import Derived.Lib.LaidTab
import Derived.Laws.Cover2
namespace Go.Proofs.YtgdlcoicejgdkaaDoor
open Go.ChangeShapes Go.WideShapes Go.ChangeAt Go.RowKit

/-- a world for the witness: the tables hold what is laid in them -/
noncomputable def laidWorldU (os : Os) : World :=
  let w0 := World.holding Tryd.prog os ⟨#[], #[], []⟩
  let put (h : Array Obj) (g : Nat) (cs : Array Value) : Array Obj := h.modify g fun
    | .cells _ t frozen => .cells cs t frozen
    | o => o
  let h1 := put w0.heap 3 (Go.Pinned.utf8FirstZ.map fun (n : Nat) => Value.int .u8 (n : Int)).toArray
  let h2 := put h1 4 (([128, 191, 160, 191, 128, 159, 144, 191, 128, 143] ++ List.replicate 22 0 : List Int).map fun (n : Int) => Value.int .u8 n).toArray
  { w0 with heap := h2 }

section
variable {H : Type} {enc : TypeId × Value → H}
/-- a version's bounds -/
structure VR (v : VerL) : Prop where
  key : v.key.size ≤ 140737488351232
  origin : -9223372036854775808 ≤ v.origin ∧ v.origin ≤ 9223372036854775807
  tx : -9223372036854775808 ≤ v.tx ∧ v.tx ≤ 9223372036854775807
  ok : v.act.Ok
set_option maxRecDepth 100000 in
theorem open_ver {W : World} {base : Nat} {v : Value} {d : DataW H} {p : List MemPlace} (hval : Value.okWide Tryd.prog W .any base 30 v) (h : DataW.Trod enc Tryd.prog W 0 (fun _ => true) true 30 v d p)
    (hw : Wt 30 d) : ∃ a n ca V, v = .agg #[.string V.key, .slice a n ca, .int .i64 V.origin, .int .i64 V.tx, .int .i64 V.act.k, .float .f64 V.act.x, .int .i64 V.act.n, .string V.act.s] ∧ IA W a n V.at_ ∧ VR V := by
  obtain ⟨cs, rfl, hsz⟩ := okWide_struct Tryd.underlying30 hval
  obtain ⟨V, hV⟩ := rd_ver (rd_of_trod h) hw
  obtain ⟨a, n, ca, e, hI⟩ := hV.cs
  have e2 : cs = #[.string V.key, .slice a n ca, .int .i64 V.origin, .int .i64 V.tx, .int .i64 V.act.k, .float .f64 V.act.x, .int .i64 V.act.n, .string V.act.s] := by
    apply Array.toList_inj.1
    simpa [Value.cells] using e
  subst e2
  exact ⟨a, n, ca, V, rfl, hI, hV.key, hV.origin, hV.tx, hV.ok⟩
end
end Go.Proofs.YtgdlcoicejgdkaaDoor
