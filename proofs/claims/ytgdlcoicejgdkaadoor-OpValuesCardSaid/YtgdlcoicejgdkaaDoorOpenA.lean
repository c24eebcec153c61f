/- Arguments of the types api.Act and api.Value opened. By an AI agent. -/
import Derived.Test.YtgdlcoicejgdkaaDoorOpen
import Derived.Test.YtgdlcoicejgdkaaDoorTog0
import Derived.Lib.SmallJoins
namespace Go.Proofs.YtgdlcoicejgdkaaDoor
open Go.ChangeShapes Go.WideShapes Go.ChangeAt Go.RowKit Go.Joins

section
variable {H : Type} {enc : TypeId × Value → H}
theorem cells_act : Tryd.prog.cellsOf 28 = 4 := by kernel_rfl
theorem cells_val : Tryd.prog.cellsOf 34 = 4 := by kernel_rfl
theorem rd_of_cell {W : World} {t : TypeId} {c : Value} {y : DataW H × List MemPlace} {n : Nat} (h : DataW.trod enc Tryd.prog W 0 (fun _ => true) true n t [c] = some y) : Rd (enc := enc) W t [c] y.1 := ⟨n, y.2, h⟩

set_option maxRecDepth 100000 in
theorem open_act {W : World} {base : Nat} {v : Value} {d : DataW H} {p : List MemPlace} (hval : Value.okWide Tryd.prog W .any base 28 v) (h : DataW.Trod enc Tryd.prog W 0 (fun _ => true) true 28 v d p)
    (hw : Wt 28 d) : ∃ a : ActL, v = .agg #[.int .i64 a.k, .float .f64 a.x, .int .i64 a.n, .string a.s] ∧ a.Ok := by
  obtain ⟨c0, c1, c2, c3, y0, y1, y2, y3, n, rfl, rfl, rfl, h0, h1, h2, h3⟩ := open_agg4 Tryd.underlying28 (by kernel_rfl) cells_act hval h
  have w3 : Wt 9 y3.1 := wt_part Tryd.underlying28 hw (j := 3) rfl rfl
  obtain ⟨k, e0, b0⟩ := rd_int Tryd.underlying3 (rd_of_cell h0)
  obtain ⟨x, e1, b1⟩ := rd_float Tryd.underlying26 (rd_of_cell h1)
  obtain ⟨m, e2, b2⟩ := rd_int Tryd.underlying3 (rd_of_cell h2)
  obtain ⟨s, e3, b3⟩ := rd_string Tryd.underlying9 (rd_of_cell h3) w3
  simp only [List.cons.injEq, and_true] at e0 e1 e2 e3
  subst e0; subst e1; subst e2; subst e3
  exact ⟨⟨k, x, m, s⟩, rfl, b0, b1, b2, b3⟩
set_option maxRecDepth 100000 in
theorem open_val {W : World} {base : Nat} {v : Value} {d : DataW H} {p : List MemPlace} (hval : Value.okWide Tryd.prog W .any base 34 v) (h : DataW.Trod enc Tryd.prog W 0 (fun _ => true) true 34 v d p)
    (hw : Wt 34 d) : ∃ a : ValL, v = .agg #[.bool a.there, .float .f64 a.x, .int .i64 a.n, .string a.s] ∧ a.Ok := by
  obtain ⟨c0, c1, c2, c3, y0, y1, y2, y3, n, rfl, rfl, rfl, h0, h1, h2, h3⟩ := open_agg4 Tryd.underlying34 (by kernel_rfl) cells_val hval h
  have w3 : Wt 9 y3.1 := wt_part Tryd.underlying34 hw (j := 3) rfl rfl
  obtain ⟨k, e0⟩ := rd_bool Tryd.underlying4 (rd_of_cell h0)
  obtain ⟨x, e1, b1⟩ := rd_float Tryd.underlying26 (rd_of_cell h1)
  obtain ⟨m, e2, b2⟩ := rd_int Tryd.underlying3 (rd_of_cell h2)
  obtain ⟨s, e3, b3⟩ := rd_string Tryd.underlying9 (rd_of_cell h3) w3
  simp only [List.cons.injEq, and_true] at e0 e1 e2 e3
  subst e0; subst e1; subst e2; subst e3
  exact ⟨⟨k, x, m, s⟩, rfl, b1, b2, b3⟩
end
end Go.Proofs.YtgdlcoicejgdkaaDoor
