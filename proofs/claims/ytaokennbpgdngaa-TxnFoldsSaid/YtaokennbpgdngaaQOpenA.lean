/- Arguments of the types api.Act and api.Value opened. By an AI agent. -/
import Derived.Test.YtaokennbpgdngaaQOpenB
import Derived.Lib.SmallJoins

namespace Go.Proofs.Ytaokennbpgdngaa
open Go.ChangeShapes Go.WideShapes Go.ChangeAt Go.RowKit Go.Joins

section
variable {H : Type} {enc : TypeId × Value → H}
theorem rd_of_cell {W : World} {t : TypeId} {c : Value} {y : DataW H × List MemPlace} {n : Nat} (h : DataW.trod enc Try.prog W 0 (fun _ => true) true n t [c] = some y) : Rd (enc := enc) W t [c] y.1 := ⟨n, y.2, h⟩

set_option maxRecDepth 100000 in
theorem open_act {W : World} {base : Nat} {v : Value} {d : DataW H} {p : List MemPlace} (hval : Value.okWide Try.prog W .any base 54 v) (h : DataW.Trod enc Try.prog W 0 (fun _ => true) true 54 v d p)
    (hw : Wt 54 d) : ∃ a : ActL, v = .agg #[.int .i64 a.k, .float .f64 a.x, .int .i64 a.n, .string a.s] ∧ a.Ok := by
  obtain ⟨c0, c1, c2, c3, y0, y1, y2, y3, n, rfl, rfl, rfl, h0, h1, h2, h3⟩ := open_agg4 Try.underlying54 (by kernel_rfl) cells_act hval h
  have w3 : Wt 9 y3.1 := wt_part Try.underlying54 hw (j := 3) rfl rfl
  obtain ⟨k, e0, b0⟩ := rd_int Try.underlying3 (rd_of_cell h0)
  obtain ⟨x, e1, b1⟩ := rd_float Try.underlying49 (rd_of_cell h1)
  obtain ⟨m, e2, b2⟩ := rd_int Try.underlying3 (rd_of_cell h2)
  obtain ⟨s, e3, b3⟩ := rd_string Try.underlying9 (rd_of_cell h3) w3
  simp only [List.cons.injEq, and_true] at e0 e1 e2 e3
  subst e0; subst e1; subst e2; subst e3
  exact ⟨⟨k, x, m, s⟩, rfl, b0, b1, b2, b3⟩
set_option maxRecDepth 100000 in
theorem open_val {W : World} {base : Nat} {v : Value} {d : DataW H} {p : List MemPlace} (hval : Value.okWide Try.prog W .any base 51 v) (h : DataW.Trod enc Try.prog W 0 (fun _ => true) true 51 v d p)
    (hw : Wt 51 d) : ∃ a : ValL, v = .agg #[.bool a.there, .float .f64 a.x, .int .i64 a.n, .string a.s] ∧ a.Ok := by
  obtain ⟨c0, c1, c2, c3, y0, y1, y2, y3, n, rfl, rfl, rfl, h0, h1, h2, h3⟩ := open_agg4 Try.underlying51 (by kernel_rfl) cells_val hval h
  have w3 : Wt 9 y3.1 := wt_part Try.underlying51 hw (j := 3) rfl rfl
  obtain ⟨k, e0⟩ := rd_bool Try.underlying4 (rd_of_cell h0)
  obtain ⟨x, e1, b1⟩ := rd_float Try.underlying49 (rd_of_cell h1)
  obtain ⟨m, e2, b2⟩ := rd_int Try.underlying3 (rd_of_cell h2)
  obtain ⟨s, e3, b3⟩ := rd_string Try.underlying9 (rd_of_cell h3) w3
  simp only [List.cons.injEq, and_true] at e0 e1 e2 e3
  subst e0; subst e1; subst e2; subst e3
  exact ⟨⟨k, x, m, s⟩, rfl, b1, b2, b3⟩
end
end Go.Proofs.Ytaokennbpgdngaa
