import Derived.Test.YtkpikmfijcffiaaGreatQOpenB
import Derived.Lib.SmallJoins

/- Arguments of the types api.Act and api.Value opened. By an AI agent. -/
section
namespace Go.Proofs.YtkpikmfijcffiaaGreat
open Go.ChangeShapes Go.WideShapes Go.ChangeAt Go.RowKit Go.Joins

section
variable {H : Type} {enc : TypeId × Value → H}
theorem rd_of_cell {W : World} {t : TypeId} {c : Value} {y : DataW H × List MemPlace} {n : Nat} (h : DataW.trod enc Tryz.prog W 0 (fun _ => true) true n t [c] = some y) : Rd (enc := enc) W t [c] y.1 := ⟨n, y.2, h⟩

set_option maxRecDepth 100000 in
theorem open_act {W : World} {base : Nat} {v : Value} {d : DataW H} {p : List MemPlace} (hval : Value.okWide Tryz.prog W .any base 25 v) (h : DataW.Trod enc Tryz.prog W 0 (fun _ => true) true 25 v d p)
    (hw : Wt 25 d) : ∃ a : ActL, v = .agg #[.int .i64 a.k, .float .f64 a.x, .int .i64 a.n, .string a.s] ∧ a.Ok := by
  obtain ⟨c0, c1, c2, c3, y0, y1, y2, y3, n, rfl, rfl, rfl, h0, h1, h2, h3⟩ := open_agg4 Tryz.underlying25 (by kernel_rfl) cells_act hval h
  have w3 : Wt 9 y3.1 := wt_part Tryz.underlying25 hw (j := 3) rfl rfl
  obtain ⟨k, e0, b0⟩ := rd_int Tryz.underlying3 (rd_of_cell h0)
  obtain ⟨x, e1, b1⟩ := rd_float Tryz.underlying23 (rd_of_cell h1)
  obtain ⟨m, e2, b2⟩ := rd_int Tryz.underlying3 (rd_of_cell h2)
  obtain ⟨s, e3, b3⟩ := rd_string Tryz.underlying9 (rd_of_cell h3) w3
  simp only [List.cons.injEq, and_true] at e0 e1 e2 e3
  subst e0; subst e1; subst e2; subst e3
  exact ⟨⟨k, x, m, s⟩, rfl, b0, b1, b2, b3⟩
set_option maxRecDepth 100000 in
theorem open_val {W : World} {base : Nat} {v : Value} {d : DataW H} {p : List MemPlace} (hval : Value.okWide Tryz.prog W .any base 27 v) (h : DataW.Trod enc Tryz.prog W 0 (fun _ => true) true 27 v d p)
    (hw : Wt 27 d) : ∃ a : ValL, v = .agg #[.bool a.there, .float .f64 a.x, .int .i64 a.n, .string a.s] ∧ a.Ok := by
  obtain ⟨c0, c1, c2, c3, y0, y1, y2, y3, n, rfl, rfl, rfl, h0, h1, h2, h3⟩ := open_agg4 Tryz.underlying27 (by kernel_rfl) cells_val hval h
  have w3 : Wt 9 y3.1 := wt_part Tryz.underlying27 hw (j := 3) rfl rfl
  obtain ⟨k, e0⟩ := rd_bool Tryz.underlying4 (rd_of_cell h0)
  obtain ⟨x, e1, b1⟩ := rd_float Tryz.underlying23 (rd_of_cell h1)
  obtain ⟨m, e2, b2⟩ := rd_int Tryz.underlying3 (rd_of_cell h2)
  obtain ⟨s, e3, b3⟩ := rd_string Tryz.underlying9 (rd_of_cell h3) w3
  simp only [List.cons.injEq, and_true] at e0 e1 e2 e3
  subst e0; subst e1; subst e2; subst e3
  exact ⟨⟨k, x, m, s⟩, rfl, b1, b2, b3⟩
end
end Go.Proofs.YtkpikmfijcffiaaGreat
end
