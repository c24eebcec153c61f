import Derived.Test.YtginbjcpcgphgaaCore31
import Derived.Test.YtginbjcpcgphgaaCore3
import Derived.Lib.SmallJoins

/- structs api.Act and api.Value among the cells of arguments. By an AI agent. -/
section
namespace Go.Proofs.Ytginbjcpcgphgaa
open Go.ChangeShapes Go.WideShapes Go.ChangeAt Go.RowKit Go.Deep

section
variable {H : Type} {enc : TypeId × Value → H}
theorem cells_act : Try.prog.cellsOf 33 = 4 := by kernel_rfl
theorem cells_val : Try.prog.cellsOf 38 = 4 := by kernel_rfl
theorem cells_vec : Try.prog.cellsOf 24 = 1 := by kernel_rfl
theorem cells_str : Try.prog.cellsOf 9 = 1 := by kernel_rfl
theorem cells_flt : Try.prog.cellsOf 31 = 1 := by kernel_rfl
theorem cells_bool : Try.prog.cellsOf 4 = 1 := by kernel_rfl
set_option maxRecDepth 100000 in
theorem rd_act {W : World} {cs : List Value} {d : DataW H} (h : Rd (enc := enc) W 33 cs d) (hw : Wt 33 d) :
    ∃ a : ActL, cs = [.int .i64 a.k, .float .f64 a.x, .int .i64 a.n, .string a.s] ∧ a.Ok := by
  obtain ⟨hl, hf⟩ := rd_struct Try.underlying33 h hw
  rw [cells_act] at hl
  match cs, hl with
  | [c0, c1, c2, c3], _ =>
    obtain ⟨y0, r0, w0⟩ := hf 0 ⟨_, 3, 0, _, _, _, _⟩ rfl
    obtain ⟨y1, r1, w1⟩ := hf 1 ⟨_, 31, 1, _, _, _, _⟩ rfl
    obtain ⟨y2, r2, w2⟩ := hf 2 ⟨_, 3, 2, _, _, _, _⟩ rfl
    obtain ⟨y3, r3, w3⟩ := hf 3 ⟨_, 9, 3, _, _, _, _⟩ rfl
    simp only [cells_int, cells_flt, cells_str, List.drop_zero, List.drop_succ_cons, List.take_succ_cons, List.take_zero] at r0 r1 r2 r3
    obtain ⟨k, e0, b0⟩ := rd_int Try.underlying3 r0
    obtain ⟨x, e1, b1⟩ := rd_float Try.underlying31 r1
    obtain ⟨m, e2, b2⟩ := rd_int Try.underlying3 r2
    obtain ⟨s, e3, b3⟩ := rd_string Try.underlying9 r3 w3
    simp only [List.cons.injEq, and_true] at e0 e1 e2 e3
    subst e0; subst e1; subst e2; subst e3
    exact ⟨⟨k, x, m, s⟩, rfl, b0, b1, b2, b3⟩
set_option maxRecDepth 100000 in
theorem rd_val {W : World} {cs : List Value} {d : DataW H} (h : Rd (enc := enc) W 38 cs d) (hw : Wt 38 d) :
    ∃ a : ValL, cs = [.bool a.there, .float .f64 a.x, .int .i64 a.n, .string a.s] ∧ a.Ok := by
  obtain ⟨hl, hf⟩ := rd_struct Try.underlying38 h hw
  rw [cells_val] at hl
  match cs, hl with
  | [c0, c1, c2, c3], _ =>
    obtain ⟨y0, r0, w0⟩ := hf 0 ⟨_, 4, 0, _, _, _, _⟩ rfl
    obtain ⟨y1, r1, w1⟩ := hf 1 ⟨_, 31, 1, _, _, _, _⟩ rfl
    obtain ⟨y2, r2, w2⟩ := hf 2 ⟨_, 3, 2, _, _, _, _⟩ rfl
    obtain ⟨y3, r3, w3⟩ := hf 3 ⟨_, 9, 3, _, _, _, _⟩ rfl
    simp only [cells_int, cells_bool, cells_flt, cells_str, List.drop_zero, List.drop_succ_cons, List.take_succ_cons, List.take_zero] at r0 r1 r2 r3
    obtain ⟨k, e0⟩ := rd_bool Try.underlying4 r0
    obtain ⟨x, e1, b1⟩ := rd_float Try.underlying31 r1
    obtain ⟨m, e2, b2⟩ := rd_int Try.underlying3 r2
    obtain ⟨s, e3, b3⟩ := rd_string Try.underlying9 r3 w3
    simp only [List.cons.injEq, and_true] at e0 e1 e2 e3
    subst e0; subst e1; subst e2; subst e3
    exact ⟨⟨k, x, m, s⟩, rfl, b1, b2, b3⟩
end
end Go.Proofs.Ytginbjcpcgphgaa
end

/- Arguments of the types api.Act and api.Value opened. By an AI agent. -/
section
namespace Go.Proofs.Ytginbjcpcgphgaa
open Go.ChangeShapes Go.WideShapes Go.ChangeAt Go.RowKit Go.Joins

section
variable {H : Type} {enc : TypeId × Value → H}
theorem rd_of_cell {W : World} {t : TypeId} {c : Value} {y : DataW H × List MemPlace} {n : Nat} (h : DataW.trod enc Try.prog W 0 (fun _ => true) true n t [c] = some y) : Rd (enc := enc) W t [c] y.1 := ⟨n, y.2, h⟩

set_option maxRecDepth 100000 in
theorem open_act {W : World} {base : Nat} {v : Value} {d : DataW H} {p : List MemPlace} (hval : Value.okWide Try.prog W .any base 33 v) (h : DataW.Trod enc Try.prog W 0 (fun _ => true) true 33 v d p)
    (hw : Wt 33 d) : ∃ a : ActL, v = .agg #[.int .i64 a.k, .float .f64 a.x, .int .i64 a.n, .string a.s] ∧ a.Ok := by
  obtain ⟨c0, c1, c2, c3, y0, y1, y2, y3, n, rfl, rfl, rfl, h0, h1, h2, h3⟩ := open_agg4 Try.underlying33 (by kernel_rfl) cells_act hval h
  have w3 : Wt 9 y3.1 := wt_part Try.underlying33 hw (j := 3) rfl rfl
  obtain ⟨k, e0, b0⟩ := rd_int Try.underlying3 (rd_of_cell h0)
  obtain ⟨x, e1, b1⟩ := rd_float Try.underlying31 (rd_of_cell h1)
  obtain ⟨m, e2, b2⟩ := rd_int Try.underlying3 (rd_of_cell h2)
  obtain ⟨s, e3, b3⟩ := rd_string Try.underlying9 (rd_of_cell h3) w3
  simp only [List.cons.injEq, and_true] at e0 e1 e2 e3
  subst e0; subst e1; subst e2; subst e3
  exact ⟨⟨k, x, m, s⟩, rfl, b0, b1, b2, b3⟩
set_option maxRecDepth 100000 in
theorem open_val {W : World} {base : Nat} {v : Value} {d : DataW H} {p : List MemPlace} (hval : Value.okWide Try.prog W .any base 38 v) (h : DataW.Trod enc Try.prog W 0 (fun _ => true) true 38 v d p)
    (hw : Wt 38 d) : ∃ a : ValL, v = .agg #[.bool a.there, .float .f64 a.x, .int .i64 a.n, .string a.s] ∧ a.Ok := by
  obtain ⟨c0, c1, c2, c3, y0, y1, y2, y3, n, rfl, rfl, rfl, h0, h1, h2, h3⟩ := open_agg4 Try.underlying38 (by kernel_rfl) cells_val hval h
  have w3 : Wt 9 y3.1 := wt_part Try.underlying38 hw (j := 3) rfl rfl
  obtain ⟨k, e0⟩ := rd_bool Try.underlying4 (rd_of_cell h0)
  obtain ⟨x, e1, b1⟩ := rd_float Try.underlying31 (rd_of_cell h1)
  obtain ⟨m, e2, b2⟩ := rd_int Try.underlying3 (rd_of_cell h2)
  obtain ⟨s, e3, b3⟩ := rd_string Try.underlying9 (rd_of_cell h3) w3
  simp only [List.cons.injEq, and_true] at e0 e1 e2 e3
  subst e0; subst e1; subst e2; subst e3
  exact ⟨⟨k, x, m, s⟩, rfl, b1, b2, b3⟩
end
end Go.Proofs.Ytginbjcpcgphgaa
end
