import Derived.Test.YtkpikmfijcffiaaGreatQOpen
import Derived.Test.YtkpikmfijcffiaaGreatQOpA

/- structs api.Act and api.Value among the cells of arguments. By an AI agent. -/
section
namespace Go.Proofs.YtkpikmfijcffiaaGreat
open Go.ChangeShapes Go.WideShapes Go.ChangeAt Go.RowKit Go.Deep

section
variable {H : Type} {enc : TypeId × Value → H}
theorem cells_act : Tryz.prog.cellsOf 25 = 4 := by kernel_rfl
theorem cells_val : Tryz.prog.cellsOf 27 = 4 := by kernel_rfl
theorem cells_vec : Tryz.prog.cellsOf 60 = 1 := by kernel_rfl
theorem cells_str : Tryz.prog.cellsOf 9 = 1 := by kernel_rfl
theorem cells_flt : Tryz.prog.cellsOf 23 = 1 := by kernel_rfl
theorem cells_bool : Tryz.prog.cellsOf 4 = 1 := by kernel_rfl
set_option maxRecDepth 100000 in
theorem rd_act {W : World} {cs : List Value} {d : DataW H} (h : Rd (enc := enc) W 25 cs d) (hw : Wt 25 d) :
    ∃ a : ActL, cs = [.int .i64 a.k, .float .f64 a.x, .int .i64 a.n, .string a.s] ∧ a.Ok := by
  obtain ⟨hl, hf⟩ := rd_struct Tryz.underlying25 h hw
  rw [cells_act] at hl
  match cs, hl with
  | [c0, c1, c2, c3], _ =>
    obtain ⟨y0, r0, w0⟩ := hf 0 ⟨_, 3, 0, _, _, _, _⟩ rfl
    obtain ⟨y1, r1, w1⟩ := hf 1 ⟨_, 23, 1, _, _, _, _⟩ rfl
    obtain ⟨y2, r2, w2⟩ := hf 2 ⟨_, 3, 2, _, _, _, _⟩ rfl
    obtain ⟨y3, r3, w3⟩ := hf 3 ⟨_, 9, 3, _, _, _, _⟩ rfl
    simp only [cells_int, cells_flt, cells_str, List.drop_zero, List.drop_succ_cons, List.take_succ_cons, List.take_zero] at r0 r1 r2 r3
    obtain ⟨k, e0, b0⟩ := rd_int Tryz.underlying3 r0
    obtain ⟨x, e1, b1⟩ := rd_float Tryz.underlying23 r1
    obtain ⟨m, e2, b2⟩ := rd_int Tryz.underlying3 r2
    obtain ⟨s, e3, b3⟩ := rd_string Tryz.underlying9 r3 w3
    simp only [List.cons.injEq, and_true] at e0 e1 e2 e3
    subst e0; subst e1; subst e2; subst e3
    exact ⟨⟨k, x, m, s⟩, rfl, b0, b1, b2, b3⟩
set_option maxRecDepth 100000 in
theorem rd_val {W : World} {cs : List Value} {d : DataW H} (h : Rd (enc := enc) W 27 cs d) (hw : Wt 27 d) :
    ∃ a : ValL, cs = [.bool a.there, .float .f64 a.x, .int .i64 a.n, .string a.s] ∧ a.Ok := by
  obtain ⟨hl, hf⟩ := rd_struct Tryz.underlying27 h hw
  rw [cells_val] at hl
  match cs, hl with
  | [c0, c1, c2, c3], _ =>
    obtain ⟨y0, r0, w0⟩ := hf 0 ⟨_, 4, 0, _, _, _, _⟩ rfl
    obtain ⟨y1, r1, w1⟩ := hf 1 ⟨_, 23, 1, _, _, _, _⟩ rfl
    obtain ⟨y2, r2, w2⟩ := hf 2 ⟨_, 3, 2, _, _, _, _⟩ rfl
    obtain ⟨y3, r3, w3⟩ := hf 3 ⟨_, 9, 3, _, _, _, _⟩ rfl
    simp only [cells_int, cells_bool, cells_flt, cells_str, List.drop_zero, List.drop_succ_cons, List.take_succ_cons, List.take_zero] at r0 r1 r2 r3
    obtain ⟨k, e0⟩ := rd_bool Tryz.underlying4 r0
    obtain ⟨x, e1, b1⟩ := rd_float Tryz.underlying23 r1
    obtain ⟨m, e2, b2⟩ := rd_int Tryz.underlying3 r2
    obtain ⟨s, e3, b3⟩ := rd_string Tryz.underlying9 r3 w3
    simp only [List.cons.injEq, and_true] at e0 e1 e2 e3
    subst e0; subst e1; subst e2; subst e3
    exact ⟨⟨k, x, m, s⟩, rfl, b1, b2, b3⟩
end
end Go.Proofs.YtkpikmfijcffiaaGreat
end
