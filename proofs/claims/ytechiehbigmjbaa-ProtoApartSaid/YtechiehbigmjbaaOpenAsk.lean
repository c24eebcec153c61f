/- an argument of type api.Ask opened. By an AI agent. -/
import Derived.Test.YtechiehbigmjbaaOpenB
import Derived.Test.YtechiehbigmjbaaProt5
namespace Go.Proofs.Ytechiehbigmjbaa
open Go.ChangeShapes Go.WideShapes Go.ChangeAt Go.RowKit Go.Deep

section
variable {H : Type} {enc : TypeId × Value → H}
theorem cells_ask : Try.prog.cellsOf 66 = 12 := by kernel_rfl
set_option maxRecDepth 100000 in
theorem rd_ask {W : World} {cs : List Value} {d : DataW H} (h : Rd (enc := enc) W 66 cs d) (hw : Wt 66 d) :
    ∃ (ad : Option Addr) (n ca : Nat) (A : AskL), cs = askCs A.kind A.ses A.tx A.id A.num ad n ca A.key A.text A.act.k A.act.x A.act.n A.act.s ∧ AskOk W A ad n := by
  obtain ⟨hl, hf⟩ := rd_struct Try.underlying66 h hw
  rw [cells_ask] at hl
  match cs, hl with
  | [c0, c1, c2, c3, c4, c5, c6, c7, c8, c9, c10, c11], _ =>
    obtain ⟨y0, r0, w0⟩ := hf 0 ⟨_, 3, 0, _, _, _, _⟩ rfl
    obtain ⟨y1, r1, w1⟩ := hf 1 ⟨_, 3, 1, _, _, _, _⟩ rfl
    obtain ⟨y2, r2, w2⟩ := hf 2 ⟨_, 3, 2, _, _, _, _⟩ rfl
    obtain ⟨y3, r3, w3⟩ := hf 3 ⟨_, 3, 3, _, _, _, _⟩ rfl
    obtain ⟨y4, r4, w4⟩ := hf 4 ⟨_, 3, 4, _, _, _, _⟩ rfl
    obtain ⟨y5, r5, w5⟩ := hf 5 ⟨_, 23, 5, _, _, _, _⟩ rfl
    obtain ⟨y6, r6, w6⟩ := hf 6 ⟨_, 9, 6, _, _, _, _⟩ rfl
    obtain ⟨y7, r7, w7⟩ := hf 7 ⟨_, 9, 7, _, _, _, _⟩ rfl
    obtain ⟨y8, r8, w8⟩ := hf 8 ⟨_, 64, 8, _, _, _, _⟩ rfl
    simp only [cells_int, cells_str, cells_vec, cells_act, List.drop_zero, List.drop_succ_cons, List.take_succ_cons, List.take_zero] at r0 r1 r2 r3 r4 r5 r6 r7 r8
    obtain ⟨k, e0, b0⟩ := rd_int Try.underlying3 r0
    obtain ⟨s, e1, b1⟩ := rd_int Try.underlying3 r1
    obtain ⟨t, e2, b2⟩ := rd_int Try.underlying3 r2
    obtain ⟨i, e3, b3⟩ := rd_int Try.underlying3 r3
    obtain ⟨m, e4, b4⟩ := rd_int Try.underlying3 r4
    obtain ⟨a, n, c, xs, e5, hI⟩ := rd_vec r5 w5
    obtain ⟨key, e6, b6⟩ := rd_string Try.underlying9 r6 w6
    obtain ⟨text, e7, b7⟩ := rd_string Try.underlying9 r7 w7
    obtain ⟨A, e8, hA⟩ := rd_act r8 w8
    simp only [List.cons.injEq, and_true] at e0 e1 e2 e3 e4 e5 e6 e7 e8
    obtain ⟨e8, e9, e10, e11⟩ := e8
    subst e0; subst e1; subst e2; subst e3; subst e4; subst e5; subst e6; subst e7; subst e8; subst e9; subst e10; subst e11
    exact ⟨a, n, c, ⟨k, s, t, i, m, xs, key, text, A⟩, rfl, hI, b6, b7, hA⟩
set_option maxRecDepth 100000 in
theorem open_ask {W : World} {base : Nat} {v : Value} {d : DataW H} {p : List MemPlace} (hval : Value.okWide Try.prog W .any base 66 v) (h : DataW.Trod enc Try.prog W 0 (fun _ => true) true 66 v d p)
    (hw : Wt 66 d) : ∃ (ad : Option Addr) (n ca : Nat) (A : AskL), v = askV A.kind A.ses A.tx A.id A.num ad n ca A.key A.text A.act.k A.act.x A.act.n A.act.s ∧ AskOk W A ad n := by
  obtain ⟨cs, rfl, hsz⟩ := okWide_struct Try.underlying66 hval
  obtain ⟨ad, n, ca, A, hV, hok⟩ := rd_ask (rd_of_trod h) hw
  refine ⟨ad, n, ca, A, ?_, hok⟩
  have e2 : cs = (askCs A.kind A.ses A.tx A.id A.num ad n ca A.key A.text A.act.k A.act.x A.act.n A.act.s).toArray := by
    apply Array.toList_inj.1
    simpa [Value.cells] using hV
  rw [e2]
  rfl
end
end Go.Proofs.Ytechiehbigmjbaa
