/- Arguments of type []bedrocklaw25.Op opened. By an AI agent. -/
import Derived.Test.YtechiehbigmjbaaOpen
import Derived.Test.YtechiehbigmjbaaProtoReadsX
namespace Go.Proofs.Ytechiehbigmjbaa
open Go.ChangeShapes Go.WideShapes Go.ChangeAt Go.RowKit Go.Deep

section
variable {H : Type} {enc : TypeId × Value → H}
theorem empty_small : (⟨#[]⟩ : ByteArray).size ≤ 140737488351232 := Nat.zero_le _
theorem cells_op25 : Try.prog.cellsOf 53 = 2 := by kernel_rfl
theorem bytes_op25 : Try.prog.bytesOf 53 = 24 := by kernel_rfl
theorem cells_str25 : Try.prog.cellsOf 9 = 1 := by kernel_rfl

set_option maxRecDepth 100000 in
theorem rd_op25 {W : World} {cs : List Value} {d : DataW H} (h : Rd (enc := enc) W 53 cs d) (hw : Wt 53 d) :
    ∃ k s, cs = [.int .i64 k, .string s] ∧ s.size ≤ 140737488351232 := by
  obtain ⟨hl, hf⟩ := rd_struct Try.underlying53 h hw
  rw [cells_op25] at hl
  match cs, hl with
  | [c0, c1], _ =>
    obtain ⟨y0, r0, w0⟩ := hf 0 ⟨_, 3, 0, _, _, _, _⟩ rfl
    obtain ⟨y1, r1, w1⟩ := hf 1 ⟨_, 9, 1, _, _, _, _⟩ rfl
    simp only [cells_int, cells_str25, List.drop_zero, List.drop_succ_cons, List.take_succ_cons, List.take_zero] at r0 r1
    obtain ⟨k, e0, b0⟩ := rd_int Try.underlying3 r0
    obtain ⟨s, e1, b1⟩ := rd_string Try.underlying9 r1 w1
    simp only [List.cons.injEq, and_true] at e0 e1
    subst e0; subst e1
    exact ⟨k, s, rfl, b1⟩

set_option maxRecDepth 100000 in
theorem rd_ops25 {W : World} {cs : List Value} {d : DataW H} (h : Rd (enc := enc) W 43 cs d) (hw : Wt 43 d) : ∃ a n c ops, cs = [.slice a n c] ∧ PO W a n ops := by
  obtain ⟨a, n, c, hcs, hb, hj⟩ := rd_slice Try.underlying43 cells_op25 (by decide) h hw
  rw [bytes_op25] at hb
  have hex : ∀ j : Nat, ∃ o : Int × ByteArray, j < n → o.2.size ≤ 140737488351232 ∧ ∃ b off, a = some ⟨b, off, none⟩ ∧ W.cell? ⟨b, off + j * 2, none⟩ = some (.int .i64 o.1) ∧ W.cell? ⟨b, off + j * 2 + 1, none⟩ = some (.string o.2) := fun j => by
    by_cases hlt : j < n
    · obtain ⟨b, off, rfl, hc⟩ := hj j hlt
      obtain ⟨y, cs', r, w, hl, hcell⟩ := hc j hlt
      obtain ⟨k, s, rfl, b0⟩ := rd_op25 r w
      exact ⟨(k, s), fun _ => ⟨b0, b, off, rfl, hcell 0 (by decide), hcell 1 (by decide)⟩⟩
    · exact ⟨(0, ⟨#[]⟩), fun h => absurd h hlt⟩
  obtain ⟨f, hf⟩ := Classical.axiomOfChoice hex
  have hn : ∀ j, j < n → nthP ((List.range n).map f) j = f j := fun j hj => by simp [nthP, List.getD, hj]
  refine ⟨a, n, c, (List.range n).map f, hcs, by simp, by omega, fun j0 hj0 => ?_, fun j => ?_⟩
  · obtain ⟨_, b, off, rfl, _⟩ := hf j0 hj0
    refine ⟨b, off, rfl, fun j hj => ?_⟩
    obtain ⟨_, b', off', e, h1, h2⟩ := hf j hj
    simp at e
    obtain ⟨rfl, rfl⟩ := e
    rw [hn j hj]
    exact ⟨h1, h2⟩
  · by_cases hj : j < n
    · rw [hn j hj]; exact (hf j hj).1
    · have : nthP ((List.range n).map f) j = (0, ⟨#[]⟩) := by
        unfold nthP
        rw [List.getD_eq_getElem?_getD, List.getElem?_eq_none (by rw [List.length_map, List.length_range]; omega)]
        rfl
      rw [this]
      exact empty_small
set_option maxRecDepth 100000 in
theorem open_ops25 {W : World} {base : Nat} {v : Value} {d : DataW H} {p : List MemPlace} (hval : Value.okWide Try.prog W .any base 43 v) (h : DataW.Trod enc Try.prog W 0 (fun _ => true) true 43 v d p)
    (hw : Wt 43 d) : ∃ a n c ops, v = .slice a n c ∧ PO W a n ops := by
  obtain ⟨a0, len, cap, rfl⟩ := okWide_slice Try.underlying43 hval
  obtain ⟨a, n, c, ops, hcs, ho⟩ := rd_ops25 (rd_of_trod h) hw
  simp [Value.cells] at hcs
  obtain ⟨rfl, rfl, rfl⟩ := hcs
  exact ⟨_, _, _, ops, rfl, ho⟩
end
end Go.Proofs.Ytechiehbigmjbaa
