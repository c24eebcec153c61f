/- An argument of type []bedrocklaw20.Op opened. By an AI agent. -/
import Derived.Test.YtpfpefapdcdkeaaOpen
import Derived.Test.YtpfpefapdcdkeaaGrows2
namespace Go.Proofs.Ytpfpefapdcdkeaa
open Go.ChangeShapes Go.WideShapes Go.ChangeAt Go.RowKit Go.Deep

section
variable {H : Type} {enc : TypeId × Value → H}
theorem cells_op : Try.prog.cellsOf 43 = 3 := by kernel_rfl
theorem bytes_op : Try.prog.bytesOf 43 = 40 := by kernel_rfl
theorem cells_vec : Try.prog.cellsOf 23 = 1 := by kernel_rfl

set_option maxRecDepth 100000 in
theorem rd_op {W : World} {cs : List Value} {d : DataW H} (h : Rd (enc := enc) W 43 cs d) (hw : Wt 43 d) :
    ∃ k i a n c xs, cs = [.int .i64 k, .int .i64 i, .slice a n c] ∧ (-9223372036854775808 ≤ k ∧ k ≤ 9223372036854775807) ∧ (-9223372036854775808 ≤ i ∧ i ≤ 9223372036854775807) ∧ IA W a n xs := by
  obtain ⟨hl, hf⟩ := rd_struct Try.underlying43 h hw
  rw [cells_op] at hl
  match cs, hl with
  | [c0, c1, c2], _ =>
    obtain ⟨y0, r0, w0⟩ := hf 0 ⟨_, 3, 0, _, _, _, _⟩ rfl
    obtain ⟨y1, r1, w1⟩ := hf 1 ⟨_, 3, 1, _, _, _, _⟩ rfl
    obtain ⟨y2, r2, w2⟩ := hf 2 ⟨_, 23, 2, _, _, _, _⟩ rfl
    simp only [cells_int, cells_vec, List.drop_zero, List.drop_succ_cons, List.take_succ_cons, List.take_zero] at r0 r1 r2
    obtain ⟨k, e0, b0⟩ := rd_int Try.underlying3 r0
    obtain ⟨i, e1, b1⟩ := rd_int Try.underlying3 r1
    obtain ⟨a, n, c, xs, e2, hI⟩ := rd_vec r2 w2
    simp only [List.cons.injEq, and_true] at e0 e1 e2
    subst e0; subst e1; subst e2
    exact ⟨k, i, a, n, c, xs, rfl, b0, b1, hI⟩

set_option maxRecDepth 100000 in
theorem rd_ops {W : World} {cs : List Value} {d : DataW H} (h : Rd (enc := enc) W 40 cs d) (hw : Wt 40 d) : ∃ a n c ops, cs = [.slice a n c] ∧ OA W a n ops := by
  obtain ⟨a, n, c, hcs, hb, hj⟩ := rd_slice Try.underlying40 cells_op (by decide) h hw
  rw [bytes_op] at hb
  have hex : ∀ j : Nat, ∃ o : Int × List Int, j < n → (-9223372036854775808 ≤ o.1 ∧ o.1 ≤ 9223372036854775807) ∧ ∃ b off, a = some ⟨b, off, none⟩ ∧ ∃ aj nj cj, W.cell? ⟨b, off + j * 3 + 1, none⟩ = some (.int .i64 o.1) ∧ W.cell? ⟨b, off + j * 3 + 2, none⟩ = some (.slice aj nj cj) ∧ IA W aj nj o.2 := fun j => by
    by_cases hlt : j < n
    · obtain ⟨b, off, rfl, hc⟩ := hj j hlt
      obtain ⟨y, cs', r, w, hl, hcell⟩ := hc j hlt
      obtain ⟨k, i, aj, nj, cj, xs, rfl, b0, b1, hI⟩ := rd_op r w
      exact ⟨(i, xs), fun _ => ⟨b1, b, off, rfl, aj, nj, cj, hcell 1 (by decide), hcell 2 (by decide), hI⟩⟩
    · exact ⟨(0, []), fun h => absurd h hlt⟩
  obtain ⟨f, hf⟩ := Classical.axiomOfChoice hex
  have hn : ∀ j, j < n → nthO ((List.range n).map f) j = f j := fun j hj => by simp [nthO, List.getD, hj]
  refine ⟨a, n, c, (List.range n).map f, hcs, by simp, by omega, fun j0 hj0 => ?_, fun j hj => by rw [hn j hj]; exact (hf j hj).1⟩
  obtain ⟨_, b, off, rfl, _⟩ := hf j0 hj0
  refine ⟨b, off, rfl, fun j hj => ?_⟩
  obtain ⟨_, b', off', e, aj, nj, cj, h1, h2, h3⟩ := hf j hj
  simp at e
  obtain ⟨rfl, rfl⟩ := e
  rw [hn j hj]
  exact ⟨aj, nj, cj, h1, h2, h3⟩
theorem open_ops {W : World} {base : Nat} {v : Value} {d : DataW H} {p : List MemPlace} (hval : Value.okWide Try.prog W .any base 40 v) (h : DataW.Trod enc Try.prog W 0 (fun _ => true) true 40 v d p)
    (hw : Wt 40 d) : ∃ a n c ops, v = .slice a n c ∧ OA W a n ops := by
  obtain ⟨a0, len, cap, rfl⟩ := okWide_slice Try.underlying40 hval
  obtain ⟨a, n, c, ops, hcs, ho⟩ := rd_ops (rd_of_trod h) hw
  simp [Value.cells] at hcs
  obtain ⟨rfl, rfl, rfl⟩ := hcs
  exact ⟨_, _, _, ops, rfl, ho⟩
end
end Go.Proofs.Ytpfpefapdcdkeaa
