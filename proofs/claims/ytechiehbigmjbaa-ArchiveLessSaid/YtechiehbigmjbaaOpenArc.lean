/- an argument of type archive.Archive opened. By an AI agent. -/
import Derived.Test.YtechiehbigmjbaaOpenB
import Derived.Test.YtechiehbigmjbaaArc8
namespace Go.Proofs.Ytechiehbigmjbaa
open Go.ChangeShapes Go.WideShapes Go.ChangeAt Go.RowKit Go.Deep

section
variable {H : Type} {enc : TypeId × Value → H}
theorem cells_pair : Try.prog.cellsOf 87 = 5 := by kernel_rfl
theorem bytes_pair : Try.prog.bytesOf 87 = 56 := by kernel_rfl
theorem cells_pairs : Try.prog.cellsOf 73 = 1 := by kernel_rfl
theorem cells_arc : Try.prog.cellsOf 75 = 4 := by kernel_rfl
set_option maxRecDepth 100000 in
theorem rd_pair {W : World} {cs : List Value} {d : DataW H} (h : Rd (enc := enc) W 87 cs d) (hw : Wt 87 d) :
    ∃ p : ByteArray × ValL, cs = pairCs p ∧ p.1.size ≤ 140737488351232 ∧ p.2.Ok := by
  obtain ⟨hl, hf⟩ := rd_struct Try.underlying87 h hw
  rw [cells_pair] at hl
  match cs, hl with
  | [c0, c1, c2, c3, c4], _ =>
    obtain ⟨y0, r0, w0⟩ := hf 0 ⟨_, 9, 0, _, _, _, _⟩ rfl
    obtain ⟨y1, r1, w1⟩ := hf 1 ⟨_, 85, 1, _, _, _, _⟩ rfl
    simp only [cells_str, cells_val, List.drop_zero, List.drop_succ_cons, List.take_succ_cons, List.take_zero] at r0 r1
    obtain ⟨k, e0, b0⟩ := rd_string Try.underlying9 r0 w0
    obtain ⟨v, e1, b1⟩ := rd_val r1 w1
    simp only [List.cons.injEq, and_true] at e0 e1
    obtain ⟨e1, e2, e3, e4⟩ := e1
    subst e0; subst e1; subst e2; subst e3; subst e4
    exact ⟨(k, v), rfl, b0, b1⟩
set_option maxRecDepth 100000 in
theorem rd_pairs {W : World} {cs : List Value} {d : DataW H} (h : Rd (enc := enc) W 73 cs d) (hw : Wt 73 d) : ∃ a n c ps, cs = [.slice a n c] ∧ PW W a n ps := by
  obtain ⟨a, n, c, hcs, hb, hj⟩ := rd_slice Try.underlying73 cells_pair (by decide) h hw
  rw [bytes_pair] at hb
  have hex : ∀ j : Nat, ∃ p : ByteArray × ValL, j < n → (p.1.size ≤ 140737488351232 ∧ p.2.Ok) ∧ ∃ b off, a = some ⟨b, off, none⟩ ∧ PC W b (off + j * 5) p := fun j => by
    by_cases hlt : j < n
    · obtain ⟨b, off, rfl, hc⟩ := hj j hlt
      obtain ⟨y, cs', r, w, hl, hcell⟩ := hc j hlt
      obtain ⟨p, rfl, b0⟩ := rd_pair r w
      exact ⟨p, fun _ => ⟨b0, b, off, rfl, ⟨hcell 0 (by decide), hcell 1 (by decide), hcell 2 (by decide), hcell 3 (by decide), hcell 4 (by decide)⟩⟩⟩
    · exact ⟨(⟨#[]⟩, noVal), fun h => absurd h hlt⟩
  obtain ⟨f, hf⟩ := Classical.axiomOfChoice hex
  have hn : ∀ j, j < n → nthQ ((List.range n).map f) j = f j := fun j hj => by simp [nthQ, List.getD, hj]
  refine ⟨a, n, c, (List.range n).map f, hcs, by simp, by omega, fun j0 hj0 => ?_, fun p hp => ?_⟩
  · obtain ⟨_, b, off, rfl, _⟩ := hf j0 hj0
    refine ⟨b, off, rfl, fun j hj => ?_⟩
    obtain ⟨_, b', off', e, h1⟩ := hf j hj
    simp at e
    obtain ⟨rfl, rfl⟩ := e
    rw [hn j hj]
    exact h1
  · obtain ⟨j, hj, rfl⟩ := List.mem_map.1 hp
    exact (hf j (List.mem_range.1 hj)).1
set_option maxRecDepth 100000 in
theorem open_arc {W : World} {base : Nat} {v : Value} {d : DataW H} {p : List MemPlace} (hval : Value.okWide Try.prog W .any base 75 v) (h : DataW.Trod enc Try.prog W 0 (fun _ => true) true 75 v d p)
    (hw : Wt 75 d) : ∃ (a : ArcL) (ad : Option Addr) (an ac : Nat) (pd : Option Addr) (pn pc : Nat), v = arcV a.n a.parts ad an ac pd pn pc ∧ IA W ad an a.at_ ∧ PW W pd pn a.pairs ∧ (-9223372036854775808 ≤ a.n ∧ a.n ≤ 9223372036854775807) := by
  obtain ⟨cs, rfl, hsz⟩ := okWide_struct Try.underlying75 hval
  obtain ⟨hl, hf⟩ := rd_struct Try.underlying75 (rd_of_trod h) hw
  rw [cells_arc] at hl
  have hl' : cs.toList.length = 4 := by simpa [Value.cells] using hl
  obtain ⟨l⟩ := cs
  change l.length = 4 at hl'
  match l, hl' with
  | [c0, c1, c2, c3], _ =>
    obtain ⟨y0, r0, w0⟩ := hf 0 ⟨_, 3, 0, _, _, _, _⟩ rfl
    obtain ⟨y1, r1, w1⟩ := hf 1 ⟨_, 3, 1, _, _, _, _⟩ rfl
    obtain ⟨y2, r2, w2⟩ := hf 2 ⟨_, 23, 2, _, _, _, _⟩ rfl
    obtain ⟨y3, r3, w3⟩ := hf 3 ⟨_, 73, 3, _, _, _, _⟩ rfl
    simp only [Value.cells, cells_int, cells_vec, cells_pairs, List.drop_zero, List.drop_succ_cons, List.take_succ_cons, List.take_zero] at r0 r1 r2 r3
    obtain ⟨n, e0, b0⟩ := rd_int Try.underlying3 r0
    obtain ⟨q, e1, b1⟩ := rd_int Try.underlying3 r1
    obtain ⟨a, an, ac, xs, e2, hI⟩ := rd_vec r2 w2
    obtain ⟨pd, pn, pc, ps, e3, hP⟩ := rd_pairs r3 w3
    simp only [List.cons.injEq, and_true] at e0 e1 e2 e3
    subst e0; subst e1; subst e2; subst e3
    exact ⟨⟨n, q, xs, ps⟩, a, an, ac, pd, pn, pc, rfl, hI, hP, b0⟩
end
end Go.Proofs.Ytechiehbigmjbaa
