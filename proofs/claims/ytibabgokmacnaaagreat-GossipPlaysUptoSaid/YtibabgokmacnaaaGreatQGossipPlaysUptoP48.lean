import Derived.Test.YtibabgokmacnaaaGreatQGossipPlaysUptoP47
import Derived.Test.YtibabgokmacnaaaGreatQGossipPlaysUptoP46
import Derived.Test.YtibabgokmacnaaaGreatQGossipPlaysUptoP1

/- An argument of type []bedrocklaw20.Op opened, with what is done. By an AI agent. -/
section
namespace Go.Proofs.YtibabgokmacnaaaGreat
open Go.ChangeShapes Go.WideShapes Go.ChangeAt Go.RowKit Go.Deep

section
variable {H : Type} {enc : TypeId × Value → H}
theorem cells_op : Tryz.prog.cellsOf 62 = 3 := by kernel_rfl
theorem bytes_op : Tryz.prog.bytesOf 62 = 40 := by kernel_rfl
theorem cells_vec : Tryz.prog.cellsOf 23 = 1 := by kernel_rfl

set_option maxRecDepth 100000 in
theorem rd_op {W : World} {cs : List Value} {d : DataW H} (h : Rd (enc := enc) W 62 cs d) (hw : Wt 62 d) :
    ∃ k i a n c xs, cs = [.int .i64 k, .int .i64 i, .slice a n c] ∧ (-9223372036854775808 ≤ k ∧ k ≤ 9223372036854775807) ∧ (-9223372036854775808 ≤ i ∧ i ≤ 9223372036854775807) ∧ IA W a n xs := by
  obtain ⟨hl, hf⟩ := rd_struct Tryz.underlying62 h hw
  rw [cells_op] at hl
  match cs, hl with
  | [c0, c1, c2], _ =>
    obtain ⟨y0, r0, w0⟩ := hf 0 ⟨_, 3, 0, _, _, _, _⟩ rfl
    obtain ⟨y1, r1, w1⟩ := hf 1 ⟨_, 3, 1, _, _, _, _⟩ rfl
    obtain ⟨y2, r2, w2⟩ := hf 2 ⟨_, 23, 2, _, _, _, _⟩ rfl
    simp only [cells_int, cells_vec, List.drop_zero, List.drop_succ_cons, List.take_succ_cons, List.take_zero] at r0 r1 r2
    obtain ⟨k, e0, b0⟩ := rd_int Tryz.underlying3 r0
    obtain ⟨i, e1, b1⟩ := rd_int Tryz.underlying3 r1
    obtain ⟨a, n, c, xs, e2, hI⟩ := rd_vec r2 w2
    simp only [List.cons.injEq, and_true] at e0 e1 e2
    subst e0; subst e1; subst e2
    exact ⟨k, i, a, n, c, xs, rfl, b0, b1, hI⟩

set_option maxRecDepth 100000 in
theorem rd_ops3 {W : World} {cs : List Value} {d : DataW H} (h : Rd (enc := enc) W 56 cs d) (hw : Wt 56 d) : ∃ a n c ops, cs = [.slice a n c] ∧ OK3 W a n ops := by
  obtain ⟨a, n, c, hcs, hb, hj⟩ := rd_slice Tryz.underlying56 cells_op (by decide) h hw
  rw [bytes_op] at hb
  refine ⟨a, n, c, List.replicate n (0, 0, []), hcs, by simp, by omega, fun j hlt => ?_⟩
  obtain ⟨b, off, rfl, hc⟩ := hj j hlt
  obtain ⟨y, cs', r, w, hl, hcell⟩ := hc j hlt
  obtain ⟨k, i, aj, nj, cj, xs, rfl, b0, b1, hI⟩ := rd_op r w
  exact ⟨b, off, rfl, k, i, aj, nj, cj, xs, hcell 0 (by decide), hcell 1 (by decide), hcell 2 (by decide), hI, b0, b1⟩
set_option maxRecDepth 100000 in
theorem open_ops3 {W : World} {base : Nat} {v : Value} {d : DataW H} {p : List MemPlace} (hval : Value.okWide Tryz.prog W .any base 56 v) (h : DataW.Trod enc Tryz.prog W 0 (fun _ => true) true 56 v d p)
    (hw : Wt 56 d) : ∃ a n c ops, v = .slice a n c ∧ OK3 W a n ops := by
  obtain ⟨a0, len, cap, rfl⟩ := okWide_slice Tryz.underlying56 hval
  obtain ⟨a, n, c, ops, hcs, ho⟩ := rd_ops3 (rd_of_trod h) hw
  simp [Value.cells] at hcs
  obtain ⟨rfl, rfl, rfl⟩ := hcs
  exact ⟨_, _, _, ops, rfl, ho⟩
end
end Go.Proofs.YtibabgokmacnaaaGreat
end

/- what the bound on bulk says of a string among the arguments. By an AI agent. -/
section
namespace Go.Proofs.YtibabgokmacnaaaGreat

theorem bulk_part {H : Type} {d : DataW H} {l : List (DataW H)} (h : d ∈ l) : Rows.uptoBulk d ≤ Rows.uptoBulkAll l := by
  induction l with
  | nil => cases h
  | cons x r ih =>
    simp only [Rows.uptoBulkAll]
    rcases List.mem_cons.1 h with rfl | e
    · omega
    · have := ih e; omega
theorem bulk_str {H : Type} {l : List (DataW H)} {s : ByteArray} (hk : Rows.uptoSmall H l = true) (hm : DataW.lit (.string s.data.toList) ∈ l) : s.size ≤ 1048576 := by
  have h1 := bulk_part hm
  have h2 : Rows.uptoBulkAll l ≤ 1048576 := by simpa [Rows.uptoSmall] using hk
  have h3 : Rows.uptoBulk (DataW.lit (H := H) (.string s.data.toList)) = s.data.toList.length + 1 := by simp [Rows.uptoBulk]
  have h4 : s.data.toList.length = s.size := by rw [Array.length_toList]; rfl
  omega
end Go.Proofs.YtibabgokmacnaaaGreat
end
