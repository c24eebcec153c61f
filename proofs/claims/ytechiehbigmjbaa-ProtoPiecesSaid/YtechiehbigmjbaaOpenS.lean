/- Arguments of type []string and []int opened. By an AI agent. -/
import Derived.Test.YtechiehbigmjbaaOpen
import Derived.Test.YtechiehbigmjbaaPieces0
namespace Go.Proofs.Ytechiehbigmjbaa
open Go.ChangeShapes Go.WideShapes Go.ChangeAt Go.RowKit Go.Deep

section
variable {H : Type} {enc : TypeId × Value → H}
theorem no_text_small : (⟨#[]⟩ : ByteArray).size ≤ 140737488351232 := Nat.zero_le _
theorem cells_strS : Try.prog.cellsOf 9 = 1 := by kernel_rfl
theorem bytes_strS : Try.prog.bytesOf 9 = 16 := by kernel_rfl
theorem bytes_intS : Try.prog.bytesOf 3 = 8 := by kernel_rfl

set_option maxRecDepth 100000 in
theorem rd_strs {W : World} {cs : List Value} {d : DataW H} (h : Rd (enc := enc) W 59 cs d) (hw : Wt 59 d) : ∃ a n c ts, cs = [.slice a n c] ∧ TA W a n ts := by
  obtain ⟨a, n, c, hcs, hb, hj⟩ := rd_slice Try.underlying59 cells_strS (by decide) h hw
  rw [bytes_strS] at hb
  have hex : ∀ j : Nat, ∃ o : ByteArray, j < n → o.size ≤ 140737488351232 ∧ ∃ b off, a = some ⟨b, off, none⟩ ∧ W.cell? ⟨b, off + j, none⟩ = some (.string o) := fun j => by
    by_cases hlt : j < n
    · obtain ⟨b, off, rfl, hc⟩ := hj j hlt
      obtain ⟨y, cs', r, w, hl, hcell⟩ := hc j hlt
      obtain ⟨s, rfl, b0⟩ := rd_string Try.underlying9 r w
      exact ⟨s, fun _ => ⟨b0, b, off, rfl, by have := hcell 0 (by decide); rw [Nat.mul_one] at this; exact this⟩⟩
    · exact ⟨⟨#[]⟩, fun h => absurd h hlt⟩
  obtain ⟨f, hf⟩ := Classical.axiomOfChoice hex
  have hn : ∀ j, j < n → nthT ((List.range n).map f) j = f j := fun j hj => by simp [nthT, List.getD, hj]
  refine ⟨a, n, c, (List.range n).map f, hcs, by simp, by omega, fun j0 hj0 => ?_, fun j => ?_⟩
  · obtain ⟨_, b, off, rfl, _⟩ := hf j0 hj0
    refine ⟨b, off, rfl, fun j hj => ?_⟩
    obtain ⟨_, b', off', e, h1⟩ := hf j hj
    simp at e
    obtain ⟨rfl, rfl⟩ := e
    rw [hn j hj]
    exact h1
  · by_cases hj : j < n
    · rw [hn j hj]; exact (hf j hj).1
    · have : nthT ((List.range n).map f) j = ⟨#[]⟩ := by
        unfold nthT
        rw [List.getD_eq_getElem?_getD, List.getElem?_eq_none (by rw [List.length_map, List.length_range]; omega)]
        rfl
      rw [this]
      exact no_text_small
set_option maxRecDepth 100000 in
theorem open_strs {W : World} {base : Nat} {v : Value} {d : DataW H} {p : List MemPlace} (hval : Value.okWide Try.prog W .any base 59 v) (h : DataW.Trod enc Try.prog W 0 (fun _ => true) true 59 v d p)
    (hw : Wt 59 d) : ∃ a n c ts, v = .slice a n c ∧ TA W a n ts := by
  obtain ⟨a0, len, cap, rfl⟩ := okWide_slice Try.underlying59 hval
  obtain ⟨a, n, c, ops, hcs, ho⟩ := rd_strs (rd_of_trod h) hw
  simp [Value.cells] at hcs
  obtain ⟨rfl, rfl, rfl⟩ := hcs
  exact ⟨_, _, _, ops, rfl, ho⟩
set_option maxRecDepth 100000 in
theorem rd_intsA {W : World} {cs : List Value} {d : DataW H} (h : Rd (enc := enc) W 22 cs d) (hw : Wt 22 d) : ∃ a n cap xs, cs = [.slice a n cap] ∧ IA W a n xs := by
  obtain ⟨fuel, ps, hf⟩ := h
  rcases open_ints Try.underlying22 Try.underlying3 cells_int hf with ⟨hcs, hx⟩ | ⟨a, len, cap, zs, hcs, _, hl, hm, hz, hx, hcell, hwz⟩
  · exact ⟨none, 0, 0, [], hcs, IA.nil _ _⟩
  · simp only [Prod.mk.injEq] at hx
    obtain ⟨rfl, rfl⟩ := hx
    simp only [if_true] at hz
    have hreach := (wt_slice Try.underlying22 hw).1
    rw [bytes_intS] at hreach
    simp only [lits, List.length_map, List.length_take, List.length_drop, reachBytes] at hreach
    refine ⟨some a, len, cap, zs.take len, hcs, by rw [List.length_take]; omega, by omega, fun j hj => ?_, fun x hx => ?_⟩
    · obtain ⟨b, off, spot⟩ := a
      have hspot : spot = none := by simpa [Addr.add] using World.cell?_spot (hcell 0 (by omega))
      subst hspot
      refine ⟨b, off, rfl, fun j hj => ?_⟩
      rw [← add_plain, hcell j (by omega)]
      simp [nth, List.getD, hj]
    · exact bounds_i64 (hwz x (List.mem_of_mem_take hx))
set_option maxRecDepth 100000 in
theorem open_intsA {W : World} {base : Nat} {v : Value} {d : DataW H} {p : List MemPlace} (hval : Value.okWide Try.prog W .any base 22 v) (h : DataW.Trod enc Try.prog W 0 (fun _ => true) true 22 v d p)
    (hw : Wt 22 d) : ∃ a n c xs, v = .slice a n c ∧ IA W a n xs := by
  obtain ⟨a0, len, cap, rfl⟩ := okWide_slice Try.underlying22 hval
  obtain ⟨a, n, c, ops, hcs, ho⟩ := rd_intsA (rd_of_trod h) hw
  simp [Value.cells] at hcs
  obtain ⟨rfl, rfl, rfl⟩ := hcs
  exact ⟨_, _, _, ops, rfl, ho⟩
end
end Go.Proofs.Ytechiehbigmjbaa
