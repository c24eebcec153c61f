/- slices of texts, and arguments of type []string opened. By an AI agent. -/
import Derived.Test.YtaokennbpgdngaaCore33

set_option linter.unusedVariables false
namespace Go.Proofs.Ytaokennbpgdngaa
open Go.ChangeShapes Go.WideShapes Go.ChangeAt Go.RowKit Go.Deep

/-- the j-th text -/
def nthK (ts : List ByteArray) (j : Nat) : ByteArray := ts.getD j ⟨#[]⟩
/-- a slice that reads as texts -/
structure TK (w : World) (a : Option Addr) (n : Nat) (ts : List ByteArray) : Prop where
  len : ts.length = n
  cap : n * 16 ≤ 140737488351232
  cells : ∀ j, j < n → ∃ b off, a = some ⟨b, off, none⟩ ∧ ∀ j, j < n → w.cell? ⟨b, off + j, none⟩ = some (.string (nthK ts j))
  sz : ∀ j, (nthK ts j).size ≤ 140737488351232
theorem TK.keep {w w' : World} {a : Option Addr} {n : Nat} {ts : List ByteArray} (h : TK w a n ts) (hb : Bl w w') : TK w' a n ts :=
  ⟨h.len, h.cap, fun j hj => by
    obtain ⟨b, off, e, hc⟩ := h.cells j hj
    exact ⟨b, off, e, fun j hj => hb.cell (hc j hj)⟩, h.sz⟩
theorem TK.get {w W : World} {b : Nat} {off : Nat} {n : Nat} {ts : List ByteArray} (h : TK w (some ⟨b, off, none⟩) n ts) (hb : Bl w W) {k : Nat} (hk : k < n) : W.cell? ⟨b, off + k, none⟩ = some (.string (nthK ts k)) := by
  obtain ⟨b', off', e, hc⟩ := h.cells k hk
  cases e
  exact hb.cell (hc k hk)
section
variable {H : Type} {enc : TypeId × Value → H}
theorem no_text_small : (⟨#[]⟩ : ByteArray).size ≤ 140737488351232 := Nat.zero_le _
theorem cells_strS : Try.prog.cellsOf 9 = 1 := by kernel_rfl
theorem bytes_strS : Try.prog.bytesOf 9 = 16 := by kernel_rfl

set_option maxRecDepth 100000 in
theorem rd_strsK {W : World} {cs : List Value} {d : DataW H} (h : Rd (enc := enc) W 65 cs d) (hw : Wt 65 d) : ∃ a n c ts, cs = [.slice a n c] ∧ TK W a n ts := by
  obtain ⟨a, n, c, hcs, hb, hj⟩ := rd_slice Try.underlying65 cells_strS (by decide) h hw
  rw [bytes_strS] at hb
  have hex : ∀ j : Nat, ∃ o : ByteArray, j < n → o.size ≤ 140737488351232 ∧ ∃ b off, a = some ⟨b, off, none⟩ ∧ W.cell? ⟨b, off + j, none⟩ = some (.string o) := fun j => by
    by_cases hlt : j < n
    · obtain ⟨b, off, rfl, hc⟩ := hj j hlt
      obtain ⟨y, cs', r, w, hl, hcell⟩ := hc j hlt
      obtain ⟨s, rfl, b0⟩ := rd_string Try.underlying9 r w
      exact ⟨s, fun _ => ⟨b0, b, off, rfl, by have := hcell 0 (by decide); rw [Nat.mul_one] at this; exact this⟩⟩
    · exact ⟨⟨#[]⟩, fun h => absurd h hlt⟩
  obtain ⟨f, hf⟩ := Classical.axiomOfChoice hex
  have hn : ∀ j, j < n → nthK ((List.range n).map f) j = f j := fun j hj => by simp [nthK, List.getD, hj]
  refine ⟨a, n, c, (List.range n).map f, hcs, by simp, by omega, fun j0 hj0 => ?_, fun j => ?_⟩
  · obtain ⟨_, b, off, rfl, _⟩ := hf j0 hj0
    refine ⟨b, off, rfl, fun j hj => ?_⟩
    obtain ⟨_, b', off', e, h1⟩ := hf j hj
    simp at e
    obtain ⟨rfl, rfl⟩ := e
    rw [hn j hj]
    exact h1
  · by_cases hj : j < n
    · rw [hn j hj]; exact (hf j hj).1
    · have : nthK ((List.range n).map f) j = ⟨#[]⟩ := by
        unfold nthK
        rw [List.getD_eq_getElem?_getD, List.getElem?_eq_none (by rw [List.length_map, List.length_range]; omega)]
        rfl
      rw [this]
      exact no_text_small
set_option maxRecDepth 100000 in
theorem open_strsK {W : World} {base : Nat} {v : Value} {d : DataW H} {p : List MemPlace} (hval : Value.okWide Try.prog W .any base 65 v) (h : DataW.Trod enc Try.prog W 0 (fun _ => true) true 65 v d p)
    (hw : Wt 65 d) : ∃ a n c ts, v = .slice a n c ∧ TK W a n ts := by
  obtain ⟨a0, len, cap, rfl⟩ := okWide_slice Try.underlying65 hval
  obtain ⟨a, n, c, ops, hcs, ho⟩ := rd_strsK (rd_of_trod h) hw
  simp [Value.cells] at hcs
  obtain ⟨rfl, rfl, rfl⟩ := hcs
  exact ⟨_, _, _, ops, rfl, ho⟩
end
end Go.Proofs.Ytaokennbpgdngaa
