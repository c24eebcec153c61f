import Derived.Test.YtkpikmfijcffiaaGreatQOpenB
import Derived.Test.YtkpikmfijcffiaaGreatQTxnWritesUptoP12

/- arguments of type []api.Write, api.Txn, []api.Txn opened. By an AI agent. -/
section
set_option linter.unusedVariables false
namespace Go.Proofs.YtkpikmfijcffiaaGreat
open Go.ChangeShapes Go.WideShapes Go.ChangeAt Go.RowKit Go.Deep

section
variable {H : Type} {enc : TypeId × Value → H}
theorem cells_wr : Tryz.prog.cellsOf 58 = 5 := by kernel_rfl
theorem bytes_wr : Tryz.prog.bytesOf 58 = 56 := by kernel_rfl
theorem cells_wrs : Tryz.prog.cellsOf 22 = 1 := by kernel_rfl
theorem cells_tx : Tryz.prog.cellsOf 62 = 6 := by kernel_rfl
theorem bytes_tx : Tryz.prog.bytesOf 62 = 96 := by kernel_rfl
set_option maxRecDepth 100000 in
theorem rd_wr {W : World} {cs : List Value} {d : DataW H} (h : Rd (enc := enc) W 58 cs d) (hw : Wt 58 d) :
    ∃ p : ByteArray × ActL, cs = writeCs p ∧ WrOk p := by
  obtain ⟨hl, hf⟩ := rd_struct Tryz.underlying58 h hw
  rw [cells_wr] at hl
  match cs, hl with
  | [c0, c1, c2, c3, c4], _ =>
    obtain ⟨y0, r0, w0⟩ := hf 0 ⟨_, 9, 0, _, _, _, _⟩ rfl
    obtain ⟨y1, r1, w1⟩ := hf 1 ⟨_, 25, 1, _, _, _, _⟩ rfl
    simp only [cells_str, cells_act, List.drop_zero, List.drop_succ_cons, List.take_succ_cons, List.take_zero] at r0 r1
    obtain ⟨k, e0, b0⟩ := rd_string Tryz.underlying9 r0 w0
    obtain ⟨v, e1, b1⟩ := rd_act r1 w1
    simp only [List.cons.injEq, and_true] at e0 e1
    obtain ⟨e1, e2, e3, e4⟩ := e1
    subst e0; subst e1; subst e2; subst e3; subst e4
    exact ⟨(k, v), rfl, b0, b1⟩
set_option maxRecDepth 100000 in
theorem rd_wrs {W : World} {cs : List Value} {d : DataW H} (h : Rd (enc := enc) W 22 cs d) (hw : Wt 22 d) : ∃ a n c ps, cs = [.slice a n c] ∧ WW W a n ps := by
  obtain ⟨a, n, c, hcs, hb, hj⟩ := rd_slice Tryz.underlying22 cells_wr (by decide) h hw
  rw [bytes_wr] at hb
  have hex : ∀ j : Nat, ∃ p : ByteArray × ActL, j < n → WrOk p ∧ ∃ b off, a = some ⟨b, off, none⟩ ∧ WC W b (off + j * 5) p := fun j => by
    by_cases hlt : j < n
    · obtain ⟨b, off, rfl, hc⟩ := hj j hlt
      obtain ⟨y, cs', r, w, hl, hcell⟩ := hc j hlt
      obtain ⟨p, rfl, b0⟩ := rd_wr r w
      exact ⟨p, fun _ => ⟨b0, b, off, rfl, ⟨hcell 0 (by decide), hcell 1 (by decide), hcell 2 (by decide), hcell 3 (by decide), hcell 4 (by decide)⟩⟩⟩
    · exact ⟨(⟨#[]⟩, ⟨0, 0, 0, nilS⟩), fun h => absurd h hlt⟩
  obtain ⟨f, hf⟩ := Classical.axiomOfChoice hex
  have hn : ∀ j, j < n → nthW ((List.range n).map f) j = f j := fun j hj => by simp [nthW, List.getD, hj]
  refine ⟨a, n, c, (List.range n).map f, hcs, by simp, by omega, fun j0 hj0 => ?_, fun p hp => ?_⟩
  · obtain ⟨_, b, off, rfl, _⟩ := hf j0 hj0
    refine ⟨b, off, rfl, fun j hj => ?_⟩
    obtain ⟨_, b', off', e, h1⟩ := hf j hj
    simp at e
    obtain ⟨rfl, rfl⟩ := e
    rw [hn j hj]
    exact h1
  · obtain ⟨j, hj, rfl⟩ := List.mem_map.1 hp
    exact (hf j (List.mem_range.1 hj)).1
set_option maxRecDepth 100000 in
theorem rd_txn {W : World} {cs : List Value} {d : DataW H} (h : Rd (enc := enc) W 62 cs d) (hw : Wt 62 d) :
    ∃ (t : TxnL) (s : TxAt), cs = txCs t s ∧ TX W s t := by
  obtain ⟨hl, hf⟩ := rd_struct Tryz.underlying62 h hw
  rw [cells_tx] at hl
  match cs, hl with
  | [c0, c1, c2, c3, c4, c5], _ =>
    obtain ⟨y0, r0, w0⟩ := hf 0 ⟨_, 3, 0, _, _, _, _⟩ rfl
    obtain ⟨y1, r1, w1⟩ := hf 1 ⟨_, 3, 1, _, _, _, _⟩ rfl
    obtain ⟨y2, r2, w2⟩ := hf 2 ⟨_, 3, 2, _, _, _, _⟩ rfl
    obtain ⟨y3, r3, w3⟩ := hf 3 ⟨_, 60, 3, _, _, _, _⟩ rfl
    obtain ⟨y4, r4, w4⟩ := hf 4 ⟨_, 60, 4, _, _, _, _⟩ rfl
    obtain ⟨y5, r5, w5⟩ := hf 5 ⟨_, 22, 5, _, _, _, _⟩ rfl
    simp only [cells_int, cells_vec, cells_wrs, List.drop_zero, List.drop_succ_cons, List.take_succ_cons, List.take_zero] at r0 r1 r2 r3 r4 r5
    obtain ⟨x0, e0, b0⟩ := rd_int Tryz.underlying3 r0
    obtain ⟨x1, e1, b1⟩ := rd_int Tryz.underlying3 r1
    obtain ⟨x2, e2, b2⟩ := rd_int Tryz.underlying3 r2
    obtain ⟨da, dn, dc, ds, e3, hD⟩ := rd_vec r3 w3
    obtain ⟨aa, an, ac, xs, e4, hA⟩ := rd_vec r4 w4
    obtain ⟨wa, wn, wc, ws, e5, hW⟩ := rd_wrs r5 w5
    simp only [List.cons.injEq, and_true] at e0 e1 e2 e3 e4 e5
    subst e0; subst e1; subst e2; subst e3; subst e4; subst e5
    exact ⟨⟨x0, x1, x2, ds, xs, ws⟩, ⟨da, dn, dc, aa, an, ac, wa, wn, wc⟩, rfl, hD, hA, hW, b0, b1, b2⟩
set_option maxRecDepth 100000 in
theorem rd_txns {W : World} {cs : List Value} {d : DataW H} (h : Rd (enc := enc) W 150 cs d) (hw : Wt 150 d) : ∃ a n c ts f, cs = [.slice a n c] ∧ TS W a n ts f := by
  obtain ⟨a, n, c, hcs, hb, hj⟩ := rd_slice Tryz.underlying150 cells_tx (by decide) h hw
  rw [bytes_tx] at hb
  have hex : ∀ j : Nat, ∃ p : TxnL × TxAt, j < n → TX W p.2 p.1 ∧ ∃ b off, a = some ⟨b, off, none⟩ ∧ TC W b (off + j * 6) p.1 p.2 := fun j => by
    by_cases hlt : j < n
    · obtain ⟨b, off, rfl, hc⟩ := hj j hlt
      obtain ⟨y, cs', r, w, hl, hcell⟩ := hc j hlt
      obtain ⟨t, s, rfl, b0⟩ := rd_txn r w
      exact ⟨(t, s), fun _ => ⟨b0, b, off, rfl, ⟨hcell 0 (by decide), hcell 1 (by decide), hcell 2 (by decide), hcell 3 (by decide), hcell 4 (by decide), hcell 5 (by decide)⟩⟩⟩
    · exact ⟨(nilTx, ⟨none, 0, 0, none, 0, 0, none, 0, 0⟩), fun h => absurd h hlt⟩
  obtain ⟨f, hf⟩ := Classical.axiomOfChoice hex
  have hn : ∀ j, j < n → nthT ((List.range n).map fun j => (f j).1) j = (f j).1 := fun j hj => by simp [nthT, List.getD, hj]
  refine ⟨a, n, c, (List.range n).map fun j => (f j).1, fun j => (f j).2, hcs, by simp, by omega, fun j0 hj0 => ?_, fun j hj => ?_⟩
  · obtain ⟨_, b, off, rfl, _⟩ := hf j0 hj0
    refine ⟨b, off, rfl, fun j hj => ?_⟩
    obtain ⟨_, b', off', e, h1⟩ := hf j hj
    simp at e
    obtain ⟨rfl, rfl⟩ := e
    rw [hn j hj]
    exact h1
  · rw [hn j hj]
    exact (hf j hj).1
set_option maxRecDepth 100000 in
theorem open_tx {W : World} {base : Nat} {v : Value} {d : DataW H} {p : List MemPlace} (hval : Value.okWide Tryz.prog W .any base 62 v) (h : DataW.Trod enc Tryz.prog W 0 (fun _ => true) true 62 v d p)
    (hw : Wt 62 d) : ∃ (t : TxnL) (s : TxAt), v = txV t s ∧ TX W s t := by
  obtain ⟨cs, rfl, hsz⟩ := okWide_struct Tryz.underlying62 hval
  obtain ⟨t, s, e, ht⟩ := rd_txn (rd_of_trod h) hw
  refine ⟨t, s, ?_, ht⟩
  obtain ⟨l⟩ := cs
  change l = _ at e
  rw [e]
  rfl
set_option maxRecDepth 100000 in
theorem open_txs {W : World} {base : Nat} {v : Value} {d : DataW H} {p : List MemPlace} (hval : Value.okWide Tryz.prog W .any base 150 v) (h : DataW.Trod enc Tryz.prog W 0 (fun _ => true) true 150 v d p)
    (hw : Wt 150 d) : ∃ a n c ts f, v = .slice a n c ∧ TS W a n ts f := by
  obtain ⟨a, n, c, rfl⟩ := okWide_slice Tryz.underlying150 hval
  obtain ⟨a', n', c', ts, f, e, h⟩ := rd_txns (rd_of_trod h) hw
  simp [Value.cells] at e
  obtain ⟨rfl, rfl, rfl⟩ := e
  exact ⟨_, _, _, ts, f, rfl, h⟩
set_option maxRecDepth 100000 in
theorem open_wrs {W : World} {base : Nat} {v : Value} {d : DataW H} {p : List MemPlace} (hval : Value.okWide Tryz.prog W .any base 22 v) (h : DataW.Trod enc Tryz.prog W 0 (fun _ => true) true 22 v d p)
    (hw : Wt 22 d) : ∃ a n c ws, v = .slice a n c ∧ WW W a n ws := by
  obtain ⟨a, n, c, rfl⟩ := okWide_slice Tryz.underlying22 hval
  obtain ⟨a', n', c', ws, e, h⟩ := rd_wrs (rd_of_trod h) hw
  simp [Value.cells] at e
  obtain ⟨rfl, rfl, rfl⟩ := e
  exact ⟨_, _, _, ws, rfl, h⟩
end
end Go.Proofs.YtkpikmfijcffiaaGreat
end
