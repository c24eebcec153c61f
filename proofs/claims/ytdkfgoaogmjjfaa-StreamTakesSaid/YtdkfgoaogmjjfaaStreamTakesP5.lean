import Derived.Test.YtdkfgoaogmjjfaaBase
import Derived.Deep.QuietTactic
import Derived.BigQuiet
import Derived.Test.YtdkfgoaogmjjfaaStrm8
import Derived.Test.YtdkfgoaogmjjfaaStreamTakesP1
import Derived.Test.YtdkfgoaogmjjfaaStreamTakesP4

/- bedrockref3: Leq, Same, Valid. By an AI agent. -/
section
namespace Go.Proofs.Ytdkfgoaogmjjfaa
open Go.RowKit

set_option maxHeartbeats 400000 in
theorem rleq_any (a b : Option Addr) (n m ca cb : Nat) (xs ys : List Int) (w : World) (hx : IA w a n xs) (hy : IA w b m ys) :
    Calls Try.prog 104 #[.slice a n ca, .slice b m cb] w fun e w' => e = .returned (.bool (leqL xs ys)) ∧ Bl w w' := by
  have hx1 := hx.cap
  have hy1 := hy.cap
  by_cases hl : n = m
  · subst hl
    have HLL := Lib.hid (hx.len.trans hy.len.symm)
    have HX := Lib.hid hx.len
    have h2 : ((n : Int) != (n : Int)) = false := by simp
    go_enter Try.func104, Try.ntmps104
    go_wp2
    go_loopw [5] (fun i wr => ∃ k : Nat, k ≤ n ∧ i = .int .i64 k ∧ Bl w wr ∧ ∀ j, j < k → nth xs j ≤ nth ys j) (fun i _ => n - (intOf i).toNat)
    case atStart => exact ⟨0, Nat.zero_le _, rfl, Bl.refl _, fun j h => by omega⟩
    case round =>
      obtain ⟨k, hk, rfl, hbl, hle⟩ := hrel
      have HLE := Lib.hid hle; clear hle
      by_cases hlt : k < n
      · obtain ⟨ba, oa, rfl, hca⟩ := hx.cells k hlt
        obtain ⟨bb, ob, rfl, hcb⟩ := hy.cells k hlt
        have ha := hbl.cell (hca k hlt)
        have hb := hbl.cell (hcb k hlt)
        clear hca hcb
        by_cases hgt : nth ys k < nth xs k
        · have HR := Lib.hid (leqL_false HLL.out (by rw [HX.out]; exact hlt) hgt)
          go_wp2
          go_quiet (fail)
          go_wp2
          go_ret
          exact ⟨ret_bool HR.out.symm, hbl.drewN _⟩
        · go_wp2
          go_quiet (fail)
          go_wp2
          go_roundw
          case rel => exact ⟨k + 1, by omega, by go_num, hbl.drewN _, fun j hj => by
            by_cases e : j = k
            · subst e; omega
            · exact HLE.out j (by omega)⟩
          case measure => simp [intOf]; omega
      · have HR := Lib.hid ((leqL_iff HLL.out).2 (fun j hj => HLE.out j (by rw [HX.out] at hj; omega)))
        go_wp2
        go_ret
        exact ⟨ret_bool HR.out.symm, hbl⟩
  · have h2 : ((n : Int) != (m : Int)) = true := by simp; omega
    have HR := Lib.hid (leqL_len (xs := xs) (ys := ys) (by rw [hx.len, hy.len]; exact hl))
    go_enter Try.func104, Try.ntmps104
    go_wp2
    go_ret
    exact ⟨ret_bool HR.out.symm, Bl.refl _⟩

theorem leq_both (xs ys : List Int) : (leqL xs ys && leqL ys xs) = decide (xs = ys) := by
  by_cases hl : xs.length = ys.length
  · rw [Bool.eq_iff_iff, Bool.and_eq_true, decide_eq_true_eq, leqL_iff hl, leqL_iff hl.symm]
    constructor
    · rintro ⟨h1, h2⟩
      exact getD_ext hl fun j hj => Int.le_antisymm (h1 j hj) (h2 j (by omega))
    · rintro rfl
      exact ⟨fun _ _ => Int.le_refl _, fun _ _ => Int.le_refl _⟩
  · rw [leqL_len hl, decide_eq_false (fun e => hl (by rw [e]))]; rfl

theorem rsame_any (a b : Option Addr) (n m ca cb : Nat) (xs ys : List Int) (w : World) (hx : IA w a n xs) (hy : IA w b m ys) :
    Calls Try.prog 53 #[.slice a n ca, .slice b m cb] w fun e w' => e = .returned (.bool (decide (xs = ys))) ∧ Bl w w' := by
  have HB := Lib.hid (leq_both xs ys)
  cases h1 : leqL xs ys
  · have HQ := Lib.hid h1
    go_enter Try.func53, Try.ntmps53
    go_wp2_with fail
    refine (rleq_any a b n m ca cb xs ys _ hx hy).mono ?_
    rintro e w1 ⟨rfl, hb1⟩
    rw [h1]
    clear h1
    go_wp2_with fail
    go_ret
    exact ⟨ret_bool (by rw [← HB.out, HQ.out]; rfl), hb1⟩
  · have HQ := Lib.hid h1
    go_enter Try.func53, Try.ntmps53
    go_wp2_with fail
    refine (rleq_any a b n m ca cb xs ys _ hx hy).mono ?_
    rintro e w1 ⟨rfl, hb1⟩
    rw [h1]
    clear h1
    go_wp2_with fail
    refine (rleq_any b a m n cb ca ys xs _ (hy.keep hb1) (hx.keep hb1)).mono ?_
    rintro e w2 ⟨rfl, hb2⟩
    go_wp2_with fail
    go_ret
    exact ⟨ret_bool (by rw [← HB.out, HQ.out]; rfl), hb1.trans hb2⟩
end Go.Proofs.Ytdkfgoaogmjjfaa
end

/- slices of ints that are written out; a string of known bytes. By an AI agent. -/
section
namespace Go.Proofs.Ytdkfgoaogmjjfaa
open Go.RowKit

theorem IA.lit (w : World) (xs : List Int) (t : TypeId) (hc : xs.length ≤ 1000) (hw : ∀ x ∈ xs, -9223372036854775808 ≤ x ∧ x ≤ 9223372036854775807) :
    IA (w.alloc (.cells (xs.map (Value.int .i64)).toArray t)) (some ⟨w.heap.size, 0, none⟩) xs.length xs :=
  ⟨rfl, by omega, fun j hj => ⟨w.heap.size, 0, rfl, fun j hj => by
    rw [Nat.zero_add, cell_of_row _ w.heap.size j _ t (0, 0) (heap_alloc_new w _)]
    simp [nth_eq hj, hj]⟩, hw⟩

theorem IA.lit_at (w : World) (g : Nat) (xs : List Int) (t : TypeId) (hg : g = w.heap.size) (hc : xs.length ≤ 1000) (hw : ∀ x ∈ xs, -9223372036854775808 ≤ x ∧ x ≤ 9223372036854775807) :
    IA (w.alloc (.cells (xs.map (Value.int .i64)).toArray t)) (some ⟨g, 0, none⟩) xs.length xs := by subst hg; exact IA.lit w xs t hc hw

theorem str_eq {s : ByteArray} {l m : List UInt8} (h : SB s l) (e : l = m) : s = ⟨m.toArray⟩ := by
  rw [SB, e] at h
  exact ByteArray.ext (Array.toList_inj.1 h)

end Go.Proofs.Ytdkfgoaogmjjfaa
end

/- the law's own first call, of chapter 22. By an AI agent. -/
section
set_option linter.unusedVariables false
set_option linter.unusedSimpArgs false
namespace Go.Proofs.Ytdkfgoaogmjjfaa
open Go.RowKit

def keyC1 : ByteArray := ⟨#[99, 49]⟩
def aliveT : TxnL := ⟨0, 1, 0, [0, 0], [5, 0], [(keyC1, ⟨1, 0, 5, ⟨#[]⟩⟩)]⟩
theorem aliveT_valid : validT aliveT = true := by decide +kernel
theorem aliveT_j0 : judgeL [0, 0] 1 aliveT = 0 := by decide +kernel
theorem aliveT_j1 : judgeL [5, 0] 1 aliveT = 1 := by decide +kernel
theorem aliveT_chain : chainL [aliveT] 0 = true := by decide +kernel
theorem aliveT_unsent : (unsentL [aliveT] 0 [0, 0] (-1)).length = 1 := by decide +kernel
theorem alive_row : rowL 1 [3, 4] = 82 :: 1 :: putL [3, 4] ∧ rowC 1 [3, 4] = 0 := by decide +kernel
theorem alive_rd : rdV (putL [3, 4]) = some ([3, 4], []) := by decide +kernel
def aliveS (g : Nat) : TxAt := ⟨some ⟨g, 0, none⟩, 2, 2, some ⟨g + 1, 0, none⟩, 2, 2, some ⟨g + 1 + 1, 0, none⟩, 1, 1⟩
def i00 : Obj := .cells #[.int .i64 0, .int .i64 0] 3
def i50 : Obj := .cells #[.int .i64 5, .int .i64 0] 3
def i34 : Obj := .cells #[.int .i64 3, .int .i64 4] 3
def wr1 : Obj := .cells #[.string ⟨#[99, 49]⟩, .int .i64 1, .float .f64 0, .int .i64 5, .string ⟨#[]⟩] 60
def tx1 (g : Nat) : Obj := .cells #[.int .i64 0, .int .i64 1, .int .i64 0, .slice (some ⟨g, 0, none⟩) 2 2, .slice (some ⟨g + 1, 0, none⟩) 2 2, .slice (some ⟨g + 1 + 1, 0, none⟩) 1 1] 30
structure AL (w W : World) : Prop where
  bl : Bl w W
  tx : TX W (aliveS w.heap.size) aliveT
  box : AC W (w.heap.size + 1 + 1 + 1) [.int .i64 0, .int .i64 1, .int .i64 0, .slice (some ⟨w.heap.size, 0, none⟩) 2 2, .slice (some ⟨w.heap.size + 1, 0, none⟩) 2 2, .slice (some ⟨w.heap.size + 1 + 1, 0, none⟩) 1 1]
theorem AL.keep {w W W' : World} (h : AL w W) (k : Bl W W') : AL w W' := ⟨h.bl.trans k, h.tx.keep k, h.box.keep k⟩
theorem AL.new (w : World) : AL w ((((w.alloc i00).alloc i50).alloc wr1).alloc (tx1 w.heap.size)) := by
  have h0 := (((IA.lit w [0, 0] 3 (by decide) (by decide)).keep ((Bl.refl _).alloc i50)).keep ((Bl.refl _).alloc wr1)).keep ((Bl.refl _).alloc (tx1 w.heap.size))
  have h1 := ((IA.lit_at (w.alloc i00) (w.heap.size + 1) [5, 0] 3 (by simp) (by decide) (by decide)).keep ((Bl.refl _).alloc wr1)).keep ((Bl.refl _).alloc (tx1 w.heap.size))
  have h2 := (WA.lit1 ((w.alloc i00).alloc i50) (keyC1, ⟨1, 0, 5, ⟨#[]⟩⟩) 60).keep ((Bl.refl _).alloc (tx1 w.heap.size))
  have e : ((w.alloc i00).alloc i50).heap.size = w.heap.size + 1 + 1 := by simp
  rw [e] at h2
  refine ⟨((((Bl.refl w).alloc _).alloc _).alloc _).alloc _, ⟨h0, h1, h2.ww ?_, by decide, by decide, by decide⟩, ?_⟩
  · intro p hp
    obtain rfl : p = (keyC1, ⟨1, 0, 5, ⟨#[]⟩⟩) := by simpa [aliveT] using hp
    exact ⟨by decide, by decide, by decide, by decide, by decide⟩
  · exact AC.new (((w.alloc i00).alloc i50).alloc wr1) (w.heap.size + 1 + 1 + 1) (by simp) _ 30
set_option maxHeartbeats 3200000 in
set_option maxRecDepth 100000 in
theorem alive22_any (w : World) : Calls Try.prog 17 #[] w fun e w' => e = .returned (.bool true) ∧ Bl w w' := by
  have hsf := store_float
  have h0 := AL.new w
  have hi := IA.lit_at ((((w.alloc i00).alloc i50).alloc wr1).alloc (tx1 w.heap.size)) (w.heap.size + 1 + 1 + 1 + 1) [3, 4] 3 (by simp [i00, i50, wr1, tx1]) (by decide) (by decide)
  have h1 := h0.keep ((Bl.refl _).alloc i34)
  have HGR := Lib.hid (fun w => sget_row 1 1 rfl (putL [3, 4]) [3, 4] w alive_rd (by decide))
  have HPR := Lib.hid (fun W hI => putRow_any 1 (some ⟨w.heap.size + 1 + 1 + 1 + 1, 0, none⟩) 2 2 [3, 4] W hI)
  rw [alive_row.1, alive_row.2] at HPR
  unfold i00 i50 wr1 tx1 at h1 hi
  unfold i34 at h1
  clear h0
  go_enter Try.func17, Try.ntmps17
  go_wp2_with fail
  have H1 := Lib.hid h1
  have HI := Lib.hid (show IA (((((w.alloc _).alloc _).alloc _).alloc _).alloc (.cells #[.int .i64 3, .int .i64 4] 3)) (some ⟨w.heap.size + 1 + 1 + 1 + 1, 0, none⟩) 2 [3, 4] from hi)
  clear h1 hi
  generalize ((((w.alloc _).alloc _).alloc _).alloc _).alloc _ = W at *
  refine (HPR.out _ HI.out).mono ?_
  rintro e W1 ⟨rfl, hb1⟩
  have H2 := Lib.hid (H1.out.keep hb1)
  clear H1 HI hb1 HPR
  generalize strL (82 :: 1 :: putL [3, 4]) = sl at *
  go_wp2_with fail
  refine (HGR.out _).mono ?_
  rintro e W2 ⟨v, rfl, hf, hb2⟩
  unfold zTxV
  obtain ⟨va, vn, vc, rfl, hI⟩ := hf.si
  have hbx := (Bl.refl W2).alloc (.cells #[.int .i64 0, .int .i64 0, .int .i64 0, .slice none 0 0, .slice none 0 0, .slice none 0 0] 30)
  have H3 := Lib.hid (H2.out.keep (hb2.trans hbx))
  have HV := Lib.hid (hI.keep hbx)
  have hvn : vn = 2 := hI.len.symm
  subst hvn
  clear H2 hb2 hbx hf hI HGR
  go_upto_region 4 with fail
  have HV3 := HV
  generalize hX3 : W2.alloc _ = X3 at *
  clear hX3 HV
  have G3 := Lib.hid (H3.out.keep ((Bl.refl X3).alloc (.cells #[.int .i64 0, .int .i64 0] 3)))
  have I3 := Lib.hid (IA.lit X3 [0, 0] 3 (by decide) (by decide))
  have c0 := G3.out.box.cell 0 _ rfl
  have c1 := G3.out.box.cell 1 _ rfl
  have c2 := G3.out.box.cell 2 _ rfl
  have c3 := G3.out.box.cell 3 _ rfl
  have c4 := G3.out.box.cell 4 _ rfl
  have c5 := G3.out.box.cell 5 _ rfl
  go_wp2_with fail
  clear c0 c1 c2 c3 c4 c5
  refine (judge_hid (some ⟨X3.heap.size, 0, none⟩) 2 2 [0, 0] 1 0 1 0 _ 2 2 [0, 0] _ 2 2 [5, 0] _ 1 1 [(keyC1, ⟨1, 0, 5, ⟨#[]⟩⟩)] _ I3.out G3.out.tx.deps G3.out.tx.at_ G3.out.tx.ws 0 (Lib.hid aliveT_j0)).mono ?_
  rintro e X4 ⟨rfl, hb3⟩
  have H4 := Lib.hid (G3.out.keep hb3)
  have HV4 := Lib.hid ((HV3.out.keep ((Bl.refl X3).alloc (.cells #[.int .i64 0, .int .i64 0] 3))).keep hb3)
  clear G3 I3 hb3 H3 HV3
  have G4 := Lib.hid (H4.out.keep ((Bl.refl X4).alloc (.cells #[.int .i64 5, .int .i64 0] 3)))
  have I4 := Lib.hid (IA.lit X4 [5, 0] 3 (by decide) (by decide))
  have c0 := G4.out.box.cell 0 _ rfl
  have c1 := G4.out.box.cell 1 _ rfl
  have c2 := G4.out.box.cell 2 _ rfl
  have c3 := G4.out.box.cell 3 _ rfl
  have c4 := G4.out.box.cell 4 _ rfl
  have c5 := G4.out.box.cell 5 _ rfl
  go_wp2_with fail
  clear c0 c1 c2 c3 c4 c5
  refine (judge_hid (some ⟨X4.heap.size, 0, none⟩) 2 2 [5, 0] 1 0 1 0 _ 2 2 [0, 0] _ 2 2 [5, 0] _ 1 1 [(keyC1, ⟨1, 0, 5, ⟨#[]⟩⟩)] _ I4.out G4.out.tx.deps G4.out.tx.at_ G4.out.tx.ws 1 (Lib.hid aliveT_j1)).mono ?_
  rintro e X5 ⟨rfl, hb4⟩
  have H5 := Lib.hid (G4.out.keep hb4)
  have HV5 := Lib.hid ((HV4.out.keep ((Bl.refl X4).alloc (.cells #[.int .i64 5, .int .i64 0] 3))).keep hb4)
  clear G4 I4 hb4 H4 HV4
  have G5 := Lib.hid (H5.out.keep ((Bl.refl X5).alloc (.cells #[.int .i64 3, .int .i64 4] 3)))
  have I5 := Lib.hid (IA.lit X5 [3, 4] 3 (by decide) (by decide))
  have V5 := Lib.hid (HV5.out.keep ((Bl.refl X5).alloc (.cells #[.int .i64 3, .int .i64 4] 3)))
  go_wp2_with fail
  refine (rsame_any va (some ⟨X5.heap.size, 0, none⟩) 2 2 vc 2 [3, 4] [3, 4] _ V5.out I5.out).mono ?_
  rintro e X6 ⟨rfl, hb5⟩
  rw [decide_eq_true (rfl : ([3, 4] : List Int) = [3, 4])]
  have H6 := Lib.hid (G5.out.keep hb5)
  clear G5 I5 V5 hb5 H5 HV5
  have G6 := H6
  have TS6 := Lib.hid (TS.lit1 H6.out.tx 30)
  have K6 := Lib.hid (H6.out.keep ((Bl.refl X6).alloc (.cells (txCs aliveT (aliveS w.heap.size)).toArray 30)))
  have c0 := G6.out.box.cell 0 _ rfl
  have c1 := G6.out.box.cell 1 _ rfl
  have c2 := G6.out.box.cell 2 _ rfl
  have c3 := G6.out.box.cell 3 _ rfl
  have c4 := G6.out.box.cell 4 _ rfl
  have c5 := G6.out.box.cell 5 _ rfl
  go_wp2_with fail
  clear c0 c1 c2 c3 c4 c5
  refine (chain_any (some ⟨X6.heap.size, 0, none⟩) 1 1 [aliveT] (fun _ => aliveS w.heap.size) 0 _ TS6.out).mono ?_
  rintro e X7 ⟨rfl, hb6⟩
  rw [aliveT_chain]
  have H7 := Lib.hid (K6.out.keep hb6)
  clear G6 TS6 K6 hb6 H6
  have G7 := H7
  have TS7 := Lib.hid ((TS.lit1 H7.out.tx 30).keep ((Bl.refl _).alloc (.cells #[.int .i64 0, .int .i64 0] 3)))
  have I7 := Lib.hid (IA.lit (X7.alloc (.cells (txCs aliveT (aliveS w.heap.size)).toArray 30)) [0, 0] 3 (by decide) (by decide))
  have B7 := Lib.hid (H7.out.bl.trans (((Bl.refl X7).alloc (.cells (txCs aliveT (aliveS w.heap.size)).toArray 30)).alloc (.cells #[.int .i64 0, .int .i64 0] 3)))
  rw [show (X7.alloc (.cells (txCs aliveT (aliveS w.heap.size)).toArray 30)).heap.size = X7.heap.size + 1 by simp] at I7
  have c0 := G7.out.box.cell 0 _ rfl
  have c1 := G7.out.box.cell 1 _ rfl
  have c2 := G7.out.box.cell 2 _ rfl
  have c3 := G7.out.box.cell 3 _ rfl
  have c4 := G7.out.box.cell 4 _ rfl
  have c5 := G7.out.box.cell 5 _ rfl
  go_wp2_with fail
  clear c0 c1 c2 c3 c4 c5
  refine (unsent_any (some ⟨X7.heap.size, 0, none⟩) 1 1 [aliveT] (fun _ => aliveS w.heap.size) 0 (some ⟨X7.heap.size + 1, 0, none⟩) 2 2 [0, 0] (-1) _ TS7.out I7.out (fun j _ => by show 1 ≤ 1000000; decide)).mono ?_
  rintro e X8 ⟨u, g, rfl, hot, hb7⟩
  obtain ⟨ua, uc, rfl, _⟩ := hot.ts (by rw [aliveT_unsent]; decide)
  rw [aliveT_unsent]
  have H8 := Lib.hid (B7.out.trans hb7)
  clear hot hb7 TS7 I7 B7 G7
  go_wp2_with fail
  go_ret
  exact ⟨rfl, H8.out⟩
end Go.Proofs.Ytdkfgoaogmjjfaa
end
