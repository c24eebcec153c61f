import Derived.Test.YtaokennbpgdngaaQStreamUnsentP2
import Derived.Test.YtaokennbpgdngaaQStreamUnsentP3
import Derived.Test.YtaokennbpgdngaaQStreamUnsentP4
import Derived.Test.YtaokennbpgdngaaQStreamUnsentP5
import Derived.Test.YtaokennbpgdngaaCore32
import Derived.Test.YtaokennbpgdngaaCore5

/- the law's own first call, of chapter 22. By an AI agent. -/
section
set_option linter.unusedVariables false
set_option linter.unusedSimpArgs false
namespace Go.Proofs.Ytaokennbpgdngaa
open Go.RowKit

def keyC1 : ByteArray := ⟨#[99, 49]⟩
def aliveT : TxnL := ⟨0, 1, 0, [0, 0], [5, 0], [(keyC1, ⟨1, 0, 5, ⟨#[]⟩⟩)]⟩
theorem aliveT_valid : validT aliveT = true := by decide +kernel
theorem aliveT_j0 : judgeL [0, 0] 1 aliveT = 0 := by decide +kernel
theorem aliveT_j1 : judgeL [5, 0] 1 aliveT = 1 := by decide +kernel
theorem aliveT_chain : chainL [aliveT] 0 = true := by decide +kernel
theorem aliveT_unsent : (unsentL [aliveT] 0 [0, 0] (-1)).length = 1 := by decide +kernel
theorem alive_row : rowL 1 [3, 4] = 82 :: 1 :: putL [3, 4] ∧ rowC 1 [3, 4] = 0 := by decide +kernel
theorem alive_rd : rdV (putL [3, 4]) = some ([3, 4], []) := by decide +kernel
def aliveS (g : Nat) : TxAt := ⟨some ⟨g, 0, none⟩, 2, 2, some ⟨g + 1, 0, none⟩, 2, 2, some ⟨g + 1 + 1, 0, none⟩, 1, 1⟩
def i00 : Obj := .cells #[.int .i64 0, .int .i64 0] 3
def i50 : Obj := .cells #[.int .i64 5, .int .i64 0] 3
def i34 : Obj := .cells #[.int .i64 3, .int .i64 4] 3
def wr1 : Obj := .cells #[.string ⟨#[99, 49]⟩, .int .i64 1, .float .f64 0, .int .i64 5, .string ⟨#[]⟩] 56
def tx1 (g : Nat) : Obj := .cells #[.int .i64 0, .int .i64 1, .int .i64 0, .slice (some ⟨g, 0, none⟩) 2 2, .slice (some ⟨g + 1, 0, none⟩) 2 2, .slice (some ⟨g + 1 + 1, 0, none⟩) 1 1] 29
structure AL (w W : World) : Prop where
  bl : Bl w W
  tx : TX W (aliveS w.heap.size) aliveT
  box : AC W (w.heap.size + 1 + 1 + 1) [.int .i64 0, .int .i64 1, .int .i64 0, .slice (some ⟨w.heap.size, 0, none⟩) 2 2, .slice (some ⟨w.heap.size + 1, 0, none⟩) 2 2, .slice (some ⟨w.heap.size + 1 + 1, 0, none⟩) 1 1]
theorem AL.keep {w W W' : World} (h : AL w W) (k : Bl W W') : AL w W' := ⟨h.bl.trans k, h.tx.keep k, h.box.keep k⟩
theorem AL.new (w : World) : AL w ((((w.alloc i00).alloc i50).alloc wr1).alloc (tx1 w.heap.size)) := by
  have h0 := (((IA.lit w [0, 0] 3 (by decide) (by decide)).keep ((Bl.refl _).alloc i50)).keep ((Bl.refl _).alloc wr1)).keep ((Bl.refl _).alloc (tx1 w.heap.size))
  have h1 := ((IA.lit_at (w.alloc i00) (w.heap.size + 1) [5, 0] 3 (by simp) (by decide) (by decide)).keep ((Bl.refl _).alloc wr1)).keep ((Bl.refl _).alloc (tx1 w.heap.size))
  have h2 := (WA.lit1 ((w.alloc i00).alloc i50) (keyC1, ⟨1, 0, 5, ⟨#[]⟩⟩) 56).keep ((Bl.refl _).alloc (tx1 w.heap.size))
  have e : ((w.alloc i00).alloc i50).heap.size = w.heap.size + 1 + 1 := by simp
  rw [e] at h2
  refine ⟨((((Bl.refl w).alloc _).alloc _).alloc _).alloc _, ⟨h0, h1, h2.ww ?_, by decide, by decide, by decide⟩, ?_⟩
  · intro p hp
    obtain rfl : p = (keyC1, ⟨1, 0, 5, ⟨#[]⟩⟩) := by simpa [aliveT] using hp
    exact ⟨by decide, by decide, by decide, by decide, by decide⟩
  · exact AC.new (((w.alloc i00).alloc i50).alloc wr1) (w.heap.size + 1 + 1 + 1) (by simp) _ 29
set_option maxHeartbeats 3200000 in
set_option maxRecDepth 100000 in
theorem alive22_any (w : World) : Calls Try.prog 11 #[] w fun e w' => e = .returned (.bool true) ∧ Bl w w' := by
  have hsf := store_float
  have h0 := AL.new w
  have hi := IA.lit_at ((((w.alloc i00).alloc i50).alloc wr1).alloc (tx1 w.heap.size)) (w.heap.size + 1 + 1 + 1 + 1) [3, 4] 3 (by simp [i00, i50, wr1, tx1]) (by decide) (by decide)
  have h1 := h0.keep ((Bl.refl _).alloc i34)
  have HGR := Lib.hid (fun w => sget_row 1 1 rfl (putL [3, 4]) [3, 4] w alive_rd (by decide))
  have HPR := Lib.hid (fun W hI => putRow_any 1 (some ⟨w.heap.size + 1 + 1 + 1 + 1, 0, none⟩) 2 2 [3, 4] W hI)
  rw [alive_row.1, alive_row.2] at HPR
  unfold i00 i50 wr1 tx1 at h1 hi
  unfold i34 at h1
  clear h0
  go_enter Try.func11, Try.ntmps11
  go_wp2_with fail
  have H1 := Lib.hid h1
  have HI := Lib.hid (show IA (((((w.alloc _).alloc _).alloc _).alloc _).alloc (.cells #[.int .i64 3, .int .i64 4] 3)) (some ⟨w.heap.size + 1 + 1 + 1 + 1, 0, none⟩) 2 [3, 4] from hi)
  clear h1 hi
  generalize ((((w.alloc _).alloc _).alloc _).alloc _).alloc _ = W at *
  refine (HPR.out _ HI.out).mono ?_
  rintro e W1 ⟨rfl, hb1⟩
  have H2 := Lib.hid (H1.out.keep hb1)
  clear H1 HI hb1 HPR
  generalize strL (82 :: 1 :: putL [3, 4]) = sl at *
  go_wp2_with fail
  refine (HGR.out _).mono ?_
  rintro e W2 ⟨v, rfl, hf, hb2⟩
  unfold zTxV
  obtain ⟨va, vn, vc, rfl, hI⟩ := hf.si
  have hbx := (Bl.refl W2).alloc (.cells #[.int .i64 0, .int .i64 0, .int .i64 0, .slice none 0 0, .slice none 0 0, .slice none 0 0] 29)
  have H3 := Lib.hid (H2.out.keep (hb2.trans hbx))
  have HV := Lib.hid (hI.keep hbx)
  have hvn : vn = 2 := hI.len.symm
  subst hvn
  clear H2 hb2 hbx hf hI HGR
  go_upto_region 4 with fail
  have HV3 := HV
  generalize hX3 : W2.alloc _ = X3 at *
  clear hX3 HV
  have G3 := Lib.hid (H3.out.keep ((Bl.refl X3).alloc (.cells #[.int .i64 0, .int .i64 0] 3)))
  have I3 := Lib.hid (IA.lit X3 [0, 0] 3 (by decide) (by decide))
  have c0 := G3.out.box.cell 0 _ rfl
  have c1 := G3.out.box.cell 1 _ rfl
  have c2 := G3.out.box.cell 2 _ rfl
  have c3 := G3.out.box.cell 3 _ rfl
  have c4 := G3.out.box.cell 4 _ rfl
  have c5 := G3.out.box.cell 5 _ rfl
  go_wp2_with fail
  clear c0 c1 c2 c3 c4 c5
  refine (judge_hid (some ⟨X3.heap.size, 0, none⟩) 2 2 [0, 0] 1 0 1 0 _ 2 2 [0, 0] _ 2 2 [5, 0] _ 1 1 [(keyC1, ⟨1, 0, 5, ⟨#[]⟩⟩)] _ I3.out G3.out.tx.deps G3.out.tx.at_ G3.out.tx.ws 0 (Lib.hid aliveT_j0)).mono ?_
  rintro e X4 ⟨rfl, hb3⟩
  have H4 := Lib.hid (G3.out.keep hb3)
  have HV4 := Lib.hid ((HV3.out.keep ((Bl.refl X3).alloc (.cells #[.int .i64 0, .int .i64 0] 3))).keep hb3)
  clear G3 I3 hb3 H3 HV3
  have G4 := Lib.hid (H4.out.keep ((Bl.refl X4).alloc (.cells #[.int .i64 5, .int .i64 0] 3)))
  have I4 := Lib.hid (IA.lit X4 [5, 0] 3 (by decide) (by decide))
  have c0 := G4.out.box.cell 0 _ rfl
  have c1 := G4.out.box.cell 1 _ rfl
  have c2 := G4.out.box.cell 2 _ rfl
  have c3 := G4.out.box.cell 3 _ rfl
  have c4 := G4.out.box.cell 4 _ rfl
  have c5 := G4.out.box.cell 5 _ rfl
  go_wp2_with fail
  clear c0 c1 c2 c3 c4 c5
  refine (judge_hid (some ⟨X4.heap.size, 0, none⟩) 2 2 [5, 0] 1 0 1 0 _ 2 2 [0, 0] _ 2 2 [5, 0] _ 1 1 [(keyC1, ⟨1, 0, 5, ⟨#[]⟩⟩)] _ I4.out G4.out.tx.deps G4.out.tx.at_ G4.out.tx.ws 1 (Lib.hid aliveT_j1)).mono ?_
  rintro e X5 ⟨rfl, hb4⟩
  have H5 := Lib.hid (G4.out.keep hb4)
  have HV5 := Lib.hid ((HV4.out.keep ((Bl.refl X4).alloc (.cells #[.int .i64 5, .int .i64 0] 3))).keep hb4)
  clear G4 I4 hb4 H4 HV4
  have G5 := Lib.hid (H5.out.keep ((Bl.refl X5).alloc (.cells #[.int .i64 3, .int .i64 4] 3)))
  have I5 := Lib.hid (IA.lit X5 [3, 4] 3 (by decide) (by decide))
  have V5 := Lib.hid (HV5.out.keep ((Bl.refl X5).alloc (.cells #[.int .i64 3, .int .i64 4] 3)))
  go_wp2_with fail
  refine (rsame_any va (some ⟨X5.heap.size, 0, none⟩) 2 2 vc 2 [3, 4] [3, 4] _ V5.out I5.out).mono ?_
  rintro e X6 ⟨rfl, hb5⟩
  rw [decide_eq_true (rfl : ([3, 4] : List Int) = [3, 4])]
  have H6 := Lib.hid (G5.out.keep hb5)
  clear G5 I5 V5 hb5 H5 HV5
  have G6 := H6
  have TS6 := Lib.hid (TS.lit1 H6.out.tx 29)
  have K6 := Lib.hid (H6.out.keep ((Bl.refl X6).alloc (.cells (txCs aliveT (aliveS w.heap.size)).toArray 29)))
  have c0 := G6.out.box.cell 0 _ rfl
  have c1 := G6.out.box.cell 1 _ rfl
  have c2 := G6.out.box.cell 2 _ rfl
  have c3 := G6.out.box.cell 3 _ rfl
  have c4 := G6.out.box.cell 4 _ rfl
  have c5 := G6.out.box.cell 5 _ rfl
  go_wp2_with fail
  clear c0 c1 c2 c3 c4 c5
  refine (chain_any (some ⟨X6.heap.size, 0, none⟩) 1 1 [aliveT] (fun _ => aliveS w.heap.size) 0 _ TS6.out).mono ?_
  rintro e X7 ⟨rfl, hb6⟩
  rw [aliveT_chain]
  have H7 := Lib.hid (K6.out.keep hb6)
  clear G6 TS6 K6 hb6 H6
  have G7 := H7
  have TS7 := Lib.hid ((TS.lit1 H7.out.tx 29).keep ((Bl.refl _).alloc (.cells #[.int .i64 0, .int .i64 0] 3)))
  have I7 := Lib.hid (IA.lit (X7.alloc (.cells (txCs aliveT (aliveS w.heap.size)).toArray 29)) [0, 0] 3 (by decide) (by decide))
  have B7 := Lib.hid (H7.out.bl.trans (((Bl.refl X7).alloc (.cells (txCs aliveT (aliveS w.heap.size)).toArray 29)).alloc (.cells #[.int .i64 0, .int .i64 0] 3)))
  rw [show (X7.alloc (.cells (txCs aliveT (aliveS w.heap.size)).toArray 29)).heap.size = X7.heap.size + 1 by simp] at I7
  have c0 := G7.out.box.cell 0 _ rfl
  have c1 := G7.out.box.cell 1 _ rfl
  have c2 := G7.out.box.cell 2 _ rfl
  have c3 := G7.out.box.cell 3 _ rfl
  have c4 := G7.out.box.cell 4 _ rfl
  have c5 := G7.out.box.cell 5 _ rfl
  go_wp2_with fail
  clear c0 c1 c2 c3 c4 c5
  refine (unsent_any (some ⟨X7.heap.size, 0, none⟩) 1 1 [aliveT] (fun _ => aliveS w.heap.size) 0 (some ⟨X7.heap.size + 1, 0, none⟩) 2 2 [0, 0] (-1) _ TS7.out I7.out (fun j _ => by show 1 ≤ 1000000; decide)).mono ?_
  rintro e X8 ⟨u, g, rfl, hot, hb7⟩
  obtain ⟨ua, uc, rfl, _⟩ := hot.ts (by rw [aliveT_unsent]; decide)
  rw [aliveT_unsent]
  have H8 := Lib.hid (B7.out.trans hb7)
  clear hot hb7 TS7 I7 B7 G7
  go_wp2_with fail
  go_ret
  exact ⟨rfl, H8.out⟩
end Go.Proofs.Ytaokennbpgdngaa
end

/- bedrockref3.Valid. By an AI agent. -/
section
namespace Go.Proofs.Ytaokennbpgdngaa
open Go.RowKit

theorem valid_bad {xs : List Int} {k : Nat} (hk : k < xs.length) (h : badT (nth xs k) = true) : validL xs = false := by
  have : xs.any badT = true := List.any_eq_true.2 ⟨nth xs k, by rw [nth_eq hk]; exact List.getElem_mem hk, h⟩
  simp [validL, this]
theorem valid_good {xs : List Int} (h : ∀ j, j < xs.length → badT (nth xs j) = false) : validL xs = (decide (1 ≤ xs.length) && decide (xs.length ≤ 8)) := by
  have : xs.any badT = false := by
    rw [List.any_eq_false]
    intro x hx
    obtain ⟨j, hj, rfl⟩ := List.getElem_of_mem hx
    have := h j hj
    rw [nth_eq hj] at this
    simp [this]
  simp [validL, this]

set_option maxHeartbeats 800000 in
theorem rvalid_any (a : Option Addr) (n ca : Nat) (xs : List Int) (w : World) (hx : IA w a n xs) :
    Calls Try.prog 50 #[.slice a n ca] w fun e w' => e = .returned (.bool (validL xs)) ∧ w = w' := by
  have hx1 := hx.cap
  have HX := Lib.hid hx.len
  go_enter Try.func50, Try.ntmps50
  go_wp2
  go_loop [3] (fun i => ∃ k : Nat, k ≤ n ∧ i = .int .i64 k ∧ ∀ j, j < k → badT (nth xs j) = false) (fun i => n - (intOf i).toNat)
  case atStart => exact ⟨0, Nat.zero_le _, rfl, fun j h => by omega⟩
  case round =>
    obtain ⟨k, hk, rfl, hle⟩ := hrel
    have HLE := Lib.hid hle; clear hle
    by_cases hlt : k < n
    · obtain ⟨ba, oa, rfl, hca⟩ := hx.cells k hlt
      have ha := hca k hlt
      clear hca
      have hkx : k < xs.length := by rw [HX.out]; exact hlt
      by_cases h0 : nth xs k < 0
      · have HB := Lib.hid (valid_bad hkx (show badT (nth xs k) = true by simp [badT, h0]))
        go_wp2
        go_ret
        exact ⟨ret_bool HB.out.symm, rfl⟩
      · by_cases h1 : 281474976710656 ≤ nth xs k
        · have HB := Lib.hid (valid_bad hkx (show badT (nth xs k) = true by simp [badT, h1]))
          go_wp2
          go_ret
          exact ⟨ret_bool HB.out.symm, rfl⟩
        · have HB := Lib.hid (show badT (nth xs k) = false by simp [badT]; omega)
          go_wp2
          go_round
          case rel => exact ⟨k + 1, by omega, by go_num, fun j hj => by
            by_cases e : j = k
            · subst e; exact HB.out
            · exact HLE.out j (by omega)⟩
          case measure => simp [intOf]; omega
    · have HV := Lib.hid (valid_good (xs := xs) (fun j hj => HLE.out j (by rw [HX.out] at hj; omega)))
      by_cases h1 : (1 : Int) ≤ n
      · by_cases h8 : (n : Int) ≤ 8
        · go_wp2
          go_ret
          exact ⟨ret_bool (by rw [HV.out, HX.out]; simp; omega), rfl⟩
        · go_wp2
          go_ret
          exact ⟨ret_bool (by rw [HV.out, HX.out]; simp; omega), rfl⟩
      · go_wp2
        go_ret
        exact ⟨ret_bool (by rw [HV.out, HX.out]; simp; omega), rfl⟩
end Go.Proofs.Ytaokennbpgdngaa
end
