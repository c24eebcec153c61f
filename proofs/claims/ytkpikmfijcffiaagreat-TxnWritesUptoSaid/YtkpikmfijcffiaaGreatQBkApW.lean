import Derived.Test.YtkpikmfijcffiaaGreatQBookE
import Derived.Test.YtkpikmfijcffiaaGreatQTxnWritesUptoP21

/- a book that keeps Writes: Apart, and what is kept. By an AI agent. -/
section
set_option linter.unusedVariables false
namespace Go.Proofs.YtkpikmfijcffiaaGreat
open Go.RowKit

/-- the kinds that are kept -/
def bkW : BKd := ⟨[12], fun _ => 58, fun _ => 22, fun _ => 5, fun p v u W D => (p = 12 → TwoW v u W D), fun hf hd h => fun e => (h e).st hf hd⟩
set_option maxHeartbeats 4000000 in
set_option maxRecDepth 100000 in
theorem apartW_any (B g : Nat) (n : Nat → Nat) (vv wv : Nat → Value) (vs us : Nat → Nat → Value) (ln : Nat → Nat → Nat) (cs : Nat → Nat → List Value) (D : Nat → Nat → Nat → Prop) (T : Nat → Prop) (w : World) (hB : B ≤ w.heap.size) (hk : Hid (BookX bkW B w g n vv wv vs us ln cs D T)) :
    Calls Tryz.prog 19 #[.pointer (some ⟨g, 0, none⟩)] w fun e w' => e = .returned (.bool true) ∧ Fr (fun b => B ≤ b ∧ ¬ T b) w w' := by
  have hm12 : 12 ∈ bkW.K := by simp [bkW]
  obtain ⟨va12, cv12, e12, la12⟩ := row_la (hk.out.rv 12 hm12)
  obtain ⟨ua12, cu12, f12, lu12⟩ := row_la (hk.out.ru 12 hm12)
  have HA0 : Hid (AC w g [.slice none 0 0, .slice none 0 0, .slice none 0 0, .slice none 0 0, .slice none 0 0, .slice none 0 0, .slice none 0 0, .slice none 0 0, .slice none 0 0, .slice none 0 0, .slice none 0 0, .slice none 0 0, .slice va12 (n 12) cv12, .slice ua12 (n 12) cu12, .slice none 0 0, .slice none 0 0, .slice none 0 0, .slice none 0 0, .slice none 0 0, .slice none 0 0, .slice none 0 0, .slice none 0 0, .slice none 0 0, .slice none 0 0, .slice none 0 0, .slice none 0 0, .slice none 0 0, .slice none 0 0, .slice none 0 0, .slice none 0 0]) := Lib.hid (by
    have h := hk.out.box
    unfold hsOf at h
    rw [(hk.out.emp 0 (by simp [bkW])).1, (hk.out.emp 0 (by simp [bkW])).2] at h
    rw [(hk.out.emp 2 (by simp [bkW])).1, (hk.out.emp 2 (by simp [bkW])).2] at h
    rw [(hk.out.emp 4 (by simp [bkW])).1, (hk.out.emp 4 (by simp [bkW])).2] at h
    rw [(hk.out.emp 6 (by simp [bkW])).1, (hk.out.emp 6 (by simp [bkW])).2] at h
    rw [(hk.out.emp 8 (by simp [bkW])).1, (hk.out.emp 8 (by simp [bkW])).2] at h
    rw [(hk.out.emp 10 (by simp [bkW])).1, (hk.out.emp 10 (by simp [bkW])).2] at h
    rw [e12, f12] at h
    rw [(hk.out.emp 14 (by simp [bkW])).1, (hk.out.emp 14 (by simp [bkW])).2] at h
    rw [(hk.out.emp 16 (by simp [bkW])).1, (hk.out.emp 16 (by simp [bkW])).2] at h
    rw [(hk.out.emp 18 (by simp [bkW])).1, (hk.out.emp 18 (by simp [bkW])).2] at h
    rw [(hk.out.emp 20 (by simp [bkW])).1, (hk.out.emp 20 (by simp [bkW])).2] at h
    rw [(hk.out.emp 22 (by simp [bkW])).1, (hk.out.emp 22 (by simp [bkW])).2] at h
    rw [(hk.out.emp 24 (by simp [bkW])).1, (hk.out.emp 24 (by simp [bkW])).2] at h
    rw [(hk.out.emp 26 (by simp [bkW])).1, (hk.out.emp 26 (by simp [bkW])).2] at h
    rw [(hk.out.emp 28 (by simp [bkW])).1, (hk.out.emp 28 (by simp [bkW])).2] at h
    exact h)
  have HV12 := Lib.hid la12
  have HU12 := Lib.hid lu12
  have HQ12 := Lib.hid (fun j (hj : j < n 12) => ((hk.out.q 12 hm12 j hj) rfl : TwoW (vs 12 j) (us 12 j) w (D 12 j)))
  have HO12 : Hid (OWk B 58 5 (n 12) (vs 12) (ln 12) (cs 12) w) := Lib.hid (hk.out.own 12 hm12)
  have few12 := hk.out.few 12
  have HS12 := Lib.hid (hk.out.small 12 hm12)
  have HP12 := Lib.hid (hk.out.ap hm12)
  have HG12 := Lib.hid (hk.out.sb_g hm12)
  have HL12 := Lib.hid (fun b => hk.out.sb_lt hm12 (b := b))
  have HR12_12 := Lib.hid (fun (b off : Nat) (h : va12 = some ⟨b, off, none⟩) => hk.out.sb_row hm12 (q := 12) (b := b) (by rw [e12, h]; rfl))
  clear e12 f12 la12 lu12 hm12
  clear hk
  generalize n 12 = n12 at *
  generalize vs 12 = v12 at *
  generalize us 12 = u12 at *
  generalize ln 12 = l12 at *
  generalize cs 12 = c12 at *
  generalize D 12 = d12 at *
  clear n vv wv vs us ln cs D
  have HF0 := Lib.hid (Fr.refl (fun b => B ≤ b ∧ ¬ T b) w)
  go_enter Tryz.func19, Tryz.ntmps19
  go_wp2_with fail
  refine (stillTexts_none g _ (HA0.out.cell 0 _ rfl)).mono ?_
  rintro e w' ⟨rfl, rfl⟩
  go_wp2_with fail
  refine (stillInts_none g _ (HA0.out.cell 2 _ rfl)).mono ?_
  rintro e w' ⟨rfl, rfl⟩
  go_wp2_with fail
  refine (stillVecs_none g _ (HA0.out.cell 4 _ rfl)).mono ?_
  rintro e w' ⟨rfl, rfl⟩
  go_wp2_with fail
  refine (stillKeys_none g _ (HA0.out.cell 6 _ rfl)).mono ?_
  rintro e w' ⟨rfl, rfl⟩
  go_wp2_with fail
  refine (stillPairs_none g _ (HA0.out.cell 8 _ rfl)).mono ?_
  rintro e w' ⟨rfl, rfl⟩
  go_wp2_with fail
  refine (stillVersions_none g _ (HA0.out.cell 10 _ rfl)).mono ?_
  rintro e w' ⟨rfl, rfl⟩
  go_wp2_with fail
  refine (stillWrites_any g va12 ua12 n12 cv12 cu12 v12 u12 d12 _ few12 (HA0.out.cell 12 _ rfl) (HA0.out.cell 13 _ rfl) HV12.out HU12.out HQ12.out).mono ?_
  rintro e W12 ⟨rfl, hb⟩
  clear HQ12 HU12
  have K1 := Lib.hid (HA0.out.keep hb)
  clear HA0
  have K2 := Lib.hid (HF0.out.bl hb)
  clear HF0
  have K3 := Lib.hid (HV12.out.keep hb)
  clear HV12
  have K4 := Lib.hid (HO12.out.keep hb)
  clear HO12
  clear hb
  go_wp2_with fail
  refine (stillTxns_none g _ (K1.out.cell 14 _ rfl)).mono ?_
  rintro e w' ⟨rfl, rfl⟩
  go_wp2_with fail
  refine (stillFiles_none g _ (K1.out.cell 16 _ rfl)).mono ?_
  rintro e w' ⟨rfl, rfl⟩
  go_wp2_with fail
  refine (stillNotes_none g _ (K1.out.cell 18 _ rfl)).mono ?_
  rintro e w' ⟨rfl, rfl⟩
  go_wp2_with fail
  refine (stillLeases_none g _ (K1.out.cell 20 _ rfl)).mono ?_
  rintro e w' ⟨rfl, rfl⟩
  go_wp2_with fail
  refine (stillLetters_none g _ (K1.out.cell 22 _ rfl)).mono ?_
  rintro e w' ⟨rfl, rfl⟩
  go_wp2_with fail
  refine (stillSteps_none g _ (K1.out.cell 24 _ rfl)).mono ?_
  rintro e w' ⟨rfl, rfl⟩
  go_wp2_with fail
  refine (stillReals_none g _ (K1.out.cell 26 _ rfl)).mono ?_
  rintro e w' ⟨rfl, rfl⟩
  go_wp2_with fail
  refine (stillLists_none g _ (K1.out.cell 28 _ rfl)).mono ?_
  rintro e w' ⟨rfl, rfl⟩
  go_wp2_with fail
  refine (putVersions_none g _ (K1.out.cell 10 _ rfl)).mono ?_
  rintro e w' ⟨rfl, rfl⟩
  go_wp2_with fail
  refine (putTxns_none g _ (K1.out.cell 14 _ rfl)).mono ?_
  rintro e w' ⟨rfl, rfl⟩
  go_wp2_with fail
  refine (putLeases_none g _ (K1.out.cell 20 _ rfl)).mono ?_
  rintro e w' ⟨rfl, rfl⟩
  go_wp2_with fail
  refine (putSteps_none g _ (K1.out.cell 24 _ rfl)).mono ?_
  rintro e w' ⟨rfl, rfl⟩
  go_wp2_with fail
  refine (putLists_none g _ (K1.out.cell 28 _ rfl)).mono ?_
  rintro e w' ⟨rfl, rfl⟩
  go_wp2_with fail
  refine (putTexts_none g _ (K1.out.cell 0 _ rfl)).mono ?_
  rintro e w' ⟨rfl, rfl⟩
  go_wp2_with fail
  refine (putInts_none g _ (K1.out.cell 2 _ rfl)).mono ?_
  rintro e w' ⟨rfl, rfl⟩
  go_wp2_with fail
  refine (putVecs_none g _ (K1.out.cell 4 _ rfl)).mono ?_
  rintro e w' ⟨rfl, rfl⟩
  go_wp2_with fail
  refine (putKeys_none g _ (K1.out.cell 6 _ rfl)).mono ?_
  rintro e w' ⟨rfl, rfl⟩
  go_wp2_with fail
  refine (putPairs_none g _ (K1.out.cell 8 _ rfl)).mono ?_
  rintro e w' ⟨rfl, rfl⟩
  go_wp2_with fail
  refine (putWrites_any B g va12 n12 cv12 v12 l12 c12 _ few12 (K1.out.cell 12 _ rfl) K3.out (fun j hj => ⟨K4.out j hj, Nat.le_trans (HS12.out j hj) (by decide)⟩) HP12.out HG12.out HR12_12.out).mono ?_
  rintro e P12 ⟨rfl, hf, ho⟩
  clear K4
  have HM12 := Lib.hid (show OWk B 58 5 n12 v12 l12 (fun j => mkW.row j 0 (l12 j)) P12 from ho)
  have K5 := Lib.hid (hf.ac K1.out HG12.out)
  clear K1
  have K6 := Lib.hid (K2.out.trans (hf.wider (fun b q => (HL12.out b q).2)))
  clear K2
  have K7 := Lib.hid (hf.la K3.out HR12_12.out)
  clear K3
  clear hf ho
  go_wp2_with fail
  refine (putFiles_none g _ (K5.out.cell 16 _ rfl)).mono ?_
  rintro e w' ⟨rfl, rfl⟩
  go_wp2_with fail
  refine (putNotes_none g _ (K5.out.cell 18 _ rfl)).mono ?_
  rintro e w' ⟨rfl, rfl⟩
  go_wp2_with fail
  refine (putLetters_none g _ (K5.out.cell 22 _ rfl)).mono ?_
  rintro e w' ⟨rfl, rfl⟩
  go_wp2_with fail
  refine (putReals_none g _ (K5.out.cell 26 _ rfl)).mono ?_
  rintro e w' ⟨rfl, rfl⟩
  go_wp2_with fail
  refine (growTexts_none g _ (K5.out.cell 0 _ rfl)).mono ?_
  rintro e w' ⟨rfl, rfl⟩
  go_wp2_with fail
  refine (growInts_none g _ (K5.out.cell 2 _ rfl)).mono ?_
  rintro e w' ⟨rfl, rfl⟩
  go_wp2_with fail
  refine (growVecs_none g _ (K5.out.cell 4 _ rfl)).mono ?_
  rintro e w' ⟨rfl, rfl⟩
  go_wp2_with fail
  refine (growKeys_none g _ (K5.out.cell 6 _ rfl)).mono ?_
  rintro e w' ⟨rfl, rfl⟩
  go_wp2_with fail
  refine (growPairs_none g _ (K5.out.cell 8 _ rfl)).mono ?_
  rintro e w' ⟨rfl, rfl⟩
  go_wp2_with fail
  refine (growVersions_none g _ (K5.out.cell 10 _ rfl)).mono ?_
  rintro e w' ⟨rfl, rfl⟩
  go_wp2_with fail
  have hz12 := Nat.le_trans hB K6.out.size
  have hy12 := K6.out.size
  refine (growWrites_any B g va12 n12 cv12 v12 l12 _ few12 hz12 (K5.out.cell 12 _ rfl) K7.out (fun j hj => ⟨HM12.out j hj, HS12.out j hj⟩) HP12.out HG12.out HR12_12.out).mono ?_
  rintro e G12 ⟨out12, g12, rfl, hgr⟩
  obtain ⟨oa12, oc12, rfl, -⟩ := row_la hgr.row
  have hf := hgr.fr
  have HGS12 := Lib.hid hgr.grs
  clear HM12
  have K8 := Lib.hid (hf.ac K5.out HG12.out)
  clear K5
  have K9 := Lib.hid (K6.out.trans (hf.wider (fun b q => (HL12.out b q).2)))
  clear K6
  have K10 := Lib.hid (hf.la K7.out HR12_12.out)
  clear K7
  clear hf hgr hz12
  go_wp2_with fail
  refine (growTxns_none g _ (K8.out.cell 14 _ rfl)).mono ?_
  rintro e w' ⟨rfl, rfl⟩
  go_wp2_with fail
  refine (growFiles_none g _ (K8.out.cell 16 _ rfl)).mono ?_
  rintro e w' ⟨rfl, rfl⟩
  go_wp2_with fail
  refine (growNotes_none g _ (K8.out.cell 18 _ rfl)).mono ?_
  rintro e w' ⟨rfl, rfl⟩
  go_wp2_with fail
  refine (growLeases_none g _ (K8.out.cell 20 _ rfl)).mono ?_
  rintro e w' ⟨rfl, rfl⟩
  go_wp2_with fail
  refine (growLetters_none g _ (K8.out.cell 22 _ rfl)).mono ?_
  rintro e w' ⟨rfl, rfl⟩
  go_wp2_with fail
  refine (growSteps_none g _ (K8.out.cell 24 _ rfl)).mono ?_
  rintro e w' ⟨rfl, rfl⟩
  go_wp2_with fail
  refine (growReals_none g _ (K8.out.cell 26 _ rfl)).mono ?_
  rintro e w' ⟨rfl, rfl⟩
  go_wp2_with fail
  refine (growLists_none g _ (K8.out.cell 28 _ rfl)).mono ?_
  rintro e w' ⟨rfl, rfl⟩
  go_wp2_with fail
  refine (markedTexts_none _).mono ?_
  rintro e w' ⟨rfl, rfl⟩
  have q0 := K8.out.cell 0 _ rfl
  go_wp2_with fail
  refine (markedTexts_none _).mono ?_
  rintro e w' ⟨rfl, rfl⟩
  clear q0
  go_wp2_with fail
  refine (markedInts_none _).mono ?_
  rintro e w' ⟨rfl, rfl⟩
  have q2 := K8.out.cell 2 _ rfl
  go_wp2_with fail
  refine (markedInts_none _).mono ?_
  rintro e w' ⟨rfl, rfl⟩
  clear q2
  go_wp2_with fail
  refine (markedVecs_none _).mono ?_
  rintro e w' ⟨rfl, rfl⟩
  have q4 := K8.out.cell 4 _ rfl
  go_wp2_with fail
  refine (markedVecs_none _).mono ?_
  rintro e w' ⟨rfl, rfl⟩
  clear q4
  go_wp2_with fail
  refine (markedKeys_none _).mono ?_
  rintro e w' ⟨rfl, rfl⟩
  have q6 := K8.out.cell 6 _ rfl
  go_wp2_with fail
  refine (markedKeys_none _).mono ?_
  rintro e w' ⟨rfl, rfl⟩
  clear q6
  go_wp2_with fail
  refine (markedPairs_none _).mono ?_
  rintro e w' ⟨rfl, rfl⟩
  have q8 := K8.out.cell 8 _ rfl
  go_wp2_with fail
  refine (markedPairs_none _).mono ?_
  rintro e w' ⟨rfl, rfl⟩
  clear q8
  go_wp2_with fail
  refine (markedVersions_none _).mono ?_
  rintro e w' ⟨rfl, rfl⟩
  have q10 := K8.out.cell 10 _ rfl
  go_wp2_with fail
  refine (markedVersions_none _).mono ?_
  rintro e w' ⟨rfl, rfl⟩
  clear q10
  go_wp2_with fail
  obtain ⟨_, _, ee, hlo⟩ := row_la HGS12.out.row
  cases ee
  refine (markedWrites_any oa12 n12 oc12 g12 (fun j => l12 j + 72) B _ few12 hlo (fun j hj => ⟨HGS12.out.ogs j hj, by have := HS12.out j hj; (try dsimp only); omega⟩)).mono ?_
  rintro e M12 ⟨rfl, hb⟩
  clear hlo
  have K11 := Lib.hid (K8.out.keep hb)
  clear K8
  have K12 := Lib.hid (K9.out.bl hb)
  clear K9
  have K13 := Lib.hid (K10.out.keep hb)
  clear K10
  have K14 := Lib.hid (HGS12.out.keep hb)
  clear HGS12
  clear hb
  have q12 := K11.out.cell 12 _ rfl
  go_wp2_with fail
  refine (markedWrites_any va12 n12 cv12 v12 l12 B _ few12 K13.out (fun j hj => ⟨K14.out.ovs j hj, by have := HS12.out j hj; (try dsimp only); omega⟩)).mono ?_
  rintro e N12 ⟨rfl, hb⟩
  clear q12
  have K15 := Lib.hid (K11.out.keep hb)
  clear K11
  have K16 := Lib.hid (K12.out.bl hb)
  clear K12
  have K17 := Lib.hid (K13.out.keep hb)
  clear K13
  have K18 := Lib.hid (K14.out.keep hb)
  clear K14
  clear hb
  go_wp2_with fail
  refine (markedTxns_none _).mono ?_
  rintro e w' ⟨rfl, rfl⟩
  have q14 := K15.out.cell 14 _ rfl
  go_wp2_with fail
  refine (markedTxns_none _).mono ?_
  rintro e w' ⟨rfl, rfl⟩
  clear q14
  go_wp2_with fail
  refine (markedFiles_none _).mono ?_
  rintro e w' ⟨rfl, rfl⟩
  have q16 := K15.out.cell 16 _ rfl
  go_wp2_with fail
  refine (markedFiles_none _).mono ?_
  rintro e w' ⟨rfl, rfl⟩
  clear q16
  go_wp2_with fail
  refine (markedNotes_none _).mono ?_
  rintro e w' ⟨rfl, rfl⟩
  have q18 := K15.out.cell 18 _ rfl
  go_wp2_with fail
  refine (markedNotes_none _).mono ?_
  rintro e w' ⟨rfl, rfl⟩
  clear q18
  go_wp2_with fail
  refine (markedLeases_none _).mono ?_
  rintro e w' ⟨rfl, rfl⟩
  have q20 := K15.out.cell 20 _ rfl
  go_wp2_with fail
  refine (markedLeases_none _).mono ?_
  rintro e w' ⟨rfl, rfl⟩
  clear q20
  go_wp2_with fail
  refine (markedLetters_none _).mono ?_
  rintro e w' ⟨rfl, rfl⟩
  have q22 := K15.out.cell 22 _ rfl
  go_wp2_with fail
  refine (markedLetters_none _).mono ?_
  rintro e w' ⟨rfl, rfl⟩
  clear q22
  go_wp2_with fail
  refine (markedSteps_none _).mono ?_
  rintro e w' ⟨rfl, rfl⟩
  have q24 := K15.out.cell 24 _ rfl
  go_wp2_with fail
  refine (markedSteps_none _).mono ?_
  rintro e w' ⟨rfl, rfl⟩
  clear q24
  go_wp2_with fail
  refine (markedReals_none _).mono ?_
  rintro e w' ⟨rfl, rfl⟩
  have q26 := K15.out.cell 26 _ rfl
  go_wp2_with fail
  refine (markedReals_none _).mono ?_
  rintro e w' ⟨rfl, rfl⟩
  clear q26
  go_wp2_with fail
  refine (markedLists_none _).mono ?_
  rintro e w' ⟨rfl, rfl⟩
  have q28 := K15.out.cell 28 _ rfl
  go_wp2_with fail
  refine (markedLists_none _).mono ?_
  rintro e w' ⟨rfl, rfl⟩
  clear q28
  go_wp2_with fail
  go_ret
  exact ⟨rfl, K16.out⟩
theorem bqW_apart (B g : Nat) (T : Nat → Prop) (w : World) (hB : B ≤ w.heap.size) (h : BQ bkW B w g T) :
    Calls Tryz.prog 19 #[.pointer (some ⟨g, 0, none⟩)] w fun e w' => e = .returned (.bool true) ∧ Fr (fun b => B ≤ b ∧ ¬ T b) w w' := by
  obtain ⟨n, vv, wv, vs, us, ln, cs, D, h⟩ := h
  exact apartW_any B g n vv wv vs us ln cs D T w hB (Lib.hid h)
theorem bqW_Writes (B g : Nat) (a : Option Addr) (nv c : Nat) (ps : List (ByteArray × ActL)) (T : Nat → Prop) (w : World) (hB : B ≤ w.heap.size) (h : BQ bkW B w g T) (ho : w.ownsRow B 58 5 (.slice a nv c) nv (cellsW ps)) (hl : ps.length = nv) (hn : nv ≤ 50000) (hok : ∀ p ∈ ps, WrOk p) (hT : ∀ b, (Value.slice a nv c).ownBlock = some b → T b) :
    Calls Tryz.prog 18 #[.pointer (some ⟨g, 0, none⟩), .slice a nv c] w fun e w' => e = .returned (.tuple #[]) ∧ BQ bkW B w' g (fun b => T b ∧ (Value.slice a nv c).ownBlock ≠ some b) ∧ Fr (fun b => ¬ T b) w w' := by
  obtain ⟨n, vv, wv, vs, us, ln, cs, D, h⟩ := h
  have hm : 12 ∈ bkW.K := by simp [bkW]
  have hr : WW w a nv ps := WW.own ho hl (by omega) hok
  have hblk : ∀ b off, a = some ⟨b, off, none⟩ → 0 < nv → (Value.slice a nv c).ownBlock = some b := fun b off e _ => by subst e; rfl
  by_cases hf : n 12 < 250
  · refine (regWrites_any B g (n 12) (hsOf vv wv) (vv 12) (wv 12) _ _ a nv c ps w hf hB h.box rfl rfl rfl (h.rv 12 hm) (h.ru 12 hm) (h.gv 12).1 (h.gv 12).2 (h.hwv 12 12) hr (by omega) (fun b off e hp q => ?_)).mono ?_
    · have hb := (h.t b (hT b (hblk b off e hp))).2.1
      rcases q with q | q | q
      · exact hb (.inl q)
      · exact hb (.inr ⟨12, .inl q⟩)
      · exact hb (.inr ⟨12, .inr q⟩)
    · rintro e w' ⟨rfl, vv', wv', u, Dn, P⟩
      have hD : ∀ b, (Value.slice a nv c).ownBlock = some b → b < w.heap.size ∧ ¬ BSt g vv wv b := fun b q => ⟨(h.t b (hT b q)).1, (h.t b (hT b q)).2.1⟩
      have hst : ¬ BSt g vv wv g → False := fun q => q (.inl rfl)
      have Q := h.vpk (p := 12) (Dv := fun b => (Value.slice a nv c).ownBlock = some b) P (by rfl) hD (fun hc => ?_)
      · exact ⟨rfl, h.reg hm hf ho hn hT hD Q⟩
      · obtain ⟨a2, n2, c2, rfl, hr2, hd2⟩ := hc
        have hn2 : n2 = nv := by rw [← hr2.len, hl]
        subst hn2
        have two : TwoW (.slice a n2 c) (.slice a2 n2 c2) w' (fun b => Dn b ∨ (Value.slice a n2 c).ownBlock = some b) := ⟨ps, a, a2, n2, c, c2, rfl, rfl, hr.fr P.fr (fun b off e hp q => ?_), hr2, fun x off e hp => .inr (hblk x off e hp), fun x off e hp => .inl (hd2 x off e hp)⟩
        · exact fun _ => two
        · have hb := (h.t b (hT b (hblk b off e hp))).2.1
          rcases q with q | q | q
          · exact hb (.inl q)
          · exact hb (.inr ⟨12, .inl q⟩)
          · exact hb (.inr ⟨12, .inr q⟩)
  · have h250 : n 12 = 250 := by have := h.few 12; omega
    obtain ⟨va, cv, ev⟩ := row_shape' (h.rv 12 hm)
    rw [h250] at ev
    refine (fullWrites_any g (hsOf vv wv) va cv (.slice a nv c) w h.box (by rw [← ev]; rfl)).mono ?_
    rintro e w' ⟨rfl, rfl⟩
    exact ⟨rfl, (h.less (fun b hb => hb.1)).bq, Fr.refl _ _⟩
end Go.Proofs.YtkpikmfijcffiaaGreat
end
