import Derived.Test.YtaelghbjbopilaaGreatQProtoRepliesUptoP30
import Derived.Test.YtaelghbjbopilaaGreatQProtoRepliesUptoP37
import Derived.Test.YtaelghbjbopilaaGreatQProtoRepliesUptoP40
import Derived.Test.YtaelghbjbopilaaGreatQProtoRepliesUptoP36

/- a book that keeps Vecs, Pairs: Apart, and what is kept. By an AI agent. -/
section
set_option linter.unusedVariables false
namespace Go.Proofs.YtaelghbjbopilaaGreat
open Go.RowKit

/-- the kinds that are kept -/
def bkVP : BKd := ⟨[4, 8], fun p => if p = 4 then 3 else 52, fun p => if p = 4 then 23 else 28, fun p => if p = 4 then 1 else 5, fun p v u W D => (p = 4 → TwoV v u W D) ∧ (p = 8 → TwoP v u W D), fun hf hd h => ⟨fun e => (h.1 e).st hf hd, fun e => (h.2 e).st hf hd⟩⟩
set_option maxHeartbeats 4000000 in
set_option maxRecDepth 100000 in
theorem apartVP_any (B g : Nat) (n : Nat → Nat) (vv wv : Nat → Value) (vs us : Nat → Nat → Value) (ln : Nat → Nat → Nat) (cs : Nat → Nat → List Value) (D : Nat → Nat → Nat → Prop) (T : Nat → Prop) (w : World) (hB : B ≤ w.heap.size) (hk : Hid (BookX bkVP B w g n vv wv vs us ln cs D T)) :
    Calls Tryz.prog 15 #[.pointer (some ⟨g, 0, none⟩)] w fun e w' => e = .returned (.bool true) ∧ Fr (fun b => B ≤ b ∧ ¬ T b) w w' := by
  have hm4 : 4 ∈ bkVP.K := by simp [bkVP]
  obtain ⟨va4, cv4, e4, la4⟩ := row_la (hk.out.rv 4 hm4)
  obtain ⟨ua4, cu4, f4, lu4⟩ := row_la (hk.out.ru 4 hm4)
  have hm8 : 8 ∈ bkVP.K := by simp [bkVP]
  obtain ⟨va8, cv8, e8, la8⟩ := row_la (hk.out.rv 8 hm8)
  obtain ⟨ua8, cu8, f8, lu8⟩ := row_la (hk.out.ru 8 hm8)
  have HA0 : Hid (AC w g [.slice none 0 0, .slice none 0 0, .slice none 0 0, .slice none 0 0, .slice va4 (n 4) cv4, .slice ua4 (n 4) cu4, .slice none 0 0, .slice none 0 0, .slice va8 (n 8) cv8, .slice ua8 (n 8) cu8, .slice none 0 0, .slice none 0 0, .slice none 0 0, .slice none 0 0, .slice none 0 0, .slice none 0 0, .slice none 0 0, .slice none 0 0, .slice none 0 0, .slice none 0 0, .slice none 0 0, .slice none 0 0, .slice none 0 0, .slice none 0 0, .slice none 0 0, .slice none 0 0, .slice none 0 0, .slice none 0 0, .slice none 0 0, .slice none 0 0]) := Lib.hid (by
    have h := hk.out.box
    unfold hsOf at h
    rw [(hk.out.emp 0 (by simp [bkVP])).1, (hk.out.emp 0 (by simp [bkVP])).2] at h
    rw [(hk.out.emp 2 (by simp [bkVP])).1, (hk.out.emp 2 (by simp [bkVP])).2] at h
    rw [e4, f4] at h
    rw [(hk.out.emp 6 (by simp [bkVP])).1, (hk.out.emp 6 (by simp [bkVP])).2] at h
    rw [e8, f8] at h
    rw [(hk.out.emp 10 (by simp [bkVP])).1, (hk.out.emp 10 (by simp [bkVP])).2] at h
    rw [(hk.out.emp 12 (by simp [bkVP])).1, (hk.out.emp 12 (by simp [bkVP])).2] at h
    rw [(hk.out.emp 14 (by simp [bkVP])).1, (hk.out.emp 14 (by simp [bkVP])).2] at h
    rw [(hk.out.emp 16 (by simp [bkVP])).1, (hk.out.emp 16 (by simp [bkVP])).2] at h
    rw [(hk.out.emp 18 (by simp [bkVP])).1, (hk.out.emp 18 (by simp [bkVP])).2] at h
    rw [(hk.out.emp 20 (by simp [bkVP])).1, (hk.out.emp 20 (by simp [bkVP])).2] at h
    rw [(hk.out.emp 22 (by simp [bkVP])).1, (hk.out.emp 22 (by simp [bkVP])).2] at h
    rw [(hk.out.emp 24 (by simp [bkVP])).1, (hk.out.emp 24 (by simp [bkVP])).2] at h
    rw [(hk.out.emp 26 (by simp [bkVP])).1, (hk.out.emp 26 (by simp [bkVP])).2] at h
    rw [(hk.out.emp 28 (by simp [bkVP])).1, (hk.out.emp 28 (by simp [bkVP])).2] at h
    exact h)
  have HV4 := Lib.hid la4
  have HU4 := Lib.hid lu4
  have HQ4 := Lib.hid (fun j (hj : j < n 4) => ((hk.out.q 4 hm4 j hj).1 rfl : TwoV (vs 4 j) (us 4 j) w (D 4 j)))
  have HO4 : Hid (OWk B 3 1 (n 4) (vs 4) (ln 4) (cs 4) w) := Lib.hid (hk.out.own 4 hm4)
  have few4 := hk.out.few 4
  have HS4 := Lib.hid (hk.out.small 4 hm4)
  have HP4 := Lib.hid (hk.out.ap hm4)
  have HG4 := Lib.hid (hk.out.sb_g hm4)
  have HL4 := Lib.hid (fun b => hk.out.sb_lt hm4 (b := b))
  have HR4_4 := Lib.hid (fun (b off : Nat) (h : va4 = some ⟨b, off, none⟩) => hk.out.sb_row hm4 (q := 4) (b := b) (by rw [e4, h]; rfl))
  have HR4_8 := Lib.hid (fun (b off : Nat) (h : va8 = some ⟨b, off, none⟩) => hk.out.sb_row hm4 (q := 8) (b := b) (by rw [e8, h]; rfl))
  have HX4_8 := Lib.hid (fun b => hk.out.sb_sb hm4 hm8 (by decide) (b := b))
  have HV8 := Lib.hid la8
  have HU8 := Lib.hid lu8
  have HQ8 := Lib.hid (fun j (hj : j < n 8) => ((hk.out.q 8 hm8 j hj).2 rfl : TwoP (vs 8 j) (us 8 j) w (D 8 j)))
  have HO8 : Hid (OWk B 52 5 (n 8) (vs 8) (ln 8) (cs 8) w) := Lib.hid (hk.out.own 8 hm8)
  have few8 := hk.out.few 8
  have HS8 := Lib.hid (hk.out.small 8 hm8)
  have HP8 := Lib.hid (hk.out.ap hm8)
  have HG8 := Lib.hid (hk.out.sb_g hm8)
  have HL8 := Lib.hid (fun b => hk.out.sb_lt hm8 (b := b))
  have HR8_4 := Lib.hid (fun (b off : Nat) (h : va4 = some ⟨b, off, none⟩) => hk.out.sb_row hm8 (q := 4) (b := b) (by rw [e4, h]; rfl))
  have HX8_4 := Lib.hid (fun b => hk.out.sb_sb hm8 hm4 (by decide) (b := b))
  have HR8_8 := Lib.hid (fun (b off : Nat) (h : va8 = some ⟨b, off, none⟩) => hk.out.sb_row hm8 (q := 8) (b := b) (by rw [e8, h]; rfl))
  clear e4 f4 la4 lu4 hm4
  clear e8 f8 la8 lu8 hm8
  obtain ⟨xs4, hxs4⟩ := pick_ints (fun j hj => HQ4.out j hj) (fun j hj => HO4.out j hj)
  have HO4x : Hid (OWk B 3 1 (n 4) (vs 4) (fun j => (xs4 j).length) (fun j => (xs4 j).map (Value.int .i64)) w) := Lib.hid (fun j hj => by have h := HO4.out j hj; rw [(hxs4 j hj).2, ← (hxs4 j hj).1] at h; exact h)
  have HS4x : Hid (∀ j, j < n 4 → (xs4 j).length ≤ 50000) := Lib.hid (fun j hj => by rw [(hxs4 j hj).1]; exact HS4.out j hj)
  clear hxs4 HO4 HS4
  have HO4 := HO4x
  have HS4 := HS4x
  clear HO4x HS4x
  clear hk
  generalize n 4 = n4 at *
  generalize vs 4 = v4 at *
  generalize us 4 = u4 at *
  generalize ln 4 = l4 at *
  generalize cs 4 = c4 at *
  generalize D 4 = d4 at *
  generalize n 8 = n8 at *
  generalize vs 8 = v8 at *
  generalize us 8 = u8 at *
  generalize ln 8 = l8 at *
  generalize cs 8 = c8 at *
  generalize D 8 = d8 at *
  clear n vv wv vs us ln cs D
  have HF0 := Lib.hid (Fr.refl (fun b => B ≤ b ∧ ¬ T b) w)
  go_enter Tryz.func15, Tryz.ntmps15
  go_wp2_with fail
  refine (stillTexts_none g _ (HA0.out.cell 0 _ rfl)).mono ?_
  rintro e w' ⟨rfl, rfl⟩
  go_wp2_with fail
  refine (stillInts_none g _ (HA0.out.cell 2 _ rfl)).mono ?_
  rintro e w' ⟨rfl, rfl⟩
  go_wp2_with fail
  refine (stillVecsk_any g va4 ua4 n4 cv4 cu4 v4 u4 d4 _ few4 (HA0.out.cell 4 _ rfl) (HA0.out.cell 5 _ rfl) HV4.out HU4.out HQ4.out).mono ?_
  rintro e W4 ⟨rfl, hb⟩
  clear HQ4 HU4
  have K1 := Lib.hid (HA0.out.keep hb)
  clear HA0
  have K2 := Lib.hid (HF0.out.bl hb)
  clear HF0
  have K3 := Lib.hid (HV4.out.keep hb)
  clear HV4
  have K4 := Lib.hid (HO4.out.keep hb)
  clear HO4
  have K5 := Lib.hid (HV8.out.keep hb)
  clear HV8
  have K6 := Lib.hid (HU8.out.keep hb)
  clear HU8
  have K7 := Lib.hid (HO8.out.keep hb)
  clear HO8
  have K8 := Lib.hid (fun j hj => (HQ8.out j hj).st ((Fr.refl (fun _ => False) _).bl hb) (fun _ _ h => h))
  clear HQ8
  clear hb
  go_wp2_with fail
  refine (stillKeys_none g _ (K1.out.cell 6 _ rfl)).mono ?_
  rintro e w' ⟨rfl, rfl⟩
  go_wp2_with fail
  refine (stillPairs_any g va8 ua8 n8 cv8 cu8 v8 u8 d8 _ few8 (K1.out.cell 8 _ rfl) (K1.out.cell 9 _ rfl) K5.out K6.out K8.out).mono ?_
  rintro e W8 ⟨rfl, hb⟩
  clear K8 K6
  have K9 := Lib.hid (K1.out.keep hb)
  clear K1
  have K10 := Lib.hid (K2.out.bl hb)
  clear K2
  have K11 := Lib.hid (K3.out.keep hb)
  clear K3
  have K12 := Lib.hid (K4.out.keep hb)
  clear K4
  have K13 := Lib.hid (K5.out.keep hb)
  clear K5
  have K14 := Lib.hid (K7.out.keep hb)
  clear K7
  clear hb
  go_wp2_with fail
  refine (stillVersions_none g _ (K9.out.cell 10 _ rfl)).mono ?_
  rintro e w' ⟨rfl, rfl⟩
  go_wp2_with fail
  refine (stillWrites_none g _ (K9.out.cell 12 _ rfl)).mono ?_
  rintro e w' ⟨rfl, rfl⟩
  go_wp2_with fail
  refine (stillTxns_none g _ (K9.out.cell 14 _ rfl)).mono ?_
  rintro e w' ⟨rfl, rfl⟩
  go_wp2_with fail
  refine (stillFiles_none g _ (K9.out.cell 16 _ rfl)).mono ?_
  rintro e w' ⟨rfl, rfl⟩
  go_wp2_with fail
  refine (stillNotes_none g _ (K9.out.cell 18 _ rfl)).mono ?_
  rintro e w' ⟨rfl, rfl⟩
  go_wp2_with fail
  refine (stillLeases_none g _ (K9.out.cell 20 _ rfl)).mono ?_
  rintro e w' ⟨rfl, rfl⟩
  go_wp2_with fail
  refine (stillLetters_none g _ (K9.out.cell 22 _ rfl)).mono ?_
  rintro e w' ⟨rfl, rfl⟩
  go_wp2_with fail
  refine (stillSteps_none g _ (K9.out.cell 24 _ rfl)).mono ?_
  rintro e w' ⟨rfl, rfl⟩
  go_wp2_with fail
  refine (stillReals_none g _ (K9.out.cell 26 _ rfl)).mono ?_
  rintro e w' ⟨rfl, rfl⟩
  go_wp2_with fail
  refine (stillLists_none g _ (K9.out.cell 28 _ rfl)).mono ?_
  rintro e w' ⟨rfl, rfl⟩
  go_wp2_with fail
  refine (putVersions_none g _ (K9.out.cell 10 _ rfl)).mono ?_
  rintro e w' ⟨rfl, rfl⟩
  go_wp2_with fail
  refine (putTxns_none g _ (K9.out.cell 14 _ rfl)).mono ?_
  rintro e w' ⟨rfl, rfl⟩
  go_wp2_with fail
  refine (putLeases_none g _ (K9.out.cell 20 _ rfl)).mono ?_
  rintro e w' ⟨rfl, rfl⟩
  go_wp2_with fail
  refine (putSteps_none g _ (K9.out.cell 24 _ rfl)).mono ?_
  rintro e w' ⟨rfl, rfl⟩
  go_wp2_with fail
  refine (putLists_none g _ (K9.out.cell 28 _ rfl)).mono ?_
  rintro e w' ⟨rfl, rfl⟩
  go_wp2_with fail
  refine (putTexts_none g _ (K9.out.cell 0 _ rfl)).mono ?_
  rintro e w' ⟨rfl, rfl⟩
  go_wp2_with fail
  refine (putInts_none g _ (K9.out.cell 2 _ rfl)).mono ?_
  rintro e w' ⟨rfl, rfl⟩
  go_wp2_with fail
  refine (putVecsk_any B g va4 n4 cv4 v4 xs4 _ few4 (K9.out.cell 4 _ rfl) K11.out (fun j hj => ⟨K12.out j hj, Nat.le_trans (HS4.out j hj) (by decide)⟩) HP4.out HG4.out HR4_4.out).mono ?_
  rintro e P4 ⟨rfl, hf, ho⟩
  clear K12
  have HM4 := Lib.hid (show OWk B 3 1 n4 v4 (fun j => (xs4 j).length) (fun j => mkV.row j 0 ((fun j => (xs4 j).length) j)) P4 from ho)
  have K15 := Lib.hid (hf.ac K9.out HG4.out)
  clear K9
  have K16 := Lib.hid (K10.out.trans (hf.wider (fun b q => (HL4.out b q).2)))
  clear K10
  have K17 := Lib.hid (hf.la K11.out HR4_4.out)
  clear K11
  have K18 := Lib.hid (hf.la K13.out HR4_8.out)
  clear K13
  have K19 := Lib.hid (K14.out.fr hf HX4_8.out)
  clear K14
  clear hf ho
  go_wp2_with fail
  refine (putKeys_none g _ (K15.out.cell 6 _ rfl)).mono ?_
  rintro e w' ⟨rfl, rfl⟩
  go_wp2_with fail
  refine (putPairs_any B g va8 n8 cv8 v8 l8 c8 _ few8 (K15.out.cell 8 _ rfl) K18.out (fun j hj => ⟨K19.out j hj, Nat.le_trans (HS8.out j hj) (by decide)⟩) HP8.out HG8.out HR8_8.out).mono ?_
  rintro e P8 ⟨rfl, hf, ho⟩
  clear K19
  have HM8 := Lib.hid (show OWk B 52 5 n8 v8 l8 (fun j => mkP.row j 0 (l8 j)) P8 from ho)
  have K20 := Lib.hid (hf.ac K15.out HG8.out)
  clear K15
  have K21 := Lib.hid (K16.out.trans (hf.wider (fun b q => (HL8.out b q).2)))
  clear K16
  have K22 := Lib.hid (hf.la K17.out HR8_4.out)
  clear K17
  have K23 := Lib.hid (HM4.out.fr hf HX8_4.out)
  clear HM4
  have K24 := Lib.hid (hf.la K18.out HR8_8.out)
  clear K18
  clear hf ho
  go_wp2_with fail
  refine (putWrites_none g _ (K20.out.cell 12 _ rfl)).mono ?_
  rintro e w' ⟨rfl, rfl⟩
  go_wp2_with fail
  refine (putFiles_none g _ (K20.out.cell 16 _ rfl)).mono ?_
  rintro e w' ⟨rfl, rfl⟩
  go_wp2_with fail
  refine (putNotes_none g _ (K20.out.cell 18 _ rfl)).mono ?_
  rintro e w' ⟨rfl, rfl⟩
  go_wp2_with fail
  refine (putLetters_none g _ (K20.out.cell 22 _ rfl)).mono ?_
  rintro e w' ⟨rfl, rfl⟩
  go_wp2_with fail
  refine (putReals_none g _ (K20.out.cell 26 _ rfl)).mono ?_
  rintro e w' ⟨rfl, rfl⟩
  go_wp2_with fail
  refine (growTexts_none g _ (K20.out.cell 0 _ rfl)).mono ?_
  rintro e w' ⟨rfl, rfl⟩
  go_wp2_with fail
  refine (growInts_none g _ (K20.out.cell 2 _ rfl)).mono ?_
  rintro e w' ⟨rfl, rfl⟩
  go_wp2_with fail
  have hz4 := Nat.le_trans hB K21.out.size
  have hy4 := K21.out.size
  refine (growVecsk_any B g va4 n4 cv4 v4 (fun j => (xs4 j).length) _ few4 hz4 (K20.out.cell 4 _ rfl) K22.out (fun j hj => ⟨K23.out j hj, HS4.out j hj⟩) HP4.out HG4.out HR4_4.out).mono ?_
  rintro e G4 ⟨out4, g4, rfl, hgr⟩
  obtain ⟨oa4, oc4, rfl, -⟩ := row_la hgr.row
  have hf := hgr.fr
  have HGS4 := Lib.hid hgr.grs
  clear K23
  have K25 := Lib.hid (hf.ac K20.out HG4.out)
  clear K20
  have K26 := Lib.hid (K21.out.trans (hf.wider (fun b q => (HL4.out b q).2)))
  clear K21
  have K27 := Lib.hid (hf.la K22.out HR4_4.out)
  clear K22
  have K28 := Lib.hid (hf.la K24.out HR4_8.out)
  clear K24
  have K29 := Lib.hid (HM8.out.fr hf HX4_8.out)
  clear HM8
  clear hf hgr hz4
  go_wp2_with fail
  refine (growKeys_none g _ (K25.out.cell 6 _ rfl)).mono ?_
  rintro e w' ⟨rfl, rfl⟩
  go_wp2_with fail
  have hz8 := Nat.le_trans hB K26.out.size
  have hy8 := K26.out.size
  refine (growPairs_any B g va8 n8 cv8 v8 l8 _ few8 hz8 (K25.out.cell 8 _ rfl) K28.out (fun j hj => ⟨K29.out j hj, HS8.out j hj⟩) HP8.out HG8.out HR8_8.out).mono ?_
  rintro e G8 ⟨out8, g8, rfl, hgr⟩
  obtain ⟨oa8, oc8, rfl, -⟩ := row_la hgr.row
  have hf := hgr.fr
  have HGS8 := Lib.hid hgr.grs
  clear K29
  have K30 := Lib.hid (hf.ac K25.out HG8.out)
  clear K25
  have K31 := Lib.hid (K26.out.trans (hf.wider (fun b q => (HL8.out b q).2)))
  clear K26
  have K32 := Lib.hid (hf.la K27.out HR8_4.out)
  clear K27
  have K33 := Lib.hid (HGS4.out.fr hf (fun b h => Nat.lt_of_lt_of_le (HL8.out b h).1 hy4) (fun j hj b h => HX8_4.out b ⟨j, hj, h⟩))
  clear HGS4
  have K34 := Lib.hid (hf.la K28.out HR8_8.out)
  clear K28
  clear hf hgr hz8
  go_wp2_with fail
  refine (growVersions_none g _ (K30.out.cell 10 _ rfl)).mono ?_
  rintro e w' ⟨rfl, rfl⟩
  go_wp2_with fail
  refine (growWrites_none g _ (K30.out.cell 12 _ rfl)).mono ?_
  rintro e w' ⟨rfl, rfl⟩
  go_wp2_with fail
  refine (growTxns_none g _ (K30.out.cell 14 _ rfl)).mono ?_
  rintro e w' ⟨rfl, rfl⟩
  go_wp2_with fail
  refine (growFiles_none g _ (K30.out.cell 16 _ rfl)).mono ?_
  rintro e w' ⟨rfl, rfl⟩
  go_wp2_with fail
  refine (growNotes_none g _ (K30.out.cell 18 _ rfl)).mono ?_
  rintro e w' ⟨rfl, rfl⟩
  go_wp2_with fail
  refine (growLeases_none g _ (K30.out.cell 20 _ rfl)).mono ?_
  rintro e w' ⟨rfl, rfl⟩
  go_wp2_with fail
  refine (growLetters_none g _ (K30.out.cell 22 _ rfl)).mono ?_
  rintro e w' ⟨rfl, rfl⟩
  go_wp2_with fail
  refine (growSteps_none g _ (K30.out.cell 24 _ rfl)).mono ?_
  rintro e w' ⟨rfl, rfl⟩
  go_wp2_with fail
  refine (growReals_none g _ (K30.out.cell 26 _ rfl)).mono ?_
  rintro e w' ⟨rfl, rfl⟩
  go_wp2_with fail
  refine (growLists_none g _ (K30.out.cell 28 _ rfl)).mono ?_
  rintro e w' ⟨rfl, rfl⟩
  go_wp2_with fail
  refine (markedTexts_none _).mono ?_
  rintro e w' ⟨rfl, rfl⟩
  have q0 := K30.out.cell 0 _ rfl
  go_wp2_with fail
  refine (markedTexts_none _).mono ?_
  rintro e w' ⟨rfl, rfl⟩
  clear q0
  go_wp2_with fail
  refine (markedInts_none _).mono ?_
  rintro e w' ⟨rfl, rfl⟩
  have q2 := K30.out.cell 2 _ rfl
  go_wp2_with fail
  refine (markedInts_none _).mono ?_
  rintro e w' ⟨rfl, rfl⟩
  clear q2
  go_wp2_with fail
  obtain ⟨_, _, ee, hlo⟩ := row_la K33.out.row
  cases ee
  refine (markedVecsk_any oa4 n4 oc4 g4 (fun j => (fun j => (xs4 j).length) j + 72) B _ few4 hlo (fun j hj => ⟨K33.out.ogs j hj, by have := HS4.out j hj; (try dsimp only); omega⟩)).mono ?_
  rintro e M4 ⟨rfl, hb⟩
  clear hlo
  have K35 := Lib.hid (K30.out.keep hb)
  clear K30
  have K36 := Lib.hid (K31.out.bl hb)
  clear K31
  have K37 := Lib.hid (K32.out.keep hb)
  clear K32
  have K38 := Lib.hid (K33.out.keep hb)
  clear K33
  have K39 := Lib.hid (K34.out.keep hb)
  clear K34
  have K40 := Lib.hid (HGS8.out.keep hb)
  clear HGS8
  clear hb
  have q4 := K35.out.cell 4 _ rfl
  go_wp2_with fail
  refine (markedVecsk_any va4 n4 cv4 v4 (fun j => (xs4 j).length) B _ few4 K37.out (fun j hj => ⟨K38.out.ovs j hj, by have := HS4.out j hj; (try dsimp only); omega⟩)).mono ?_
  rintro e N4 ⟨rfl, hb⟩
  clear q4
  have K41 := Lib.hid (K35.out.keep hb)
  clear K35
  have K42 := Lib.hid (K36.out.bl hb)
  clear K36
  have K43 := Lib.hid (K37.out.keep hb)
  clear K37
  have K44 := Lib.hid (K38.out.keep hb)
  clear K38
  have K45 := Lib.hid (K39.out.keep hb)
  clear K39
  have K46 := Lib.hid (K40.out.keep hb)
  clear K40
  clear hb
  go_wp2_with fail
  refine (markedKeys_none _).mono ?_
  rintro e w' ⟨rfl, rfl⟩
  have q6 := K41.out.cell 6 _ rfl
  go_wp2_with fail
  refine (markedKeys_none _).mono ?_
  rintro e w' ⟨rfl, rfl⟩
  clear q6
  go_wp2_with fail
  obtain ⟨_, _, ee, hlo⟩ := row_la K46.out.row
  cases ee
  refine (markedPairs_any oa8 n8 oc8 g8 (fun j => l8 j + 72) B _ few8 hlo (fun j hj => ⟨K46.out.ogs j hj, by have := HS8.out j hj; (try dsimp only); omega⟩)).mono ?_
  rintro e M8 ⟨rfl, hb⟩
  clear hlo
  have K47 := Lib.hid (K41.out.keep hb)
  clear K41
  have K48 := Lib.hid (K42.out.bl hb)
  clear K42
  have K49 := Lib.hid (K43.out.keep hb)
  clear K43
  have K50 := Lib.hid (K44.out.keep hb)
  clear K44
  have K51 := Lib.hid (K45.out.keep hb)
  clear K45
  have K52 := Lib.hid (K46.out.keep hb)
  clear K46
  clear hb
  have q8 := K47.out.cell 8 _ rfl
  go_wp2_with fail
  refine (markedPairs_any va8 n8 cv8 v8 l8 B _ few8 K51.out (fun j hj => ⟨K52.out.ovs j hj, by have := HS8.out j hj; (try dsimp only); omega⟩)).mono ?_
  rintro e N8 ⟨rfl, hb⟩
  clear q8
  have K53 := Lib.hid (K47.out.keep hb)
  clear K47
  have K54 := Lib.hid (K48.out.bl hb)
  clear K48
  have K55 := Lib.hid (K49.out.keep hb)
  clear K49
  have K56 := Lib.hid (K50.out.keep hb)
  clear K50
  have K57 := Lib.hid (K51.out.keep hb)
  clear K51
  have K58 := Lib.hid (K52.out.keep hb)
  clear K52
  clear hb
  go_wp2_with fail
  refine (markedVersions_none _).mono ?_
  rintro e w' ⟨rfl, rfl⟩
  have q10 := K53.out.cell 10 _ rfl
  go_wp2_with fail
  refine (markedVersions_none _).mono ?_
  rintro e w' ⟨rfl, rfl⟩
  clear q10
  go_wp2_with fail
  refine (markedWrites_none _).mono ?_
  rintro e w' ⟨rfl, rfl⟩
  have q12 := K53.out.cell 12 _ rfl
  go_wp2_with fail
  refine (markedWrites_none _).mono ?_
  rintro e w' ⟨rfl, rfl⟩
  clear q12
  go_wp2_with fail
  refine (markedTxns_none _).mono ?_
  rintro e w' ⟨rfl, rfl⟩
  have q14 := K53.out.cell 14 _ rfl
  go_wp2_with fail
  refine (markedTxns_none _).mono ?_
  rintro e w' ⟨rfl, rfl⟩
  clear q14
  go_wp2_with fail
  refine (markedFiles_none _).mono ?_
  rintro e w' ⟨rfl, rfl⟩
  have q16 := K53.out.cell 16 _ rfl
  go_wp2_with fail
  refine (markedFiles_none _).mono ?_
  rintro e w' ⟨rfl, rfl⟩
  clear q16
  go_wp2_with fail
  refine (markedNotes_none _).mono ?_
  rintro e w' ⟨rfl, rfl⟩
  have q18 := K53.out.cell 18 _ rfl
  go_wp2_with fail
  refine (markedNotes_none _).mono ?_
  rintro e w' ⟨rfl, rfl⟩
  clear q18
  go_wp2_with fail
  refine (markedLeases_none _).mono ?_
  rintro e w' ⟨rfl, rfl⟩
  have q20 := K53.out.cell 20 _ rfl
  go_wp2_with fail
  refine (markedLeases_none _).mono ?_
  rintro e w' ⟨rfl, rfl⟩
  clear q20
  go_wp2_with fail
  refine (markedLetters_none _).mono ?_
  rintro e w' ⟨rfl, rfl⟩
  have q22 := K53.out.cell 22 _ rfl
  go_wp2_with fail
  refine (markedLetters_none _).mono ?_
  rintro e w' ⟨rfl, rfl⟩
  clear q22
  go_wp2_with fail
  refine (markedSteps_none _).mono ?_
  rintro e w' ⟨rfl, rfl⟩
  have q24 := K53.out.cell 24 _ rfl
  go_wp2_with fail
  refine (markedSteps_none _).mono ?_
  rintro e w' ⟨rfl, rfl⟩
  clear q24
  go_wp2_with fail
  refine (markedReals_none _).mono ?_
  rintro e w' ⟨rfl, rfl⟩
  have q26 := K53.out.cell 26 _ rfl
  go_wp2_with fail
  refine (markedReals_none _).mono ?_
  rintro e w' ⟨rfl, rfl⟩
  clear q26
  go_wp2_with fail
  refine (markedLists_none _).mono ?_
  rintro e w' ⟨rfl, rfl⟩
  have q28 := K53.out.cell 28 _ rfl
  go_wp2_with fail
  refine (markedLists_none _).mono ?_
  rintro e w' ⟨rfl, rfl⟩
  clear q28
  go_wp2_with fail
  go_ret
  exact ⟨rfl, K54.out⟩
theorem bqVP_apart (B g : Nat) (T : Nat → Prop) (w : World) (hB : B ≤ w.heap.size) (h : BQ bkVP B w g T) :
    Calls Tryz.prog 15 #[.pointer (some ⟨g, 0, none⟩)] w fun e w' => e = .returned (.bool true) ∧ Fr (fun b => B ≤ b ∧ ¬ T b) w w' := by
  obtain ⟨n, vv, wv, vs, us, ln, cs, D, h⟩ := h
  exact apartVP_any B g n vv wv vs us ln cs D T w hB (Lib.hid h)
theorem bqVP_Vecs (B g : Nat) (a : Option Addr) (nv c : Nat) (ps : List Int) (T : Nat → Prop) (w : World) (hB : B ≤ w.heap.size) (h : BQ bkVP B w g T) (ho : w.ownsRow B 3 1 (.slice a nv c) nv (ps.map (Value.int .i64))) (hl : ps.length = nv) (hn : nv ≤ 50000) (hok : ∀ x ∈ ps, -9223372036854775808 ≤ x ∧ x ≤ 9223372036854775807) (hT : ∀ b, (Value.slice a nv c).ownBlock = some b → T b) :
    Calls Tryz.prog 45 #[.pointer (some ⟨g, 0, none⟩), .slice a nv c] w fun e w' => e = .returned (.tuple #[]) ∧ BQ bkVP B w' g (fun b => T b ∧ (Value.slice a nv c).ownBlock ≠ some b) ∧ Fr (fun b => ¬ T b) w w' := by
  obtain ⟨n, vv, wv, vs, us, ln, cs, D, h⟩ := h
  have hm : 4 ∈ bkVP.K := by simp [bkVP]
  have hr : IA w a nv ps := IA.ofOwn ho hl (by omega) hok
  have hblk : ∀ b off, a = some ⟨b, off, none⟩ → 0 < nv → (Value.slice a nv c).ownBlock = some b := fun b off e _ => by subst e; rfl
  by_cases hf : n 4 < 250
  · refine (regVecs_any B g (n 4) (hsOf vv wv) (vv 4) (wv 4) _ _ a nv c ps w hf hB h.box rfl rfl rfl (h.rv 4 hm) (h.ru 4 hm) (h.gv 4).1 (h.gv 4).2 (h.hwv 4 4) hr (by omega) (fun b off e hp q => ?_)).mono ?_
    · have hb := (h.t b (hT b (hblk b off e hp))).2.1
      rcases q with q | q | q
      · exact hb (.inl q)
      · exact hb (.inr ⟨4, .inl q⟩)
      · exact hb (.inr ⟨4, .inr q⟩)
    · rintro e w' ⟨rfl, vv', wv', u, Dn, P⟩
      have hD : ∀ b, (Value.slice a nv c).ownBlock = some b → b < w.heap.size ∧ ¬ BSt g vv wv b := fun b q => ⟨(h.t b (hT b q)).1, (h.t b (hT b q)).2.1⟩
      have hst : ¬ BSt g vv wv g → False := fun q => q (.inl rfl)
      have Q := h.vpk (p := 4) (Dv := fun b => (Value.slice a nv c).ownBlock = some b) P (by rfl) hD (fun hc => ?_)
      · exact ⟨rfl, h.reg hm hf ho hn hT hD Q⟩
      · obtain ⟨a2, n2, c2, rfl, hr2, hd2⟩ := hc
        have hn2 : n2 = nv := by rw [← hr2.len, hl]
        subst hn2
        have two : TwoV (.slice a n2 c) (.slice a2 n2 c2) w' (fun b => Dn b ∨ (Value.slice a n2 c).ownBlock = some b) := ⟨ps, a, a2, n2, c, c2, rfl, rfl, hr.fr P.fr (fun b off e hp q => ?_), hr2, fun x off e hp => .inr (hblk x off e hp), fun x off e hp => .inl (hd2 x off e hp)⟩
        · exact ⟨fun _ => two, fun e => absurd e (by decide)⟩
        · have hb := (h.t b (hT b (hblk b off e hp))).2.1
          rcases q with q | q | q
          · exact hb (.inl q)
          · exact hb (.inr ⟨4, .inl q⟩)
          · exact hb (.inr ⟨4, .inr q⟩)
  · have h250 : n 4 = 250 := by have := h.few 4; omega
    obtain ⟨va, cv, ev⟩ := row_shape' (h.rv 4 hm)
    rw [h250] at ev
    refine (fullVecs_any g (hsOf vv wv) va cv (.slice a nv c) w h.box (by rw [← ev]; rfl)).mono ?_
    rintro e w' ⟨rfl, rfl⟩
    exact ⟨rfl, (h.less (fun b hb => hb.1)).bq, Fr.refl _ _⟩
theorem bqVP_Pairs (B g : Nat) (a : Option Addr) (nv c : Nat) (ps : List (ByteArray × ValL)) (T : Nat → Prop) (w : World) (hB : B ≤ w.heap.size) (h : BQ bkVP B w g T) (ho : w.ownsRow B 52 5 (.slice a nv c) nv (cellsP ps)) (hl : ps.length = nv) (hn : nv ≤ 50000) (hok : ∀ p ∈ ps, PaOk p) (hT : ∀ b, (Value.slice a nv c).ownBlock = some b → T b) :
    Calls Tryz.prog 14 #[.pointer (some ⟨g, 0, none⟩), .slice a nv c] w fun e w' => e = .returned (.tuple #[]) ∧ BQ bkVP B w' g (fun b => T b ∧ (Value.slice a nv c).ownBlock ≠ some b) ∧ Fr (fun b => ¬ T b) w w' := by
  obtain ⟨n, vv, wv, vs, us, ln, cs, D, h⟩ := h
  have hm : 8 ∈ bkVP.K := by simp [bkVP]
  have hr : PP w a nv ps := PP.own ho hl (by omega) hok
  have hblk : ∀ b off, a = some ⟨b, off, none⟩ → 0 < nv → (Value.slice a nv c).ownBlock = some b := fun b off e _ => by subst e; rfl
  by_cases hf : n 8 < 250
  · refine (regPairs_any B g (n 8) (hsOf vv wv) (vv 8) (wv 8) _ _ a nv c ps w hf hB h.box rfl rfl rfl (h.rv 8 hm) (h.ru 8 hm) (h.gv 8).1 (h.gv 8).2 (h.hwv 8 8) hr (by omega) (fun b off e hp q => ?_)).mono ?_
    · have hb := (h.t b (hT b (hblk b off e hp))).2.1
      rcases q with q | q | q
      · exact hb (.inl q)
      · exact hb (.inr ⟨8, .inl q⟩)
      · exact hb (.inr ⟨8, .inr q⟩)
    · rintro e w' ⟨rfl, vv', wv', u, Dn, P⟩
      have hD : ∀ b, (Value.slice a nv c).ownBlock = some b → b < w.heap.size ∧ ¬ BSt g vv wv b := fun b q => ⟨(h.t b (hT b q)).1, (h.t b (hT b q)).2.1⟩
      have hst : ¬ BSt g vv wv g → False := fun q => q (.inl rfl)
      have Q := h.vpk (p := 8) (Dv := fun b => (Value.slice a nv c).ownBlock = some b) P (by rfl) hD (fun hc => ?_)
      · exact ⟨rfl, h.reg hm hf ho hn hT hD Q⟩
      · obtain ⟨a2, n2, c2, rfl, hr2, hd2⟩ := hc
        have hn2 : n2 = nv := by rw [← hr2.len, hl]
        subst hn2
        have two : TwoP (.slice a n2 c) (.slice a2 n2 c2) w' (fun b => Dn b ∨ (Value.slice a n2 c).ownBlock = some b) := ⟨ps, a, a2, n2, c, c2, rfl, rfl, hr.fr P.fr (fun b off e hp q => ?_), hr2, fun x off e hp => .inr (hblk x off e hp), fun x off e hp => .inl (hd2 x off e hp)⟩
        · exact ⟨fun e => absurd e (by decide), fun _ => two⟩
        · have hb := (h.t b (hT b (hblk b off e hp))).2.1
          rcases q with q | q | q
          · exact hb (.inl q)
          · exact hb (.inr ⟨8, .inl q⟩)
          · exact hb (.inr ⟨8, .inr q⟩)
  · have h250 : n 8 = 250 := by have := h.few 8; omega
    obtain ⟨va, cv, ev⟩ := row_shape' (h.rv 8 hm)
    rw [h250] at ev
    refine (fullPairs_any g (hsOf vv wv) va cv (.slice a nv c) w h.box (by rw [← ev]; rfl)).mono ?_
    rintro e w' ⟨rfl, rfl⟩
    exact ⟨rfl, (h.less (fun b hb => hb.1)).bq, Fr.refl _ _⟩
end Go.Proofs.YtaelghbjbopilaaGreat
end
