import Derived.Test.YtfjjnffifnohkaaGreatQFoldTellsUptoP33
import Derived.Test.YtfjjnffifnohkaaGreatQFoldTellsUptoP35
import Derived.Test.YtfjjnffifnohkaaGreatQFoldTellsUptoP36
import Derived.Test.YtfjjnffifnohkaaGreatQFoldTellsUptoP39

/- a book that keeps Vecs, Versions, Writes: Apart, and what is kept. By an AI agent. -/
section
set_option linter.unusedVariables false
namespace Go.Proofs.YtfjjnffifnohkaaGreat
open Go.RowKit

/-- the kinds that are kept -/
def bkURW : BKd := ⟨[4, 10, 12], fun p => if p = 4 then 3 else if p = 10 then 59 else 169, fun p => if p = 4 then 23 else if p = 10 then 22 else 133, fun p => if p = 4 then 1 else if p = 10 then 8 else 5, fun p v u W D => (p = 4 → TwoV v u W D) ∧ (p = 10 → TwoR v u W D) ∧ (p = 12 → TwoW v u W D), fun hf hd h => ⟨fun e => (h.1 e).st hf hd, fun e => (h.2.1 e).st hf hd, fun e => (h.2.2 e).st hf hd⟩⟩
set_option maxHeartbeats 4000000 in
set_option maxRecDepth 100000 in
theorem apartURW_any (B g : Nat) (n : Nat → Nat) (vv wv : Nat → Value) (vs us : Nat → Nat → Value) (ln : Nat → Nat → Nat) (cs : Nat → Nat → List Value) (D : Nat → Nat → Nat → Prop) (T : Nat → Prop) (w : World) (hB : B ≤ w.heap.size) (hk : Hid (BookX bkURW B w g n vv wv vs us ln cs D T)) :
    Calls Tryz.prog 19 #[.pointer (some ⟨g, 0, none⟩)] w fun e w' => e = .returned (.bool true) ∧ Fr (fun b => B ≤ b ∧ ¬ T b) w w' := by
  have hm4 : 4 ∈ bkURW.K := by simp [bkURW]
  obtain ⟨va4, cv4, e4, la4⟩ := row_la (hk.out.rv 4 hm4)
  obtain ⟨ua4, cu4, f4, lu4⟩ := row_la (hk.out.ru 4 hm4)
  have hm10 : 10 ∈ bkURW.K := by simp [bkURW]
  obtain ⟨va10, cv10, e10, la10⟩ := row_la (hk.out.rv 10 hm10)
  obtain ⟨ua10, cu10, f10, lu10⟩ := row_la (hk.out.ru 10 hm10)
  have hm12 : 12 ∈ bkURW.K := by simp [bkURW]
  obtain ⟨va12, cv12, e12, la12⟩ := row_la (hk.out.rv 12 hm12)
  obtain ⟨ua12, cu12, f12, lu12⟩ := row_la (hk.out.ru 12 hm12)
  have HA0 : Hid (AC w g [.slice none 0 0, .slice none 0 0, .slice none 0 0, .slice none 0 0, .slice va4 (n 4) cv4, .slice ua4 (n 4) cu4, .slice none 0 0, .slice none 0 0, .slice none 0 0, .slice none 0 0, .slice va10 (n 10) cv10, .slice ua10 (n 10) cu10, .slice va12 (n 12) cv12, .slice ua12 (n 12) cu12, .slice none 0 0, .slice none 0 0, .slice none 0 0, .slice none 0 0, .slice none 0 0, .slice none 0 0, .slice none 0 0, .slice none 0 0, .slice none 0 0, .slice none 0 0, .slice none 0 0, .slice none 0 0, .slice none 0 0, .slice none 0 0, .slice none 0 0, .slice none 0 0]) := Lib.hid (by
    have h := hk.out.box
    unfold hsOf at h
    rw [(hk.out.emp 0 (by simp [bkURW])).1, (hk.out.emp 0 (by simp [bkURW])).2] at h
    rw [(hk.out.emp 2 (by simp [bkURW])).1, (hk.out.emp 2 (by simp [bkURW])).2] at h
    rw [e4, f4] at h
    rw [(hk.out.emp 6 (by simp [bkURW])).1, (hk.out.emp 6 (by simp [bkURW])).2] at h
    rw [(hk.out.emp 8 (by simp [bkURW])).1, (hk.out.emp 8 (by simp [bkURW])).2] at h
    rw [e10, f10] at h
    rw [e12, f12] at h
    rw [(hk.out.emp 14 (by simp [bkURW])).1, (hk.out.emp 14 (by simp [bkURW])).2] at h
    rw [(hk.out.emp 16 (by simp [bkURW])).1, (hk.out.emp 16 (by simp [bkURW])).2] at h
    rw [(hk.out.emp 18 (by simp [bkURW])).1, (hk.out.emp 18 (by simp [bkURW])).2] at h
    rw [(hk.out.emp 20 (by simp [bkURW])).1, (hk.out.emp 20 (by simp [bkURW])).2] at h
    rw [(hk.out.emp 22 (by simp [bkURW])).1, (hk.out.emp 22 (by simp [bkURW])).2] at h
    rw [(hk.out.emp 24 (by simp [bkURW])).1, (hk.out.emp 24 (by simp [bkURW])).2] at h
    rw [(hk.out.emp 26 (by simp [bkURW])).1, (hk.out.emp 26 (by simp [bkURW])).2] at h
    rw [(hk.out.emp 28 (by simp [bkURW])).1, (hk.out.emp 28 (by simp [bkURW])).2] at h
    exact h)
  have HV4 := Lib.hid la4
  have HU4 := Lib.hid lu4
  have HQ4 := Lib.hid (fun j (hj : j < n 4) => ((hk.out.q 4 hm4 j hj).1 rfl : TwoV (vs 4 j) (us 4 j) w (D 4 j)))
  have HO4 : Hid (OWk B 3 1 (n 4) (vs 4) (ln 4) (cs 4) w) := Lib.hid (hk.out.own 4 hm4)
  have few4 := hk.out.few 4
  have HS4 := Lib.hid (hk.out.small 4 hm4)
  have HP4 := Lib.hid (hk.out.ap hm4)
  have HG4 := Lib.hid (hk.out.sb_g hm4)
  have HL4 := Lib.hid (fun b => hk.out.sb_lt hm4 (b := b))
  have HR4_4 := Lib.hid (fun (b off : Nat) (h : va4 = some ⟨b, off, none⟩) => hk.out.sb_row hm4 (q := 4) (b := b) (by rw [e4, h]; rfl))
  have HR4_10 := Lib.hid (fun (b off : Nat) (h : va10 = some ⟨b, off, none⟩) => hk.out.sb_row hm4 (q := 10) (b := b) (by rw [e10, h]; rfl))
  have HX4_10 := Lib.hid (fun b => hk.out.sb_sb hm4 hm10 (by decide) (b := b))
  have HR4_12 := Lib.hid (fun (b off : Nat) (h : va12 = some ⟨b, off, none⟩) => hk.out.sb_row hm4 (q := 12) (b := b) (by rw [e12, h]; rfl))
  have HX4_12 := Lib.hid (fun b => hk.out.sb_sb hm4 hm12 (by decide) (b := b))
  have HV10 := Lib.hid la10
  have HU10 := Lib.hid lu10
  have HQ10 := Lib.hid (fun j (hj : j < n 10) => ((hk.out.q 10 hm10 j hj).2.1 rfl : TwoR (vs 10 j) (us 10 j) w (D 10 j)))
  have HO10 : Hid (OWk B 59 8 (n 10) (vs 10) (ln 10) (cs 10) w) := Lib.hid (hk.out.own 10 hm10)
  have few10 := hk.out.few 10
  have HS10 := Lib.hid (hk.out.small 10 hm10)
  have HP10 := Lib.hid (hk.out.ap hm10)
  have HG10 := Lib.hid (hk.out.sb_g hm10)
  have HL10 := Lib.hid (fun b => hk.out.sb_lt hm10 (b := b))
  have HR10_4 := Lib.hid (fun (b off : Nat) (h : va4 = some ⟨b, off, none⟩) => hk.out.sb_row hm10 (q := 4) (b := b) (by rw [e4, h]; rfl))
  have HX10_4 := Lib.hid (fun b => hk.out.sb_sb hm10 hm4 (by decide) (b := b))
  have HR10_10 := Lib.hid (fun (b off : Nat) (h : va10 = some ⟨b, off, none⟩) => hk.out.sb_row hm10 (q := 10) (b := b) (by rw [e10, h]; rfl))
  have HR10_12 := Lib.hid (fun (b off : Nat) (h : va12 = some ⟨b, off, none⟩) => hk.out.sb_row hm10 (q := 12) (b := b) (by rw [e12, h]; rfl))
  have HX10_12 := Lib.hid (fun b => hk.out.sb_sb hm10 hm12 (by decide) (b := b))
  have HV12 := Lib.hid la12
  have HU12 := Lib.hid lu12
  have HQ12 := Lib.hid (fun j (hj : j < n 12) => ((hk.out.q 12 hm12 j hj).2.2 rfl : TwoW (vs 12 j) (us 12 j) w (D 12 j)))
  have HO12 : Hid (OWk B 169 5 (n 12) (vs 12) (ln 12) (cs 12) w) := Lib.hid (hk.out.own 12 hm12)
  have few12 := hk.out.few 12
  have HS12 := Lib.hid (hk.out.small 12 hm12)
  have HP12 := Lib.hid (hk.out.ap hm12)
  have HG12 := Lib.hid (hk.out.sb_g hm12)
  have HL12 := Lib.hid (fun b => hk.out.sb_lt hm12 (b := b))
  have HR12_4 := Lib.hid (fun (b off : Nat) (h : va4 = some ⟨b, off, none⟩) => hk.out.sb_row hm12 (q := 4) (b := b) (by rw [e4, h]; rfl))
  have HX12_4 := Lib.hid (fun b => hk.out.sb_sb hm12 hm4 (by decide) (b := b))
  have HR12_10 := Lib.hid (fun (b off : Nat) (h : va10 = some ⟨b, off, none⟩) => hk.out.sb_row hm12 (q := 10) (b := b) (by rw [e10, h]; rfl))
  have HX12_10 := Lib.hid (fun b => hk.out.sb_sb hm12 hm10 (by decide) (b := b))
  have HR12_12 := Lib.hid (fun (b off : Nat) (h : va12 = some ⟨b, off, none⟩) => hk.out.sb_row hm12 (q := 12) (b := b) (by rw [e12, h]; rfl))
  clear e4 f4 la4 lu4 hm4
  clear e10 f10 la10 lu10 hm10
  clear e12 f12 la12 lu12 hm12
  obtain ⟨xs4, hxs4⟩ := pick_ints (fun j hj => HQ4.out j hj) (fun j hj => HO4.out j hj)
  have HO4x : Hid (OWk B 3 1 (n 4) (vs 4) (fun j => (xs4 j).length) (fun j => (xs4 j).map (Value.int .i64)) w) := Lib.hid (fun j hj => by have h := HO4.out j hj; rw [(hxs4 j hj).2, ← (hxs4 j hj).1] at h; exact h)
  have HS4x : Hid (∀ j, j < n 4 → (xs4 j).length ≤ 50000) := Lib.hid (fun j hj => by rw [(hxs4 j hj).1]; exact HS4.out j hj)
  clear hxs4 HO4 HS4
  have HO4 := HO4x
  have HS4 := HS4x
  clear HO4x HS4x
  clear hk
  generalize n 4 = n4 at *
  generalize vs 4 = v4 at *
  generalize us 4 = u4 at *
  generalize ln 4 = l4 at *
  generalize cs 4 = c4 at *
  generalize D 4 = d4 at *
  generalize n 10 = n10 at *
  generalize vs 10 = v10 at *
  generalize us 10 = u10 at *
  generalize ln 10 = l10 at *
  generalize cs 10 = c10 at *
  generalize D 10 = d10 at *
  generalize n 12 = n12 at *
  generalize vs 12 = v12 at *
  generalize us 12 = u12 at *
  generalize ln 12 = l12 at *
  generalize cs 12 = c12 at *
  generalize D 12 = d12 at *
  clear n vv wv vs us ln cs D
  have HF0 := Lib.hid (Fr.refl (fun b => B ≤ b ∧ ¬ T b) w)
  go_enter Tryz.func19, Tryz.ntmps19
  go_wp2_with fail
  refine (stillTexts_none g _ (HA0.out.cell 0 _ rfl)).mono ?_
  rintro e w' ⟨rfl, rfl⟩
  go_wp2_with fail
  refine (stillInts_none g _ (HA0.out.cell 2 _ rfl)).mono ?_
  rintro e w' ⟨rfl, rfl⟩
  go_wp2_with fail
  refine (stillVecsk_any g va4 ua4 n4 cv4 cu4 v4 u4 d4 _ few4 (HA0.out.cell 4 _ rfl) (HA0.out.cell 5 _ rfl) HV4.out HU4.out HQ4.out).mono ?_
  rintro e W4 ⟨rfl, hb⟩
  clear HQ4 HU4
  have K1 := Lib.hid (HA0.out.keep hb)
  clear HA0
  have K2 := Lib.hid (HF0.out.bl hb)
  clear HF0
  have K3 := Lib.hid (HV4.out.keep hb)
  clear HV4
  have K4 := Lib.hid (HO4.out.keep hb)
  clear HO4
  have K5 := Lib.hid (HV10.out.keep hb)
  clear HV10
  have K6 := Lib.hid (HU10.out.keep hb)
  clear HU10
  have K7 := Lib.hid (HO10.out.keep hb)
  clear HO10
  have K8 := Lib.hid (fun j hj => (HQ10.out j hj).st ((Fr.refl (fun _ => False) _).bl hb) (fun _ _ h => h))
  clear HQ10
  have K9 := Lib.hid (HV12.out.keep hb)
  clear HV12
  have K10 := Lib.hid (HU12.out.keep hb)
  clear HU12
  have K11 := Lib.hid (HO12.out.keep hb)
  clear HO12
  have K12 := Lib.hid (fun j hj => (HQ12.out j hj).st ((Fr.refl (fun _ => False) _).bl hb) (fun _ _ h => h))
  clear HQ12
  clear hb
  go_wp2_with fail
  refine (stillKeys_none g _ (K1.out.cell 6 _ rfl)).mono ?_
  rintro e w' ⟨rfl, rfl⟩
  go_wp2_with fail
  refine (stillPairs_none g _ (K1.out.cell 8 _ rfl)).mono ?_
  rintro e w' ⟨rfl, rfl⟩
  go_wp2_with fail
  refine (stillVersions_any g va10 ua10 n10 cv10 cu10 v10 u10 d10 _ few10 (K1.out.cell 10 _ rfl) (K1.out.cell 11 _ rfl) K5.out K6.out K8.out).mono ?_
  rintro e W10 ⟨rfl, hb⟩
  clear K8 K6
  have K13 := Lib.hid (K1.out.keep hb)
  clear K1
  have K14 := Lib.hid (K2.out.bl hb)
  clear K2
  have K15 := Lib.hid (K3.out.keep hb)
  clear K3
  have K16 := Lib.hid (K4.out.keep hb)
  clear K4
  have K17 := Lib.hid (K5.out.keep hb)
  clear K5
  have K18 := Lib.hid (K7.out.keep hb)
  clear K7
  have K19 := Lib.hid (K9.out.keep hb)
  clear K9
  have K20 := Lib.hid (K10.out.keep hb)
  clear K10
  have K21 := Lib.hid (K11.out.keep hb)
  clear K11
  have K22 := Lib.hid (fun j hj => (K12.out j hj).st ((Fr.refl (fun _ => False) _).bl hb) (fun _ _ h => h))
  clear K12
  clear hb
  go_wp2_with fail
  refine (stillWrites_any g va12 ua12 n12 cv12 cu12 v12 u12 d12 _ few12 (K13.out.cell 12 _ rfl) (K13.out.cell 13 _ rfl) K19.out K20.out K22.out).mono ?_
  rintro e W12 ⟨rfl, hb⟩
  clear K22 K20
  have K23 := Lib.hid (K13.out.keep hb)
  clear K13
  have K24 := Lib.hid (K14.out.bl hb)
  clear K14
  have K25 := Lib.hid (K15.out.keep hb)
  clear K15
  have K26 := Lib.hid (K16.out.keep hb)
  clear K16
  have K27 := Lib.hid (K17.out.keep hb)
  clear K17
  have K28 := Lib.hid (K18.out.keep hb)
  clear K18
  have K29 := Lib.hid (K19.out.keep hb)
  clear K19
  have K30 := Lib.hid (K21.out.keep hb)
  clear K21
  clear hb
  go_wp2_with fail
  refine (stillTxns_none g _ (K23.out.cell 14 _ rfl)).mono ?_
  rintro e w' ⟨rfl, rfl⟩
  go_wp2_with fail
  refine (stillFiles_none g _ (K23.out.cell 16 _ rfl)).mono ?_
  rintro e w' ⟨rfl, rfl⟩
  go_wp2_with fail
  refine (stillNotes_none g _ (K23.out.cell 18 _ rfl)).mono ?_
  rintro e w' ⟨rfl, rfl⟩
  go_wp2_with fail
  refine (stillLeases_none g _ (K23.out.cell 20 _ rfl)).mono ?_
  rintro e w' ⟨rfl, rfl⟩
  go_wp2_with fail
  refine (stillLetters_none g _ (K23.out.cell 22 _ rfl)).mono ?_
  rintro e w' ⟨rfl, rfl⟩
  go_wp2_with fail
  refine (stillSteps_none g _ (K23.out.cell 24 _ rfl)).mono ?_
  rintro e w' ⟨rfl, rfl⟩
  go_wp2_with fail
  refine (stillReals_none g _ (K23.out.cell 26 _ rfl)).mono ?_
  rintro e w' ⟨rfl, rfl⟩
  go_wp2_with fail
  refine (stillLists_none g _ (K23.out.cell 28 _ rfl)).mono ?_
  rintro e w' ⟨rfl, rfl⟩
  go_wp2_with fail
  refine (putVersions_any B g va10 n10 cv10 v10 l10 c10 _ few10 (K23.out.cell 10 _ rfl) K27.out (fun j hj => ⟨K28.out j hj, Nat.le_trans (HS10.out j hj) (by decide)⟩) HP10.out HG10.out HR10_10.out).mono ?_
  rintro e P10 ⟨rfl, hf, ho⟩
  clear K28
  have HM10 := Lib.hid (show OWk B 59 8 n10 v10 l10 (fun j => mkR.row j 0 (l10 j)) P10 from ho)
  have K31 := Lib.hid (hf.ac K23.out HG10.out)
  clear K23
  have K32 := Lib.hid (K24.out.trans (hf.wider (fun b q => (HL10.out b q).2)))
  clear K24
  have K33 := Lib.hid (hf.la K25.out HR10_4.out)
  clear K25
  have K34 := Lib.hid (K26.out.fr hf HX10_4.out)
  clear K26
  have K35 := Lib.hid (hf.la K27.out HR10_10.out)
  clear K27
  have K36 := Lib.hid (hf.la K29.out HR10_12.out)
  clear K29
  have K37 := Lib.hid (K30.out.fr hf HX10_12.out)
  clear K30
  clear hf ho
  go_wp2_with fail
  refine (putTxns_none g _ (K31.out.cell 14 _ rfl)).mono ?_
  rintro e w' ⟨rfl, rfl⟩
  go_wp2_with fail
  refine (putLeases_none g _ (K31.out.cell 20 _ rfl)).mono ?_
  rintro e w' ⟨rfl, rfl⟩
  go_wp2_with fail
  refine (putSteps_none g _ (K31.out.cell 24 _ rfl)).mono ?_
  rintro e w' ⟨rfl, rfl⟩
  go_wp2_with fail
  refine (putLists_none g _ (K31.out.cell 28 _ rfl)).mono ?_
  rintro e w' ⟨rfl, rfl⟩
  go_wp2_with fail
  refine (putTexts_none g _ (K31.out.cell 0 _ rfl)).mono ?_
  rintro e w' ⟨rfl, rfl⟩
  go_wp2_with fail
  refine (putInts_none g _ (K31.out.cell 2 _ rfl)).mono ?_
  rintro e w' ⟨rfl, rfl⟩
  go_wp2_with fail
  refine (putVecsk_any B g va4 n4 cv4 v4 xs4 _ few4 (K31.out.cell 4 _ rfl) K33.out (fun j hj => ⟨K34.out j hj, Nat.le_trans (HS4.out j hj) (by decide)⟩) HP4.out HG4.out HR4_4.out).mono ?_
  rintro e P4 ⟨rfl, hf, ho⟩
  clear K34
  have HM4 := Lib.hid (show OWk B 3 1 n4 v4 (fun j => (xs4 j).length) (fun j => mkV.row j 0 ((fun j => (xs4 j).length) j)) P4 from ho)
  have K38 := Lib.hid (hf.ac K31.out HG4.out)
  clear K31
  have K39 := Lib.hid (K32.out.trans (hf.wider (fun b q => (HL4.out b q).2)))
  clear K32
  have K40 := Lib.hid (hf.la K33.out HR4_4.out)
  clear K33
  have K41 := Lib.hid (hf.la K35.out HR4_10.out)
  clear K35
  have K42 := Lib.hid (HM10.out.fr hf HX4_10.out)
  clear HM10
  have K43 := Lib.hid (hf.la K36.out HR4_12.out)
  clear K36
  have K44 := Lib.hid (K37.out.fr hf HX4_12.out)
  clear K37
  clear hf ho
  go_wp2_with fail
  refine (putKeys_none g _ (K38.out.cell 6 _ rfl)).mono ?_
  rintro e w' ⟨rfl, rfl⟩
  go_wp2_with fail
  refine (putPairs_none g _ (K38.out.cell 8 _ rfl)).mono ?_
  rintro e w' ⟨rfl, rfl⟩
  go_wp2_with fail
  refine (putWrites_any B g va12 n12 cv12 v12 l12 c12 _ few12 (K38.out.cell 12 _ rfl) K43.out (fun j hj => ⟨K44.out j hj, Nat.le_trans (HS12.out j hj) (by decide)⟩) HP12.out HG12.out HR12_12.out).mono ?_
  rintro e P12 ⟨rfl, hf, ho⟩
  clear K44
  have HM12 := Lib.hid (show OWk B 169 5 n12 v12 l12 (fun j => mkW.row j 0 (l12 j)) P12 from ho)
  have K45 := Lib.hid (hf.ac K38.out HG12.out)
  clear K38
  have K46 := Lib.hid (K39.out.trans (hf.wider (fun b q => (HL12.out b q).2)))
  clear K39
  have K47 := Lib.hid (hf.la K40.out HR12_4.out)
  clear K40
  have K48 := Lib.hid (HM4.out.fr hf HX12_4.out)
  clear HM4
  have K49 := Lib.hid (hf.la K41.out HR12_10.out)
  clear K41
  have K50 := Lib.hid (K42.out.fr hf HX12_10.out)
  clear K42
  have K51 := Lib.hid (hf.la K43.out HR12_12.out)
  clear K43
  clear hf ho
  go_wp2_with fail
  refine (putFiles_none g _ (K45.out.cell 16 _ rfl)).mono ?_
  rintro e w' ⟨rfl, rfl⟩
  go_wp2_with fail
  refine (putNotes_none g _ (K45.out.cell 18 _ rfl)).mono ?_
  rintro e w' ⟨rfl, rfl⟩
  go_wp2_with fail
  refine (putLetters_none g _ (K45.out.cell 22 _ rfl)).mono ?_
  rintro e w' ⟨rfl, rfl⟩
  go_wp2_with fail
  refine (putReals_none g _ (K45.out.cell 26 _ rfl)).mono ?_
  rintro e w' ⟨rfl, rfl⟩
  go_wp2_with fail
  refine (growTexts_none g _ (K45.out.cell 0 _ rfl)).mono ?_
  rintro e w' ⟨rfl, rfl⟩
  go_wp2_with fail
  refine (growInts_none g _ (K45.out.cell 2 _ rfl)).mono ?_
  rintro e w' ⟨rfl, rfl⟩
  go_wp2_with fail
  have hz4 := Nat.le_trans hB K46.out.size
  have hy4 := K46.out.size
  refine (growVecsk_any B g va4 n4 cv4 v4 (fun j => (xs4 j).length) _ few4 hz4 (K45.out.cell 4 _ rfl) K47.out (fun j hj => ⟨K48.out j hj, HS4.out j hj⟩) HP4.out HG4.out HR4_4.out).mono ?_
  rintro e G4 ⟨out4, g4, rfl, hgr⟩
  obtain ⟨oa4, oc4, rfl, -⟩ := row_la hgr.row
  have hf := hgr.fr
  have HGS4 := Lib.hid hgr.grs
  clear K48
  have K52 := Lib.hid (hf.ac K45.out HG4.out)
  clear K45
  have K53 := Lib.hid (K46.out.trans (hf.wider (fun b q => (HL4.out b q).2)))
  clear K46
  have K54 := Lib.hid (hf.la K47.out HR4_4.out)
  clear K47
  have K55 := Lib.hid (hf.la K49.out HR4_10.out)
  clear K49
  have K56 := Lib.hid (K50.out.fr hf HX4_10.out)
  clear K50
  have K57 := Lib.hid (hf.la K51.out HR4_12.out)
  clear K51
  have K58 := Lib.hid (HM12.out.fr hf HX4_12.out)
  clear HM12
  clear hf hgr hz4
  go_wp2_with fail
  refine (growKeys_none g _ (K52.out.cell 6 _ rfl)).mono ?_
  rintro e w' ⟨rfl, rfl⟩
  go_wp2_with fail
  refine (growPairs_none g _ (K52.out.cell 8 _ rfl)).mono ?_
  rintro e w' ⟨rfl, rfl⟩
  go_wp2_with fail
  have hz10 := Nat.le_trans hB K53.out.size
  have hy10 := K53.out.size
  refine (growVersions_any B g va10 n10 cv10 v10 l10 _ few10 hz10 (K52.out.cell 10 _ rfl) K55.out (fun j hj => ⟨K56.out j hj, HS10.out j hj⟩) HP10.out HG10.out HR10_10.out).mono ?_
  rintro e G10 ⟨out10, g10, rfl, hgr⟩
  obtain ⟨oa10, oc10, rfl, -⟩ := row_la hgr.row
  have hf := hgr.fr
  have HGS10 := Lib.hid hgr.grs
  clear K56
  have K59 := Lib.hid (hf.ac K52.out HG10.out)
  clear K52
  have K60 := Lib.hid (K53.out.trans (hf.wider (fun b q => (HL10.out b q).2)))
  clear K53
  have K61 := Lib.hid (hf.la K54.out HR10_4.out)
  clear K54
  have K62 := Lib.hid (HGS4.out.fr hf (fun b h => Nat.lt_of_lt_of_le (HL10.out b h).1 hy4) (fun j hj b h => HX10_4.out b ⟨j, hj, h⟩))
  clear HGS4
  have K63 := Lib.hid (hf.la K55.out HR10_10.out)
  clear K55
  have K64 := Lib.hid (hf.la K57.out HR10_12.out)
  clear K57
  have K65 := Lib.hid (K58.out.fr hf HX10_12.out)
  clear K58
  clear hf hgr hz10
  go_wp2_with fail
  have hz12 := Nat.le_trans hB K60.out.size
  have hy12 := K60.out.size
  refine (growWrites_any B g va12 n12 cv12 v12 l12 _ few12 hz12 (K59.out.cell 12 _ rfl) K64.out (fun j hj => ⟨K65.out j hj, HS12.out j hj⟩) HP12.out HG12.out HR12_12.out).mono ?_
  rintro e G12 ⟨out12, g12, rfl, hgr⟩
  obtain ⟨oa12, oc12, rfl, -⟩ := row_la hgr.row
  have hf := hgr.fr
  have HGS12 := Lib.hid hgr.grs
  clear K65
  have K66 := Lib.hid (hf.ac K59.out HG12.out)
  clear K59
  have K67 := Lib.hid (K60.out.trans (hf.wider (fun b q => (HL12.out b q).2)))
  clear K60
  have K68 := Lib.hid (hf.la K61.out HR12_4.out)
  clear K61
  have K69 := Lib.hid (K62.out.fr hf (fun b h => Nat.lt_of_lt_of_le (HL12.out b h).1 hy4) (fun j hj b h => HX12_4.out b ⟨j, hj, h⟩))
  clear K62
  have K70 := Lib.hid (hf.la K63.out HR12_10.out)
  clear K63
  have K71 := Lib.hid (HGS10.out.fr hf (fun b h => Nat.lt_of_lt_of_le (HL12.out b h).1 hy10) (fun j hj b h => HX12_10.out b ⟨j, hj, h⟩))
  clear HGS10
  have K72 := Lib.hid (hf.la K64.out HR12_12.out)
  clear K64
  clear hf hgr hz12
  go_wp2_with fail
  refine (growTxns_none g _ (K66.out.cell 14 _ rfl)).mono ?_
  rintro e w' ⟨rfl, rfl⟩
  go_wp2_with fail
  refine (growFiles_none g _ (K66.out.cell 16 _ rfl)).mono ?_
  rintro e w' ⟨rfl, rfl⟩
  go_wp2_with fail
  refine (growNotes_none g _ (K66.out.cell 18 _ rfl)).mono ?_
  rintro e w' ⟨rfl, rfl⟩
  go_wp2_with fail
  refine (growLeases_none g _ (K66.out.cell 20 _ rfl)).mono ?_
  rintro e w' ⟨rfl, rfl⟩
  go_wp2_with fail
  refine (growLetters_none g _ (K66.out.cell 22 _ rfl)).mono ?_
  rintro e w' ⟨rfl, rfl⟩
  go_wp2_with fail
  refine (growSteps_none g _ (K66.out.cell 24 _ rfl)).mono ?_
  rintro e w' ⟨rfl, rfl⟩
  go_wp2_with fail
  refine (growReals_none g _ (K66.out.cell 26 _ rfl)).mono ?_
  rintro e w' ⟨rfl, rfl⟩
  go_wp2_with fail
  refine (growLists_none g _ (K66.out.cell 28 _ rfl)).mono ?_
  rintro e w' ⟨rfl, rfl⟩
  go_wp2_with fail
  refine (markedTexts_none _).mono ?_
  rintro e w' ⟨rfl, rfl⟩
  have q0 := K66.out.cell 0 _ rfl
  go_wp2_with fail
  refine (markedTexts_none _).mono ?_
  rintro e w' ⟨rfl, rfl⟩
  clear q0
  go_wp2_with fail
  refine (markedInts_none _).mono ?_
  rintro e w' ⟨rfl, rfl⟩
  have q2 := K66.out.cell 2 _ rfl
  go_wp2_with fail
  refine (markedInts_none _).mono ?_
  rintro e w' ⟨rfl, rfl⟩
  clear q2
  go_wp2_with fail
  obtain ⟨_, _, ee, hlo⟩ := row_la K69.out.row
  cases ee
  refine (markedVecsk_any oa4 n4 oc4 g4 (fun j => (fun j => (xs4 j).length) j + 72) B _ few4 hlo (fun j hj => ⟨K69.out.ogs j hj, by have := HS4.out j hj; (try dsimp only); omega⟩)).mono ?_
  rintro e M4 ⟨rfl, hb⟩
  clear hlo
  have K73 := Lib.hid (K66.out.keep hb)
  clear K66
  have K74 := Lib.hid (K67.out.bl hb)
  clear K67
  have K75 := Lib.hid (K68.out.keep hb)
  clear K68
  have K76 := Lib.hid (K69.out.keep hb)
  clear K69
  have K77 := Lib.hid (K70.out.keep hb)
  clear K70
  have K78 := Lib.hid (K71.out.keep hb)
  clear K71
  have K79 := Lib.hid (K72.out.keep hb)
  clear K72
  have K80 := Lib.hid (HGS12.out.keep hb)
  clear HGS12
  clear hb
  have q4 := K73.out.cell 4 _ rfl
  go_wp2_with fail
  refine (markedVecsk_any va4 n4 cv4 v4 (fun j => (xs4 j).length) B _ few4 K75.out (fun j hj => ⟨K76.out.ovs j hj, by have := HS4.out j hj; (try dsimp only); omega⟩)).mono ?_
  rintro e N4 ⟨rfl, hb⟩
  clear q4
  have K81 := Lib.hid (K73.out.keep hb)
  clear K73
  have K82 := Lib.hid (K74.out.bl hb)
  clear K74
  have K83 := Lib.hid (K75.out.keep hb)
  clear K75
  have K84 := Lib.hid (K76.out.keep hb)
  clear K76
  have K85 := Lib.hid (K77.out.keep hb)
  clear K77
  have K86 := Lib.hid (K78.out.keep hb)
  clear K78
  have K87 := Lib.hid (K79.out.keep hb)
  clear K79
  have K88 := Lib.hid (K80.out.keep hb)
  clear K80
  clear hb
  go_wp2_with fail
  refine (markedKeys_none _).mono ?_
  rintro e w' ⟨rfl, rfl⟩
  have q6 := K81.out.cell 6 _ rfl
  go_wp2_with fail
  refine (markedKeys_none _).mono ?_
  rintro e w' ⟨rfl, rfl⟩
  clear q6
  go_wp2_with fail
  refine (markedPairs_none _).mono ?_
  rintro e w' ⟨rfl, rfl⟩
  have q8 := K81.out.cell 8 _ rfl
  go_wp2_with fail
  refine (markedPairs_none _).mono ?_
  rintro e w' ⟨rfl, rfl⟩
  clear q8
  go_wp2_with fail
  obtain ⟨_, _, ee, hlo⟩ := row_la K86.out.row
  cases ee
  refine (markedVersions_any oa10 n10 oc10 g10 (fun j => l10 j + 72) B _ few10 hlo (fun j hj => ⟨K86.out.ogs j hj, by have := HS10.out j hj; (try dsimp only); omega⟩)).mono ?_
  rintro e M10 ⟨rfl, hb⟩
  clear hlo
  have K89 := Lib.hid (K81.out.keep hb)
  clear K81
  have K90 := Lib.hid (K82.out.bl hb)
  clear K82
  have K91 := Lib.hid (K83.out.keep hb)
  clear K83
  have K92 := Lib.hid (K84.out.keep hb)
  clear K84
  have K93 := Lib.hid (K85.out.keep hb)
  clear K85
  have K94 := Lib.hid (K86.out.keep hb)
  clear K86
  have K95 := Lib.hid (K87.out.keep hb)
  clear K87
  have K96 := Lib.hid (K88.out.keep hb)
  clear K88
  clear hb
  have q10 := K89.out.cell 10 _ rfl
  go_wp2_with fail
  refine (markedVersions_any va10 n10 cv10 v10 l10 B _ few10 K93.out (fun j hj => ⟨K94.out.ovs j hj, by have := HS10.out j hj; (try dsimp only); omega⟩)).mono ?_
  rintro e N10 ⟨rfl, hb⟩
  clear q10
  have K97 := Lib.hid (K89.out.keep hb)
  clear K89
  have K98 := Lib.hid (K90.out.bl hb)
  clear K90
  have K99 := Lib.hid (K91.out.keep hb)
  clear K91
  have K100 := Lib.hid (K92.out.keep hb)
  clear K92
  have K101 := Lib.hid (K93.out.keep hb)
  clear K93
  have K102 := Lib.hid (K94.out.keep hb)
  clear K94
  have K103 := Lib.hid (K95.out.keep hb)
  clear K95
  have K104 := Lib.hid (K96.out.keep hb)
  clear K96
  clear hb
  go_wp2_with fail
  obtain ⟨_, _, ee, hlo⟩ := row_la K104.out.row
  cases ee
  refine (markedWrites_any oa12 n12 oc12 g12 (fun j => l12 j + 72) B _ few12 hlo (fun j hj => ⟨K104.out.ogs j hj, by have := HS12.out j hj; (try dsimp only); omega⟩)).mono ?_
  rintro e M12 ⟨rfl, hb⟩
  clear hlo
  have K105 := Lib.hid (K97.out.keep hb)
  clear K97
  have K106 := Lib.hid (K98.out.bl hb)
  clear K98
  have K107 := Lib.hid (K99.out.keep hb)
  clear K99
  have K108 := Lib.hid (K100.out.keep hb)
  clear K100
  have K109 := Lib.hid (K101.out.keep hb)
  clear K101
  have K110 := Lib.hid (K102.out.keep hb)
  clear K102
  have K111 := Lib.hid (K103.out.keep hb)
  clear K103
  have K112 := Lib.hid (K104.out.keep hb)
  clear K104
  clear hb
  have q12 := K105.out.cell 12 _ rfl
  go_wp2_with fail
  refine (markedWrites_any va12 n12 cv12 v12 l12 B _ few12 K111.out (fun j hj => ⟨K112.out.ovs j hj, by have := HS12.out j hj; (try dsimp only); omega⟩)).mono ?_
  rintro e N12 ⟨rfl, hb⟩
  clear q12
  have K113 := Lib.hid (K105.out.keep hb)
  clear K105
  have K114 := Lib.hid (K106.out.bl hb)
  clear K106
  have K115 := Lib.hid (K107.out.keep hb)
  clear K107
  have K116 := Lib.hid (K108.out.keep hb)
  clear K108
  have K117 := Lib.hid (K109.out.keep hb)
  clear K109
  have K118 := Lib.hid (K110.out.keep hb)
  clear K110
  have K119 := Lib.hid (K111.out.keep hb)
  clear K111
  have K120 := Lib.hid (K112.out.keep hb)
  clear K112
  clear hb
  go_wp2_with fail
  refine (markedTxns_none _).mono ?_
  rintro e w' ⟨rfl, rfl⟩
  have q14 := K113.out.cell 14 _ rfl
  go_wp2_with fail
  refine (markedTxns_none _).mono ?_
  rintro e w' ⟨rfl, rfl⟩
  clear q14
  go_wp2_with fail
  refine (markedFiles_none _).mono ?_
  rintro e w' ⟨rfl, rfl⟩
  have q16 := K113.out.cell 16 _ rfl
  go_wp2_with fail
  refine (markedFiles_none _).mono ?_
  rintro e w' ⟨rfl, rfl⟩
  clear q16
  go_wp2_with fail
  refine (markedNotes_none _).mono ?_
  rintro e w' ⟨rfl, rfl⟩
  have q18 := K113.out.cell 18 _ rfl
  go_wp2_with fail
  refine (markedNotes_none _).mono ?_
  rintro e w' ⟨rfl, rfl⟩
  clear q18
  go_wp2_with fail
  refine (markedLeases_none _).mono ?_
  rintro e w' ⟨rfl, rfl⟩
  have q20 := K113.out.cell 20 _ rfl
  go_wp2_with fail
  refine (markedLeases_none _).mono ?_
  rintro e w' ⟨rfl, rfl⟩
  clear q20
  go_wp2_with fail
  refine (markedLetters_none _).mono ?_
  rintro e w' ⟨rfl, rfl⟩
  have q22 := K113.out.cell 22 _ rfl
  go_wp2_with fail
  refine (markedLetters_none _).mono ?_
  rintro e w' ⟨rfl, rfl⟩
  clear q22
  go_wp2_with fail
  refine (markedSteps_none _).mono ?_
  rintro e w' ⟨rfl, rfl⟩
  have q24 := K113.out.cell 24 _ rfl
  go_wp2_with fail
  refine (markedSteps_none _).mono ?_
  rintro e w' ⟨rfl, rfl⟩
  clear q24
  go_wp2_with fail
  refine (markedReals_none _).mono ?_
  rintro e w' ⟨rfl, rfl⟩
  have q26 := K113.out.cell 26 _ rfl
  go_wp2_with fail
  refine (markedReals_none _).mono ?_
  rintro e w' ⟨rfl, rfl⟩
  clear q26
  go_wp2_with fail
  refine (markedLists_none _).mono ?_
  rintro e w' ⟨rfl, rfl⟩
  have q28 := K113.out.cell 28 _ rfl
  go_wp2_with fail
  refine (markedLists_none _).mono ?_
  rintro e w' ⟨rfl, rfl⟩
  clear q28
  go_wp2_with fail
  go_ret
  exact ⟨rfl, K114.out⟩
theorem bqURW_apart (B g : Nat) (T : Nat → Prop) (w : World) (hB : B ≤ w.heap.size) (h : BQ bkURW B w g T) :
    Calls Tryz.prog 19 #[.pointer (some ⟨g, 0, none⟩)] w fun e w' => e = .returned (.bool true) ∧ Fr (fun b => B ≤ b ∧ ¬ T b) w w' := by
  obtain ⟨n, vv, wv, vs, us, ln, cs, D, h⟩ := h
  exact apartURW_any B g n vv wv vs us ln cs D T w hB (Lib.hid h)
theorem bqURW_Vecs (B g : Nat) (a : Option Addr) (nv c : Nat) (ps : List Int) (T U : Nat → Prop) (w : World) (hB : B ≤ w.heap.size) (h : BQU bkURW B w g T U) (ho : w.ownsRow B 3 1 (.slice a nv c) nv (ps.map (Value.int .i64))) (hl : ps.length = nv) (hn : nv ≤ 50000) (hok : ∀ x ∈ ps, -9223372036854775808 ≤ x ∧ x ≤ 9223372036854775807) (hT : ∀ b, (Value.slice a nv c).ownBlock = some b → T b) :
    Calls Tryz.prog 139 #[.pointer (some ⟨g, 0, none⟩), .slice a nv c] w fun e w' => e = .returned (.tuple #[]) ∧ BQU bkURW B w' g (fun b => T b ∧ (Value.slice a nv c).ownBlock ≠ some b) U ∧ Fr (fun b => ¬ (T b ∨ U b)) w w' := by
  obtain ⟨n, vv, wv, vs, us, ln, cs, D, h, hu⟩ := h
  have hm : 4 ∈ bkURW.K := by simp [bkURW]
  have hr : IA w a nv ps := IA.ofOwn ho hl (by omega) hok
  have hblk : ∀ b off, a = some ⟨b, off, none⟩ → 0 < nv → (Value.slice a nv c).ownBlock = some b := fun b off e _ => by subst e; rfl
  have hbs : ∀ b, ¬ BSt g vv wv b → ¬ (b = g ∨ (vv 4).ownBlock = some b ∨ (wv 4).ownBlock = some b) := fun b hb q => by
    rcases q with q | q | q
    · exact hb (.inl q)
    · exact hb (.inr ⟨4, .inl q⟩)
    · exact hb (.inr ⟨4, .inr q⟩)
  by_cases hf : n 4 < 250
  · refine (regVecs_any B g (n 4) (hsOf vv wv) (vv 4) (wv 4) _ _ a nv c ps w hf hB h.box rfl rfl rfl (h.rv 4 hm) (h.ru 4 hm) (h.gv 4).1 (h.gv 4).2 (h.hwv 4 4) hr (by omega) (fun b off e hp => hbs b (h.t b (hT b (hblk b off e hp))).2.1)).mono ?_
    · rintro e w' ⟨rfl, vv', wv', u, Dn, P⟩
      have hD : ∀ b, (fun b => (Value.slice a nv c).ownBlock = some b) b → b < w.heap.size ∧ ¬ BSt g vv wv b := fun b q => ⟨(h.t b (hT b q)).1, (h.t b (hT b q)).2.1⟩
      have Q := h.vpk (p := 4) (Dv := fun b => (Value.slice a nv c).ownBlock = some b) P (by rfl) hD (fun hc => ?_)
      · exact ⟨rfl, h.regU hu hm hf ho hn hT hD Q⟩
      · obtain ⟨a2, n2, c2, rfl, hr2, hd2⟩ := hc
        have hn2 : n2 = nv := by rw [← hr2.len, hl]
        subst hn2
        have two : TwoV (.slice a n2 c) (.slice a2 n2 c2) w' (fun b => Dn b ∨ (Value.slice a n2 c).ownBlock = some b) := ⟨ps, a, a2, n2, c, c2, rfl, rfl, hr.fr P.fr (fun b off e hp => hbs b (h.t b (hT b (hblk b off e hp))).2.1), hr2, fun x off e hp => .inr (hblk x off e hp), fun x off e hp => .inl (hd2 x off e hp)⟩
        exact ⟨fun _ => two, fun e => absurd e (by decide), fun e => absurd e (by decide)⟩
  · have h250 : n 4 = 250 := by have := h.few 4; omega
    obtain ⟨va, cv, ev⟩ := row_shape' (h.rv 4 hm)
    rw [h250] at ev
    refine (fullVecs_any g (hsOf vv wv) va cv (.slice a nv c) w h.box (by rw [← ev]; rfl)).mono ?_
    rintro e w' ⟨rfl, rfl⟩
    exact ⟨rfl, (h.less (fun b hb => hb.1)).bqu hu, Fr.refl _ _⟩
theorem bqURW_Versions (B g : Nat) (a : Option Addr) (nv c : Nat) (ps : List VC) (T U : Nat → Prop) (w : World) (hB : B ≤ w.heap.size) (h : BQU bkURW B w g T U) (ho : w.ownsRow B 59 8 (.slice a nv c) nv (flat ps)) (hl : ps.length = nv) (hn : nv ≤ 50000) (hia : ∀ x ∈ ps, IA w x.ad x.n x.at_) (hok : ∀ x ∈ ps, x.act.Ok) (hN : ∀ x ∈ ps, ∀ b off, x.ad = some ⟨b, off, none⟩ → 0 < x.n → U b) (hT : ∀ b, (Value.slice a nv c).ownBlock = some b → T b) :
    Calls Tryz.prog 52 #[.pointer (some ⟨g, 0, none⟩), .slice a nv c] w fun e w' => e = .returned (.tuple #[]) ∧ BQU bkURW B w' g (fun b => T b ∧ (Value.slice a nv c).ownBlock ≠ some b) U ∧ Fr (fun b => ¬ (T b ∨ U b)) w w' := by
  obtain ⟨n, vv, wv, vs, us, ln, cs, D, h, hu⟩ := h
  have hm : 10 ∈ bkURW.K := by simp [bkURW]
  have hr : RV w a nv ps := RV.own ho hl (by omega) hia hok
  have hblk : ∀ b off, a = some ⟨b, off, none⟩ → 0 < nv → (Value.slice a nv c).ownBlock = some b := fun b off e _ => by subst e; rfl
  have hbs : ∀ b, ¬ BSt g vv wv b → ¬ (b = g ∨ (vv 10).ownBlock = some b ∨ (wv 10).ownBlock = some b) := fun b hb q => by
    rcases q with q | q | q
    · exact hb (.inl q)
    · exact hb (.inr ⟨10, .inl q⟩)
    · exact hb (.inr ⟨10, .inr q⟩)
  by_cases hf : n 10 < 250
  · refine (regVersions_any B g (n 10) (hsOf vv wv) (vv 10) (wv 10) _ _ a nv c ps w hf hB h.box rfl rfl rfl (h.rv 10 hm) (h.ru 10 hm) (h.gv 10).1 (h.gv 10).2 (h.hwv 10 10) hr (by omega) (fun b off e hp => hbs b (h.t b (hT b (hblk b off e hp))).2.1) (fun x hx b off e h0 => hbs b (hu b (hN x hx b off e h0)).2)).mono ?_
    · rintro e w' ⟨rfl, vv', wv', u, Dn, P⟩
      have hD : ∀ b, (fun b => (Value.slice a nv c).ownBlock = some b ∨ ∃ x, x ∈ ps ∧ 0 < x.n ∧ ∃ off, x.ad = some ⟨b, off, none⟩) b → b < w.heap.size ∧ ¬ BSt g vv wv b := fun b q => by
        rcases q with q | ⟨x, hx, h0, off, e⟩
        · exact ⟨(h.t b (hT b q)).1, (h.t b (hT b q)).2.1⟩
        · exact hu b (hN x hx b off e h0)
      have Q := h.vpk (p := 10) (Dv := fun b => (Value.slice a nv c).ownBlock = some b ∨ ∃ x, x ∈ ps ∧ 0 < x.n ∧ ∃ off, x.ad = some ⟨b, off, none⟩) P (by rfl) hD (fun hc => ?_)
      · exact ⟨rfl, h.regU hu hm hf ho hn hT hD Q⟩
      · obtain ⟨ys, a2, n2, c2, rfl, hr2, hev, hd2, hd3⟩ := hc
        have hn2 : n2 = nv := by rw [← hr2.len, ← hl]; have := congrArg List.length hev; simpa using this.symm
        subst hn2
        have two : TwoR (.slice a n2 c) (.slice a2 n2 c2) w' (fun b => Dn b ∨ ((Value.slice a n2 c).ownBlock = some b ∨ ∃ x, x ∈ ps ∧ 0 < x.n ∧ ∃ off, x.ad = some ⟨b, off, none⟩)) := ⟨ps, ys, a, a2, n2, c, c2, rfl, rfl, hr.fr P.fr (fun b off e hp => hbs b (h.t b (hT b (hblk b off e hp))).2.1) (fun x hx b off e h0 => hbs b (hu b (hN x hx b off e h0)).2), hr2, hev, fun x off e hp => .inr (.inl (hblk x off e hp)), fun x off e hp => .inl (hd2 x off e hp), fun x hx b off e h0 => .inr (.inr ⟨x, hx, h0, off, e⟩), fun y hy b off e h0 => .inl (hd3 y hy b off e h0)⟩
        exact ⟨fun e => absurd e (by decide), fun _ => two, fun e => absurd e (by decide)⟩
  · have h250 : n 10 = 250 := by have := h.few 10; omega
    obtain ⟨va, cv, ev⟩ := row_shape' (h.rv 10 hm)
    rw [h250] at ev
    refine (fullVersions_any g (hsOf vv wv) va cv (.slice a nv c) w h.box (by rw [← ev]; rfl)).mono ?_
    rintro e w' ⟨rfl, rfl⟩
    exact ⟨rfl, (h.less (fun b hb => hb.1)).bqu hu, Fr.refl _ _⟩
end Go.Proofs.YtfjjnffifnohkaaGreat
end
