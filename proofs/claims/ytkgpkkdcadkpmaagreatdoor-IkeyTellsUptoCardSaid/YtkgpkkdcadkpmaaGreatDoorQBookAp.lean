import Derived.Test.YtkgpkkdcadkpmaaGreatDoorQBookE
import Derived.Test.YtkgpkkdcadkpmaaGreatDoorQBookV4
import Derived.Test.YtkgpkkdcadkpmaaGreatDoorQIkeyTellsUptoP3

/- bedrockbook.Book.Apart over a book that keeps vectors alone. By an AI agent. -/
section
set_option linter.unusedVariables false
namespace Go.Proofs.YtkgpkkdcadkpmaaGreatDoor
open Go.RowKit

/-- the cells of a book that keeps vectors alone -/
def bookCs (vv wv : Value) : List Value := [.slice none 0 0, .slice none 0 0, .slice none 0 0, .slice none 0 0, vv, wv, .slice none 0 0, .slice none 0 0, .slice none 0 0, .slice none 0 0, .slice none 0 0, .slice none 0 0, .slice none 0 0, .slice none 0 0, .slice none 0 0, .slice none 0 0, .slice none 0 0, .slice none 0 0, .slice none 0 0, .slice none 0 0, .slice none 0 0, .slice none 0 0, .slice none 0 0, .slice none 0 0, .slice none 0 0, .slice none 0 0, .slice none 0 0, .slice none 0 0, .slice none 0 0, .slice none 0 0]
/-- the state of a book -/
structure BK (B : Nat) (W : World) (g : Nat) (va ua : Option Addr) (n cv cu : Nat) (vs us : Nat → Value) (xs : Nat → List Int) : Prop where
  box : AC W g (bookCs (.slice va n cv) (.slice ua n cu))
  few : n ≤ 250
  la : LA W va n vs
  lu : LA W ua n us
  own : ∀ j, j < n → OI B W (vs j) (xs j)
  small : ∀ j, j < n → (xs j).length ≤ 50000
  si : ∀ j, j < n → SI W (vs j) (xs j) ∧ SI W (us j) (xs j)
  apv : ∀ i j, i < n → j < n → i ≠ j → (vs i).ownBlock = none ∨ (vs i).ownBlock ≠ (vs j).ownBlock
  apg : ¬ SB3 n vs g
  apr : ∀ b off, va = some ⟨b, off, none⟩ → ¬ SB3 n vs b
theorem BK.keep {B : Nat} {W W' : World} {g : Nat} {va ua : Option Addr} {n cv cu : Nat} {vs us : Nat → Value} {xs : Nat → List Int} (h : BK B W g va ua n cv cu vs us xs) (hb : Bl W W') : BK B W' g va ua n cv cu vs us xs :=
  ⟨h.box.keep hb, h.few, h.la.keep hb, h.lu.keep hb, fun j hj => (h.own j hj).keep hb, h.small, fun j hj => ⟨(h.si j hj).1.keep hb, (h.si j hj).2.keep hb⟩, h.apv, h.apg, h.apr⟩
set_option maxHeartbeats 4000000 in
set_option maxRecDepth 100000 in
theorem apart_any (B g : Nat) (va ua : Option Addr) (n cv cu : Nat) (vs us : Nat → Value) (xs : Nat → List Int) (w : World) (hB : B ≤ w.heap.size) (hk : Hid (BK B w g va ua n cv cu vs us xs)) :
    Calls Tryz.prog 20 #[.pointer (some ⟨g, 0, none⟩)] w fun e w' => e = .returned (.bool true) ∧ Fr (SB3 n vs) w w' := by
  have HFW := Lib.hid (Fr.refl (SB3 n vs) w)
  have HA := Lib.hid hk.out.box
  have hmk : ∀ j, j < n → (xs j).length ≤ 50000 := hk.out.small
  have HMK := Lib.hid hmk
  clear hmk
  go_enter Tryz.func20, Tryz.ntmps20
  go_wp2_with fail
  refine (stillTexts_none g _ (HA.out.cell 0 _ rfl)).mono ?_
  rintro e w' ⟨rfl, rfl⟩
  go_wp2_with fail
  refine (stillInts_none g _ (HA.out.cell 2 _ rfl)).mono ?_
  rintro e w' ⟨rfl, rfl⟩
  go_wp2_with fail
  refine (stillVecs_any g va ua n cv cu vs us xs _ hk.out.few (HA.out.cell 4 _ rfl) (HA.out.cell 5 _ rfl) hk.out.la hk.out.lu hk.out.si).mono ?_
  rintro e W1 ⟨rfl, hb⟩
  have HK1 := Lib.hid (hk.out.keep hb)
  have HF1 := Lib.hid (HFW.out.bl hb)
  clear HA HFW hb
  have HA := Lib.hid HK1.out.box
  go_wp2_with fail
  refine (stillKeys_none g _ (HA.out.cell 6 _ rfl)).mono ?_
  rintro e w' ⟨rfl, rfl⟩
  go_wp2_with fail
  refine (stillPairs_none g _ (HA.out.cell 8 _ rfl)).mono ?_
  rintro e w' ⟨rfl, rfl⟩
  go_wp2_with fail
  refine (stillVersions_none g _ (HA.out.cell 10 _ rfl)).mono ?_
  rintro e w' ⟨rfl, rfl⟩
  go_wp2_with fail
  refine (stillWrites_none g _ (HA.out.cell 12 _ rfl)).mono ?_
  rintro e w' ⟨rfl, rfl⟩
  go_wp2_with fail
  refine (stillTxns_none g _ (HA.out.cell 14 _ rfl)).mono ?_
  rintro e w' ⟨rfl, rfl⟩
  go_wp2_with fail
  refine (stillFiles_none g _ (HA.out.cell 16 _ rfl)).mono ?_
  rintro e w' ⟨rfl, rfl⟩
  go_wp2_with fail
  refine (stillNotes_none g _ (HA.out.cell 18 _ rfl)).mono ?_
  rintro e w' ⟨rfl, rfl⟩
  go_wp2_with fail
  refine (stillLeases_none g _ (HA.out.cell 20 _ rfl)).mono ?_
  rintro e w' ⟨rfl, rfl⟩
  go_wp2_with fail
  refine (stillLetters_none g _ (HA.out.cell 22 _ rfl)).mono ?_
  rintro e w' ⟨rfl, rfl⟩
  go_wp2_with fail
  refine (stillSteps_none g _ (HA.out.cell 24 _ rfl)).mono ?_
  rintro e w' ⟨rfl, rfl⟩
  go_wp2_with fail
  refine (stillReals_none g _ (HA.out.cell 26 _ rfl)).mono ?_
  rintro e w' ⟨rfl, rfl⟩
  go_wp2_with fail
  refine (stillLists_none g _ (HA.out.cell 28 _ rfl)).mono ?_
  rintro e w' ⟨rfl, rfl⟩
  go_wp2_with fail
  refine (putVersions_none g _ (HA.out.cell 10 _ rfl)).mono ?_
  rintro e w' ⟨rfl, rfl⟩
  go_wp2_with fail
  refine (putTxns_none g _ (HA.out.cell 14 _ rfl)).mono ?_
  rintro e w' ⟨rfl, rfl⟩
  go_wp2_with fail
  refine (putLeases_none g _ (HA.out.cell 20 _ rfl)).mono ?_
  rintro e w' ⟨rfl, rfl⟩
  go_wp2_with fail
  refine (putSteps_none g _ (HA.out.cell 24 _ rfl)).mono ?_
  rintro e w' ⟨rfl, rfl⟩
  go_wp2_with fail
  refine (putLists_none g _ (HA.out.cell 28 _ rfl)).mono ?_
  rintro e w' ⟨rfl, rfl⟩
  go_wp2_with fail
  refine (putTexts_none g _ (HA.out.cell 0 _ rfl)).mono ?_
  rintro e w' ⟨rfl, rfl⟩
  go_wp2_with fail
  refine (putInts_none g _ (HA.out.cell 2 _ rfl)).mono ?_
  rintro e w' ⟨rfl, rfl⟩
  go_wp2_with fail
  refine (putVecs_any B g va n cv vs xs _ HK1.out.few (HA.out.cell 4 _ rfl) HK1.out.la (fun j hj => ⟨HK1.out.own j hj, Nat.le_trans (HK1.out.small j hj) (by decide)⟩) HK1.out.apv HK1.out.apg HK1.out.apr).mono ?_
  rintro e W2 ⟨rfl, hfp, hop⟩
  have HA2 := Lib.hid (hfp.ac HA.out HK1.out.apg)
  have HLA2 := Lib.hid (hfp.la HK1.out.la HK1.out.apr)
  have HOP2 := Lib.hid hop
  have HF2 := Lib.hid (HF1.out.trans hfp)
  clear HA HF1 hfp hop
  have HA := HA2
  clear HA2
  go_wp2_with fail
  refine (putKeys_none g _ (HA.out.cell 6 _ rfl)).mono ?_
  rintro e w' ⟨rfl, rfl⟩
  go_wp2_with fail
  refine (putPairs_none g _ (HA.out.cell 8 _ rfl)).mono ?_
  rintro e w' ⟨rfl, rfl⟩
  go_wp2_with fail
  refine (putWrites_none g _ (HA.out.cell 12 _ rfl)).mono ?_
  rintro e w' ⟨rfl, rfl⟩
  go_wp2_with fail
  refine (putFiles_none g _ (HA.out.cell 16 _ rfl)).mono ?_
  rintro e w' ⟨rfl, rfl⟩
  go_wp2_with fail
  refine (putNotes_none g _ (HA.out.cell 18 _ rfl)).mono ?_
  rintro e w' ⟨rfl, rfl⟩
  go_wp2_with fail
  refine (putLetters_none g _ (HA.out.cell 22 _ rfl)).mono ?_
  rintro e w' ⟨rfl, rfl⟩
  go_wp2_with fail
  refine (putReals_none g _ (HA.out.cell 26 _ rfl)).mono ?_
  rintro e w' ⟨rfl, rfl⟩
  go_wp2_with fail
  refine (growTexts_none g _ (HA.out.cell 0 _ rfl)).mono ?_
  rintro e w' ⟨rfl, rfl⟩
  go_wp2_with fail
  refine (growInts_none g _ (HA.out.cell 2 _ rfl)).mono ?_
  rintro e w' ⟨rfl, rfl⟩
  go_wp2_with fail
  refine (growVecs_any B g va n cv vs (fun j => (xs j).length) _ HK1.out.few (Nat.le_trans hB HF2.out.size) (HA.out.cell 4 _ rfl) HLA2.out (fun j hj => ⟨HOP2.out j hj, HMK.out j hj⟩) HK1.out.apv HK1.out.apg HK1.out.apr).mono ?_
  rintro e W3 ⟨out, gs, rfl, hgr⟩
  have HA3 := Lib.hid (hgr.fr.ac HA.out HK1.out.apg)
  have HLA3 := Lib.hid (hgr.fr.la HLA2.out HK1.out.apr)
  have HF3 := Lib.hid (HF2.out.trans hgr.fr)
  obtain ⟨oa, oc, rfl, hlo⟩ := row_la hgr.row
  have HLO := Lib.hid hlo
  have HSV := Lib.hid (fun j (hj : j < n) => (⟨(hgr.ovs j hj).si (by rw [markL_len]; have := HMK.out j hj; omega) (markL_wf (by have := HK1.out.few; omega) (by have := HMK.out j hj; omega)), by have := HMK.out j hj; omega⟩ : SI W3 (vs j) (markL j 0 (xs j).length) ∧ (xs j).length ≤ 100000))
  have HSG := Lib.hid (fun j (hj : j < n) => (⟨(hgr.ogs j hj).si (by rw [markL_len]; have := HMK.out j hj; omega) (markL_wf (by have := HK1.out.few; omega) (by have := HMK.out j hj; omega)), by have := HMK.out j hj; omega⟩ : SI W3 (gs j) (markL j 0 ((xs j).length + 72)) ∧ (xs j).length + 72 ≤ 100000))
  clear HA HLA2 HOP2 HF2 hgr hlo
  have HA := HA3
  clear HA3
  go_wp2_with fail
  refine (growKeys_none g _ (HA.out.cell 6 _ rfl)).mono ?_
  rintro e w' ⟨rfl, rfl⟩
  go_wp2_with fail
  refine (growPairs_none g _ (HA.out.cell 8 _ rfl)).mono ?_
  rintro e w' ⟨rfl, rfl⟩
  go_wp2_with fail
  refine (growVersions_none g _ (HA.out.cell 10 _ rfl)).mono ?_
  rintro e w' ⟨rfl, rfl⟩
  go_wp2_with fail
  refine (growWrites_none g _ (HA.out.cell 12 _ rfl)).mono ?_
  rintro e w' ⟨rfl, rfl⟩
  go_wp2_with fail
  refine (growTxns_none g _ (HA.out.cell 14 _ rfl)).mono ?_
  rintro e w' ⟨rfl, rfl⟩
  go_wp2_with fail
  refine (growFiles_none g _ (HA.out.cell 16 _ rfl)).mono ?_
  rintro e w' ⟨rfl, rfl⟩
  go_wp2_with fail
  refine (growNotes_none g _ (HA.out.cell 18 _ rfl)).mono ?_
  rintro e w' ⟨rfl, rfl⟩
  go_wp2_with fail
  refine (growLeases_none g _ (HA.out.cell 20 _ rfl)).mono ?_
  rintro e w' ⟨rfl, rfl⟩
  go_wp2_with fail
  refine (growLetters_none g _ (HA.out.cell 22 _ rfl)).mono ?_
  rintro e w' ⟨rfl, rfl⟩
  go_wp2_with fail
  refine (growSteps_none g _ (HA.out.cell 24 _ rfl)).mono ?_
  rintro e w' ⟨rfl, rfl⟩
  go_wp2_with fail
  refine (growReals_none g _ (HA.out.cell 26 _ rfl)).mono ?_
  rintro e w' ⟨rfl, rfl⟩
  go_wp2_with fail
  refine (growLists_none g _ (HA.out.cell 28 _ rfl)).mono ?_
  rintro e w' ⟨rfl, rfl⟩
  go_wp2_with fail
  have hfew := HK1.out.few
  refine (markedTexts_none _).mono ?_
  rintro e w' ⟨rfl, rfl⟩
  have q0 := HA.out.cell 0 _ rfl
  go_wp2_with fail
  refine (markedTexts_none _).mono ?_
  rintro e w' ⟨rfl, rfl⟩
  clear q0
  go_wp2_with fail
  refine (markedInts_none _).mono ?_
  rintro e w' ⟨rfl, rfl⟩
  have q2 := HA.out.cell 2 _ rfl
  go_wp2_with fail
  refine (markedInts_none _).mono ?_
  rintro e w' ⟨rfl, rfl⟩
  clear q2
  go_wp2_with fail
  refine (markedVecs_any oa n oc gs (fun j => (xs j).length + 72) _ hfew HLO.out HSG.out).mono ?_
  rintro e W4 ⟨rfl, hb4⟩
  have HA4 := Lib.hid (HA.out.keep hb4)
  have HB4 := Lib.hid hb4
  have HF4 := Lib.hid (HF3.out.bl hb4)
  clear HA HF3 hb4 HLO HSG
  have HA := HA4
  clear HA4
  have q4 := HA.out.cell 4 _ rfl
  go_wp2_with fail
  refine (markedVecs_any va n cv vs (fun j => (xs j).length) _ hfew (HLA3.out.keep HB4.out) (fun j hj => ⟨(HSV.out j hj).1.keep HB4.out, (HSV.out j hj).2⟩)).mono ?_
  rintro e W5 ⟨rfl, hb5⟩
  have HA5 := Lib.hid (HA.out.keep hb5)
  have HF5 := Lib.hid (HF4.out.bl hb5)
  clear HA HF4 HB4 hb5 HLA3 HSV q4
  have HA := HA5
  clear HA5
  go_wp2_with fail
  refine (markedKeys_none _).mono ?_
  rintro e w' ⟨rfl, rfl⟩
  have q6 := HA.out.cell 6 _ rfl
  go_wp2_with fail
  refine (markedKeys_none _).mono ?_
  rintro e w' ⟨rfl, rfl⟩
  clear q6
  go_wp2_with fail
  refine (markedPairs_none _).mono ?_
  rintro e w' ⟨rfl, rfl⟩
  have q8 := HA.out.cell 8 _ rfl
  go_wp2_with fail
  refine (markedPairs_none _).mono ?_
  rintro e w' ⟨rfl, rfl⟩
  clear q8
  go_wp2_with fail
  refine (markedVersions_none _).mono ?_
  rintro e w' ⟨rfl, rfl⟩
  have q10 := HA.out.cell 10 _ rfl
  go_wp2_with fail
  refine (markedVersions_none _).mono ?_
  rintro e w' ⟨rfl, rfl⟩
  clear q10
  go_wp2_with fail
  refine (markedWrites_none _).mono ?_
  rintro e w' ⟨rfl, rfl⟩
  have q12 := HA.out.cell 12 _ rfl
  go_wp2_with fail
  refine (markedWrites_none _).mono ?_
  rintro e w' ⟨rfl, rfl⟩
  clear q12
  go_wp2_with fail
  refine (markedTxns_none _).mono ?_
  rintro e w' ⟨rfl, rfl⟩
  have q14 := HA.out.cell 14 _ rfl
  go_wp2_with fail
  refine (markedTxns_none _).mono ?_
  rintro e w' ⟨rfl, rfl⟩
  clear q14
  go_wp2_with fail
  refine (markedFiles_none _).mono ?_
  rintro e w' ⟨rfl, rfl⟩
  have q16 := HA.out.cell 16 _ rfl
  go_wp2_with fail
  refine (markedFiles_none _).mono ?_
  rintro e w' ⟨rfl, rfl⟩
  clear q16
  go_wp2_with fail
  refine (markedNotes_none _).mono ?_
  rintro e w' ⟨rfl, rfl⟩
  have q18 := HA.out.cell 18 _ rfl
  go_wp2_with fail
  refine (markedNotes_none _).mono ?_
  rintro e w' ⟨rfl, rfl⟩
  clear q18
  go_wp2_with fail
  refine (markedLeases_none _).mono ?_
  rintro e w' ⟨rfl, rfl⟩
  have q20 := HA.out.cell 20 _ rfl
  go_wp2_with fail
  refine (markedLeases_none _).mono ?_
  rintro e w' ⟨rfl, rfl⟩
  clear q20
  go_wp2_with fail
  refine (markedLetters_none _).mono ?_
  rintro e w' ⟨rfl, rfl⟩
  have q22 := HA.out.cell 22 _ rfl
  go_wp2_with fail
  refine (markedLetters_none _).mono ?_
  rintro e w' ⟨rfl, rfl⟩
  clear q22
  go_wp2_with fail
  refine (markedSteps_none _).mono ?_
  rintro e w' ⟨rfl, rfl⟩
  have q24 := HA.out.cell 24 _ rfl
  go_wp2_with fail
  refine (markedSteps_none _).mono ?_
  rintro e w' ⟨rfl, rfl⟩
  clear q24
  go_wp2_with fail
  refine (markedReals_none _).mono ?_
  rintro e w' ⟨rfl, rfl⟩
  have q26 := HA.out.cell 26 _ rfl
  go_wp2_with fail
  refine (markedReals_none _).mono ?_
  rintro e w' ⟨rfl, rfl⟩
  clear q26
  go_wp2_with fail
  refine (markedLists_none _).mono ?_
  rintro e w' ⟨rfl, rfl⟩
  have q28 := HA.out.cell 28 _ rfl
  go_wp2_with fail
  refine (markedLists_none _).mono ?_
  rintro e w' ⟨rfl, rfl⟩
  clear q28
  go_wp2_with fail
  go_ret
  exact ⟨rfl, HF5.out⟩
end Go.Proofs.YtkgpkkdcadkpmaaGreatDoor
end
