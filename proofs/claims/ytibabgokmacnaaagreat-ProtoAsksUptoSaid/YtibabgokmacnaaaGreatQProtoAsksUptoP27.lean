import Derived.Test.YtibabgokmacnaaaGreatQProtoAsksUptoP23
import Derived.Test.YtibabgokmacnaaaGreatQProtoAsksUptoP26
import Derived.Test.YtibabgokmacnaaaGreatQProtoAsksUptoP5
import Derived.Test.YtibabgokmacnaaaGreatQProtoAsksUptoP1
import Derived.Test.YtibabgokmacnaaaGreatQProtoAsksUptoP24
import Derived.Test.YtibabgokmacnaaaGreatQProtoAsksUptoP22

/- bedrockbook.Book.Apart over a book that keeps vectors alone. By an AI agent. -/
section
set_option linter.unusedVariables false
namespace Go.Proofs.YtibabgokmacnaaaGreat
open Go.RowKit

/-- the cells of a book that keeps vectors alone -/
def bookCs (vv wv : Value) : List Value := [.slice none 0 0, .slice none 0 0, .slice none 0 0, .slice none 0 0, vv, wv, .slice none 0 0, .slice none 0 0, .slice none 0 0, .slice none 0 0, .slice none 0 0, .slice none 0 0, .slice none 0 0, .slice none 0 0, .slice none 0 0, .slice none 0 0, .slice none 0 0, .slice none 0 0, .slice none 0 0, .slice none 0 0, .slice none 0 0, .slice none 0 0, .slice none 0 0, .slice none 0 0, .slice none 0 0, .slice none 0 0, .slice none 0 0, .slice none 0 0, .slice none 0 0, .slice none 0 0]
/-- the state of a book -/
structure BK (B : Nat) (W : World) (g : Nat) (va ua : Option Addr) (n cv cu : Nat) (vs us : Nat → Value) (xs : Nat → List Int) : Prop where
  box : AC W g (bookCs (.slice va n cv) (.slice ua n cu))
  few : n ≤ 250
  la : LA W va n vs
  lu : LA W ua n us
  own : ∀ j, j < n → OI B W (vs j) (xs j)
  small : ∀ j, j < n → (xs j).length ≤ 50000
  si : ∀ j, j < n → SI W (vs j) (xs j) ∧ SI W (us j) (xs j)
  apv : ∀ i j, i < n → j < n → i ≠ j → (vs i).ownBlock = none ∨ (vs i).ownBlock ≠ (vs j).ownBlock
  apg : ¬ SB3 n vs g
  apr : ∀ b off, va = some ⟨b, off, none⟩ → ¬ SB3 n vs b
theorem BK.keep {B : Nat} {W W' : World} {g : Nat} {va ua : Option Addr} {n cv cu : Nat} {vs us : Nat → Value} {xs : Nat → List Int} (h : BK B W g va ua n cv cu vs us xs) (hb : Bl W W') : BK B W' g va ua n cv cu vs us xs :=
  ⟨h.box.keep hb, h.few, h.la.keep hb, h.lu.keep hb, fun j hj => (h.own j hj).keep hb, h.small, fun j hj => ⟨(h.si j hj).1.keep hb, (h.si j hj).2.keep hb⟩, h.apv, h.apg, h.apr⟩
theorem Fr.ac {S : Nat → Prop} {w w' : World} (h : Fr S w w') {g : Nat} {cs : List Value} (ha : AC w g cs) (hs : ¬ S g) : AC w' g cs := by
  obtain ⟨t, ha⟩ := ha
  exact ⟨t, by rw [h.block g (lt_of_heap ha) hs]; exact ha⟩
theorem row_la {W : World} {B n : Nat} {E : TypeId} {out : Value} {gs : Nat → Value} (h : W.ownsRow B E 1 out n ((List.range n).map gs)) : ∃ oa oc, out = .slice oa n oc ∧ LA W oa n gs := by
  obtain ⟨h1, ⟨rfl, h2⟩ | ⟨g, cap, cur, rfl, hB, hg, hn, hm, hs, ht⟩⟩ := h
  · subst h2
    exact ⟨none, 0, rfl, fun j hj => absurd hj (Nat.not_lt_zero _)⟩
  · refine ⟨some ⟨g, 0, none⟩, cap, rfl, fun j0 hj0 => ⟨g, 0, rfl, fun j hj => ?_⟩⟩
    have := World.ownsRow.cellAt (w := W) (base := B) (e := E) (size := 1) (g := g) (n := n) (cap := cap) ⟨h1, .inr ⟨g, cap, cur, rfl, hB, hg, hn, hm, hs, ht⟩⟩ j (by omega)
    rw [Nat.zero_add, this]
    simp [hj]
set_option maxHeartbeats 4000000 in
set_option maxRecDepth 100000 in
theorem apart_any (B g : Nat) (va ua : Option Addr) (n cv cu : Nat) (vs us : Nat → Value) (xs : Nat → List Int) (w : World) (hB : B ≤ w.heap.size) (hk : Hid (BK B w g va ua n cv cu vs us xs)) :
    Calls Tryz.prog 31 #[.pointer (some ⟨g, 0, none⟩)] w fun e w' => e = .returned (.bool true) ∧ Fr (SB3 n vs) w w' := by
  have HFW := Lib.hid (Fr.refl (SB3 n vs) w)
  have HA := Lib.hid hk.out.box
  have hmk : ∀ j, j < n → (xs j).length ≤ 50000 := hk.out.small
  have HMK := Lib.hid hmk
  clear hmk
  go_enter Tryz.func31, Tryz.ntmps31
  go_wp2_with fail
  refine (stillTexts_none g _ (HA.out.cell 0 _ rfl)).mono ?_
  rintro e w' ⟨rfl, rfl⟩
  go_wp2_with fail
  refine (stillInts_none g _ (HA.out.cell 2 _ rfl)).mono ?_
  rintro e w' ⟨rfl, rfl⟩
  go_wp2_with fail
  refine (stillVecs_any g va ua n cv cu vs us xs _ hk.out.few (HA.out.cell 4 _ rfl) (HA.out.cell 5 _ rfl) hk.out.la hk.out.lu hk.out.si).mono ?_
  rintro e W1 ⟨rfl, hb⟩
  have HK1 := Lib.hid (hk.out.keep hb)
  have HF1 := Lib.hid (HFW.out.bl hb)
  clear HA HFW hb
  have HA := Lib.hid HK1.out.box
  go_wp2_with fail
  refine (stillKeys_none g _ (HA.out.cell 6 _ rfl)).mono ?_
  rintro e w' ⟨rfl, rfl⟩
  go_wp2_with fail
  refine (stillPairs_none g _ (HA.out.cell 8 _ rfl)).mono ?_
  rintro e w' ⟨rfl, rfl⟩
  go_wp2_with fail
  refine (stillVersions_none g _ (HA.out.cell 10 _ rfl)).mono ?_
  rintro e w' ⟨rfl, rfl⟩
  go_wp2_with fail
  refine (stillWrites_none g _ (HA.out.cell 12 _ rfl)).mono ?_
  rintro e w' ⟨rfl, rfl⟩
  go_wp2_with fail
  refine (stillTxns_none g _ (HA.out.cell 14 _ rfl)).mono ?_
  rintro e w' ⟨rfl, rfl⟩
  go_wp2_with fail
  refine (stillFiles_none g _ (HA.out.cell 16 _ rfl)).mono ?_
  rintro e w' ⟨rfl, rfl⟩
  go_wp2_with fail
  refine (stillNotes_none g _ (HA.out.cell 18 _ rfl)).mono ?_
  rintro e w' ⟨rfl, rfl⟩
  go_wp2_with fail
  refine (stillLeases_none g _ (HA.out.cell 20 _ rfl)).mono ?_
  rintro e w' ⟨rfl, rfl⟩
  go_wp2_with fail
  refine (stillLetters_none g _ (HA.out.cell 22 _ rfl)).mono ?_
  rintro e w' ⟨rfl, rfl⟩
  go_wp2_with fail
  refine (stillSteps_none g _ (HA.out.cell 24 _ rfl)).mono ?_
  rintro e w' ⟨rfl, rfl⟩
  go_wp2_with fail
  refine (stillReals_none g _ (HA.out.cell 26 _ rfl)).mono ?_
  rintro e w' ⟨rfl, rfl⟩
  go_wp2_with fail
  refine (stillLists_none g _ (HA.out.cell 28 _ rfl)).mono ?_
  rintro e w' ⟨rfl, rfl⟩
  go_wp2_with fail
  refine (putVersions_none g _ (HA.out.cell 10 _ rfl)).mono ?_
  rintro e w' ⟨rfl, rfl⟩
  go_wp2_with fail
  refine (putTxns_none g _ (HA.out.cell 14 _ rfl)).mono ?_
  rintro e w' ⟨rfl, rfl⟩
  go_wp2_with fail
  refine (putLeases_none g _ (HA.out.cell 20 _ rfl)).mono ?_
  rintro e w' ⟨rfl, rfl⟩
  go_wp2_with fail
  refine (putSteps_none g _ (HA.out.cell 24 _ rfl)).mono ?_
  rintro e w' ⟨rfl, rfl⟩
  go_wp2_with fail
  refine (putLists_none g _ (HA.out.cell 28 _ rfl)).mono ?_
  rintro e w' ⟨rfl, rfl⟩
  go_wp2_with fail
  refine (putTexts_none g _ (HA.out.cell 0 _ rfl)).mono ?_
  rintro e w' ⟨rfl, rfl⟩
  go_wp2_with fail
  refine (putInts_none g _ (HA.out.cell 2 _ rfl)).mono ?_
  rintro e w' ⟨rfl, rfl⟩
  go_wp2_with fail
  refine (putVecs_any B g va n cv vs xs _ HK1.out.few (HA.out.cell 4 _ rfl) HK1.out.la (fun j hj => ⟨HK1.out.own j hj, Nat.le_trans (HK1.out.small j hj) (by decide)⟩) HK1.out.apv HK1.out.apg HK1.out.apr).mono ?_
  rintro e W2 ⟨rfl, hfp, hop⟩
  have HA2 := Lib.hid (hfp.ac HA.out HK1.out.apg)
  have HLA2 := Lib.hid (hfp.la HK1.out.la HK1.out.apr)
  have HOP2 := Lib.hid hop
  have HF2 := Lib.hid (HF1.out.trans hfp)
  clear HA HF1 hfp hop
  have HA := HA2
  clear HA2
  go_wp2_with fail
  refine (putKeys_none g _ (HA.out.cell 6 _ rfl)).mono ?_
  rintro e w' ⟨rfl, rfl⟩
  go_wp2_with fail
  refine (putPairs_none g _ (HA.out.cell 8 _ rfl)).mono ?_
  rintro e w' ⟨rfl, rfl⟩
  go_wp2_with fail
  refine (putWrites_none g _ (HA.out.cell 12 _ rfl)).mono ?_
  rintro e w' ⟨rfl, rfl⟩
  go_wp2_with fail
  refine (putFiles_none g _ (HA.out.cell 16 _ rfl)).mono ?_
  rintro e w' ⟨rfl, rfl⟩
  go_wp2_with fail
  refine (putNotes_none g _ (HA.out.cell 18 _ rfl)).mono ?_
  rintro e w' ⟨rfl, rfl⟩
  go_wp2_with fail
  refine (putLetters_none g _ (HA.out.cell 22 _ rfl)).mono ?_
  rintro e w' ⟨rfl, rfl⟩
  go_wp2_with fail
  refine (putReals_none g _ (HA.out.cell 26 _ rfl)).mono ?_
  rintro e w' ⟨rfl, rfl⟩
  go_wp2_with fail
  refine (growTexts_none g _ (HA.out.cell 0 _ rfl)).mono ?_
  rintro e w' ⟨rfl, rfl⟩
  go_wp2_with fail
  refine (growInts_none g _ (HA.out.cell 2 _ rfl)).mono ?_
  rintro e w' ⟨rfl, rfl⟩
  go_wp2_with fail
  refine (growVecs_any B g va n cv vs (fun j => (xs j).length) _ HK1.out.few (Nat.le_trans hB HF2.out.size) (HA.out.cell 4 _ rfl) HLA2.out (fun j hj => ⟨HOP2.out j hj, HMK.out j hj⟩) HK1.out.apv HK1.out.apg HK1.out.apr).mono ?_
  rintro e W3 ⟨out, gs, rfl, hgr⟩
  have HA3 := Lib.hid (hgr.fr.ac HA.out HK1.out.apg)
  have HLA3 := Lib.hid (hgr.fr.la HLA2.out HK1.out.apr)
  have HF3 := Lib.hid (HF2.out.trans hgr.fr)
  obtain ⟨oa, oc, rfl, hlo⟩ := row_la hgr.row
  have HLO := Lib.hid hlo
  have HSV := Lib.hid (fun j (hj : j < n) => (⟨(hgr.ovs j hj).si (by rw [markL_len]; have := HMK.out j hj; omega) (markL_wf (by have := HK1.out.few; omega) (by have := HMK.out j hj; omega)), by have := HMK.out j hj; omega⟩ : SI W3 (vs j) (markL j 0 (xs j).length) ∧ (xs j).length ≤ 100000))
  have HSG := Lib.hid (fun j (hj : j < n) => (⟨(hgr.ogs j hj).si (by rw [markL_len]; have := HMK.out j hj; omega) (markL_wf (by have := HK1.out.few; omega) (by have := HMK.out j hj; omega)), by have := HMK.out j hj; omega⟩ : SI W3 (gs j) (markL j 0 ((xs j).length + 72)) ∧ (xs j).length + 72 ≤ 100000))
  clear HA HLA2 HOP2 HF2 hgr hlo
  have HA := HA3
  clear HA3
  go_wp2_with fail
  refine (growKeys_none g _ (HA.out.cell 6 _ rfl)).mono ?_
  rintro e w' ⟨rfl, rfl⟩
  go_wp2_with fail
  refine (growPairs_none g _ (HA.out.cell 8 _ rfl)).mono ?_
  rintro e w' ⟨rfl, rfl⟩
  go_wp2_with fail
  refine (growVersions_none g _ (HA.out.cell 10 _ rfl)).mono ?_
  rintro e w' ⟨rfl, rfl⟩
  go_wp2_with fail
  refine (growWrites_none g _ (HA.out.cell 12 _ rfl)).mono ?_
  rintro e w' ⟨rfl, rfl⟩
  go_wp2_with fail
  refine (growTxns_none g _ (HA.out.cell 14 _ rfl)).mono ?_
  rintro e w' ⟨rfl, rfl⟩
  go_wp2_with fail
  refine (growFiles_none g _ (HA.out.cell 16 _ rfl)).mono ?_
  rintro e w' ⟨rfl, rfl⟩
  go_wp2_with fail
  refine (growNotes_none g _ (HA.out.cell 18 _ rfl)).mono ?_
  rintro e w' ⟨rfl, rfl⟩
  go_wp2_with fail
  refine (growLeases_none g _ (HA.out.cell 20 _ rfl)).mono ?_
  rintro e w' ⟨rfl, rfl⟩
  go_wp2_with fail
  refine (growLetters_none g _ (HA.out.cell 22 _ rfl)).mono ?_
  rintro e w' ⟨rfl, rfl⟩
  go_wp2_with fail
  refine (growSteps_none g _ (HA.out.cell 24 _ rfl)).mono ?_
  rintro e w' ⟨rfl, rfl⟩
  go_wp2_with fail
  refine (growReals_none g _ (HA.out.cell 26 _ rfl)).mono ?_
  rintro e w' ⟨rfl, rfl⟩
  go_wp2_with fail
  refine (growLists_none g _ (HA.out.cell 28 _ rfl)).mono ?_
  rintro e w' ⟨rfl, rfl⟩
  go_wp2_with fail
  have hfew := HK1.out.few
  refine (markedTexts_none _).mono ?_
  rintro e w' ⟨rfl, rfl⟩
  have q0 := HA.out.cell 0 _ rfl
  go_wp2_with fail
  refine (markedTexts_none _).mono ?_
  rintro e w' ⟨rfl, rfl⟩
  clear q0
  go_wp2_with fail
  refine (markedInts_none _).mono ?_
  rintro e w' ⟨rfl, rfl⟩
  have q2 := HA.out.cell 2 _ rfl
  go_wp2_with fail
  refine (markedInts_none _).mono ?_
  rintro e w' ⟨rfl, rfl⟩
  clear q2
  go_wp2_with fail
  refine (markedVecs_any oa n oc gs (fun j => (xs j).length + 72) _ hfew HLO.out HSG.out).mono ?_
  rintro e W4 ⟨rfl, hb4⟩
  have HA4 := Lib.hid (HA.out.keep hb4)
  have HB4 := Lib.hid hb4
  have HF4 := Lib.hid (HF3.out.bl hb4)
  clear HA HF3 hb4 HLO HSG
  have HA := HA4
  clear HA4
  have q4 := HA.out.cell 4 _ rfl
  go_wp2_with fail
  refine (markedVecs_any va n cv vs (fun j => (xs j).length) _ hfew (HLA3.out.keep HB4.out) (fun j hj => ⟨(HSV.out j hj).1.keep HB4.out, (HSV.out j hj).2⟩)).mono ?_
  rintro e W5 ⟨rfl, hb5⟩
  have HA5 := Lib.hid (HA.out.keep hb5)
  have HF5 := Lib.hid (HF4.out.bl hb5)
  clear HA HF4 HB4 hb5 HLA3 HSV q4
  have HA := HA5
  clear HA5
  go_wp2_with fail
  refine (markedKeys_none _).mono ?_
  rintro e w' ⟨rfl, rfl⟩
  have q6 := HA.out.cell 6 _ rfl
  go_wp2_with fail
  refine (markedKeys_none _).mono ?_
  rintro e w' ⟨rfl, rfl⟩
  clear q6
  go_wp2_with fail
  refine (markedPairs_none _).mono ?_
  rintro e w' ⟨rfl, rfl⟩
  have q8 := HA.out.cell 8 _ rfl
  go_wp2_with fail
  refine (markedPairs_none _).mono ?_
  rintro e w' ⟨rfl, rfl⟩
  clear q8
  go_wp2_with fail
  refine (markedVersions_none _).mono ?_
  rintro e w' ⟨rfl, rfl⟩
  have q10 := HA.out.cell 10 _ rfl
  go_wp2_with fail
  refine (markedVersions_none _).mono ?_
  rintro e w' ⟨rfl, rfl⟩
  clear q10
  go_wp2_with fail
  refine (markedWrites_none _).mono ?_
  rintro e w' ⟨rfl, rfl⟩
  have q12 := HA.out.cell 12 _ rfl
  go_wp2_with fail
  refine (markedWrites_none _).mono ?_
  rintro e w' ⟨rfl, rfl⟩
  clear q12
  go_wp2_with fail
  refine (markedTxns_none _).mono ?_
  rintro e w' ⟨rfl, rfl⟩
  have q14 := HA.out.cell 14 _ rfl
  go_wp2_with fail
  refine (markedTxns_none _).mono ?_
  rintro e w' ⟨rfl, rfl⟩
  clear q14
  go_wp2_with fail
  refine (markedFiles_none _).mono ?_
  rintro e w' ⟨rfl, rfl⟩
  have q16 := HA.out.cell 16 _ rfl
  go_wp2_with fail
  refine (markedFiles_none _).mono ?_
  rintro e w' ⟨rfl, rfl⟩
  clear q16
  go_wp2_with fail
  refine (markedNotes_none _).mono ?_
  rintro e w' ⟨rfl, rfl⟩
  have q18 := HA.out.cell 18 _ rfl
  go_wp2_with fail
  refine (markedNotes_none _).mono ?_
  rintro e w' ⟨rfl, rfl⟩
  clear q18
  go_wp2_with fail
  refine (markedLeases_none _).mono ?_
  rintro e w' ⟨rfl, rfl⟩
  have q20 := HA.out.cell 20 _ rfl
  go_wp2_with fail
  refine (markedLeases_none _).mono ?_
  rintro e w' ⟨rfl, rfl⟩
  clear q20
  go_wp2_with fail
  refine (markedLetters_none _).mono ?_
  rintro e w' ⟨rfl, rfl⟩
  have q22 := HA.out.cell 22 _ rfl
  go_wp2_with fail
  refine (markedLetters_none _).mono ?_
  rintro e w' ⟨rfl, rfl⟩
  clear q22
  go_wp2_with fail
  refine (markedSteps_none _).mono ?_
  rintro e w' ⟨rfl, rfl⟩
  have q24 := HA.out.cell 24 _ rfl
  go_wp2_with fail
  refine (markedSteps_none _).mono ?_
  rintro e w' ⟨rfl, rfl⟩
  clear q24
  go_wp2_with fail
  refine (markedReals_none _).mono ?_
  rintro e w' ⟨rfl, rfl⟩
  have q26 := HA.out.cell 26 _ rfl
  go_wp2_with fail
  refine (markedReals_none _).mono ?_
  rintro e w' ⟨rfl, rfl⟩
  clear q26
  go_wp2_with fail
  refine (markedLists_none _).mono ?_
  rintro e w' ⟨rfl, rfl⟩
  have q28 := HA.out.cell 28 _ rfl
  go_wp2_with fail
  refine (markedLists_none _).mono ?_
  rintro e w' ⟨rfl, rfl⟩
  clear q28
  go_wp2_with fail
  go_ret
  exact ⟨rfl, HF5.out⟩
end Go.Proofs.YtibabgokmacnaaaGreat
end

/- bedrockbook.LentVec, StaysVec, copyVecs. By an AI agent. -/
section
namespace Go.Proofs.YtibabgokmacnaaaGreat
open Go.RowKit

theorem el_vec : EL 23 3 1 8 := el_of Tryz.underlying23 (by kernel_rfl) (by decide)
theorem el_intsC : EL 22 3 1 8 := el_of Tryz.underlying22 (by kernel_rfl) (by decide)
theorem copyVecs_any (a : Option Addr) (n c : Nat) (xs : List Int) (w : World) (hx : IA w a n xs) :
    Calls Tryz.prog 172 #[.slice a n c] w fun e w' => ∃ v, e = .returned v ∧ FI w.heap.size w' v xs ∧ Bl w w' := by
  have hcap := hx.cap
  have HL := Lib.hid hx.len
  have HX := Lib.hid hx
  clear hx
  go_enter Tryz.func172, Tryz.ntmps172
  go_wp2_with (at_builtin; refine wpList_appG rfl _ _ _ rfl el_intsC w.heap.size (.slice none 0 0) 0 [] rfl (World.ownsRow_nil _ _ _ _) (Nat.le_refl _) a n c _ rfl (sg_ints HX.out) ?cM ?cN ?_)
  case cM => unfold maxLen; omega
  case cN => omega
  intro v w1 ho hg
  have hb : Bl w w1 := (Bl.refl w).ownRow (World.ownsRow_nil w w.heap.size 3 1) (Nat.le_refl _) hg
  have hoi : OI w.heap.size w1 v xs := by
    unfold OI
    rw [HL.out]
    simpa using ho
  have HB := Lib.hid hb
  have HO := Lib.hid hoi
  clear ho hg hb hoi
  go_wp2_with fail
  go_ret
  exact ⟨_, rfl, ⟨HO.out, by rw [HL.out]; exact hcap, HX.out.wf⟩, HB.out⟩

/-- a slice of n ints, behind which a mark stands in the same block -/
structure LV (B : Nat) (W : World) (g n c : Nat) (xs : List Int) : Prop where
  own : OI B W (.slice (some ⟨g, 0, none⟩) (n + 1) c) (xs ++ [-77])
  len : xs.length = n
  cap : n * 8 ≤ 140737488351232
  wf : ∀ x ∈ xs, -9223372036854775808 ≤ x ∧ x ≤ 9223372036854775807
theorem LV.keep {B : Nat} {W W' : World} {g n c : Nat} {xs : List Int} (h : LV B W g n c xs) (hb : Bl W W') : LV B W' g n c xs := ⟨h.own.keep hb, h.len, h.cap, h.wf⟩
theorem LV.ia {B : Nat} {W : World} {g n c : Nat} {xs : List Int} (h : LV B W g n c xs) : IA W (some ⟨g, 0, none⟩) n xs := by
  refine ⟨h.len, h.cap, fun j0 _ => ⟨g, 0, rfl, fun j hj => ?_⟩, h.wf⟩
  have hl : (xs ++ [-77]).length = n + 1 := by simp [h.len]
  have ho := h.own
  unfold OI at ho
  rw [hl] at ho
  rw [Nat.zero_add, ho.cellAt j (by omega), List.getElem?_map, List.getElem?_append_left (by rw [h.len]; exact hj), List.getElem?_eq_getElem (by rw [h.len]; exact hj), nth_eq (by rw [h.len]; exact hj)]
  rfl
theorem LV.mark {B : Nat} {W : World} {g n c : Nat} {xs : List Int} (h : LV B W g n c xs) : W.cell? ⟨g, n, none⟩ = some (.int .i64 (-77)) ∧ n + 1 ≤ c := by
  have hl : (xs ++ [-77]).length = n + 1 := by simp [h.len]
  have ho := h.own
  unfold OI at ho
  rw [hl] at ho
  refine ⟨?_, ?_⟩
  · rw [ho.cellAt n (by omega), List.getElem?_map, List.getElem?_append_right (by rw [h.len]; exact Nat.le_refl _), h.len, Nat.sub_self]
    rfl
  · obtain ⟨_, ⟨e, _⟩ | ⟨g', cap, cur, e, hB, hg, hn, _⟩⟩ := ho
    · cases e
    · simp only [Value.slice.injEq, Option.some.injEq, Addr.mk.injEq, and_true, true_and] at e
      omega
theorem lentVec_any (a : Option Addr) (n c : Nat) (xs : List Int) (w : World) (hx : IA w a n xs) (hn : n ≤ 1000000) :
    Calls Tryz.prog 8 #[.slice a n c] w fun e w' => ∃ g c', e = .returned (.slice (some ⟨g, 0, none⟩) n c') ∧ LV w.heap.size w' g n c' xs ∧ Bl w w' := by
  have hcap := hx.cap
  have HL := Lib.hid hx.len
  have HX := Lib.hid hx
  clear hx
  go_enter Tryz.func8, Tryz.ntmps8
  go_wp2_with (at_builtin; refine wpList_appG rfl _ _ _ rfl el_vec w.heap.size (.slice none 0 0) 0 [] rfl (World.ownsRow_nil _ _ _ _) (Nat.le_refl _) a n c _ rfl (sg_ints HX.out) ?cM ?cN ?_)
  case cM => unfold maxLen; omega
  case cN => omega
  intro v w1 ho hg
  have hb : Bl w w1 := (Bl.refl w).ownRow (World.ownsRow_nil w w.heap.size 3 1) (Nat.le_refl _) hg
  have hoi : w1.ownsRow w.heap.size 3 1 v n (xs.map (Value.int .i64)) := by simpa using ho
  have hsz := hb.size
  have hlit : (w1.alloc (.cells #[.int .i64 (-77)] 3)).heap[w1.heap.size]? = some (.cells [.int .i64 (-77)].toArray 3 (0, 0)) := heap_alloc_new w1 _
  have HLT := Lib.hid (SG.lit (size := 1) hlit rfl (by intro u hu; simp at hu; subst hu; rfl))
  have hoa := ownsRow_bl hoi ((Bl.refl w1).alloc (.cells #[.int .i64 (-77)] 3))
  have HBA := Lib.hid (hb.alloc (.cells #[.int .i64 (-77)] 3))
  clear ho hg hb hoi hlit
  go_wp2_with (at_builtin; refine wpList_appG rfl _ _ _ rfl el_vec w.heap.size _ _ _ rfl hoa ?cB2 (some ⟨w1.heap.size, 0, none⟩) 1 1 _ rfl HLT.out ?cM2 ?cN2 ?_)
  case cB2 => simp; omega
  case cM2 => unfold maxLen; omega
  case cN2 => omega
  intro v2 w2 ho2 hg2
  have hb2 : Bl w w2 := HBA.out.ownRow hoa (Nat.le_refl _) hg2
  obtain ⟨g, c', rfl⟩ : ∃ g c', v2 = .slice (some ⟨g, 0, none⟩) (n + 1) c' := by
    obtain ⟨_, ⟨_, e⟩ | ⟨g', cap, cur, e, _⟩⟩ := ho2
    · omega
    · exact ⟨g', cap, e⟩
  have hlv : LV w.heap.size w2 g n c' xs := ⟨by
    unfold OI
    rw [List.length_append, HL.out, List.map_append]
    exact ho2, HL.out, hcap, HX.out.wf⟩
  have hmc := hlv.mark.2
  have HLV := Lib.hid hlv
  have HB2 := Lib.hid hb2
  clear ho2 hg2 hoa HLT HBA hlv hb2
  go_wp2_with fail
  go_ret
  exact ⟨_, _, rfl, HLV.out, HB2.out⟩
theorem staysVec_any (B g n c : Nat) (a : Option Addr) (m ca : Nat) (xs : List Int) (w : World) (h : LV B w g n c xs) (hx : IA w a m xs) (hn : n ≤ 1000000) :
    Calls Tryz.prog 29 #[.slice (some ⟨g, 0, none⟩) n c, .slice a m ca] w fun e w' => e = .returned (.bool true) ∧ Bl w w' := by
  have hs := rsame_any (some ⟨g, 0, none⟩) a n m c ca xs xs w h.ia hx
  rw [decide_eq_true (rfl : xs = xs)] at hs
  have HS := Lib.hid hs
  have HM := Lib.hid h.mark
  have hc := h.mark.2
  clear hs
  go_enter Tryz.func29, Tryz.ntmps29
  go_wp2_with fail
  refine HS.out.mono ?_
  rintro e w1 ⟨rfl, hb⟩
  have c0 := hb.cell HM.out.1
  go_wp2_with fail
  go_ret
  exact ⟨rfl, hb⟩
end Go.Proofs.YtibabgokmacnaaaGreat
end
