import Derived.Test.YtfmabjoindlfeaaGreatQTxnTellsUptoP35
import Derived.Test.YtfmabjoindlfeaaGreatQTxnTellsUptoP36
import Derived.Test.YtfmabjoindlfeaaGreatQTxnTellsUptoP39
import Derived.Test.YtfmabjoindlfeaaGreatQTxnTellsUptoP40
import Derived.Test.YtfmabjoindlfeaaGreatQTxnTellsUptoP32
import Derived.Test.YtfmabjoindlfeaaGreatQTxnTellsUptoP23
import Derived.Test.YtfmabjoindlfeaaGreatQRTxn

/- the walk of TxnTells (printed by gen/txntells.py). By an AI agent. -/
section
set_option linter.unusedVariables false
set_option linter.unusedSimpArgs false
namespace Go.Proofs.YtfmabjoindlfeaaGreat
open Go.RowKit
attribute [local go_sem] eOp eOper eUpon

/-- the lists of a lent transaction -/
structure LTS (B : Nat) (W : World) (gd dn cd : Nat) (ds : List Int) (ga an ca : Nat) (xs : List Int) (gw wn cw : Nat) (ws : List (ByteArray × ActL)) : Prop where
  d : LV B W gd dn cd ds
  a : LV B W ga an ca xs
  w : LWr B W gw wn cw ws
theorem LTS.keep {B : Nat} {W W' : World} {gd dn cd : Nat} {ds : List Int} {ga an ca : Nat} {xs : List Int} {gw wn cw : Nat} {ws : List (ByteArray × ActL)} (h : LTS B W gd dn cd ds ga an ca xs gw wn cw ws) (k : Bl W W') : LTS B W' gd dn cd ds ga an ca xs gw wn cw ws := ⟨h.d.keep k, h.a.keep k, h.w.keep k⟩
theorem LTS.tx {B : Nat} {W W0 : World} {gd dn cd : Nat} {ds : List Int} {ga an ca : Nat} {xs : List Int} {gw wn cw : Nat} {ws : List (ByteArray × ActL)} (h : LTS B W gd dn cd ds ga an ca xs gw wn cw ws) {o num prev : Int} {s : TxAt} (ht : TX W0 s ⟨o, num, prev, ds, xs, ws⟩) : TX W ⟨some ⟨gd, 0, none⟩, dn, cd, some ⟨ga, 0, none⟩, an, ca, some ⟨gw, 0, none⟩, wn, cw⟩ ⟨o, num, prev, ds, xs, ws⟩ := ⟨h.d.ia, h.a.ia, h.w.ww, ht.o, ht.num, ht.prev⟩
set_option maxHeartbeats 12800000 in
set_option maxRecDepth 100000 in
theorem txnTells_gen (t u : TxnL) (s v : TxAt) (w : World) (ht : TX w s t) (hu : TX w v u) :
    Calls Tryz.prog 3 #[txV t s, txV u v] w fun e w' => e = .returned (.bool true) ∧ Bl w w' := by
  have hsf := store_fl
  have HT := Lib.hid ht
  have HU := Lib.hid hu
  have HLT := Lib.hid (fun W (h : WW W s.wa s.wn t.ws) => light21_any s.wa s.wn s.wc t.ws W h)
  have HLU := Lib.hid (fun W (h : WW W v.wa v.wn u.ws) => light21_any v.wa v.wn v.wc u.ws W h)
  have HWL := Lib.hid (fun h : lightB t.ws = true => ptC_light (t := t) h)
  have HWN := Lib.hid (fun h : lightB t.ws = true => lightB_len h)
  have hd1 := ht.deps.cap
  have hd2 := ht.at_.cap
  have hd3 := hu.deps.cap
  have hd4 := hu.at_.cap
  have HTK := Lib.hid ht.txOk
  clear ht hu
  obtain ⟨o, num, prev, ds, xs, ws⟩ := t
  obtain ⟨o', num', prev', ds', xs', ws'⟩ := u
  obtain ⟨da, dn, dc, aa, an, ac, wa, wn, wc⟩ := s
  obtain ⟨da', dn', dc', aa', an', ac', wa', wn', wc'⟩ := v
  unfold txV
  dsimp only at HLT HLU HWL HWN hd1 hd2 hd3 hd4 ⊢
  have G := AB.new w 26 26 [.int .i64 o, .int .i64 num, .int .i64 prev, .slice da dn dc, .slice aa an ac, .slice wa wn wc] [.int .i64 o', .int .i64 num', .int .i64 prev', .slice da' dn' dc', .slice aa' an' ac', .slice wa' wn' wc']
  have GH := Lib.hid G
  clear G
  have k0 := (GH.out.a).cell 0 _ rfl
  have k1 := (GH.out.a).cell 1 _ rfl
  have k2 := (GH.out.a).cell 2 _ rfl
  have k3 := (GH.out.a).cell 3 _ rfl
  have k4 := (GH.out.a).cell 4 _ rfl
  have k5 := (GH.out.a).cell 5 _ rfl
  have l0 := (GH.out.b).cell 0 _ rfl
  have l1 := (GH.out.b).cell 1 _ rfl
  have l2 := (GH.out.b).cell 2 _ rfl
  have l3 := (GH.out.b).cell 3 _ rfl
  have l4 := (GH.out.b).cell 4 _ rfl
  have l5 := (GH.out.b).cell 5 _ rfl
  go_enter Tryz.func3, Tryz.ntmps3
  go_wp2_with fail
  generalize (w.alloc _).alloc _ = W at *
  refine (HLT.out _ (HT.out.ws.keep GH.out.bl)).mono ?_
  rintro e W1 ⟨rfl, hb⟩
  replace GH := Lib.hid (GH.out.keep hb)
  clear hb HLT k0 k1 k2 k3 k4 k5 l0 l1 l2 l3 l4 l5
  obtain ⟨lb, hlb⟩ : ∃ b, lightB ws = b := ⟨_, rfl⟩
  rw [hlb]
  have HLB := Lib.hid hlb
  clear hlb
  have k0 := (GH.out.a).cell 0 _ rfl
  have k1 := (GH.out.a).cell 1 _ rfl
  have k2 := (GH.out.a).cell 2 _ rfl
  have k3 := (GH.out.a).cell 3 _ rfl
  have k4 := (GH.out.a).cell 4 _ rfl
  have k5 := (GH.out.a).cell 5 _ rfl
  have l0 := (GH.out.b).cell 0 _ rfl
  have l1 := (GH.out.b).cell 1 _ rfl
  have l2 := (GH.out.b).cell 2 _ rfl
  have l3 := (GH.out.b).cell 3 _ rfl
  have l4 := (GH.out.b).cell 4 _ rfl
  have l5 := (GH.out.b).cell 5 _ rfl
  cases lb
  case false =>
    as_aux_lemma =>
    go_wp2_with fail
    refine (alive21_any _).mono ?_
    rintro e w2 ⟨rfl, hb2⟩
    go_wp2_with fail
    go_ret
    exact ⟨rfl, GH.out.bl.trans hb2⟩
  have HW2 := HWL.out HLB.out
  have hwn := HWN.out HLB.out
  rw [HT.out.ws.len] at hwn
  clear HWL HWN HLB
  go_wp2_with fail
  refine (HLU.out _ (HU.out.ws.keep GH.out.bl)).mono ?_
  rintro e W2 ⟨rfl, hb⟩
  replace GH := Lib.hid (GH.out.keep hb)
  clear hb HLU k0 k1 k2 k3 k4 k5 l0 l1 l2 l3 l4 l5
  generalize lightB ws' = lb
  have k0 := (GH.out.a).cell 0 _ rfl
  have k1 := (GH.out.a).cell 1 _ rfl
  have k2 := (GH.out.a).cell 2 _ rfl
  have k3 := (GH.out.a).cell 3 _ rfl
  have k4 := (GH.out.a).cell 4 _ rfl
  have k5 := (GH.out.a).cell 5 _ rfl
  have l0 := (GH.out.b).cell 0 _ rfl
  have l1 := (GH.out.b).cell 1 _ rfl
  have l2 := (GH.out.b).cell 2 _ rfl
  have l3 := (GH.out.b).cell 3 _ rfl
  have l4 := (GH.out.b).cell 4 _ rfl
  have l5 := (GH.out.b).cell 5 _ rfl
  cases lb
  case false =>
    as_aux_lemma =>
    go_wp2_with fail
    refine (alive21_any _).mono ?_
    rintro e w2 ⟨rfl, hb2⟩
    go_wp2_with fail
    go_ret
    exact ⟨rfl, GH.out.bl.trans hb2⟩
  obtain ⟨S1, hS1⟩ : ∃ S : Nat, an + dn = S := ⟨_, rfl⟩
  obtain ⟨S2, hS2⟩ : ∃ S : Nat, S1 + an' = S := ⟨_, rfl⟩
  obtain ⟨S3, hS3⟩ : ∃ S : Nat, S2 + dn' = S := ⟨_, rfl⟩
  have w1 : IntKind.i64.wrap ((an : Int) + (dn : Int)) = (S1 : Int) := by rw [IntKind.wrap_i64]; omega
  have w2 : IntKind.i64.wrap ((S1 : Int) + (an' : Int)) = (S2 : Int) := by rw [IntKind.wrap_i64]; omega
  have w3 : IntKind.i64.wrap ((S2 : Int) + (dn' : Int)) = (S3 : Int) := by rw [IntKind.wrap_i64]; omega
  by_cases i1 : 80 < S3
  · as_aux_lemma =>
    have f1 : decide ((80 : Int) < (S3 : Int)) = true := decide_eq_true (by omega)
    have g1 : decide (80 < S3) = true := decide_eq_true i1
    go_wp2_with fail
    refine (alive21_any _).mono ?_
    rintro e w2 ⟨rfl, hb2⟩
    go_wp2_with fail
    go_ret
    exact ⟨rfl, GH.out.bl.trans hb2⟩
  have f1 : decide ((80 : Int) < (S3 : Int)) = false := decide_eq_false (by omega)
  have g1 : decide (80 < S3) = false := decide_eq_false i1
  have HDN : Hid (dn ≤ 80 ∧ an ≤ 80) := Lib.hid (by omega)
  obtain ⟨C, hC⟩ : ∃ C, ptC ⟨o, num, prev, ds, xs, ws⟩ = C := ⟨_, rfl⟩
  obtain ⟨R, hR⟩ : ∃ R, validT ⟨o, num, prev, ds, xs, ws⟩ = R := ⟨_, rfl⟩
  obtain ⟨Q, hQ⟩ : ∃ Q, sameT ⟨o, num, prev, ds, xs, ws⟩ ⟨o', num', prev', ds', xs', ws'⟩ = Q := ⟨_, rfl⟩
  obtain ⟨sb, hsb⟩ : ∃ sb, strL (ptL ⟨o, num, prev, ds, xs, ws⟩) = sb := ⟨_, rfl⟩
  obtain ⟨yw, hyw⟩ : ∃ yw, ws.map canonW = yw := ⟨_, rfl⟩
  obtain ⟨N, hN⟩ : ∃ N, (versT ⟨o, num, prev, ds, xs, ws⟩).length = N := ⟨_, rfl⟩
  have HN : Hid (N ≤ 1000) := Lib.hid (by
    have h1 := versT_len ⟨o, num, prev, ds, xs, ws⟩
    have h2 := HT.out.ws.len
    rw [hN] at h1
    dsimp only at h1 h2
    omega)
  have HPC : Hid ((C = 0 ∧ R = true ∧ (∀ W, Calls Tryz.prog 17 #[.string sb] W fun e w' => ∃ qa qn qc pa pn pc ra rn rc, e = .returned (.tuple #[.agg #[.int .i64 o, .int .i64 num, .int .i64 prev, .slice qa qn qc, .slice pa pn pc, .slice ra rn rc], .int .i64 0]) ∧ TXF W.heap.size w' ⟨qa, qn, qc, pa, pn, pc, ra, rn, rc⟩ ⟨o, num, prev, ds, xs, yw⟩ ∧ Bl W w') ∧ sameT ⟨o, num, prev, ds, xs, yw⟩ ⟨o, num, prev, ds, xs, ws⟩ = true ∧ TxOk ⟨o, num, prev, ds, xs, yw⟩ ∧ yw.length ≤ 1000) ∨ (C = 1 ∧ R = false ∧ sb = ⟨#[]⟩)) := Lib.hid (by
    rcases HW2 with ⟨h1, h2, h3, h4⟩ | ⟨h1, h2, h3⟩
    · refine .inl ⟨hC.symm.trans h1, hR.symm.trans h2, fun W => ?_, ?_, ?_, ?_⟩
      · rw [← hsb, h3]
        refine (txGet_any _ W).mono ?_
        rintro e w' (⟨t2, s2, hr, rfl, hf, hb⟩ | ⟨hr, _⟩)
        · rw [rdTx_put h2 HTK.out h4] at hr
          obtain rfl := Option.some.inj hr
          obtain ⟨qa, qn, qc, pa, pn, pc, ra, rn, rc⟩ := s2
          unfold canonT at hf ⊢
          dsimp only at hf ⊢
          rw [hyw] at hf
          exact ⟨qa, qn, qc, pa, pn, pc, ra, rn, rc, rfl, hf, hb⟩
        · rw [rdTx_put h2 HTK.out h4] at hr; cases hr
      · have := canonT_same (validT_parts h2) HTK.out
        unfold canonT at this
        dsimp only at this
        rwa [hyw] at this
      · have := canonT_ok (validT_parts h2) HTK.out
        unfold canonT at this
        dsimp only at this
        rwa [hyw] at this
      · rw [← hyw, List.length_map, HT.out.ws.len]; dsimp only; omega
    · exact .inr ⟨hC.symm.trans h1, hR.symm.trans h2, by rw [← hsb, h3]; rfl⟩)
  have HPUT := Lib.hid (fun W s (h : TX W s ⟨o, num, prev, ds, xs, ws⟩) => txPut_any ⟨o, num, prev, ds, xs, ws⟩ s W h)
  rw [hsb, hC] at HPUT
  have HVX := Lib.hid (fun W (gd cd ga ca gw cw : Nat) (h : TX W ⟨some ⟨gd, 0, none⟩, dn, cd, some ⟨ga, 0, none⟩, an, ca, some ⟨gw, 0, none⟩, wn, cw⟩ ⟨o, num, prev, ds, xs, ws⟩) => txValid_hid o num prev (some ⟨gd, 0, none⟩) dn cd ds (some ⟨ga, 0, none⟩) an ca xs (some ⟨gw, 0, none⟩) wn cw ws W h.deps h.at_ h.ws R (Lib.hid hR))
  have HVR := Lib.hid (fun W (h : TX W ⟨da, dn, dc, aa, an, ac, wa, wn, wc⟩ ⟨o, num, prev, ds, xs, ws⟩) => rtxValid_hid o num prev da dn dc ds aa an ac xs wa wn wc ws W h.deps h.at_ h.ws R (Lib.hid hR))
  have HSX : Hid (∀ W (gd cd ga ca gw cw : Nat), TX W ⟨some ⟨gd, 0, none⟩, dn, cd, some ⟨ga, 0, none⟩, an, ca, some ⟨gw, 0, none⟩, wn, cw⟩ ⟨o, num, prev, ds, xs, ws⟩ → TX W ⟨da', dn', dc', aa', an', ac', wa', wn', wc'⟩ ⟨o', num', prev', ds', xs', ws'⟩ → Calls Tryz.prog 13 #[.agg #[.int .i64 o, .int .i64 num, .int .i64 prev, .slice (some ⟨gd, 0, none⟩) dn cd, .slice (some ⟨ga, 0, none⟩) an ca, .slice (some ⟨gw, 0, none⟩) wn cw], .agg #[.int .i64 o', .int .i64 num', .int .i64 prev', .slice da' dn' dc', .slice aa' an' ac', .slice wa' wn' wc']] W fun e w' => e = .returned (.bool Q) ∧ Bl W w') := Lib.hid (fun W gd cd ga ca gw cw h1 h2 => hQ ▸ txSame_any ⟨o, num, prev, ds, xs, ws⟩ ⟨o', num', prev', ds', xs', ws'⟩ ⟨some ⟨gd, 0, none⟩, dn, cd, some ⟨ga, 0, none⟩, an, ca, some ⟨gw, 0, none⟩, wn, cw⟩ ⟨da', dn', dc', aa', an', ac', wa', wn', wc'⟩ W h1 h2)
  have HSR : Hid (∀ W, TX W ⟨da, dn, dc, aa, an, ac, wa, wn, wc⟩ ⟨o, num, prev, ds, xs, ws⟩ → TX W ⟨da', dn', dc', aa', an', ac', wa', wn', wc'⟩ ⟨o', num', prev', ds', xs', ws'⟩ → Calls Tryz.prog 14 #[.agg #[.int .i64 o, .int .i64 num, .int .i64 prev, .slice da dn dc, .slice aa an ac, .slice wa wn wc], .agg #[.int .i64 o', .int .i64 num', .int .i64 prev', .slice da' dn' dc', .slice aa' an' ac', .slice wa' wn' wc']] W fun e w' => e = .returned (.bool Q) ∧ Bl W w') := Lib.hid (fun W h1 h2 => hQ ▸ rsameT_any ⟨o, num, prev, ds, xs, ws⟩ ⟨o', num', prev', ds', xs', ws'⟩ ⟨da, dn, dc, aa, an, ac, wa, wn, wc⟩ ⟨da', dn', dc', aa', an', ac', wa', wn', wc'⟩ W h1 h2)
  generalize hvt : versT ⟨o, num, prev, ds, xs, ws⟩ = vt at *
  have HNV := Lib.hid hN
  have HVT := Lib.hid hvt
  clear hC hR hQ hsb hyw hN HW2 hvt HTK
  go_wp2_with fail
  clear k0 k1 k2 k3 k4 k5 l0 l1 l2 l3 l4 l5 f1 g1 w1 w2 w3 hd1 hd2 hd3 hd4 hS1 hS2 hS3 i1
  have HB0 := Lib.hid (fun T => BQ.new (k := bkURW) (B := W2.heap.size) (T := fun b => b < W2.heap.size) (Nat.le_refl W2.heap.size) (AC.new W2 _ rfl (hsOf (fun _ => .slice none 0 0) (fun _ => .slice none 0 0)) T) (fun b hb => ⟨by simp; omega, by omega⟩))
  go_loopw [6] (fun kv wr => ∃ k : Nat, k ≤ 2 ∧ kv = .int .i64 k ∧ Bl W2 wr ∧ BQ bkURW W2.heap.size wr W2.heap.size (fun b => b < W2.heap.size)) (fun kv _ => 2 - (intOf kv).toNat)
  case atStart => exact ⟨0, by omega, rfl, (Bl.refl W2).alloc _, HB0.out _⟩
  case round =>
    obtain ⟨k, hk2, rfl, hb, hbq⟩ := hrel
    have HBL := Lib.hid hb
    have HBQ := Lib.hid hbq
    clear hb hbq HB0
    by_cases hlt : k < 2
    case neg =>
      as_aux_lemma =>
      go_wp2_with fail
      refine (alive21_any _).mono ?_
      rintro e w2 ⟨rfl, hb⟩
      have HB := Lib.hid (HBL.out.trans hb)
      have HP := Lib.hid (HBQ.out.keep hb)
      clear hb HBL HBQ
      go_wp2_with fail
      refine (bqURW_apart W2.heap.size W2.heap.size _ _ HB.out.size HP.out).mono ?_
      rintro e w3 ⟨rfl, hf⟩
      go_wp2_with fail
      go_ret
      exact ⟨rfl, GH.out.bl.trans (HB.out.frT hf (fun b q => q.1))⟩
    have HA := Lib.hid (fun W (hb : Bl wr W) => GH.out.a.keep (HBL.out.trans hb))
    have HB := Lib.hid (fun W (hb : Bl wr W) => GH.out.b.keep (HBL.out.trans hb))
    have HTX := Lib.hid (fun W (hb : Bl wr W) => HT.out.keep (GH.out.bl.trans (HBL.out.trans hb)))
    have HUX := Lib.hid (fun W (hb : Bl wr W) => HU.out.keep (GH.out.bl.trans (HBL.out.trans hb)))
    have k0 := (HA.out _ (Bl.refl _)).cell 0 _ rfl
    have k1 := (HA.out _ (Bl.refl _)).cell 1 _ rfl
    have k2 := (HA.out _ (Bl.refl _)).cell 2 _ rfl
    have k3 := (HA.out _ (Bl.refl _)).cell 3 _ rfl
    have k4 := (HA.out _ (Bl.refl _)).cell 4 _ rfl
    have k5 := (HA.out _ (Bl.refl _)).cell 5 _ rfl
    go_wp2_with fail
    refine (lentTxn_any o num prev da dn dc ds aa an ac xs wa wn wc ws _ (HTX.out _ (Bl.refl _)).deps (HTX.out _ (Bl.refl _)).at_ (HTX.out _ (Bl.refl _)).ws (Nat.le_trans HDN.out.1 (by decide)) (Nat.le_trans HDN.out.2 (by decide)) (by omega)).mono ?_
    rintro e w2 ⟨gd, cd, ga, ca, gw, cw, rfl, ld, la, lw, hb2⟩
    have HL0 : Hid (LTS wr.heap.size w2 gd dn cd ds ga an ca xs gw wn cw ws) := Lib.hid ⟨ld, la, lw⟩
    have HG0 := Lib.hid (AC.new w2 _ rfl [.int .i64 o, .int .i64 num, .int .i64 prev, .slice (some ⟨gd, 0, none⟩) dn cd, .slice (some ⟨ga, 0, none⟩) an ca, .slice (some ⟨gw, 0, none⟩) wn cw] 26)
    have HB2 := Lib.hid hb2
    have hby := (Bl.refl w2).alloc (.cells #[.int .i64 o, .int .i64 num, .int .i64 prev, .slice (some ⟨gd, 0, none⟩) dn cd, .slice (some ⟨ga, 0, none⟩) an ca, .slice (some ⟨gw, 0, none⟩) wn cw] 26)
    have HBY := Lib.hid hby
    clear ld la lw hb2 hby k0 k1 k2 k3 k4 k5
    have h0 := (HG0.out).cell 0 _ rfl
    have h1 := (HG0.out).cell 1 _ rfl
    have h2 := (HG0.out).cell 2 _ rfl
    have h3 := (HG0.out).cell 3 _ rfl
    have h4 := (HG0.out).cell 4 _ rfl
    have h5 := (HG0.out).cell 5 _ rfl
    go_wp2_with fail
    generalize World.alloc _ _ = w3 at *
    generalize w2.heap.size = g7 at *
    have HL := Lib.hid (HL0.out.keep HBY.out)
    have HB3 := Lib.hid (HB2.out.trans HBY.out)
    clear HL0 HB2 HBY
    refine (txVersR_any ⟨o, num, prev, ds, xs, ws⟩ ⟨some ⟨gd, 0, none⟩, dn, cd, some ⟨ga, 0, none⟩, an, ca, some ⟨gw, 0, none⟩, wn, cw⟩ _ (HL.out.tx HT.out) (by dsimp only; omega)).mono ?_
    rintro e w4 ⟨va, vn, vc, rfl, vs, hov, hver, hb4⟩
    have HVL := Lib.hid (hov.len2 hver)
    have HOV := Lib.hid hov
    have HVE := Lib.hid hver
    have HB34 := Lib.hid hb4
    clear hov hver h0 h1 h2 h3 h4 h5
    have HG4 := Lib.hid (HG0.out.keep hb4)
    clear hb4
    have h0 := (HG4.out).cell 0 _ rfl
    have h1 := (HG4.out).cell 1 _ rfl
    have h2 := (HG4.out).cell 2 _ rfl
    have h3 := (HG4.out).cell 3 _ rfl
    have h4 := (HG4.out).cell 4 _ rfl
    have h5 := (HG4.out).cell 5 _ rfl
    go_wp2_with fail
    refine (HPUT.out _ _ ((HL.out.keep HB34.out).tx HT.out)).mono ?_
    rintro e w5 ⟨rfl, hb5⟩
    have HB45 := Lib.hid hb5
    clear hb5 h0 h1 h2 h3 h4 h5 HPUT
    go_upto_region 10 with fail
    rcases HPC.out with ⟨rfl, rfl, hget, hsy, hyo, hyl⟩ | ⟨rfl, rfl, rfl⟩
    · have HGET := Lib.hid hget
      have HSY := Lib.hid hsy
      have HYO := Lib.hid hyo
      have HYL := Lib.hid hyl
      clear hget hsy hyo hyl HPC
      refine wp_region_idx [0, 1, 2, 3, 4, 5, 6, 7] 38 (Bl w5.drew) (fun _ _ h k => h.trans k) (Bl.refl _) (by kernel_rfl) rfl (by kernel_rfl) (by kernel_rfl) ?_
      have HBZ := Lib.hid ((Bl.refl w5).drew)
      generalize w5.drew = Z at *
      have HBW := Lib.hid (HB3.out.trans (HB34.out.trans (HB45.out.trans HBZ.out)))
      have HLZ := Lib.hid (HL.out.keep (HB34.out.trans (HB45.out.trans HBZ.out)))
      have HGZ := Lib.hid (HG4.out.keep (HB45.out.trans HBZ.out))
      haveI : Nonempty (ExtC (Bl Z)) := ⟨⟨Z, Bl.refl _⟩⟩
      have V1 := Lib.hid (fun (q : ExtC (Bl Z)) => HVX.out q.at gd cd ga ca gw cw ((HLZ.out.keep q.ok).tx HT.out))
      have V2 := Lib.hid (fun (q : ExtC (Bl Z)) => HVR.out q.at (HTX.out _ (HBW.out.trans q.ok)))
      have h0 : ∀ q : ExtC (Bl Z), _ := fun q => (HGZ.out.keep q.ok).cell 0 _ rfl
      have h1 : ∀ q : ExtC (Bl Z), _ := fun q => (HGZ.out.keep q.ok).cell 1 _ rfl
      have h2 : ∀ q : ExtC (Bl Z), _ := fun q => (HGZ.out.keep q.ok).cell 2 _ rfl
      have h3 : ∀ q : ExtC (Bl Z), _ := fun q => (HGZ.out.keep q.ok).cell 3 _ rfl
      have h4 : ∀ q : ExtC (Bl Z), _ := fun q => (HGZ.out.keep q.ok).cell 4 _ rfl
      have h5 : ∀ q : ExtC (Bl Z), _ := fun q => (HGZ.out.keep q.ok).cell 5 _ rfl
      have k0 : ∀ q : ExtC (Bl Z), _ := fun q => (HA.out _ (HBW.out.trans q.ok)).cell 0 _ rfl
      have k1 : ∀ q : ExtC (Bl Z), _ := fun q => (HA.out _ (HBW.out.trans q.ok)).cell 1 _ rfl
      have k2 : ∀ q : ExtC (Bl Z), _ := fun q => (HA.out _ (HBW.out.trans q.ok)).cell 2 _ rfl
      have k3 : ∀ q : ExtC (Bl Z), _ := fun q => (HA.out _ (HBW.out.trans q.ok)).cell 3 _ rfl
      have k4 : ∀ q : ExtC (Bl Z), _ := fun q => (HA.out _ (HBW.out.trans q.ok)).cell 4 _ rfl
      have k5 : ∀ q : ExtC (Bl Z), _ := fun q => (HA.out _ (HBW.out.trans q.ok)).cell 5 _ rfl
      repeat (refine wpI_step rfl (fun K hK => ?_); go_simp; first | (refine hK _ ?_; clear hK K) | (apply Exists.intro; refine ⟨fun q => ?_, hK _ ?_⟩; (first | with_reducible exact V1.out q | with_reducible exact V2.out q); clear hK K))
      refine wpI_nil ?_
      clear this V1 V2 h0 h1 h2 h3 h4 h5 k0 k1 k2 k3 k4 k5
      refine wpAnyE_one (i := 8) (by kernel_rfl) ?_
      intro Y1 hy1
      go_simp
      refine (rversT_any ⟨o, num, prev, ds, xs, ws⟩ ⟨da, dn, dc, aa, an, ac, wa, wn, wc⟩ Y1 (HTX.out _ (HBW.out.trans hy1)) (by dsimp only; omega)).mono ?_
      rintro e Y2 ⟨ra2, rn2, rc2, rfl, vs2, hov2, hver2, hb2⟩
      have hn2 : vn = rn2 := (HVL.out.trans (hov2.len2 hver2).symm)
      subst hn2
      have HY2 := Lib.hid (hy1.trans hb2)
      have HO2 := Lib.hid hov2
      have HE2 := Lib.hid hver2
      clear hy1 hb2 hov2 hver2
      refine ⟨_, rfl, HY2.out, ?_⟩
      refine wpAnyE_subK (C' := Bl Y2) (fun _ h => HY2.out.trans h) ?_
      refine wpAnyE_idx (C := Bl Y2) (fun _ _ h k => h.trans k) (by kernel_rfl) 0 _ (Bl.refl _) [9, 10, 11, 12, 13, 14, 15, 16, 17, 18, 19, 20, 21, 22, 23, 24, 25, 26, 27, 28, 29, 30, 31, 32, 33, 34, 35, 36, 37, 38, 39, 40, 41, 42, 43, 44, 45] _ _ (by kernel_rfl) ?_
      haveI : Nonempty (ExtC (Bl Y2)) := ⟨⟨Y2, Bl.refl _⟩⟩
      have hvn : vn ≤ 1000000 := by rw [HVL.out, HVT.out, HNV.out]; have := HN.out; omega
      have V1 := Lib.hid (fun (q : ExtC (Bl Y2)) => sameVers5_yes va ra2 vn vc rc2 _ q.at ((HOV.out.keep (HB45.out.trans (HBZ.out.trans (HY2.out.trans q.ok)))).va HVE.out hvn) ((HO2.out.keep q.ok).va HE2.out hvn))
      have V2 := Lib.hid (fun (q : ExtC (Bl Y2)) => HSX.out q.at gd cd ga ca gw cw ((HLZ.out.keep (HY2.out.trans q.ok)).tx HT.out) (HUX.out _ (HBW.out.trans (HY2.out.trans q.ok))))
      have V3 := Lib.hid (fun (q : ExtC (Bl Y2)) => HSR.out q.at (HTX.out _ (HBW.out.trans (HY2.out.trans q.ok))) (HUX.out _ (HBW.out.trans (HY2.out.trans q.ok))))
      have V4 := Lib.hid (fun (q : ExtC (Bl Y2)) => HVR.out q.at (HTX.out _ (HBW.out.trans (HY2.out.trans q.ok))))
      have V5 := Lib.hid (fun (q : ExtC (Bl Y2)) => staysTxn_any _ o num prev o num prev gd dn cd da dc ds ga an ca aa ac xs gw wn cw wa wc ws q.at (HLZ.out.keep (HY2.out.trans q.ok)).d (HLZ.out.keep (HY2.out.trans q.ok)).a (HLZ.out.keep (HY2.out.trans q.ok)).w (HTX.out _ (HBW.out.trans (HY2.out.trans q.ok))).deps (HTX.out _ (HBW.out.trans (HY2.out.trans q.ok))).at_ (HTX.out _ (HBW.out.trans (HY2.out.trans q.ok))).ws (Nat.le_trans HDN.out.1 (by decide)) (Nat.le_trans HDN.out.2 (by decide)))
      have h0 : ∀ q : ExtC (Bl Y2), _ := fun q => (HGZ.out.keep (HY2.out.trans q.ok)).cell 0 _ rfl
      have h1 : ∀ q : ExtC (Bl Y2), _ := fun q => (HGZ.out.keep (HY2.out.trans q.ok)).cell 1 _ rfl
      have h2 : ∀ q : ExtC (Bl Y2), _ := fun q => (HGZ.out.keep (HY2.out.trans q.ok)).cell 2 _ rfl
      have h3 : ∀ q : ExtC (Bl Y2), _ := fun q => (HGZ.out.keep (HY2.out.trans q.ok)).cell 3 _ rfl
      have h4 : ∀ q : ExtC (Bl Y2), _ := fun q => (HGZ.out.keep (HY2.out.trans q.ok)).cell 4 _ rfl
      have h5 : ∀ q : ExtC (Bl Y2), _ := fun q => (HGZ.out.keep (HY2.out.trans q.ok)).cell 5 _ rfl
      have k0 : ∀ q : ExtC (Bl Y2), _ := fun q => (HA.out _ (HBW.out.trans (HY2.out.trans q.ok))).cell 0 _ rfl
      have k1 : ∀ q : ExtC (Bl Y2), _ := fun q => (HA.out _ (HBW.out.trans (HY2.out.trans q.ok))).cell 1 _ rfl
      have k2 : ∀ q : ExtC (Bl Y2), _ := fun q => (HA.out _ (HBW.out.trans (HY2.out.trans q.ok))).cell 2 _ rfl
      have k3 : ∀ q : ExtC (Bl Y2), _ := fun q => (HA.out _ (HBW.out.trans (HY2.out.trans q.ok))).cell 3 _ rfl
      have k4 : ∀ q : ExtC (Bl Y2), _ := fun q => (HA.out _ (HBW.out.trans (HY2.out.trans q.ok))).cell 4 _ rfl
      have k5 : ∀ q : ExtC (Bl Y2), _ := fun q => (HA.out _ (HBW.out.trans (HY2.out.trans q.ok))).cell 5 _ rfl
      have l0 : ∀ q : ExtC (Bl Y2), _ := fun q => (HB.out _ (HBW.out.trans (HY2.out.trans q.ok))).cell 0 _ rfl
      have l1 : ∀ q : ExtC (Bl Y2), _ := fun q => (HB.out _ (HBW.out.trans (HY2.out.trans q.ok))).cell 1 _ rfl
      have l2 : ∀ q : ExtC (Bl Y2), _ := fun q => (HB.out _ (HBW.out.trans (HY2.out.trans q.ok))).cell 2 _ rfl
      have l3 : ∀ q : ExtC (Bl Y2), _ := fun q => (HB.out _ (HBW.out.trans (HY2.out.trans q.ok))).cell 3 _ rfl
      have l4 : ∀ q : ExtC (Bl Y2), _ := fun q => (HB.out _ (HBW.out.trans (HY2.out.trans q.ok))).cell 4 _ rfl
      have l5 : ∀ q : ExtC (Bl Y2), _ := fun q => (HB.out _ (HBW.out.trans (HY2.out.trans q.ok))).cell 5 _ rfl
      repeat (refine wpI_step rfl (fun K hK => ?_); go_simp; first | (refine hK _ ?_; clear hK K) | (apply Exists.intro; refine ⟨fun q => ?_, hK _ ?_⟩; (first | with_reducible exact V1.out q | with_reducible exact V2.out q | with_reducible exact V3.out q | with_reducible exact V4.out q | with_reducible exact V5.out q); clear hK K))
      refine wpI_nil ?_
      clear V1 V2 V3 V4 V5 this h0 h1 h2 h3 h4 h5 k0 k1 k2 k3 k4 k5 l0 l1 l2 l3 l4 l5
      refine wpAnyE_done (by kernel_rfl) ?_
      intro Y3 hy3
      have hbz : Bl w5 Z := HBZ.out
      have HD := Lib.hid (DM.new HBL.out HBQ.out HB3.out HOV.out HB34.out (HB45.out.trans (hbz.trans (HY2.out.trans hy3))))
      clear hy3 hbz HOV HVE HLZ HGZ HBW HBZ HY2 HO2 HE2 HBQ HL HG0 HG4 HB34 HB45 HB3 HVX HVR HSX HSR HA HB HTX HUX HBL
      go_wp2_with fail
      refine (deep_last W2 _ W2.heap.size _ va vn vc vs HD.out (by rw [HVL.out, HVT.out, HNV.out]; have := HN.out; omega) rfl).mono ?_
      rintro e wD ⟨rfl, hbD, hqD⟩
      have HBL := Lib.hid hbD
      have HBQ := Lib.hid hqD
      clear hbD hqD HD
      go_wp2_with fail
      refine (HGET.out _).mono ?_
      rintro e wF ⟨qa, qn, qc, pa, pn, pc, ra, rn, rc, rfl, hf, hb⟩
      have HF := Lib.hid hf
      have HBF := Lib.hid hb
      clear hf hb HGET
      have HGY := Lib.hid (AC.new wF _ rfl [.int .i64 o, .int .i64 num, .int .i64 prev, .slice qa qn qc, .slice pa pn pc, .slice ra rn rc] 26)
      have hby := (Bl.refl wF).alloc (.cells #[.int .i64 o, .int .i64 num, .int .i64 prev, .slice qa qn qc, .slice pa pn pc, .slice ra rn rc] 26)
      have HBY := Lib.hid hby
      have hca := GH.out.a.keep (HBL.out.trans (HBF.out.trans hby))
      clear hby
      have h0 := (HGY.out).cell 0 _ rfl
      have h1 := (HGY.out).cell 1 _ rfl
      have h2 := (HGY.out).cell 2 _ rfl
      have h3 := (HGY.out).cell 3 _ rfl
      have h4 := (HGY.out).cell 4 _ rfl
      have h5 := (HGY.out).cell 5 _ rfl
      have k0 := (hca).cell 0 _ rfl
      have k1 := (hca).cell 1 _ rfl
      have k2 := (hca).cell 2 _ rfl
      have k3 := (hca).cell 3 _ rfl
      have k4 := (hca).cell 4 _ rfl
      have k5 := (hca).cell 5 _ rfl
      clear hca
      go_wp2_with fail
      generalize World.alloc _ _ = wY at *
      generalize wF.heap.size = gY at *
      refine (rsameT_any ⟨o, num, prev, ds, xs, yw⟩ ⟨o, num, prev, ds, xs, ws⟩ ⟨qa, qn, qc, pa, pn, pc, ra, rn, rc⟩ ⟨da, dn, dc, aa, an, ac, wa, wn, wc⟩ _ ((HF.out.tx HYO.out).keep HBY.out) (HT.out.keep (GH.out.bl.trans (HBL.out.trans (HBF.out.trans HBY.out))))).mono ?_
      rintro e wS ⟨rfl, hb⟩
      rw [HSY.out]
      have HBS := Lib.hid (HBY.out.trans hb)
      have HGS := Lib.hid (HGY.out.keep hb)
      clear hb h0 h1 h2 h3 h4 h5 k0 k1 k2 k3 k4 k5 HGY HBY
      have h0 := (HGS.out).cell 0 _ rfl
      have h1 := (HGS.out).cell 1 _ rfl
      have h2 := (HGS.out).cell 2 _ rfl
      have h3 := (HGS.out).cell 3 _ rfl
      have h4 := (HGS.out).cell 4 _ rfl
      have h5 := (HGS.out).cell 5 _ rfl
      go_wp2_with fail
      refine (txF_last W2 wD wD wF wS W2.heap.size _ ⟨o, num, prev, ds, xs, yw⟩ ⟨qa, qn, qc, pa, pn, pc, ra, rn, rc⟩ HBL.out HBQ.out (Bl.refl wD) HF.out HBF.out HBS.out HYO.out (by have := HT.out.deps.len; have := HDN.out.1; dsimp only at *; omega) (by have := HT.out.at_.len; have := HDN.out.2; dsimp only at *; omega) (by have := HYL.out; dsimp only; omega) rfl).mono ?_
      rintro e wT ⟨rfl, hbT, hqT⟩
      have HE1 := Lib.hid hbT
      have HE2 := Lib.hid hqT
      clear hbT hqT h0 h1 h2 h3 h4 h5
      go_wp2_with fail
      go_roundw
      case rel => exact ⟨k + 1, by omega, by go_num, HE1.out, HE2.out⟩
      case measure => simp [intOf]; omega
    · clear HPC
      refine wp_region_idx [0, 1, 2, 3, 4, 5, 6, 7] 38 (Bl w5.drew) (fun _ _ h k => h.trans k) (Bl.refl _) (by kernel_rfl) rfl (by kernel_rfl) (by kernel_rfl) ?_
      have HBZ := Lib.hid ((Bl.refl w5).drew)
      generalize w5.drew = Z at *
      have HBW := Lib.hid (HB3.out.trans (HB34.out.trans (HB45.out.trans HBZ.out)))
      have HLZ := Lib.hid (HL.out.keep (HB34.out.trans (HB45.out.trans HBZ.out)))
      have HGZ := Lib.hid (HG4.out.keep (HB45.out.trans HBZ.out))
      haveI : Nonempty (ExtC (Bl Z)) := ⟨⟨Z, Bl.refl _⟩⟩
      have V1 := Lib.hid (fun (q : ExtC (Bl Z)) => HVX.out q.at gd cd ga ca gw cw ((HLZ.out.keep q.ok).tx HT.out))
      have V2 := Lib.hid (fun (q : ExtC (Bl Z)) => HVR.out q.at (HTX.out _ (HBW.out.trans q.ok)))
      have h0 : ∀ q : ExtC (Bl Z), _ := fun q => (HGZ.out.keep q.ok).cell 0 _ rfl
      have h1 : ∀ q : ExtC (Bl Z), _ := fun q => (HGZ.out.keep q.ok).cell 1 _ rfl
      have h2 : ∀ q : ExtC (Bl Z), _ := fun q => (HGZ.out.keep q.ok).cell 2 _ rfl
      have h3 : ∀ q : ExtC (Bl Z), _ := fun q => (HGZ.out.keep q.ok).cell 3 _ rfl
      have h4 : ∀ q : ExtC (Bl Z), _ := fun q => (HGZ.out.keep q.ok).cell 4 _ rfl
      have h5 : ∀ q : ExtC (Bl Z), _ := fun q => (HGZ.out.keep q.ok).cell 5 _ rfl
      have k0 : ∀ q : ExtC (Bl Z), _ := fun q => (HA.out _ (HBW.out.trans q.ok)).cell 0 _ rfl
      have k1 : ∀ q : ExtC (Bl Z), _ := fun q => (HA.out _ (HBW.out.trans q.ok)).cell 1 _ rfl
      have k2 : ∀ q : ExtC (Bl Z), _ := fun q => (HA.out _ (HBW.out.trans q.ok)).cell 2 _ rfl
      have k3 : ∀ q : ExtC (Bl Z), _ := fun q => (HA.out _ (HBW.out.trans q.ok)).cell 3 _ rfl
      have k4 : ∀ q : ExtC (Bl Z), _ := fun q => (HA.out _ (HBW.out.trans q.ok)).cell 4 _ rfl
      have k5 : ∀ q : ExtC (Bl Z), _ := fun q => (HA.out _ (HBW.out.trans q.ok)).cell 5 _ rfl
      repeat (refine wpI_step rfl (fun K hK => ?_); go_simp; first | (refine hK _ ?_; clear hK K) | (apply Exists.intro; refine ⟨fun q => ?_, hK _ ?_⟩; (first | with_reducible exact V1.out q | with_reducible exact V2.out q); clear hK K))
      refine wpI_nil ?_
      clear this V1 V2 h0 h1 h2 h3 h4 h5 k0 k1 k2 k3 k4 k5
      refine wpAnyE_one (i := 8) (by kernel_rfl) ?_
      intro Y1 hy1
      go_simp
      refine (rversT_any ⟨o, num, prev, ds, xs, ws⟩ ⟨da, dn, dc, aa, an, ac, wa, wn, wc⟩ Y1 (HTX.out _ (HBW.out.trans hy1)) (by dsimp only; omega)).mono ?_
      rintro e Y2 ⟨ra2, rn2, rc2, rfl, vs2, hov2, hver2, hb2⟩
      have hn2 : vn = rn2 := (HVL.out.trans (hov2.len2 hver2).symm)
      subst hn2
      have HY2 := Lib.hid (hy1.trans hb2)
      have HO2 := Lib.hid hov2
      have HE2 := Lib.hid hver2
      clear hy1 hb2 hov2 hver2
      refine ⟨_, rfl, HY2.out, ?_⟩
      refine wpAnyE_subK (C' := Bl Y2) (fun _ h => HY2.out.trans h) ?_
      refine wpAnyE_idx (C := Bl Y2) (fun _ _ h k => h.trans k) (by kernel_rfl) 0 _ (Bl.refl _) [9, 10, 11, 12, 13, 14, 15, 16, 17, 18, 19, 20, 21, 22, 23, 24, 25, 26, 27, 28, 29, 30, 31, 32, 33, 34, 35, 36, 37, 38, 39, 40, 41, 42, 43, 44, 45] _ _ (by kernel_rfl) ?_
      haveI : Nonempty (ExtC (Bl Y2)) := ⟨⟨Y2, Bl.refl _⟩⟩
      have hvn : vn ≤ 1000000 := by rw [HVL.out, HVT.out, HNV.out]; have := HN.out; omega
      have V1 := Lib.hid (fun (q : ExtC (Bl Y2)) => sameVers5_yes va ra2 vn vc rc2 _ q.at ((HOV.out.keep (HB45.out.trans (HBZ.out.trans (HY2.out.trans q.ok)))).va HVE.out hvn) ((HO2.out.keep q.ok).va HE2.out hvn))
      have V2 := Lib.hid (fun (q : ExtC (Bl Y2)) => HSX.out q.at gd cd ga ca gw cw ((HLZ.out.keep (HY2.out.trans q.ok)).tx HT.out) (HUX.out _ (HBW.out.trans (HY2.out.trans q.ok))))
      have V3 := Lib.hid (fun (q : ExtC (Bl Y2)) => HSR.out q.at (HTX.out _ (HBW.out.trans (HY2.out.trans q.ok))) (HUX.out _ (HBW.out.trans (HY2.out.trans q.ok))))
      have V4 := Lib.hid (fun (q : ExtC (Bl Y2)) => HVR.out q.at (HTX.out _ (HBW.out.trans (HY2.out.trans q.ok))))
      have V5 := Lib.hid (fun (q : ExtC (Bl Y2)) => staysTxn_any _ o num prev o num prev gd dn cd da dc ds ga an ca aa ac xs gw wn cw wa wc ws q.at (HLZ.out.keep (HY2.out.trans q.ok)).d (HLZ.out.keep (HY2.out.trans q.ok)).a (HLZ.out.keep (HY2.out.trans q.ok)).w (HTX.out _ (HBW.out.trans (HY2.out.trans q.ok))).deps (HTX.out _ (HBW.out.trans (HY2.out.trans q.ok))).at_ (HTX.out _ (HBW.out.trans (HY2.out.trans q.ok))).ws (Nat.le_trans HDN.out.1 (by decide)) (Nat.le_trans HDN.out.2 (by decide)))
      have h0 : ∀ q : ExtC (Bl Y2), _ := fun q => (HGZ.out.keep (HY2.out.trans q.ok)).cell 0 _ rfl
      have h1 : ∀ q : ExtC (Bl Y2), _ := fun q => (HGZ.out.keep (HY2.out.trans q.ok)).cell 1 _ rfl
      have h2 : ∀ q : ExtC (Bl Y2), _ := fun q => (HGZ.out.keep (HY2.out.trans q.ok)).cell 2 _ rfl
      have h3 : ∀ q : ExtC (Bl Y2), _ := fun q => (HGZ.out.keep (HY2.out.trans q.ok)).cell 3 _ rfl
      have h4 : ∀ q : ExtC (Bl Y2), _ := fun q => (HGZ.out.keep (HY2.out.trans q.ok)).cell 4 _ rfl
      have h5 : ∀ q : ExtC (Bl Y2), _ := fun q => (HGZ.out.keep (HY2.out.trans q.ok)).cell 5 _ rfl
      have k0 : ∀ q : ExtC (Bl Y2), _ := fun q => (HA.out _ (HBW.out.trans (HY2.out.trans q.ok))).cell 0 _ rfl
      have k1 : ∀ q : ExtC (Bl Y2), _ := fun q => (HA.out _ (HBW.out.trans (HY2.out.trans q.ok))).cell 1 _ rfl
      have k2 : ∀ q : ExtC (Bl Y2), _ := fun q => (HA.out _ (HBW.out.trans (HY2.out.trans q.ok))).cell 2 _ rfl
      have k3 : ∀ q : ExtC (Bl Y2), _ := fun q => (HA.out _ (HBW.out.trans (HY2.out.trans q.ok))).cell 3 _ rfl
      have k4 : ∀ q : ExtC (Bl Y2), _ := fun q => (HA.out _ (HBW.out.trans (HY2.out.trans q.ok))).cell 4 _ rfl
      have k5 : ∀ q : ExtC (Bl Y2), _ := fun q => (HA.out _ (HBW.out.trans (HY2.out.trans q.ok))).cell 5 _ rfl
      have l0 : ∀ q : ExtC (Bl Y2), _ := fun q => (HB.out _ (HBW.out.trans (HY2.out.trans q.ok))).cell 0 _ rfl
      have l1 : ∀ q : ExtC (Bl Y2), _ := fun q => (HB.out _ (HBW.out.trans (HY2.out.trans q.ok))).cell 1 _ rfl
      have l2 : ∀ q : ExtC (Bl Y2), _ := fun q => (HB.out _ (HBW.out.trans (HY2.out.trans q.ok))).cell 2 _ rfl
      have l3 : ∀ q : ExtC (Bl Y2), _ := fun q => (HB.out _ (HBW.out.trans (HY2.out.trans q.ok))).cell 3 _ rfl
      have l4 : ∀ q : ExtC (Bl Y2), _ := fun q => (HB.out _ (HBW.out.trans (HY2.out.trans q.ok))).cell 4 _ rfl
      have l5 : ∀ q : ExtC (Bl Y2), _ := fun q => (HB.out _ (HBW.out.trans (HY2.out.trans q.ok))).cell 5 _ rfl
      repeat (refine wpI_step rfl (fun K hK => ?_); go_simp; first | (refine hK _ ?_; clear hK K) | (apply Exists.intro; refine ⟨fun q => ?_, hK _ ?_⟩; (first | with_reducible exact V1.out q | with_reducible exact V2.out q | with_reducible exact V3.out q | with_reducible exact V4.out q | with_reducible exact V5.out q); clear hK K))
      refine wpI_nil ?_
      clear V1 V2 V3 V4 V5 this h0 h1 h2 h3 h4 h5 k0 k1 k2 k3 k4 k5 l0 l1 l2 l3 l4 l5
      refine wpAnyE_done (by kernel_rfl) ?_
      intro Y3 hy3
      have hbz : Bl w5 Z := HBZ.out
      have HD := Lib.hid (DM.new HBL.out HBQ.out HB3.out HOV.out HB34.out (HB45.out.trans (hbz.trans (HY2.out.trans hy3))))
      clear hy3 hbz HOV HVE HLZ HGZ HBW HBZ HY2 HO2 HE2 HBQ HL HG0 HG4 HB34 HB45 HB3 HVX HVR HSX HSR HA HB HTX HUX HBL
      go_wp2_with fail
      refine (deep_last W2 _ W2.heap.size _ va vn vc vs HD.out (by rw [HVL.out, HVT.out, HNV.out]; have := HN.out; omega) rfl).mono ?_
      rintro e wD ⟨rfl, hbD, hqD⟩
      have HBL := Lib.hid hbD
      have HBQ := Lib.hid hqD
      clear hbD hqD HD
      go_wp2_with fail
      go_roundw
      case rel => exact ⟨k + 1, by omega, by go_num, HBL.out, HBQ.out⟩
      case measure => simp [intOf]; omega
theorem txnTells_walk (t : TxnL) (s : TxAt) (u : TxnL) (v : TxAt) (w : World) (ht : TX w s t) (hu : TX w v u) :
    Calls Tryz.prog 3 #[txV t s, txV u v] w fun e w' => e = .returned (.bool true) ∧ Bl w w' := txnTells_gen t u s v w ht hu
end Go.Proofs.YtfmabjoindlfeaaGreat
end
