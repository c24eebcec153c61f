/- the walk of TxnFolds. By an AI agent. -/
import Derived.Test.YtaokennbpgdngaaCore32
import Derived.Test.YtaokennbpgdngaaQTxLight
import Derived.Test.YtaokennbpgdngaaQBookSW

set_option linter.unusedVariables false
set_option linter.unusedSimpArgs false
namespace Go.Proofs.Ytaokennbpgdngaa
open Go.RowKit
attribute [local go_sem] eOp eOper eUpon

theorem foldW_fits {ws : List (ByteArray × ActL)} (h : ∀ j, j < ws.length → fitsB (nthW ws j).1 (nthW ws j).2 = true) : ∀ p ∈ ws, fitsB p.1 p.2 = true := fun p hp => by
  obtain ⟨j, hj, rfl⟩ := List.getElem_of_mem hp
  have := h j hj
  rw [nthW_eq hj] at this
  exact this
theorem refFitsA_any (p : ByteArray × ActL) (w : World) (h : WrOk p) : Calls Try.prog 25 #[.string p.1, .agg #[.int .i64 p.2.k, .float .f64 p.2.x, .int .i64 p.2.n, .string p.2.s]] w fun e w' => e = .returned (.bool (fitsB p.1 p.2)) ∧ Bl w w' := refFits_any p.1 p.2 w h.1 h.2
theorem refSameVA_any (a d : ValL) (w : World) (oa : a.Ok) (ob : d.Ok) :
    Calls Try.prog 27 #[.agg #[.bool a.there, .float .f64 a.x, .int .i64 a.n, .string a.s], .agg #[.bool d.there, .float .f64 d.x, .int .i64 d.n, .string d.s]] w fun e w' => e = .returned (.bool (sameV a d)) ∧ Bl w w' := refSameV_any a d w oa ob
set_option maxHeartbeats 6400000 in
set_option maxRecDepth 100000 in
theorem txFolds_walk (a : Option Addr) (n c : Nat) (ws : List (ByteArray × ActL)) (key : ByteArray) (v : ValL) (w : World) (h : WW w a n ws) (hk : key.size ≤ 140737488351232) (ov : v.Ok) :
    Calls Try.prog 6 #[.slice a n c, .string key, .agg #[.bool v.there, .float .f64 v.x, .int .i64 v.n, .string v.s]] w fun e w' => e = .returned (.bool true) ∧ Bl w w' := by
  have hsf := store_float
  have HW := Lib.hid h
  have HL := Lib.hid h.len
  have hcap := h.cap
  have OV := Lib.hid ov
  have hvs := ov.s
  have hb := (Bl.refl w).alloc (.cells #[.bool v.there, .float .f64 v.x, .int .i64 v.n, .string v.s] 51)
  have hg := AC.new w _ rfl [.bool v.there, .float .f64 v.x, .int .i64 v.n, .string v.s] 51
  obtain ⟨vb, vx, vn, vs⟩ := v
  dsimp only at hb hg hvs ⊢
  clear h ov
  cases hl : lightB ws
  · have HLB := Lib.hid hl
    clear hl
    go_enter Try.func6, Try.ntmps6
    go_wp2_with fail
    refine (light21_any a n c ws _ (HW.out.keep hb)).mono ?_
    rintro e w1 ⟨rfl, hb1⟩
    rw [HLB.out]
    go_wp2_with fail
    refine (alive21_any _).mono ?_
    rintro e w2 ⟨rfl, hb2⟩
    go_wp2_with fail
    go_ret
    exact ⟨rfl, hb.trans (hb1.trans hb2)⟩
  have HLB := Lib.hid hl
  have hnl := lightB_len hl
  rw [HL.out] at hnl
  clear hl
  by_cases hv3 : 3000 < vs.size
  · have d1 : decide ((3000 : Int) < (vs.size : Int)) = true := decide_eq_true (by omega)
    have d2 : decide (3000 < vs.size) = true := decide_eq_true hv3
    go_enter Try.func6, Try.ntmps6
    go_wp2_with fail
    refine (light21_any a n c ws _ (HW.out.keep hb)).mono ?_
    rintro e w1 ⟨rfl, hb1⟩
    rw [HLB.out]
    obtain ⟨v0, v1, v2, v3⟩ := (hg.keep hb1).val
    go_wp2_with fail
    refine (alive21_any _).mono ?_
    rintro e w2 ⟨rfl, hb2⟩
    go_wp2_with fail
    go_ret
    exact ⟨rfl, hb.trans (hb1.trans hb2)⟩
  have d1 : decide ((3000 : Int) < (vs.size : Int)) = false := decide_eq_false (by omega)
  have d2 : decide (3000 < vs.size) = false := decide_eq_false hv3
  go_enter Try.func6, Try.ntmps6
  go_wp2_with fail
  generalize w.alloc _ = W at *
  refine (light21_any a n c ws _ (HW.out.keep hb)).mono ?_
  rintro e w1 ⟨rfl, hb1⟩
  rw [HLB.out]
  have HG := Lib.hid (hg.keep hb1)
  have HB := Lib.hid (hb.trans hb1)
  clear hb hg hb1
  obtain ⟨v0, v1, v2, v3⟩ := HG.out.val
  go_wp2_with fail
  clear v0 v1 v2 v3 d1 d2
  generalize w.heap.size = gv at *
  go_loopw [7] (fun i wr => ∃ k : Nat, k ≤ n ∧ i = .int .i64 k ∧ Bl w1 wr ∧ ∀ j, j < k → fitsB (nthW ws j).1 (nthW ws j).2 = true) (fun i _ => n - (intOf i).toNat)
  case atStart => exact ⟨0, Nat.zero_le _, rfl, Bl.refl _, fun j hj => absurd hj (Nat.not_lt_zero _)⟩
  case round =>
    obtain ⟨k, hkn, rfl, hbl, hok⟩ := hrel
    have HBL := Lib.hid hbl
    have HOK := Lib.hid hok
    clear hbl hok
    by_cases hlt : k < n
    · have hkl : k < ws.length := by rw [HL.out]; exact hlt
      obtain ⟨ba, oa, rfl, _⟩ := HW.out.cells k hlt
      have HC := Lib.hid (HW.out.get (HB.out.trans HBL.out.drew) hlt)
      have HWK := Lib.hid (HW.out.ok _ (nthW_mem hkl))
      have HST : Hid (fitsB (nthW ws k).1 (nthW ws k).2 = true → ∀ j, j < k + 1 → fitsB (nthW ws j).1 (nthW ws j).2 = true) := Lib.hid (fun h j hj => by
        rcases Nat.lt_succ_iff_lt_or_eq.1 hj with h1 | rfl
        · exact HOK.out j h1
        · exact h)
      clear hkl
      generalize nthW ws k = p at *
      have HF := Lib.hid (fun (q : Ext wr.drew) => refFitsA_any p q.at HWK.out)
      have x0 : ∀ q : Ext wr.drew, _ := fun q => (HC.out.keep q.bl).c0
      have x1 : ∀ q : Ext wr.drew, _ := fun q => (HC.out.keep q.bl).c1
      have x2 : ∀ q : Ext wr.drew, _ := fun q => (HC.out.keep q.bl).c2
      have x3 : ∀ q : Ext wr.drew, _ := fun q => (HC.out.keep q.bl).c3
      have x4 : ∀ q : Ext wr.drew, _ := fun q => (HC.out.keep q.bl).c4
      obtain ⟨r, hr⟩ : ∃ r, fitsB p.1 p.2 = r := ⟨_, rfl⟩
      rw [hr] at HF HST
      clear hr
      go_upto_region 6 with fail
      refine wp_region_allS (by kernel_rfl) (by kernel_rfl) ?_
      repeat (refine wpS_step (fun K hK => ?_); go_simp; first | (refine hK _ ?_; clear hK K) | (apply Exists.intro; refine ⟨fun q => ?_, hK _ ?_⟩; (with_reducible exact HF.out q); clear hK K))
      refine wpS_nil ?_
      intro q1
      have HBN := Lib.hid (HBL.out.trans (((Bl.refl wr).drew).trans q1.bl))
      clear x0 x1 x2 x3 x4 HF
      generalize ExtC.at q1 = Y at *
      cases r
      · go_wp2_with fail
        refine (alive21_any _).mono ?_
        rintro e w2 ⟨rfl, hb2⟩
        go_wp2_with fail
        go_ret
        exact ⟨rfl, HB.out.trans (HBN.out.trans hb2)⟩
      · have HN := Lib.hid (HST.out rfl)
        go_wp2_with fail
        go_roundw
        case rel => exact ⟨k + 1, by omega, by go_num, HBN.out, HN.out⟩
        case measure => simp [intOf]; omega
    · have hkn2 : k = n := by omega
      subst hkn2
      have HFIT := Lib.hid (foldW_fits (ws := ws) (fun j hj => HOK.out j (by rw [← HL.out]; exact hj)))
      have HOKS : Hid (∀ p ∈ ws, p.2.Ok ∧ fitsB p.1 p.2 = true) := Lib.hid (fun p hp => ⟨(HW.out.ok p hp).2, HFIT.out p hp⟩)
      have HFR := Lib.hid (fun key => fold_reads key ⟨vb, vx, vn, vs⟩ HOKS.out)
      have HOF := Lib.hid (foldW_okW (ws := ws) HW.out.ok)
      have HTW := Lib.hid (fold_twice ws)
      have HND := Lib.hid (fun (i k : Nat) (h1 : i < (foldW ws).length) (h2 : k < i) => nodup_keys (foldW_nodup ws) h1 h2)
      have hfl := foldW_len ws
      rw [HL.out] at hfl
      have HRW := Lib.hid (fun key => readW_ok (key := key) OV.out ws (fun p hp => (HW.out.ok p hp).2))
      have HRM := Lib.hid (fun key => readW_ok (key := key) OV.out (foldW ws) (fun p hp => (HOF.out p hp).2))
      clear HOK HFIT HOKS
      go_wp2_with fail
      refine (tfold_any a k c ws _ (HW.out.keep (HB.out.trans HBL.out))).mono ?_
      rintro e w3 ⟨m, rfl, hm, hb3⟩
      generalize foldW ws = M at *
      obtain ⟨ma, mc, rfl⟩ := hm.form
      have HM := Lib.hid (hm.ww (by omega) HOF.out)
      have HML : Hid (M.length = M.length) := Lib.hid rfl
      have HB3 := Lib.hid (HBL.out.trans hb3)
      clear hm hb3 HBL
      obtain ⟨mn, hmn⟩ : ∃ mn, M.length = mn := ⟨_, rfl⟩
      rw [hmn] at HM hfl HND ⊢
      have HMN := Lib.hid hmn
      clear hmn HML
      go_wp2_with fail
      go_loopw [9] (fun i wr => ∃ i' : Nat, i' ≤ mn ∧ i = .int .i64 i' ∧ Bl w3 wr) (fun i _ => mn - (intOf i).toNat)
      case atStart => exact ⟨0, Nat.zero_le _, rfl, Bl.refl _⟩
      case round =>
        obtain ⟨i, hin, rfl, hbl⟩ := hrel
        have HBI := Lib.hid hbl
        clear hbl
        by_cases hlt2 : i < mn
        · obtain ⟨bm, om, rfl, _⟩ := HM.out.cells i hlt2
          go_wp2_with fail
          go_loopw [10] (fun j wz => ∃ j' : Nat, j' ≤ i ∧ j = .int .i64 j' ∧ Bl w3 wz) (fun j _ => i - (intOf j).toNat)
          case atStart => exact ⟨0, Nat.zero_le _, rfl, HBI.out⟩
          case round =>
            obtain ⟨j, hji, rfl, hbl⟩ := hrel
            have HBJ := Lib.hid hbl
            clear hbl
            by_cases hlt3 : j < i
            · have HCI := Lib.hid (HM.out.get HBJ.out.drew hlt2)
              have HCJ := Lib.hid (HM.out.get HBJ.out.drew (show j < mn by omega))
              have hne := HND.out _ _ hlt2 hlt3
              have qk : ((nthW M j).1.toList == (nthW M i).1.toList) = false := by rw [beq_key]; exact decide_eq_false hne
              have x0 : ∀ q : Ext wr.drew, _ := fun q => (HCI.out.keep q.bl).c0
              have y0 : ∀ q : Ext wr.drew, _ := fun q => (HCJ.out.keep q.bl).c0
              have hjm : j < mn := by omega
              clear hne
              generalize (nthW M i).1 = ki at *
              generalize (nthW M j).1 = kj at *
              go_upto_region 15 with fail
              refine wp_region_allS (by kernel_rfl) (by kernel_rfl) ?_
              repeat (refine wpS_step (fun K hK => ?_); go_simp; first | (refine hK _ ?_; clear hK K) | (apply Exists.intro; refine ⟨fun q => ?_, hK _ ?_⟩; (fail); clear hK K))
              refine wpS_nil ?_
              intro q1
              have HBN := Lib.hid (HBJ.out.trans (((Bl.refl wr).drew).trans q1.bl))
              clear x0 y0
              generalize ExtC.at q1 = Y at *
              go_wp2_with fail
              go_roundw
              case rel => exact ⟨j + 1, by omega, by go_num, HBN.out⟩
              case measure => simp [intOf]; omega
            · have hji2 : j = i := by omega
              have HCI := Lib.hid (HM.out.get HBJ.out.drew hlt2)
              have hkey : (nthW M i).1.size ≤ 140737488351232 := (HOF.out _ (nthW_mem (by rw [HMN.out]; exact hlt2))).1
              clear hji2
              obtain ⟨mk, hmk⟩ : ∃ mk, (nthW M i).1 = mk := ⟨_, rfl⟩
              have x0 : ∀ q : Ext wr.drew, _ := fun q => (HCI.out.keep q.bl).c0
              rw [hmk] at x0 hkey
              clear hmk HCI
              have hgv := HG.out.keep (HB3.out.trans HBJ.out.drew)
              have l0 : ∀ q : Ext wr.drew, _ := fun q => (AC.val (hgv.keep q.bl)).1
              have l1 : ∀ q : Ext wr.drew, _ := fun q => (AC.val (hgv.keep q.bl)).2.1
              have l2 : ∀ q : Ext wr.drew, _ := fun q => (AC.val (hgv.keep q.bl)).2.2.1
              have l3 : ∀ q : Ext wr.drew, _ := fun q => (AC.val (hgv.keep q.bl)).2.2.2
              have HX := Lib.hid (fun (q : Ext wr.drew) => tread_any a k c ws mk ⟨vb, vx, vn, vs⟩ q.at (HW.out.keep (HB.out.trans (HB3.out.trans (HBJ.out.drew.trans q.bl)))) hkey OV.out)
              have HU := Lib.hid (fun (q : Ext wr.drew) => tread_any (some ⟨bm, om, none⟩) mn mc M mk ⟨vb, vx, vn, vs⟩ q.at (HM.out.keep (HBJ.out.drew.trans q.bl)) hkey OV.out)
              have HS := Lib.hid (fun (q : Ext wr.drew) => refSameVA_any (readW mk ⟨vb, vx, vn, vs⟩ ws) (readW mk ⟨vb, vx, vn, vs⟩ M) q.at (HRW.out mk) (HRM.out mk))
              rw [HFR.out mk] at HS
              generalize readW mk ⟨vb, vx, vn, vs⟩ ws = r1 at *
              generalize readW mk ⟨vb, vx, vn, vs⟩ M = r2 at *
              obtain ⟨r1b, r1x, r1n, r1s⟩ := r1
              obtain ⟨r2b, r2x, r2n, r2s⟩ := r2
              dsimp only at HX HU HS
              clear hgv
              go_upto_region 17 with fail
              refine wp_region_allS (by kernel_rfl) (by kernel_rfl) ?_
              repeat (refine wpS_step (fun K hK => ?_); go_simp; first | (refine hK _ ?_; clear hK K) | (apply Exists.intro; refine ⟨fun q => ?_, hK _ ?_⟩; (first | with_reducible exact HX.out q | with_reducible exact HU.out q | with_reducible exact HS.out q); clear hK K))
              refine wpS_nil ?_
              intro q1
              have HBN := Lib.hid (HBJ.out.trans (((Bl.refl wr).drew).trans q1.bl))
              clear x0 l0 l1 l2 l3 HX HU HS
              generalize ExtC.at q1 = Y at *
              go_wp2_with fail
              go_roundw
              case rel => exact ⟨i + 1, by omega, by go_num, HBN.out⟩
              case measure => simp [intOf]; omega
        · have hgv := HG.out.keep (HB3.out.trans HBI.out.drew)
          have HMd := Lib.hid (HM.out.keep HBI.out.drew)
          have HWd := Lib.hid (HW.out.keep (HB.out.trans (HB3.out.trans HBI.out.drew)))
          have HBd := Lib.hid (HB.out.trans (HB3.out.trans HBI.out.drew))
          have HGd := Lib.hid hgv
          clear hgv HND
          have HXX := Lib.hid (HRW.out key)
          have HXY := Lib.hid (HRM.out key)
          have HSS := Lib.hid (HFR.out key)
          have hmn7 : mn ≤ 1000000 := by omega
          go_upto_region 19 with fail
          refine wp_region_idx [0, 1, 2, 4] 15 (Bl wr.drew) (fun _ _ h k => h.trans k) (Bl.refl _) (by kernel_rfl) rfl (by kernel_rfl) (by kernel_rfl) ?_
          generalize wr.drew = Z at *
          haveI : Nonempty (ExtC (Bl Z)) := ⟨⟨Z, Bl.refl _⟩⟩
          repeat (refine wpI_step rfl (fun K hK => ?_); go_simp; first | (refine hK _ ?_; clear hK K) | (apply Exists.intro; refine ⟨fun q => ?_, hK _ ?_⟩; (with_reducible exact alive21_any _); clear hK K))
          refine wpI_nil ?_
          clear this
          refine wpAnyE_one (i := 3) (by kernel_rfl) ?_
          intro Y1 hy1
          go_simp
          refine (tfold_any ma mn mc M Y1 (HMd.out.keep hy1)).mono ?_
          rintro e Y2 ⟨f, rfl, hf, hb2⟩
          rw [HTW.out] at hf
          obtain ⟨fa, fc, rfl⟩ := hf.form
          have HF2 := Lib.hid (hf.ww (by rw [HMN.out]; exact hmn7) HOF.out)
          rw [HMN.out] at HF2 ⊢
          have HY2 := Lib.hid (hy1.trans hb2)
          clear hy1 hb2 hf
          refine ⟨_, rfl, HY2.out, ?_⟩
          refine wpAnyE_sub (C' := Bl Y2) (fun _ h => HY2.out.trans h) ?_
          refine wpAnyE_idx (C := Bl Y2) (fun _ _ h k => h.trans k) (by kernel_rfl) 0 _ (Bl.refl _) [5, 6, 7, 8, 9, 10, 11, 12, 13, 14, 15, 16, 17, 18] _ _ (by kernel_rfl) ?_
          haveI : Nonempty (ExtC (Bl Y2)) := ⟨⟨Y2, Bl.refl _⟩⟩
          have l0 : ∀ q : ExtC (Bl Y2), _ := fun q => (AC.val (HGd.out.keep (HY2.out.trans q.ok))).1
          have l1 : ∀ q : ExtC (Bl Y2), _ := fun q => (AC.val (HGd.out.keep (HY2.out.trans q.ok))).2.1
          have l2 : ∀ q : ExtC (Bl Y2), _ := fun q => (AC.val (HGd.out.keep (HY2.out.trans q.ok))).2.2.1
          have l3 : ∀ q : ExtC (Bl Y2), _ := fun q => (AC.val (HGd.out.keep (HY2.out.trans q.ok))).2.2.2
          have HSW := Lib.hid (fun (q : ExtC (Bl Y2)) => bookSameWs_any fa mn fc M ma mn mc M q.at (HF2.out.keep q.ok) (HMd.out.keep (HY2.out.trans q.ok)))
          rw [sameWs_refl] at HSW
          have HX := Lib.hid (fun (q : ExtC (Bl Y2)) => tread_any a k c ws key ⟨vb, vx, vn, vs⟩ q.at (HWd.out.keep (HY2.out.trans q.ok)) hk OV.out)
          have HU := Lib.hid (fun (q : ExtC (Bl Y2)) => tread_any ma mn mc M key ⟨vb, vx, vn, vs⟩ q.at (HMd.out.keep (HY2.out.trans q.ok)) hk OV.out)
          have HS := Lib.hid (fun (q : ExtC (Bl Y2)) => refSameVA_any (readW key ⟨vb, vx, vn, vs⟩ ws) (readW key ⟨vb, vx, vn, vs⟩ M) q.at HXX.out HXY.out)
          rw [HSS.out] at HS
          clear HXX HXY HSS HRW HRM HFR
          generalize readW key ⟨vb, vx, vn, vs⟩ ws = r1 at *
          generalize readW key ⟨vb, vx, vn, vs⟩ M = r2 at *
          obtain ⟨r1b, r1x, r1n, r1s⟩ := r1
          obtain ⟨r2b, r2x, r2n, r2s⟩ := r2
          dsimp only at HX HU HS
          repeat (refine wpI_step rfl (fun K hK => ?_); go_simp; first | (refine hK _ ?_; clear hK K) | (apply Exists.intro; refine ⟨fun q => ?_, hK _ ?_⟩; (first | with_reducible exact HSW.out q | with_reducible exact HX.out q | with_reducible exact HU.out q | with_reducible exact HS.out q); clear hK K))
          refine wpI_nil ?_
          clear l0 l1 l2 l3 HSW HX HU HS this
          refine wpAnyE_done (by kernel_rfl) ?_
          intro Y3 hy3
          have HB9 := Lib.hid (HBd.out.trans (HY2.out.trans hy3))
          go_wp2_with fail
          go_ret
          exact ⟨rfl, HB9.out⟩
end Go.Proofs.Ytaokennbpgdngaa
