import Derived.Test.YtfmabjoindlfeaaGreatQTxnTellsUptoP29
import Derived.Test.YtfmabjoindlfeaaGreatQRTxn
import Derived.Test.YtfmabjoindlfeaaGreatQTxnTellsUptoP37
import Derived.Test.YtfmabjoindlfeaaGreatQTxnTellsUptoP5
import Derived.Test.YtfmabjoindlfeaaGreatQTxnTellsUptoP15
import Derived.Test.YtfmabjoindlfeaaGreatQTxn2
import Derived.Test.YtfmabjoindlfeaaGreatQTxnTellsUptoP32
import Derived.Test.YtfmabjoindlfeaaGreatQTxnTellsUptoP23
import Derived.Test.YtfmabjoindlfeaaGreatQTxnTellsUptoP2
import Derived.Test.YtfmabjoindlfeaaGreatQTxnTellsUptoP11
import Derived.Maps.OwnRows

/- bedrockref21.Versions. By an AI agent. -/
section
set_option linter.unusedVariables false
set_option linter.unusedSimpArgs false
namespace Go.Proofs.YtfmabjoindlfeaaGreat
open Go.RowKit
attribute [local go_sem] eOp eOper eUpon pOp pOper pUpon

set_option maxHeartbeats 6400000 in
set_option maxRecDepth 100000 in
theorem rversT_any (t : TxnL) (s : TxAt) (w : World) (h : TX w s t) (hwn : s.wn ≤ 1000000) :
    Calls Tryz.prog 12 #[txV t s] w fun e w' => ∃ a n c, e = .returned (.slice a n c) ∧ ∃ xs, OVL w.heap.size w' a n c xs ∧ xs.map VC.ver = versT t ∧ Bl w w' := by
  obtain ⟨R, hR⟩ : ∃ R, validT t = R := ⟨_, rfl⟩
  obtain ⟨VT, hVT⟩ : ∃ VT, versT t = VT := ⟨_, rfl⟩
  rw [hVT]
  have HVT : Hid (VT = if R = true then t.ws.map (verOf t.o t.num t.at_) else []) := Lib.hid (by rw [← hVT, versT, hR])
  have HR := Lib.hid hR
  have hat8 : R = true → t.at_.length ≤ 50000 := fun e => by
    have h1 := (validT_parts (hR.trans e)).at_
    have h2 := (valid_parts h1).2.1
    omega
  have hok := h.txOk
  have HWV := Lib.hid (fun (w' : World) (hb : Bl w w') => rtxValid_any t s w' (h.keep hb))
  rw [hR] at HWV
  obtain ⟨o, num, prev, ds, xs, ws⟩ := t
  obtain ⟨da, dn, dc, aa, an, ac, wa, wn, wc⟩ := s
  obtain ⟨hd, hx, hw, _, _, _⟩ := h
  have hsf := store_float
  have HX := Lib.hid hx
  have HW := Lib.hid hw
  have HWO := Lib.hid hok.ws
  have H8 := Lib.hid hat8
  have hg := AC.new w _ rfl [.int .i64 o, .int .i64 num, .int .i64 prev, .slice da dn dc, .slice aa an ac, .slice wa wn wc] 26
  have hb := (Bl.refl w).alloc (.cells [Value.int .i64 o, .int .i64 num, .int .i64 prev, .slice da dn dc, .slice aa an ac, .slice wa wn wc].toArray 26)
  unfold txV
  unfold txV at HWV
  clear hd hx hw hR hat8 hok hVT
  dsimp only at *
  go_enter Tryz.func12, Tryz.ntmps12
  go_wp2_with fail
  generalize w.alloc _ = W at *
  have HG := Lib.hid hg
  have HB := Lib.hid hb
  clear hg hb
  go_loopw [3, 4] (fun v i wr => ∃ (k : Nat) (va : Option Addr) (vc : Nat) (ys : List VC), k ≤ wn ∧ (k = 0 ∨ R = true) ∧ i = .int .i64 k ∧ Bl W wr ∧ v = .slice va k vc ∧ OVL W.heap.size wr va k vc ys ∧ ys.map VC.ver = (ws.take k).map (verOf o num xs)) (fun _ i _ => wn - (intOf i).toNat)
  case atStart => exact ⟨0, none, 0, [], Nat.zero_le _, .inl rfl, rfl, Bl.refl _, rfl, OVL.nil _ _, rfl⟩
  case round =>
    obtain ⟨k, va, vc, ys, hk, hkr, rfl, hbl, rfl, hov, hver⟩ := hrel
    have HBL := Lib.hid hbl
    have HOV := Lib.hid hov
    have HVER := Lib.hid hver
    have HKR := Lib.hid hkr
    clear hbl hov hver hkr
    have hgw := HG.out.keep HBL.out
    have c0 := hgw.cell 0 _ rfl
    have c1 := hgw.cell 1 _ rfl
    have c2 := hgw.cell 2 _ rfl
    have c3 := hgw.cell 3 _ rfl
    have c4 := hgw.cell 4 _ rfl
    have c5 := hgw.cell 5 _ rfl
    clear hgw
    by_cases hlt : k < wn
    · go_wp2_with fail
      clear c0 c1 c2 c3 c4 c5
      refine (HWV.out _ (HB.out.trans HBL.out)).mono ?_
      rintro e w2 ⟨rfl, hb2⟩
      have HBL2 := Lib.hid (HBL.out.trans hb2)
      have HOV2 := Lib.hid (HOV.out.keep hb2)
      clear hb2 HBL HOV
      cases R
      · have hk0 : k = 0 := by rcases HKR.out with h | h; exact h; cases h
        subst hk0
        go_wp2_with fail
        go_ret
        exact ⟨va, 0, vc, rfl, ys, HOV2.out.wider HB.out.size, by rw [HVER.out, HVT.out]; rfl, HB.out.trans HBL2.out⟩
      have hx8 := H8.out rfl
      obtain ⟨ba, oa, rfl, _⟩ := HW.out.cells k hlt
      have hkw : k < ws.length := by rw [HW.out.len]; exact hlt
      have HTV := Lib.hid (take_verOf hkw o num xs)
      have HPO := Lib.hid (HWO.out _ (nthW_mem hkw)).2
      have HPC := Lib.hid (fun (W' : World) (hb : Bl w W') => HW.out.get hb hlt)
      generalize nthW ws k = p at *
      obtain ⟨pk, ⟨ak, ax, a2, az⟩⟩ := p
      dsimp only at HPO
      clear hkw
      go_upto_region 5 with fail
      have HBP := Lib.hid (HBL2.out.drew)
      have HOVZ := Lib.hid (HOV2.out.keep (Bl.refl w2).drew)
      clear HBL2 HOV2
      refine wp_region_panicsT [0, 1, 2, 3, 4, 5, 6, 7, 8, 10, 11, 12, 13, 14, 15, 16, 17, 18, 19] 5 (Bl w2.drew) (fun _ _ h k => h.trans k) (Bl.refl _) [22, 23] (fun c W' => False) ?hR (by kernel_rfl) rfl (by kernel_rfl) (by kernel_rfl) (by kernel_rfl) ?_
      case hR => intro c tt W' h; exact h.elim
      generalize w2.drew = Z at *
      haveI : Nonempty (ExtC (Bl Z)) := ⟨⟨Z, Bl.refl _⟩⟩
      have l0 : ∀ q : ExtC (Bl Z), _ := fun q => (HG.out.keep (HBP.out.trans q.ok)).cell 0 _ rfl
      have l1 : ∀ q : ExtC (Bl Z), _ := fun q => (HG.out.keep (HBP.out.trans q.ok)).cell 1 _ rfl
      have l4 : ∀ q : ExtC (Bl Z), _ := fun q => (HG.out.keep (HBP.out.trans q.ok)).cell 4 _ rfl
      have l5 : ∀ q : ExtC (Bl Z), _ := fun q => (HG.out.keep (HBP.out.trans q.ok)).cell 5 _ rfl
      have p0 : ∀ q : ExtC (Bl Z), _ := fun q => (HPC.out q.at (HB.out.trans (HBP.out.trans q.ok))).c0
      have p1 : ∀ q : ExtC (Bl Z), _ := fun q => (HPC.out q.at (HB.out.trans (HBP.out.trans q.ok))).c1
      have p2 : ∀ q : ExtC (Bl Z), _ := fun q => (HPC.out q.at (HB.out.trans (HBP.out.trans q.ok))).c2
      have p3 : ∀ q : ExtC (Bl Z), _ := fun q => (HPC.out q.at (HB.out.trans (HBP.out.trans q.ok))).c3
      have p4 : ∀ q : ExtC (Bl Z), _ := fun q => (HPC.out q.at (HB.out.trans (HBP.out.trans q.ok))).c4
      dsimp only at p0 p1 p2 p3 p4
      repeat (refine wpI_step rfl (fun K hK => ?_); go_simp; first | (refine hK _ ?_; clear hK K) | (apply Exists.intro; refine ⟨fun q => ?_, hK _ ?_⟩; (fail); clear hK K))
      refine wpI_nil ?_
      clear l0 l1 l4 l5 p0 p1 p2 p3 p4 this
      refine wpAnyP_one (i := 9) (by kernel_rfl) ?_
      intro Y1 hy1
      go_simp
      refine (rcopy3_any aa an ac xs Y1 (HX.out.keep (HB.out.trans (HBP.out.trans hy1)))).mono ?_
      rintro e Y2 ⟨v, rfl, hv, hb2⟩
      obtain ⟨xa, xc, hve⟩ := row_shape' hv.own
      have HV := Lib.hid hv
      have HO1 := Lib.hid (HOVZ.out.keep hy1)
      have HZ1 := Lib.hid (HBP.out.trans hy1).size
      have HY2 := Lib.hid (hy1.trans hb2)
      obtain ⟨xn, hxn⟩ : ∃ xn, xs.length = xn := ⟨_, rfl⟩
      rw [hxn] at hve
      have HXN := Lib.hid hxn
      subst hve
      clear hy1 hb2 hv hxn
      go_simp
      refine ⟨HY2.out, ?_⟩
      refine wpAnyP_one (i := 20) (by kernel_rfl) ?_
      intro Y3 hy3
      go_simp
      refine ⟨HY2.out.trans hy3, ?_⟩
      refine wpAnyP_one (i := 21) (by kernel_rfl) ?_
      intro Y4 hy4
      go_simp
      have hlit : (Y4.alloc (.cells #[.string pk, .slice xa xn xc, .int .i64 o, .int .i64 num, .int .i64 ak, .float .f64 ax, .int .i64 a2, .string az] 72)).heap[Y4.heap.size]? = some (.cells ([Value.string pk, .slice xa xn xc, .int .i64 o, .int .i64 num, .int .i64 ak, .float .f64 ax, .int .i64 a2, .string az]).toArray 72 (0, 0)) := heap_alloc_new Y4 _
      have hbl := (Bl.refl Y4).alloc (.cells #[.string pk, .slice xa xn xc, .int .i64 o, .int .i64 num, .int .i64 ak, .float .f64 ax, .int .i64 a2, .string az] 72)
      have HS := Lib.hid (SG.lit (size := 8) hlit rfl (by simp [Value.oneCell']))
      have HY5 := Lib.hid (HY2.out.trans (hy3.trans (hy4.trans hbl)))
      have HV5 := Lib.hid (HV.out.keep (hy3.trans (hy4.trans hbl)))
      clear hlit hbl hy3 hy4 HY2 HV
      generalize Y4.alloc _ = Y5 at *
      generalize Y4.heap.size = gl at *
      refine ⟨HY5.out, ?_⟩
      refine wpAnyP_one (i := 22) (by kernel_rfl) ?_
      intro Y6 hy6
      have HS6 := Lib.hid (HS.out.keep hy6)
      have HZ6 := Lib.hid (HY5.out.trans hy6)
      have HV6 := Lib.hid (HV5.out.keep hy6)
      have HO6 := Lib.hid (HOVZ.out.keep (HY5.out.trans hy6))
      clear hy6 HS HY5 HV5
      refine pOp_appG rfl rfl _ _ _ rfl el_vers W.heap.size (.slice va k vc) k (flat ys) rfl HO6.out.row (HBP.out.trans HZ6.out).size (some ⟨gl, 0, none⟩) 1 1 _ rfl HS6.out (by unfold maxLen; omega) (by omega) ?_
      intro v' Y7 ho hgr
      obtain ⟨va', vc', hve⟩ := row_shape' ho
      subst hve
      have HOX : Hid (OVL W.heap.size Y7 va' (k + 1) vc' (ys ++ [⟨pk, xa, xn, xc, xs, o, num, ⟨ak, ax, a2, az⟩⟩])) := Lib.hid (HO6.out.push ⟨pk, xa, xn, xc, xs, o, num, ⟨ak, ax, a2, az⟩⟩ HV6.out HZ1.out HO1.out.blk ho hgr HPO.out hx8)
      have HBY : Hid (Bl W Y7) := Lib.hid (Bl.ownRow (HBP.out.trans HZ6.out) HO6.out.row (Nat.le_refl _) hgr)
      clear ho hgr HS6 HZ6 HBP HO6 HV6 HO1 HZ1
      simp only [Act.put, List.setIfInBounds_toArray]
      refine ⟨fun h => absurd h (by decide), ?_⟩
      refine wpAnyP_one (i := 23) (by kernel_rfl) ?_
      intro Y8 hy8
      go_simp
      refine wpAnyP_done (by kernel_rfl) ?_
      intro Y9 hy9
      have HBN := Lib.hid (HBY.out.trans (hy8.trans hy9))
      have HON := Lib.hid (HOX.out.keep (hy8.trans hy9))
      go_wp2_with fail
      go_roundw
      case rel => exact ⟨k + 1, va', vc', _, by omega, .inr (by trivial), by go_num, HBN.out, rfl, HON.out, by rw [List.map_append, HVER.out, HTV.out]; rfl⟩
      case measure => simp [intOf]; omega
    · obtain rfl : k = wn := by omega
      go_wp2_with fail
      go_ret
      refine ⟨va, k, vc, rfl, ys, HOV.out.wider HB.out.size, ?_, HB.out.trans HBL.out⟩
      rw [HVER.out, List.take_of_length_le (by rw [HW.out.len]; exact Nat.le_refl _), HVT.out]
      cases R
      · have hk0 : k = 0 := by rcases HKR.out with h | h; exact h; cases h
        have : ws = [] := List.eq_nil_of_length_eq_zero (by rw [HW.out.len]; exact hk0)
        rw [this]; rfl
      · rfl
end Go.Proofs.YtfmabjoindlfeaaGreat
end

/- bedrockref5.SameVersions of versions that are the same. By an AI agent. -/
section
set_option linter.unusedVariables false
namespace Go.Proofs.YtfmabjoindlfeaaGreat
open Go.RowKit
attribute [local go_sem] eOp eOper eUpon

set_option maxHeartbeats 3200000 in
set_option maxRecDepth 100000 in
theorem sameVers5_yes (a b : Option Addr) (n ca cb : Nat) (vs : List VerL) (w : World) (hx : VA w a n vs) (hy : VA w b n vs) :
    Calls Tryz.prog 11 #[.slice a n ca, .slice b n cb] w fun e w' => e = .returned (.bool true) ∧ Bl w w' := by
  have hcap := hx.cap
  go_enter Tryz.func11, Tryz.ntmps11
  go_wp2_with fail
  go_loopw [5] (fun i wr => ∃ k : Nat, k ≤ n ∧ i = .int .i64 k ∧ Bl w wr) (fun i _ => n - (intOf i).toNat)
  case atStart => exact ⟨0, Nat.zero_le _, rfl, Bl.refl _⟩
  case round =>
    obtain ⟨k, hk, rfl, hb⟩ := hrel
    by_cases hlt : k < n
    · obtain ⟨bx, ox, rfl, hcx⟩ := hx.cells k hlt
      obtain ⟨by', oy, rfl, hcy⟩ := hy.cells k hlt
      have E := (hcx k hlt).keep hb
      have E2 := (hcy k hlt).keep hb
      clear hcx hcy
      generalize nthR vs k = V at *
      go_wp2_with fail
      refine wp_region_allS (by kernel_rfl) (by kernel_rfl) ?_
      have hb1 := hb.drew
      have E := E.keep ((Bl.refl wr).drew)
      have E2 := E2.keep ((Bl.refl wr).drew)
      generalize wr.drew = W at *
      obtain ⟨va, vn, vc, v1, vI⟩ := E.at_
      obtain ⟨ua, un, uc, u1', uI⟩ := E2.at_
      obtain ⟨p0, p1, p2, p3, p4, p5, p6, p7⟩ := E.all v1
      obtain ⟨q0, q1, q2, q3, q4, q5, q6, q7⟩ := E2.all u1'
      have ok := E.ok
      clear E E2 v1 u1'
      have hO : ∀ m : Ext W, _ := fun m => sameVer_yes V va vn vc ua un uc m.at (vI.keep m.bl) (uI.keep m.bl) ok
      have HO := Lib.hid hO
      clear hO vI uI
      repeat (refine wpS_step (fun K hK => ?_); go_simp; first | (refine hK _ ?_; clear hK K) | (apply Exists.intro; refine ⟨fun m => ?_, hK _ ?_⟩; (exact HO.out m); clear hK K))
      clear p0 p1 p2 p3 p4 p5 p6 p7 q0 q1 q2 q3 q4 q5 q6 q7
      refine wpS_nil ?_
      intro m
      have hb2 := hb1.trans m.bl
      generalize ExtC.at m = W9 at *
      go_wp2_with fail
      go_roundw
      case rel => exact ⟨k + 1, by omega, by go_num, hb2⟩
      case measure => simp [intOf]; omega
    · go_wp2_with fail
      go_ret
      exact ⟨rfl, hb⟩
end Go.Proofs.YtfmabjoindlfeaaGreat
end

/- txn.Same. By an AI agent. -/
section
set_option linter.unusedVariables false
set_option linter.unusedSimpArgs false
namespace Go.Proofs.YtfmabjoindlfeaaGreat
open Go.RowKit

set_option maxHeartbeats 1600000 in
set_option maxRecDepth 100000 in
theorem txEq1_any (p q : ByteArray × ActL) (w : World) (op : WrOk p) (oq : WrOk q) :
    Calls Tryz.prog 44 #[.agg #[.string p.1, .int .i64 p.2.k, .float .f64 p.2.x, .int .i64 p.2.n, .string p.2.s], .agg #[.string q.1, .int .i64 q.2.k, .float .f64 q.2.x, .int .i64 q.2.n, .string q.2.s]] w fun e w' => e = .returned (.bool (decide (p.1 = q.1) && sameA p.2 q.2)) ∧ Bl w w' := by
  have hsf := store_float
  have OP := Lib.hid op.2
  have OQ := Lib.hid oq.2
  obtain ⟨k, ⟨pk, px, pn, ps⟩⟩ := p
  obtain ⟨l, ⟨qk, qx, qn, qs⟩⟩ := q
  have hg := AC.new w _ rfl [.string k, .int .i64 pk, .float .f64 px, .int .i64 pn, .string ps] 63
  have hb := (Bl.refl w).alloc (.cells #[.string k, .int .i64 pk, .float .f64 px, .int .i64 pn, .string ps] 63)
  have hsz : (w.alloc (.cells #[.string k, .int .i64 pk, .float .f64 px, .int .i64 pn, .string ps] 63)).heap.size = w.heap.size + 1 := by simp
  clear op oq
  dsimp only at *
  obtain ⟨R, hR⟩ : ∃ R, (decide (k = l) && sameA ⟨pk, px, pn, ps⟩ ⟨qk, qx, qn, qs⟩) = R := ⟨_, rfl⟩
  rw [hR]
  have HRR := Lib.hid hR
  clear hR
  go_enter Tryz.func44, Tryz.ntmps44
  go_upto_region 1 with fail
  generalize w.alloc _ = W1 at *
  have hg2 := AC.new W1 _ rfl [.string l, .int .i64 qk, .float .f64 qx, .int .i64 qn, .string qs] 63
  have hbb := (Bl.refl W1).alloc (.cells #[.string l, .int .i64 qk, .float .f64 qx, .int .i64 qn, .string qs] 63)
  rw [hsz] at hg2
  have hg1 := hg.keep hbb
  have hb1 := hb.trans hbb
  clear hg hb hbb hsz
  generalize W1.alloc _ = W at *
  generalize w.heap.size = g1 at *
  have c0 := hg1.cell 0 _ rfl
  have c1 := hg1.cell 1 _ rfl
  have c2 := hg1.cell 2 _ rfl
  have c3 := hg1.cell 3 _ rfl
  have c4 := hg1.cell 4 _ rfl
  have e0 := hg2.cell 0 _ rfl
  have e1 := hg2.cell 1 _ rfl
  have e2 := hg2.cell 2 _ rfl
  have e3 := hg2.cell 3 _ rfl
  have e4 := hg2.cell 4 _ rfl
  have HB := Lib.hid hb1
  clear hg1 hg2 hb1
  by_cases h1 : k = l
  case neg =>
    have q1 : (k.toList == l.toList) = false := by rw [beq_eq_false_iff_ne]; exact fun e => h1 (toList_inj e)
    have HF : Hid (R = false) := Lib.hid (by rw [← HRR.out, decide_eq_false h1]; rfl)
    clear h1 HRR
    go_wp2_with fail
    go_ret
    exact ⟨ret_bool HF.out.symm, HB.out⟩
  subst h1
  have q1 : (k.toList == k.toList) = true := by simp
  have HR : Hid (sameA ⟨pk, px, pn, ps⟩ ⟨qk, qx, qn, qs⟩ = R) := Lib.hid (by rw [← HRR.out, decide_eq_true rfl]; rfl)
  clear HRR
  go_wp2_with fail
  refine (sameA_agg pk px pn ps qk qx qn qs R _ HR OP OQ).mono ?_
  rintro e w2 ⟨rfl, hb2⟩
  go_wp2_with fail
  go_ret
  exact ⟨rfl, HB.out.trans hb2⟩
set_option maxHeartbeats 3200000 in
set_option maxRecDepth 100000 in
theorem equalW_any (a : Option Addr) (n c : Nat) (xs : List (ByteArray × ActL)) (b : Option Addr) (m d : Nat) (ys : List (ByteArray × ActL)) (w : World) (hx : WW w a n xs) (hy : WW w b m ys) :
    Calls Tryz.prog 43 #[.slice a n c, .slice b m d, .func (.func 44) #[] #[]] w fun e w' => e = .returned (.bool (sameWs xs ys)) ∧ Bl w w' := by
  have hsf := store_float
  have hcap := hx.cap
  have HX := Lib.hid hx
  have HY := Lib.hid hy
  have HL := Lib.hid hx.len
  have HM := Lib.hid hy.len
  clear hx hy
  by_cases hnm : n = m
  case neg =>
    have hF : sameWs xs ys = false := by
      cases h : sameWs xs ys
      · rfl
      · exact absurd (by rw [← HL.out, ← HM.out]; exact (sameWs_iff.1 h).1) hnm
    rw [hF]
    have q1 : ((n : Int) != (m : Int)) = true := by rw [bne_iff_ne]; omega
    clear hnm hF
    go_enter Tryz.func43, Tryz.ntmps43
    go_wp2_with fail
    go_ret
    exact ⟨rfl, Bl.refl _⟩
  subst hnm
  have q1 : ((n : Int) != (n : Int)) = false := by simp
  go_enter Tryz.func43, Tryz.ntmps43
  go_wp2_with fail
  clear q1
  go_loopw [17] (fun i wr => ∃ k : Nat, k ≤ n ∧ i = .int .i64 k ∧ Bl w wr ∧ ∀ j, j < k → (nthW xs j).1 = (nthW ys j).1 ∧ sameA (nthW xs j).2 (nthW ys j).2 = true) (fun i _ => n - (intOf i).toNat)
  case atStart => exact ⟨0, Nat.zero_le _, rfl, Bl.refl _, fun j hj => absurd hj (Nat.not_lt_zero _)⟩
  case round =>
    obtain ⟨k, hk, rfl, hbl, hok⟩ := hrel
    have HBL := Lib.hid hbl
    have HOK := Lib.hid hok
    clear hbl hok
    by_cases hlt : k < n
    · have hkx : k < xs.length := by rw [HL.out]; exact hlt
      have hky : k < ys.length := by rw [HM.out]; exact hlt
      obtain ⟨ba, oa, rfl, _⟩ := HX.out.cells k hlt
      obtain ⟨bb, ob, rfl, _⟩ := HY.out.cells k hlt
      obtain ⟨c0, c1, c2, c3, c4⟩ := HX.out.get HBL.out hlt
      have HD := Lib.hid (fun W (hb : Bl w W) => HY.out.get hb hlt)
      have HOP := Lib.hid (HX.out.ok _ (nthW_mem hkx))
      have HOQ := Lib.hid (HY.out.ok _ (nthW_mem hky))
      have HYES : Hid ((nthW xs k).1 = (nthW ys k).1 → sameA (nthW xs k).2 (nthW ys k).2 = true → ∀ j, j < k + 1 → (nthW xs j).1 = (nthW ys j).1 ∧ sameA (nthW xs j).2 (nthW ys j).2 = true) := Lib.hid (fun h1 h2 j hj => by
        rcases Nat.lt_succ_iff_lt_or_eq.1 hj with h | rfl
        · exact HOK.out j h
        · exact ⟨h1, h2⟩)
      have HNO : Hid (¬ ((nthW xs k).1 = (nthW ys k).1 ∧ sameA (nthW xs k).2 (nthW ys k).2 = true) → sameWs xs ys = false) := Lib.hid (fun h => by
        cases h2 : sameWs xs ys
        · rfl
        · exact absurd ((sameWs_iff.1 h2).2 k hkx) h)
      clear hkx hky HOK
      generalize nthW xs k = p at *
      generalize nthW ys k = q at *
      have HS := Lib.hid (fun w => txEq1_any p q w HOP.out HOQ.out)
      obtain ⟨pk, ⟨ak, ax, an, az⟩⟩ := p
      obtain ⟨qk, ⟨bk, bx, bn, bz⟩⟩ := q
      dsimp only at c0 c1 c2 c3 c4 HS HYES HNO
      have hgp := AC.new wr _ rfl [.string pk, .int .i64 ak, .float .f64 ax, .int .i64 an, .string az] 63
      have hbp := (Bl.refl wr).alloc (.cells #[.string pk, .int .i64 ak, .float .f64 ax, .int .i64 an, .string az] 63)
      go_upto_region 6 with fail
      clear c0 c1 c2 c3 c4
      have hsz : (wr.alloc (.cells #[.string pk, .int .i64 ak, .float .f64 ax, .int .i64 an, .string az] 63)).heap.size = wr.heap.size + 1 := by simp
      generalize wr.alloc _ = V at *
      obtain ⟨c0, c1, c2, c3, c4⟩ := HD.out V (HBL.out.trans hbp)
      dsimp only at c0 c1 c2 c3 c4
      have hgq := AC.new V _ rfl [.string qk, .int .i64 bk, .float .f64 bx, .int .i64 bn, .string bz] 63
      have hbq := (Bl.refl V).alloc (.cells #[.string qk, .int .i64 bk, .float .f64 bx, .int .i64 bn, .string bz] 63)
      rw [hsz] at hgq
      have hgp2 := hgp.keep hbq
      have HB2 := Lib.hid (HBL.out.trans (hbp.trans hbq))
      go_upto_region 7 with fail
      clear c0 c1 c2 c3 c4 hgp hbp hbq hsz
      generalize V.alloc _ = V2 at *
      generalize wr.heap.size = gp at *
      have x0 := hgp2.cell 0 _ rfl
      have x1 := hgp2.cell 1 _ rfl
      have x2 := hgp2.cell 2 _ rfl
      have x3 := hgp2.cell 3 _ rfl
      have x4 := hgp2.cell 4 _ rfl
      have y0 := hgq.cell 0 _ rfl
      have y1 := hgq.cell 1 _ rfl
      have y2 := hgq.cell 2 _ rfl
      have y3 := hgq.cell 3 _ rfl
      have y4 := hgq.cell 4 _ rfl
      clear hgp2 hgq HD
      obtain ⟨r, hr⟩ : ∃ r, (decide (pk = qk) && sameA ⟨ak, ax, an, az⟩ ⟨bk, bx, bn, bz⟩) = r := ⟨_, rfl⟩
      rw [hr] at HS
      have HR := Lib.hid hr
      clear hr
      go_wp2_with fail
      refine (HS.out _).mono ?_
      rintro e w1 ⟨rfl, hb1⟩
      have HB3 := Lib.hid (HB2.out.trans hb1)
      clear x0 x1 x2 x3 x4 y0 y1 y2 y3 y4 hb1 HB2
      cases r
      · have HF := Lib.hid (HNO.out (fun h => by
          have := HR.out
          rw [decide_eq_true h.1, h.2] at this
          cases this))
        go_wp2_with fail
        go_ret
        exact ⟨ret_bool HF.out.symm, HB3.out⟩
      · have HF : Hid (∀ j, j < k + 1 → (nthW xs j).1 = (nthW ys j).1 ∧ sameA (nthW xs j).2 (nthW ys j).2 = true) := Lib.hid (by
          have := HR.out
          rw [Bool.and_eq_true, decide_eq_true_eq] at this
          exact HYES.out this.1 this.2)
        go_wp2_with fail
        go_roundw
        case rel => exact ⟨k + 1, by omega, by go_num, HB3.out, HF.out⟩
        case measure => simp [intOf]; omega
    · obtain rfl : k = n := by omega
      have HF : Hid (sameWs xs ys = true) := Lib.hid (sameWs_iff.2 ⟨by rw [HL.out, HM.out], fun i hi => HOK.out i (by rw [HL.out] at hi; exact hi)⟩)
      go_wp2_with fail
      go_ret
      exact ⟨ret_bool HF.out.symm, HBL.out⟩
theorem sameT_parts2 {a b : TxnL} (h : sameT a b = true) : a.o = b.o ∧ a.num = b.num ∧ a.prev = b.prev ∧ a.deps = b.deps ∧ a.at_ = b.at_ ∧ sameWs a.ws b.ws = true := by
  unfold sameT at h
  rw [Bool.and_eq_true, Bool.and_eq_true, Bool.and_eq_true, decide_eq_true_eq, decide_eq_true_eq, decide_eq_true_eq] at h
  exact ⟨h.1.1, h.1.2.1, h.1.2.2, h.2.1, h.2.2.1, h.2.2.2⟩
set_option maxHeartbeats 6400000 in
set_option maxRecDepth 100000 in
theorem txSame_any (t r : TxnL) (s u : TxAt) (w : World) (ht : TX w s t) (hr : TX w u r) :
    Calls Tryz.prog 13 #[txV t s, txV r u] w fun e w' => e = .returned (.bool (sameT t r)) ∧ Bl w w' := by
  have HN : Hid (¬ (t.o = r.o ∧ t.num = r.num ∧ t.prev = r.prev ∧ t.deps = r.deps ∧ t.at_ = r.at_ ∧ sameWs t.ws r.ws = true) → sameT t r = false) := Lib.hid (fun h => by
    cases h2 : sameT t r
    · rfl
    · exact absurd (sameT_parts2 h2) h)
  have HY : Hid (t.o = r.o → t.num = r.num → t.prev = r.prev → t.deps = r.deps → t.at_ = r.at_ → sameT t r = sameWs t.ws r.ws) := Lib.hid (fun h1 h2 h3 h4 h5 => by
    unfold sameT; rw [h1, h2, h3, h4, h5]; simp)
  have HT := Lib.hid ht
  have HR := Lib.hid hr
  have hg := AC.new w _ rfl (txCs t s) 26
  have hb := (Bl.refl w).alloc (.cells (txCs t s).toArray 26)
  have hsz : (w.alloc (.cells (txCs t s).toArray 26)).heap.size = w.heap.size + 1 := by simp
  unfold txV
  clear ht hr
  obtain ⟨o, num, prev, ds, xs, ws⟩ := t
  obtain ⟨o', num', prev', ds', xs', ws'⟩ := r
  obtain ⟨da, dn, dc, aa, an, ac, wa, wn, wc⟩ := s
  obtain ⟨da', dn', dc', aa', an', ac', wa', wn', wc'⟩ := u
  unfold txCs at hg hb hsz
  dsimp only at HN HY hg hb hsz ⊢
  go_enter Tryz.func13, Tryz.ntmps13
  go_upto_region 1 with fail
  generalize w.alloc _ = W1 at *
  have hg2 := AC.new W1 _ rfl [.int .i64 o', .int .i64 num', .int .i64 prev', .slice da' dn' dc', .slice aa' an' ac', .slice wa' wn' wc'] 26
  have hbb := (Bl.refl W1).alloc (.cells [Value.int .i64 o', .int .i64 num', .int .i64 prev', .slice da' dn' dc', .slice aa' an' ac', .slice wa' wn' wc'].toArray 26)
  rw [hsz] at hg2
  have hg1 := hg.keep hbb
  have hb1 := hb.trans hbb
  clear hg hb hbb hsz
  generalize W1.alloc _ = W at *
  generalize w.heap.size = g1 at *
  have HG1 := Lib.hid hg1
  have HG2 := Lib.hid hg2
  have HB := Lib.hid hb1
  have c0 := hg1.cell 0 _ rfl
  have c1 := hg1.cell 1 _ rfl
  have c2 := hg1.cell 2 _ rfl
  have c3 := hg1.cell 3 _ rfl
  have c4 := hg1.cell 4 _ rfl
  have c5 := hg1.cell 5 _ rfl
  have e0 := hg2.cell 0 _ rfl
  have e1 := hg2.cell 1 _ rfl
  have e2 := hg2.cell 2 _ rfl
  have e3 := hg2.cell 3 _ rfl
  have e4 := hg2.cell 4 _ rfl
  have e5 := hg2.cell 5 _ rfl
  clear hg1 hg2 hb1
  by_cases h1 : o = o'
  case neg =>
    have q1 : (o == o') = false := by rw [beq_eq_false_iff_ne]; exact h1
    have HF := Lib.hid (HN.out (fun h => h1 h.1))
    clear h1
    go_wp2_with fail
    go_ret
    exact ⟨ret_bool HF.out.symm, HB.out⟩
  have q1 : (o == o') = true := by rw [beq_iff_eq]; exact h1
  by_cases h2 : num = num'
  case neg =>
    have q2 : (num == num') = false := by rw [beq_eq_false_iff_ne]; exact h2
    have HF := Lib.hid (HN.out (fun h => h2 h.2.1))
    clear h1 h2
    go_wp2_with fail
    go_ret
    exact ⟨ret_bool HF.out.symm, HB.out⟩
  have q2 : (num == num') = true := by rw [beq_iff_eq]; exact h2
  by_cases h3 : prev = prev'
  case neg =>
    have q3 : (prev == prev') = false := by rw [beq_eq_false_iff_ne]; exact h3
    have HF := Lib.hid (HN.out (fun h => h3 h.2.2.1))
    clear h1 h2 h3
    go_wp2_with fail
    go_ret
    exact ⟨ret_bool HF.out.symm, HB.out⟩
  have q3 : (prev == prev') = true := by rw [beq_iff_eq]; exact h3
  have HE := Lib.hid (And.intro h1 (And.intro h2 h3))
  clear h1 h2 h3
  go_wp2_with fail
  refine (same_any _ _ _ _ _ _ ds ds' _ (HT.out.deps.keep HB.out) (HR.out.deps.keep HB.out)).mono ?_
  rintro e W2 ⟨rfl, hb2⟩
  have HB2 := Lib.hid (HB.out.trans hb2)
  replace c4 := hb2.cell c4
  replace c5 := hb2.cell c5
  replace e4 := hb2.cell e4
  replace e5 := hb2.cell e5
  clear hb2 c0 c1 c2 c3 e0 e1 e2 e3
  by_cases h4 : ds = ds'
  case neg =>
    have HF := Lib.hid (HN.out (fun h => h4 h.2.2.2.1))
    rw [decide_eq_false h4]
    clear h4
    go_wp2_with fail
    go_ret
    exact ⟨ret_bool HF.out.symm, HB2.out⟩
  have H4 := Lib.hid h4
  rw [decide_eq_true h4]
  clear h4
  go_wp2_with fail
  refine (same_any _ _ _ _ _ _ xs xs' _ (HT.out.at_.keep HB2.out) (HR.out.at_.keep HB2.out)).mono ?_
  rintro e W3 ⟨rfl, hb3⟩
  have HB3 := Lib.hid (HB2.out.trans hb3)
  replace c5 := hb3.cell c5
  replace e5 := hb3.cell e5
  clear hb3 c4 e4
  by_cases h5 : xs = xs'
  case neg =>
    have HF := Lib.hid (HN.out (fun h => h5 h.2.2.2.2.1))
    rw [decide_eq_false h5]
    clear h5
    go_wp2_with fail
    go_ret
    exact ⟨ret_bool HF.out.symm, HB3.out⟩
  have HF := Lib.hid (HY.out HE.out.1 HE.out.2.1 HE.out.2.2 H4.out h5)
  rw [decide_eq_true h5]
  clear h5
  go_wp2_with fail
  refine (equalW_any _ _ _ ws _ _ _ ws' _ (HT.out.ws.keep HB3.out) (HR.out.ws.keep HB3.out)).mono ?_
  rintro e W4 ⟨rfl, hb4⟩
  have HB4 := Lib.hid (HB3.out.trans hb4)
  clear hb4 c5 e5
  rw [← HF.out]
  go_wp2_with fail
  go_ret
  exact ⟨rfl, HB4.out⟩
end Go.Proofs.YtfmabjoindlfeaaGreat
end

/- what txn.Fold keeps: its map, its row. By an AI agent. -/
section
set_option linter.unusedVariables false
set_option linter.unusedSimpArgs false
namespace Go.Proofs.YtfmabjoindlfeaaGreat
open Go.RowKit Go.Maps

theorem klit_inj {a b : ByteArray} (h : klit a = klit b) : a = b := by
  simp only [klit, Lit.string.injEq] at h
  exact toList_inj (by rw [ByteArray.toList_eq, ByteArray.toList_eq]; exact h)
/-- the map of the places of keys -/
structure MapOf (D : DataW Unit) (out : List (ByteArray × ActL)) : Prop where
  is : Maps.IsMap D
  has : ∀ key, Maps.has D (klit key) = out.any (fun q => decide (q.1 = key))
  at_ : ∀ i, i < out.length → ∀ z, D.atKey (klit (nthW out i).1) z = .lit (.int .i64 i)
theorem MapOf.nil : MapOf (.map []) [] := ⟨⟨[], rfl⟩, fun key => rfl, fun i h => absurd h (Nat.not_lt_zero _)⟩
theorem nthW_app {out : List (ByteArray × ActL)} {p : ByteArray × ActL} {i : Nat} (h : i < out.length) : nthW (out ++ [p]) i = nthW out i := by
  rw [nthW_eq (by simp; omega), nthW_eq h, List.getElem_append_left h]
theorem nthW_last (out : List (ByteArray × ActL)) (p : ByteArray × ActL) : nthW (out ++ [p]) out.length = p := by
  rw [nthW_eq (by simp)]; simp
theorem MapOf.put {D : DataW Unit} {out : List (ByteArray × ActL)} (h : MapOf D out) (p : ByteArray × ActL) (hn : out.any (fun q => decide (q.1 = p.1)) = false) :
    MapOf (D.put (klit p.1) (.lit (.int .i64 out.length))) (out ++ [p]) := by
  have hk : WideAt.IsKeyLit (klit p.1) := trivial
  refine ⟨h.is.put _ _, fun key => ?_, fun i hi z => ?_⟩
  · by_cases e : key = p.1
    · subst e
      rw [has_put_same h.is hk, List.any_append]
      simp
    · rw [has_put_other (fun q => e (klit_inj q)), h.has, List.any_append]
      simp [Ne.symm e]
  · rw [List.length_append, List.length_singleton] at hi
    by_cases e : i < out.length
    · have hne : (nthW out i).1 ≠ p.1 := fun q => by
        have h1 := List.any_eq_false.1 hn _ (nthW_mem e)
        simp [q] at h1
      rw [nthW_app e, atKey_put_other (fun q => hne (klit_inj q)), h.at_ i e]
    · obtain rfl : i = out.length := by omega
      rw [nthW_last, atKey_put_same h.is hk]
theorem any_keys (out : List (ByteArray × ActL)) (key : ByteArray) : out.any (fun q => decide (q.1 = key)) = (out.map (·.1)).any (fun q => decide (q = key)) := by
  rw [List.any_map]; rfl
theorem nthW_key {a b : List (ByteArray × ActL)} (h : a.map (·.1) = b.map (·.1)) {i : Nat} (hi : i < a.length) : (nthW a i).1 = (nthW b i).1 := by
  have hl := congrArg List.length h
  rw [List.length_map, List.length_map] at hl
  have := List.getElem_of_eq h (i := i) (by simpa using hi)
  rw [nthW_eq hi, nthW_eq (by omega)]
  simpa using this
theorem MapOf.same {D : DataW Unit} {a b : List (ByteArray × ActL)} (h : MapOf D a) (e : a.map (·.1) = b.map (·.1)) : MapOf D b := by
  refine ⟨h.is, fun key => by rw [h.has, any_keys, any_keys, e], fun i hi z => ?_⟩
  have hl := congrArg List.length e
  rw [List.length_map, List.length_map] at hl
  rw [← nthW_key e (by omega)]
  exact h.at_ i (by omega) z
/-- the place of a key that is there -/
theorem MapOf.find {D : DataW Unit} {out : List (ByteArray × ActL)} (h : MapOf D out) {key : ByteArray} (hh : Maps.has D (klit key) = true) {c : Int} {z : DataW Unit} (hc : D.atKey (klit key) z = .lit (.int .i64 c)) :
    ∃ i : Nat, i < out.length ∧ c = (i : Int) ∧ (nthW out i).1 = key := by
  rw [h.has] at hh
  obtain ⟨q, hq, e⟩ := List.any_eq_true.1 hh
  obtain ⟨i, hi, rfl⟩ := List.getElem_of_mem hq
  have e' : (nthW out i).1 = key := by rw [nthW_eq hi]; simpa using e
  have := h.at_ i hi z
  rw [e', hc] at this
  simp only [DataW.lit.injEq, Lit.int.injEq, true_and] at this
  exact ⟨i, hi, this, e'⟩
theorem addW_set {out : List (ByteArray × ActL)} {p : ByteArray × ActL} {i : Nat} (hi : i < out.length) (e : (nthW out i).1 = p.1) (hd : (out.map (·.1)).Nodup) : addW out p = out.set i (p.1, bothL p.1 (nthW out i).2 p.2) := by
  have hm : p.1 ∈ out.map (·.1) := List.mem_map.2 ⟨nthW out i, nthW_mem hi, e⟩
  rw [addW_old hm]
  refine List.ext_getElem (by simp) fun j h1 h2 => ?_
  rw [List.getElem_map, List.getElem_set]
  rw [List.length_map] at h1
  by_cases ej : i = j
  · subst ej
    have e2 := nthW_eq hi
    rw [e2] at e
    rw [if_pos e, if_pos rfl, e2, e]
  · rw [if_neg ej]
    refine if_neg (fun q => ?_)
    rw [nthW_eq hi] at e
    have hp := List.pairwise_iff_getElem.1 hd
    rcases Nat.lt_or_gt_of_ne ej with h | h
    · exact hp i j (by simpa using hi) (by simpa using h1) h (by simpa using e.trans q.symm)
    · exact hp j i (by simpa using h1) (by simpa using hi) h (by simpa using q.trans e.symm)
theorem addW_fresh {out : List (ByteArray × ActL)} {p : ByteArray × ActL} (h : out.any (fun q => decide (q.1 = p.1)) = false) : addW out p = out ++ [p] := by
  unfold addW
  rw [h]; rfl
theorem foldW_take (ws : List (ByteArray × ActL)) {k : Nat} (hk : k < ws.length) : foldW (ws.take (k + 1)) = addW (foldW (ws.take k)) (nthW ws k) := by
  rw [List.take_succ_eq_append_getElem hk, foldW_snoc, ← nthW_eq hk]
/-- a row of writes, with its block in sight -/
theorem OWR.shape {B : Nat} {w : World} {v : Value} {k : Nat} {ps : List (ByteArray × ActL)} (h : OWR B w v k ps) (hk : 0 < k) : ∃ g ca, v = .slice (some ⟨g, 0, none⟩) k ca ∧ B ≤ g ∧ ∃ cur E, w.heap[g]? = some (.cells cur E (0, 0)) := by
  obtain ⟨h1, ⟨rfl, h2⟩ | ⟨g, cap, cur, rfl, hB, hg, r⟩⟩ := h.2
  · omega
  · exact ⟨g, cap, rfl, hB, cur, _, hg⟩
theorem cellsW_set (ps : List (ByteArray × ActL)) {i : Nat} (hi : i < ps.length) (a : ActL) :
    ((((cellsW ps).set (i * 5 + 1) (.int .i64 a.k)).set (i * 5 + 2) (.float .f64 a.x)).set (i * 5 + 3) (.int .i64 a.n)).set (i * 5 + 4) (.string a.s) = cellsW (ps.set i ((nthW ps i).1, a)) := by
  induction ps generalizing i with
  | nil => simp at hi
  | cons p ps ih =>
    have e1 : cellsW (p :: ps) = writeCs p ++ cellsW ps := by simp [cellsW]
    cases i with
    | zero =>
      rw [e1]
      show _ = cellsW ((p.1, a) :: ps)
      have e2 : cellsW ((p.1, a) :: ps) = writeCs (p.1, a) ++ cellsW ps := by simp [cellsW]
      rw [e2]
      simp [writeCs]
    | succ i =>
      have hi' : i < ps.length := by simpa using hi
      have e3 : nthW (p :: ps) (i + 1) = nthW ps i := by unfold nthW; simp
      have e4 : cellsW ((p :: ps).set (i + 1) ((nthW (p :: ps) (i + 1)).1, a)) = writeCs p ++ cellsW (ps.set i ((nthW ps i).1, a)) := by rw [e3]; simp [cellsW]
      rw [e4, ← ih hi', e1]
      have hl : (writeCs p).length = 5 := rfl
      have key : ∀ (cs : List Value) r u, (writeCs p ++ cs).set ((i + 1) * 5 + r) u = writeCs p ++ cs.set (i * 5 + r) u := fun cs r u => by
        rw [List.set_append_right _ _ (by rw [hl]; omega), hl, show (i + 1) * 5 + r - 5 = i * 5 + r by omega]
      rw [key, key, key, key]
/-- the cells of a place's act, and a new act there -/
theorem OWR.setAct {B : Nat} {w : World} {g k ca : Nat} {ps : List (ByteArray × ActL)} (h : OWR B w (.slice (some ⟨g, 0, none⟩) k ca) k ps) {i : Nat} (hi : i < k) (a : ActL) :
    OWR B ((((w.setCell ⟨g, i * 5 + 1, none⟩ (.int .i64 a.k)).setCell ⟨g, i * 5 + 2, none⟩ (.float .f64 a.x)).setCell ⟨g, i * 5 + 3, none⟩ (.int .i64 a.n)).setCell ⟨g, i * 5 + 4, none⟩ (.string a.s)) (.slice (some ⟨g, 0, none⟩) k ca) k (ps.set i ((nthW ps i).1, a)) := by
  have h1 := (World.ownsRow.stored h.2 (i * 5 + 1) (.int .i64 a.k)).1
  have h2 := (World.ownsRow.stored h1 (i * 5 + 2) (.float .f64 a.x)).1
  have h3 := (World.ownsRow.stored h2 (i * 5 + 3) (.int .i64 a.n)).1
  have h4 := (World.ownsRow.stored h3 (i * 5 + 4) (.string a.s)).1
  refine ⟨by rw [List.length_set]; exact h.1, ?_⟩
  rw [← cellsW_set ps (by rw [h.1]; exact hi)]
  exact h4
end Go.Proofs.YtfmabjoindlfeaaGreat
end

/- txn.Fold. By an AI agent. -/
section
set_option linter.unusedVariables false
set_option linter.unusedSimpArgs false
namespace Go.Proofs.YtfmabjoindlfeaaGreat
open Go.RowKit Go.Maps
attribute [local go_sem] eOp eOper eUpon pOp pOper pUpon

theorem zero_int (w : World) : (zeroValue 3).run Tryz.prog w = .ok (.int .i64 0) w := by kernel_rfl
theorem int_wf {m : Nat} (h : m ≤ 140737488351232) : (Lit.int .i64 (m : Int)).wf = true := by
  have h1 : IntKind.i64.min = -9223372036854775808 := by decide
  have h2 : IntKind.i64.max = 9223372036854775807 := by decide
  show (decide (IntKind.i64.min ≤ (m : Int)) && decide ((m : Int) ≤ IntKind.i64.max)) = true
  rw [h1, h2, decide_eq_true (show (-9223372036854775808 : Int) ≤ m by omega), decide_eq_true (show (m : Int) ≤ 9223372036854775807 by omega)]
  rfl
theorem AC.grownM {w w' : World} {g : Nat} {cs : List Value} {row : Option Nat} (h : AC w g cs) (hg : w.grownBy w' row) (hn : some g ≠ row) : AC w' g cs := by
  obtain ⟨t, h⟩ := h
  exact ⟨t, by rw [hg.block g (lt_of_heap h) hn]; exact h⟩
theorem own_kept {w w' : World} {B size n : Nat} {E : TypeId} {v : Value} {cs : List Value} {row : Option Nat} (h : w.ownsRow B E size v n cs) (hg : w.grownBy w' row) (hn : ∀ b, v.ownBlock = some b → some b ≠ row) : w'.ownsRow B E size v n cs := by
  obtain ⟨h1, h2 | ⟨g, cap, cur, hv, hB, hh, r⟩⟩ := h
  · exact ⟨h1, .inl h2⟩
  · exact ⟨h1, .inr ⟨g, cap, cur, hv, hB, by rw [hg.block g (lt_of_heap hh) (hn g (by rw [hv]; rfl))]; exact hh, r⟩⟩
/-- Fold's state: the row and the map of its keys' places -/
structure FoldSt (w W : World) (v : Value) (k : Nat) (out : List (ByteArray × ActL)) : Prop where
  bl : Bl w W
  ow : OWR (w.heap.size + 1) W v out.length out
  nd : (out.map (·.1)).Nodup
  le : out.length ≤ k
  mp : ∃ D : DataW Unit, W.ownsMap Tryz.prog 9 (plainElem Tryz.prog 3) w.heap.size k D ∧ MapOf D out
theorem FoldSt.keep {w W W' : World} {v : Value} {k : Nat} {out : List (ByteArray × ActL)} (h : FoldSt w W v k out) (hb : Bl W W') : FoldSt w W' v k out := by
  obtain ⟨D, hD, hM⟩ := h.mp
  exact ⟨h.bl.trans hb, h.ow.keep hb, h.nd, h.le, D, ownsMap_bl hD hb, hM⟩
theorem FoldSt.lt {w W : World} {v : Value} {k : Nat} {out : List (ByteArray × ActL)} (h : FoldSt w W v k out) : w.heap.size + 1 ≤ W.heap.size := by
  obtain ⟨D, hD, hM⟩ := h.mp
  exact hD.lt
theorem FoldSt.new (w : World) : FoldSt w (w.alloc (.map #[] 0)) (.slice none 0 0) 0 [] :=
  ⟨(Bl.refl w).alloc _, OWR.nil _ _, List.nodup_nil, Nat.le_refl _, .map [], World.ownsMap_made _ _ _ _, MapOf.nil⟩
/-- a key that is new is laid into the map, and its write put behind the others -/
theorem FoldSt.app {w W W' : World} {v v' : Value} {k : Nat} {out : List (ByteArray × ActL)} {p : ByteArray × ActL} {D : DataW Unit} (bl : Bl w W) (ow : OWR (w.heap.size + 1) W v out.length out) (nd : (out.map (·.1)).Nodup) (le : out.length ≤ k)
    (mp : W.ownsMap Tryz.prog 9 (plainElem Tryz.prog 3) w.heap.size (k + 1) D) (mo : MapOf D (out ++ [p])) (hn : p.1 ∉ out.map (·.1))
    (ho : W'.ownsRow (w.heap.size + 1) 63 5 v' (out.length + 1) (cellsW out ++ writeCs p)) (hg : W.grownBy W' v.ownBlock) : FoldSt w W' v' (k + 1) (out ++ [p]) := by
  have e : (out ++ [p]).length = out.length + 1 := by simp
  refine ⟨Bl.ownRow bl ow.2 (Nat.le_succ _) hg, ⟨rfl, by rw [e, cellsW_snoc]; exact ho⟩, ?_, by omega, D, mp.kept hg (fun q => ?_), mo⟩
  · rw [List.map_append]
    exact List.nodup_append.2 ⟨nd, List.nodup_cons.2 ⟨by simp, List.nodup_nil⟩, fun a ha b hb => by simp at hb; subst hb; exact fun e => hn (e ▸ ha)⟩
  · have := (World.ownsRow.lt ow.2 _ q.symm).1
    omega
/-- the act of a place is set anew -/
theorem FoldSt.act {w W : World} {g ca k i : Nat} {out : List (ByteArray × ActL)} {a : ActL} (h : FoldSt w W (.slice (some ⟨g, 0, none⟩) out.length ca) k out) (hi : i < out.length) :
    FoldSt w ((((W.setCell ⟨g, i * 5 + 1, none⟩ (.int .i64 a.k)).setCell ⟨g, i * 5 + 2, none⟩ (.float .f64 a.x)).setCell ⟨g, i * 5 + 3, none⟩ (.int .i64 a.n)).setCell ⟨g, i * 5 + 4, none⟩ (.string a.s)) (.slice (some ⟨g, 0, none⟩) out.length ca) (k + 1) (out.set i ((nthW out i).1, a)) := by
  obtain ⟨D, hD, hM⟩ := h.mp
  have hB : w.heap.size + 1 ≤ g := (World.ownsRow.lt h.ow.2 g rfl).1
  have ek : (out.set i ((nthW out i).1, a)).map (·.1) = out.map (·.1) := by
    rw [List.map_set]
    refine List.ext_getElem (by simp) fun j h1 h2 => ?_
    rw [List.getElem_set]
    split
    · rename_i e; subst e; rw [List.getElem_map, nthW_eq hi]
    · rfl
  have el : (out.set i ((nthW out i).1, a)).length = out.length := List.length_set
  have hbl : ∀ (X : World) o u, Bl w X → Bl w (X.setCell ⟨g, o, none⟩ u) := fun X o u hb => Below.setCell (p := ⟨g, o, none⟩) hb (by show w.heap.size ≤ g; omega) u
  have hmp : ∀ (X : World) o u n, X.ownsMap Tryz.prog 9 (plainElem Tryz.prog 3) w.heap.size n D → (X.setCell ⟨g, o, none⟩ u).ownsMap Tryz.prog 9 (plainElem Tryz.prog 3) w.heap.size n D := fun X o u n hx => hx.setCell (a := ⟨g, o, none⟩) (by show w.heap.size ≠ g; omega) u
  refine ⟨hbl _ _ _ (hbl _ _ _ (hbl _ _ _ (hbl _ _ _ h.bl))), ?_, by rw [ek]; exact h.nd, by rw [el]; have := h.le; omega, D, (hmp _ _ _ _ (hmp _ _ _ _ (hmp _ _ _ _ (hmp _ _ _ _ hD)))).mono (Nat.le_succ _), hM.same ek.symm⟩
  rw [el]
  exact OWR.setAct h.ow hi a
set_option maxHeartbeats 6400000 in
set_option maxRecDepth 100000 in
theorem tfold_any (a : Option Addr) (n c : Nat) (ws : List (ByteArray × ActL)) (w : World) (h : WW w a n ws) :
    Calls Tryz.prog 22 #[.slice a n c] w fun e w' => ∃ v, e = .returned v ∧ OWR w.heap.size w' v (foldW ws).length (foldW ws) ∧ Bl w w' := by
  have hmm := @run_makeMap Tryz.prog
  have hsf := store_float
  have hcap := h.cap
  have HW := Lib.hid h
  have HL := Lib.hid h.len
  have G := FoldSt.new w
  clear h
  go_enter Tryz.func22, Tryz.ntmps22
  go_wp2_with fail
  generalize w.alloc (.map #[] 0) = W at *
  have HG := Lib.hid G
  clear G
  generalize hgm : w.heap.size = gm at *
  have HGM := Lib.hid hgm
  clear hgm
  go_loopw [3, 12] (fun v i wr => ∃ k : Nat, k ≤ n ∧ i = .int .i64 k ∧ FoldSt w wr v k (foldW (ws.take k))) (fun _ i _ => n - (intOf i).toNat)
  case atStart => exact ⟨0, Nat.zero_le _, rfl, HG.out⟩
  case round =>
    clear HG
    obtain ⟨k, hkn, rfl, hb⟩ := hrel
    have HB := Lib.hid hb
    have hle := hb.le
    obtain ⟨va, vc, hve⟩ := OWR.form hb.ow
    subst hve
    clear hb
    by_cases hlt : k < n
    · have hkl : k < ws.length := by rw [HL.out]; exact hlt
      have HST := Lib.hid (foldW_take ws hkl)
      have HOKF := Lib.hid (foldW_okW (ws := ws.take k) (fun p hp => HW.out.ok p (List.mem_of_mem_take hp)))
      have HOK := Lib.hid (HW.out.ok _ (nthW_mem hkl))
      obtain ⟨ba, oa, rfl, _⟩ := HW.out.cells k hlt
      obtain ⟨c0, c1, c2, c3, c4⟩ := HW.out.get HB.out.bl hlt
      clear hkl
      generalize foldW (ws.take k) = out at *
      generalize nthW ws k = p at *
      obtain ⟨pk, ⟨ak, ax, an, az⟩⟩ := p
      dsimp only at c0 c1 c2 c3 c4
      have hkey := key_klit HOK.out.1
      have hgp := AC.new wr _ rfl [.string pk, .int .i64 ak, .float .f64 ax, .int .i64 an, .string az] 63
      have hbp := (Bl.refl wr).alloc (.cells #[.string pk, .int .i64 ak, .float .f64 ax, .int .i64 an, .string az] 63)
      go_upto_region 6 with fail
      clear c0 c1 c2 c3 c4
      generalize wr.alloc _ = V at *
      have HGP := Lib.hid hgp
      have HB1 := Lib.hid (HB.out.keep hbp)
      have HBL := HB
      clear hgp hbp HB
      have HGPN : Hid (w.heap.size < wr.heap.size) := Lib.hid (by have := HBL.out.lt; omega)
      clear HBL
      generalize wr.heap.size = gp at *
      have p0 := HGP.out.cell 0 _ rfl
      obtain ⟨D, hD, hM⟩ := HB1.out.mp
      rw [HGM.out] at hD
      have HM := Lib.hid hM
      clear hM
      go_upto_region 7 with (at_lookup; refine wpList_lookup_own_ok_int _ rfl _ _ 132 rfl 9 3 .i64 str_law Tryz.underlying132 Tryz.underlying3 (zero_int _) gm k _ rfl hD _ _ rfl hkey ?_; intro c hat hwc)
      have HAT := Lib.hid hat
      clear hat hwc
      cases hh : Maps.has D (klit pk)
      · have HNO : Hid (out.any (fun q => decide (q.1 = pk)) = false) := Lib.hid (by rw [← HM.out.has]; exact hh)
        have HPUT := Lib.hid (HM.out.put (pk, ⟨ak, ax, an, az⟩) HNO.out)
        have HST2 : Hid (foldW (ws.take (k + 1)) = out ++ [(pk, ⟨ak, ax, an, az⟩)]) := Lib.hid (by rw [HST.out]; exact addW_fresh HNO.out)
        have hkw : k ≤ 140737488351232 := by omega
        have HNK : Hid (pk ∉ out.map (·.1)) := Lib.hid (fun q => by rw [any_key.2 q] at HNO; exact absurd HNO.out (by decide))
        have HND := Lib.hid HB1.out.nd
        clear HST HM HAT hh
        go_upto_region 9 with (at_mapUpdate; refine wpList_mapUpdate_own _ rfl _ _ _ 132 rfl 9 3 str_law Tryz.underlying132 (plainElem Tryz.prog 3) gm k _ rfl hD (by unfold maxLen; omega) _ _ _ rfl rfl hkey (.lit (.int .i64 out.length)) [] (plainElem_int Tryz.underlying3 (int_wf (by omega))) ?_; intro V2 hD2 hgr2)
        have hbw : w.heap.size + 1 ≤ V.heap.size := HB1.out.lt
        have HB2 : Hid (Bl w V2) := Lib.hid (Below.grown HB1.out.bl hgr2 HB1.out.bl.size (fun j hj => by cases hj; exact Nat.le_of_eq HGM.out))
        have HO2 := Lib.hid (own_kept HB1.out.ow.2 hgr2 (fun b hb e => by have h1 := (World.ownsRow.lt HB1.out.ow.2 b hb).1; have h2 := HGM.out; simp only [Option.some.injEq] at e; omega))
        have HG2 := Lib.hid (HGP.out.grownM hgr2 (fun e => by have h2 := HGM.out; simp only [Option.some.injEq] at e; have := HGPN.out; omega))
        have HD2 := Lib.hid hD2
        clear hgr2 hD2 hD HGP p0 hbw
        have q0 := HG2.out.cell 0 _ rfl
        have q1 := HG2.out.cell 1 _ rfl
        have q2 := HG2.out.cell 2 _ rfl
        have q3 := HG2.out.cell 3 _ rfl
        have q4 := HG2.out.cell 4 _ rfl
        have hlit : (V2.alloc (.cells #[.string pk, .int .i64 ak, .float .f64 ax, .int .i64 an, .string az] 63)).heap[V2.heap.size]? = some (.cells (writeCs (pk, ⟨ak, ax, an, az⟩)).toArray 63 (0, 0)) := heap_alloc_new V2 _
        have hoa : (V2.alloc (.cells #[.string pk, .int .i64 ak, .float .f64 ax, .int .i64 an, .string az] 63)).ownsRow (w.heap.size + 1) 63 5 (.slice va out.length vc) out.length (cellsW out) := ownsRow_bl HO2.out ((Bl.refl V2).alloc _)
        have HS := Lib.hid (SG.lit (size := 5) hlit rfl (by simp [writeCs, Value.oneCell']))
        have HBA := Lib.hid (HB2.out.alloc (.cells #[.string pk, .int .i64 ak, .float .f64 ax, .int .i64 an, .string az] 63))
        have HDA := Lib.hid (HD2.out.alloc (.cells #[.string pk, .int .i64 ak, .float .f64 ax, .int .i64 an, .string az] 63))
        have hBz : w.heap.size + 1 ≤ (V2.alloc (.cells #[.string pk, .int .i64 ak, .float .f64 ax, .int .i64 an, .string az] 63)).heap.size := by have h1 := HDA.out.lt; have h2 := HGM.out; omega
        clear hlit
        go_wp2_with (at_builtin; refine wpList_appG rfl _ _ _ rfl el_wr (w.heap.size + 1) _ out.length _ rfl hoa ?cB (some ⟨V2.heap.size, 0, none⟩) 1 1 _ rfl HS.out ?cM ?cN ?_)
        case cB => exact HB2.out.size
        case cM => unfold maxLen; omega
        case cN => omega
        intro v' V3 ho hgr
        have HF : Hid (FoldSt w V3 v' (k + 1) (out ++ [(pk, ⟨ak, ax, an, az⟩)])) := Lib.hid (FoldSt.app HBA.out ⟨rfl, hoa⟩ HND.out hle (by rw [HGM.out]; exact HDA.out) HPUT.out HNK.out ho hgr)
        clear ho hgr hoa hBz HS HBA HDA q0 q1 q2 q3 q4
        go_wp2_with fail
        go_roundw
        case rel => exact ⟨k + 1, by omega, by go_num, by rw [HST2.out]; exact HF.out⟩
        case measure => simp [intOf]; omega
      · obtain ⟨i, hi, rfl, hik⟩ := HM.out.find hh HAT.out
        obtain ⟨g, gc, hve, hB, cur, E, hcur⟩ := OWR.shape HB1.out.ow (by omega)
        simp only [Value.slice.injEq, true_and] at hve
        obtain ⟨rfl, rfl⟩ := hve
        have HST2 := Lib.hid (HST.out.trans (addW_set hi hik HB1.out.nd))
        have HWI := Lib.hid (HOKF.out _ (nthW_mem hi))
        have HNTH : Hid (nthW out i = nthW out i) := Lib.hid rfl
        have hrow : ∀ r, r < 5 → V.cell? ⟨g, i * 5 + r, none⟩ = (writeCs (nthW out i))[r]? := fun r hr => by
          rw [HB1.out.ow.2.cellAt (i * 5 + r) (by omega), cellsW_get out i hi r hr]
        have h0 := hrow 0 (by decide)
        have h1 := hrow 1 (by decide)
        have h2 := hrow 2 (by decide)
        have h3 := hrow 3 (by decide)
        have h4 := hrow 4 (by decide)
        have HFZ := Lib.hid (fun X hb o => (ownsRow_bl (w' := X) HB1.out.ow.2 hb).frozenAt o)
        have HSET := Lib.hid (fun X hb (a : ActL) => FoldSt.act (a := a) (HB1.out.keep (W' := X) hb) hi)
        have hil : i < 140737488351232 := by omega
        have hlen : out.length < 140737488351232 := by omega
        clear HM HAT hh hD hcur HST p0 hrow HOKF
        generalize hpi : nthW out i = pi at *
        obtain ⟨qk, ⟨bk, bx, bn, bz⟩⟩ := pi
        dsimp only at hik
        subst hik
        simp only [writeCs, List.getElem?_cons_zero, List.getElem?_cons_succ, Nat.add_zero] at h0 h1 h2 h3 h4
        have HQ := Lib.hid hpi
        clear hpi h0
        generalize hon : out.length = on at *
        have HON := Lib.hid hon
        clear hon
        have hi1 : decide (i < on) = true := decide_eq_true hi
        obtain ⟨⟨rk, rx, rn, rs⟩, hR⟩ : ∃ R : ActL, bothL qk ⟨bk, bx, bn, bz⟩ ⟨ak, ax, an, az⟩ = R := ⟨_, rfl⟩
        have HR := Lib.hid hR
        clear hR
        go_upto_region 10 with fail
        refine wp_region_panicsT [0, 1, 2, 3, 4, 5, 6, 7, 8, 9, 10, 11, 12, 13] 1 (Bl V.drew) (fun _ _ h k => h.trans k) (Bl.refl _) [14] (fun c W' => False) ?hR (by kernel_rfl) rfl (by kernel_rfl) (by kernel_rfl) (by kernel_rfl) ?_
        case hR => intro c tt W' h; exact h.elim
        have HBZ := Lib.hid ((Bl.refl V).drew)
        generalize V.drew = Z at *
        haveI : Nonempty (ExtC (Bl Z)) := ⟨⟨Z, Bl.refl _⟩⟩
        have k0 : ∀ q : ExtC (Bl Z), _ := fun q => (HGP.out.keep (HBZ.out.trans q.ok)).cell 0 _ rfl
        have k1 : ∀ q : ExtC (Bl Z), _ := fun q => (HGP.out.keep (HBZ.out.trans q.ok)).cell 1 _ rfl
        have k2 : ∀ q : ExtC (Bl Z), _ := fun q => (HGP.out.keep (HBZ.out.trans q.ok)).cell 2 _ rfl
        have k3 : ∀ q : ExtC (Bl Z), _ := fun q => (HGP.out.keep (HBZ.out.trans q.ok)).cell 3 _ rfl
        have k4 : ∀ q : ExtC (Bl Z), _ := fun q => (HGP.out.keep (HBZ.out.trans q.ok)).cell 4 _ rfl
        have l1 : ∀ q : ExtC (Bl Z), _ := fun q => (HBZ.out.trans q.ok).cell h1
        have l2 : ∀ q : ExtC (Bl Z), _ := fun q => (HBZ.out.trans q.ok).cell h2
        have l3 : ∀ q : ExtC (Bl Z), _ := fun q => (HBZ.out.trans q.ok).cell h3
        have l4 : ∀ q : ExtC (Bl Z), _ := fun q => (HBZ.out.trans q.ok).cell h4
        have HBO := Lib.hid (fun w => both_agg qk bk bx bn bz ak ax an az rk rx rn rs w HR HOK.out.1 (Lib.hid HWI.out.2) (Lib.hid HOK.out.2))
        have H14 := Lib.hid (And.intro h1 (And.intro h2 (And.intro h3 h4)))
        clear h1 h2 h3 h4
        repeat (refine wpI_step rfl (fun K hK => ?_); go_simp; first | (refine hK _ ?_; clear hK K) | (apply Exists.intro; refine ⟨fun q => ?_, hK _ ?_⟩; (with_reducible exact HBO.out _); clear hK K))
        refine wpI_nil ?_
        clear k0 k1 k2 k3 k4 l1 l2 l3 l4 HBO this
        refine wpAnyP_one (i := 14) (by kernel_rfl) ?_
        intro Y1 hy1
        have hby := HBZ.out.trans hy1
        have l1 := hby.cell H14.out.1
        have l2 := hby.cell H14.out.2.1
        have l3 := hby.cell H14.out.2.2.1
        have l4 := hby.cell H14.out.2.2.2
        have fz := HFZ.out Y1 hby
        have HS1 := Lib.hid (HSET.out Y1 hby ⟨rk, rx, rn, rs⟩)
        go_simp
        clear l1 l2 l3 l4 fz hby hy1
        refine wpAnyP_done (by kernel_rfl) ?_
        intro Y2 hy2
        have HS2 := Lib.hid (FoldSt.keep HS1.out hy2)
        have HON2 : Hid ((out.set i ((qk, (⟨bk, bx, bn, bz⟩ : ActL)).1, ⟨rk, rx, rn, rs⟩)).length = on) := Lib.hid (by rw [List.length_set]; exact HON.out)
        have HST3 : Hid (foldW (ws.take (k + 1)) = out.set i ((qk, (⟨bk, bx, bn, bz⟩ : ActL)).1, ⟨rk, rx, rn, rs⟩)) := Lib.hid (by rw [HST2.out, ← HR.out])
        clear HST2 HS1 hy2
        go_wp2_with fail
        go_roundw
        case rel => exact ⟨k + 1, by omega, by go_num, by rw [HST3.out]; exact HS2.out⟩
        case measure => simp [intOf]; omega
    · have hkn2 : k = n := by omega
      subst hkn2
      have e : foldW (ws.take k) = foldW ws := by rw [List.take_of_length_le (by rw [HL.out]; exact Nat.le_refl _)]
      rw [e] at HB ⊢
      clear e
      go_wp2_with fail
      go_ret
      exact ⟨_, rfl, ⟨HB.out.ow.1, own_less HB.out.ow.2 (Nat.le_succ _)⟩, HB.out.bl⟩
end Go.Proofs.YtfmabjoindlfeaaGreat
end
