import Derived.Test.YtfmabjoindlfeaaGreatQTxn2
import Derived.Test.YtfmabjoindlfeaaGreatQTxnTellsUptoP32
import Derived.Test.YtfmabjoindlfeaaGreatQTxnTellsUptoP5
import Derived.Test.YtfmabjoindlfeaaGreatQTxnTellsUptoP29
import Derived.Test.YtfmabjoindlfeaaGreatQTxnTellsUptoP17
import Derived.Test.YtfmabjoindlfeaaGreatQTxnTellsUptoP2

/- how many versions txn.Versions tells. By an AI agent. -/
section
set_option linter.unusedVariables false
set_option linter.unusedSimpArgs false
namespace Go.Proofs.YtfmabjoindlfeaaGreat
open Go.RowKit
attribute [local go_sem] eOp eOper eUpon pOp pOper pUpon

theorem el_ver : EL 47 72 8 96 := el_of Tryz.underlying47 (by kernel_rfl) (by decide)
/-- some row of so many versions -/
def OVN (B : Nat) (w : World) (v : Value) (k : Nat) : Prop := ∃ cs, w.ownsRow B 72 8 v k cs
theorem OVN.keep {B : Nat} {w w' : World} {v : Value} {k : Nat} (h : OVN B w v k) (hb : Bl w w') : OVN B w' v k := by
  obtain ⟨cs, h⟩ := h; exact ⟨cs, ownsRow_bl h hb⟩
theorem OVN.form {B : Nat} {w : World} {v : Value} {k : Nat} (h : OVN B w v k) : ∃ a c, v = .slice a k c := by
  obtain ⟨cs, h1, ⟨rfl, rfl⟩ | ⟨g, cap, cur, rfl, r⟩⟩ := h
  · exact ⟨_, _, rfl⟩
  · exact ⟨_, _, rfl⟩
set_option maxHeartbeats 6400000 in
set_option maxRecDepth 100000 in
theorem txVers_any (t : TxnL) (s : TxAt) (w : World) (h : TX w s t) (hwn : s.wn ≤ 1000000) :
    Calls Tryz.prog 7 #[txV t s] w fun e w' => ∃ a c, e = .returned (.slice a (if validT t = true then s.wn else 0) c) ∧ Bl w w' := by
  obtain ⟨R, hR⟩ : ∃ R, validT t = R := ⟨_, rfl⟩
  rw [hR]
  have HR := Lib.hid hR
  obtain ⟨o, num, prev, ds, xs, ws⟩ := t
  obtain ⟨da, dn, dc, aa, an, ac, wa, wn, wc⟩ := s
  obtain ⟨hd, hx, hw, _, _, _⟩ := h
  have hsf := store_float
  have HD := Lib.hid hd
  have HX := Lib.hid hx
  have HW := Lib.hid hw
  have hg := AC.new w _ rfl [.int .i64 o, .int .i64 num, .int .i64 prev, .slice da dn dc, .slice aa an ac, .slice wa wn wc] 26
  have hb := (Bl.refl w).alloc (.cells [Value.int .i64 o, .int .i64 num, .int .i64 prev, .slice da dn dc, .slice aa an ac, .slice wa wn wc].toArray 26)
  unfold txV
  clear hd hx hw hR
  dsimp only at *
  have c0 := hg.cell 0 _ rfl
  have c1 := hg.cell 1 _ rfl
  have c2 := hg.cell 2 _ rfl
  have c3 := hg.cell 3 _ rfl
  have c4 := hg.cell 4 _ rfl
  have c5 := hg.cell 5 _ rfl
  go_enter Tryz.func7, Tryz.ntmps7
  go_wp2_with fail
  generalize w.alloc _ = W at *
  have HG := Lib.hid hg
  have HB := Lib.hid hb
  clear hg hb
  refine (txValid_hid o num prev da dn dc ds aa an ac xs wa wn wc ws _ (HD.out.keep HB.out) (HX.out.keep HB.out) (HW.out.keep HB.out) R HR).mono ?_
  rintro e W1 ⟨rfl, hb1⟩
  have HG1 := Lib.hid (HG.out.keep hb1)
  have HB1 := Lib.hid (HB.out.trans hb1)
  clear hb1 HG HB c0 c1 c2 c3 c4 c5
  cases R
  · go_wp2_with fail
    go_ret
    exact ⟨⟨_, _, rfl⟩, HB1.out⟩
  have c5 := HG1.out.cell 5 _ rfl
  go_wp2_with fail
  clear c5
  go_loopw [3, 12] (fun v i wr => ∃ k : Nat, k ≤ wn ∧ i = .int .i64 k ∧ Bl W1 wr ∧ OVN W1.heap.size wr v k) (fun _ i _ => wn - (intOf i).toNat)
  case atStart => exact ⟨0, Nat.zero_le _, rfl, Bl.refl _, ⟨[], World.ownsRow_nil _ _ _ _⟩⟩
  case round =>
    obtain ⟨k, hk, rfl, hbl, hov⟩ := hrel
    have HBL := Lib.hid hbl
    have HOV := Lib.hid hov
    obtain ⟨va, vc, hve⟩ := hov.form
    subst hve
    clear hbl hov
    by_cases hlt : k < wn
    · obtain ⟨ba, oa, rfl, _⟩ := HW.out.cells k hlt
      obtain ⟨c0, c1, c2, c3, c4⟩ := HW.out.get (HB1.out.trans HBL.out) hlt
      generalize nthW ws k = p at *
      obtain ⟨pk, ⟨ak, ax, a2, az⟩⟩ := p
      dsimp only at c0 c1 c2 c3 c4
      have hgp := AC.new wr _ rfl [.string pk, .int .i64 ak, .float .f64 ax, .int .i64 a2, .string az] 63
      have hbp := (Bl.refl wr).alloc (.cells #[.string pk, .int .i64 ak, .float .f64 ax, .int .i64 a2, .string az] 63)
      go_upto_region 7 with fail
      clear c0 c1 c2 c3 c4
      generalize wr.alloc _ = V at *
      generalize wr.heap.size = gp at *
      have HGP := Lib.hid (hgp.keep (Bl.refl V).drew)
      have HBP := Lib.hid (HBL.out.trans (hbp.drew))
      have HOV2 := Lib.hid ((HOV.out.keep hbp).keep (Bl.refl V).drew)
      clear hgp hbp HBL HOV
      refine wp_region_panicsT [0, 1, 2, 3, 4, 6, 7, 8, 9, 10, 11] 5 (Bl V.drew) (fun _ _ h k => h.trans k) (Bl.refl _) [14, 15] (fun c W' => False) ?hR (by kernel_rfl) rfl (by kernel_rfl) (by kernel_rfl) (by kernel_rfl) ?_
      case hR => intro c tt W' h; exact h.elim
      generalize V.drew = Z at *
      haveI : Nonempty (ExtC (Bl Z)) := ⟨⟨Z, Bl.refl _⟩⟩
      have k0 : ∀ q : ExtC (Bl Z), _ := fun q => (HGP.out.keep q.ok).cell 0 _ rfl
      have k1 : ∀ q : ExtC (Bl Z), _ := fun q => (HGP.out.keep q.ok).cell 1 _ rfl
      have k2 : ∀ q : ExtC (Bl Z), _ := fun q => (HGP.out.keep q.ok).cell 2 _ rfl
      have k3 : ∀ q : ExtC (Bl Z), _ := fun q => (HGP.out.keep q.ok).cell 3 _ rfl
      have k4 : ∀ q : ExtC (Bl Z), _ := fun q => (HGP.out.keep q.ok).cell 4 _ rfl
      have l0 : ∀ q : ExtC (Bl Z), _ := fun q => (HG1.out.keep (HBP.out.trans q.ok)).cell 0 _ rfl
      have l1 : ∀ q : ExtC (Bl Z), _ := fun q => (HG1.out.keep (HBP.out.trans q.ok)).cell 1 _ rfl
      have l4 : ∀ q : ExtC (Bl Z), _ := fun q => (HG1.out.keep (HBP.out.trans q.ok)).cell 4 _ rfl
      repeat (refine wpI_step rfl (fun K hK => ?_); go_simp; first | (refine hK _ ?_; clear hK K) | (apply Exists.intro; refine ⟨fun q => ?_, hK _ ?_⟩; (fail); clear hK K))
      refine wpI_nil ?_
      clear k0 k1 k2 k3 k4 l0 l1 l4 this
      refine wpAnyP_one (i := 5) (by kernel_rfl) ?_
      intro Y1 hy1
      go_simp
      refine (vclone_any aa an ac xs Y1 (HX.out.keep (HB1.out.trans (HBP.out.trans hy1)))).mono ?_
      rintro e Y2 ⟨v, rfl, hv, hb2⟩
      obtain ⟨xa, xn, xc, rfl, hI⟩ := hv.si
      have HY2 := Lib.hid (hy1.trans hb2)
      clear hy1 hb2 hv hI
      go_simp
      refine ⟨HY2.out, ?_⟩
      refine wpAnyP_one (i := 12) (by kernel_rfl) ?_
      intro Y3 hy3
      go_simp
      refine ⟨HY2.out.trans hy3, ?_⟩
      refine wpAnyP_one (i := 13) (by kernel_rfl) ?_
      intro Y4 hy4
      go_simp
      have hlit : (Y4.alloc (.cells #[.string pk, .slice xa xn xc, .int .i64 o, .int .i64 num, .int .i64 ak, .float .f64 ax, .int .i64 a2, .string az] 72)).heap[Y4.heap.size]? = some (.cells ([Value.string pk, .slice xa xn xc, .int .i64 o, .int .i64 num, .int .i64 ak, .float .f64 ax, .int .i64 a2, .string az]).toArray 72 (0, 0)) := heap_alloc_new Y4 _
      have hbl := (Bl.refl Y4).alloc (.cells #[.string pk, .slice xa xn xc, .int .i64 o, .int .i64 num, .int .i64 ak, .float .f64 ax, .int .i64 a2, .string az] 72)
      have HS := Lib.hid (SG.lit (size := 8) hlit rfl (by simp [Value.oneCell']))
      have HY5 := Lib.hid (HY2.out.trans (hy3.trans (hy4.trans hbl)))
      clear hlit hbl hy3 hy4 HY2
      generalize Y4.alloc _ = Y5 at *
      generalize Y4.heap.size = gl at *
      refine ⟨HY5.out, ?_⟩
      refine wpAnyP_one (i := 14) (by kernel_rfl) ?_
      intro Y6 hy6
      have HS6 := Lib.hid (HS.out.keep hy6)
      have HZ6 := Lib.hid (HY5.out.trans hy6)
      obtain ⟨cs, hcs⟩ := HOV2.out.keep (HY5.out.trans hy6)
      have HCS := Lib.hid hcs
      clear hy6 hcs HS HY5
      refine pOp_appG rfl rfl _ _ _ rfl el_ver W1.heap.size (.slice va k vc) k cs rfl HCS.out (HBP.out.trans HZ6.out).size (some ⟨gl, 0, none⟩) 1 1 _ rfl HS6.out (by unfold maxLen; omega) (by omega) ?_
      intro v' Y7 ho hgr
      have HO : Hid (OVN W1.heap.size Y7 v' (k + 1)) := Lib.hid ⟨_, ho⟩
      have HBY : Hid (Bl W1 Y7) := Lib.hid (Bl.ownRow (HBP.out.trans HZ6.out) HCS.out (Nat.le_refl _) hgr)
      obtain ⟨va', vc', rfl⟩ := HO.out.form
      clear ho hgr HS6 HZ6 HCS HBP
      simp only [Act.put, List.setIfInBounds_toArray]
      refine ⟨fun h => absurd h (by decide), ?_⟩
      refine wpAnyP_one (i := 15) (by kernel_rfl) ?_
      intro Y8 hy8
      go_simp
      refine wpAnyP_done (by kernel_rfl) ?_
      intro Y9 hy9
      have HBN := Lib.hid (HBY.out.trans (hy8.trans hy9))
      have HON := Lib.hid (HO.out.keep (hy8.trans hy9))
      go_wp2_with fail
      go_roundw
      case rel => exact ⟨k + 1, by omega, by go_num, HBN.out, HON.out⟩
      case measure => simp [intOf]; omega
    · obtain rfl : k = wn := by omega
      go_wp2_with fail
      go_ret
      exact ⟨⟨_, _, rfl⟩, HB1.out.trans HBL.out⟩
end Go.Proofs.YtfmabjoindlfeaaGreat
end

/- txn.Versions: the versions with their vectors. By an AI agent. -/
section
set_option linter.unusedVariables false
set_option linter.unusedSimpArgs false
namespace Go.Proofs.YtfmabjoindlfeaaGreat
open Go.RowKit
attribute [local go_sem] eOp eOper eUpon pOp pOper pUpon

set_option maxHeartbeats 6400000 in
set_option maxRecDepth 100000 in
theorem txVersR_any (t : TxnL) (s : TxAt) (w : World) (h : TX w s t) (hwn : s.wn ≤ 1000000) :
    Calls Tryz.prog 7 #[txV t s] w fun e w' => ∃ a n c, e = .returned (.slice a n c) ∧ ∃ xs, OVL w.heap.size w' a n c xs ∧ xs.map VC.ver = versT t ∧ Bl w w' := by
  obtain ⟨R, hR⟩ : ∃ R, validT t = R := ⟨_, rfl⟩
  unfold versT
  rw [hR]
  have HR := Lib.hid hR
  have hat8 : R = true → t.at_.length ≤ 50000 := fun e => by
    have h1 := (validT_parts (hR.trans e)).at_
    have h2 := (valid_parts h1).2.1
    omega
  have hok := h.txOk
  obtain ⟨o, num, prev, ds, xs, ws⟩ := t
  obtain ⟨da, dn, dc, aa, an, ac, wa, wn, wc⟩ := s
  obtain ⟨hd, hx, hw, _, _, _⟩ := h
  have hsf := store_float
  have HD := Lib.hid hd
  have HX := Lib.hid hx
  have HW := Lib.hid hw
  have HWO := Lib.hid hok.ws
  have H8 := Lib.hid hat8
  have hg := AC.new w _ rfl [.int .i64 o, .int .i64 num, .int .i64 prev, .slice da dn dc, .slice aa an ac, .slice wa wn wc] 26
  have hb := (Bl.refl w).alloc (.cells [Value.int .i64 o, .int .i64 num, .int .i64 prev, .slice da dn dc, .slice aa an ac, .slice wa wn wc].toArray 26)
  unfold txV
  clear hd hx hw hR hat8 hok
  dsimp only at *
  have c0 := hg.cell 0 _ rfl
  have c1 := hg.cell 1 _ rfl
  have c2 := hg.cell 2 _ rfl
  have c3 := hg.cell 3 _ rfl
  have c4 := hg.cell 4 _ rfl
  have c5 := hg.cell 5 _ rfl
  go_enter Tryz.func7, Tryz.ntmps7
  go_wp2_with fail
  generalize w.alloc _ = W at *
  have HG := Lib.hid hg
  have HB := Lib.hid hb
  clear hg hb
  refine (txValid_hid o num prev da dn dc ds aa an ac xs wa wn wc ws _ (HD.out.keep HB.out) (HX.out.keep HB.out) (HW.out.keep HB.out) R HR).mono ?_
  rintro e W1 ⟨rfl, hb1⟩
  have HG1 := Lib.hid (HG.out.keep hb1)
  have HB1 := Lib.hid (HB.out.trans hb1)
  clear hb1 HG HB c0 c1 c2 c3 c4 c5
  cases R
  · go_wp2_with fail
    go_ret
    exact ⟨none, 0, 0, rfl, [], OVL.nil _ _, rfl, HB1.out⟩
  have hx8 := H8.out rfl
  have c5 := HG1.out.cell 5 _ rfl
  go_wp2_with fail
  clear c5
  go_loopw [3, 12] (fun v i wr => ∃ (k : Nat) (va : Option Addr) (vc : Nat) (ys : List VC), k ≤ wn ∧ i = .int .i64 k ∧ Bl W1 wr ∧ v = .slice va k vc ∧ OVL W1.heap.size wr va k vc ys ∧ ys.map VC.ver = (ws.take k).map (verOf o num xs)) (fun _ i _ => wn - (intOf i).toNat)
  case atStart => exact ⟨0, none, 0, [], Nat.zero_le _, rfl, Bl.refl _, rfl, OVL.nil _ _, rfl⟩
  case round =>
    obtain ⟨k, va, vc, ys, hk, rfl, hbl, rfl, hov, hver⟩ := hrel
    have HBL := Lib.hid hbl
    have HOV := Lib.hid hov
    have HVER := Lib.hid hver
    clear hbl hov hver
    by_cases hlt : k < wn
    · obtain ⟨ba, oa, rfl, _⟩ := HW.out.cells k hlt
      obtain ⟨c0, c1, c2, c3, c4⟩ := HW.out.get (HB1.out.trans HBL.out) hlt
      have hkw : k < ws.length := by rw [HW.out.len]; exact hlt
      have HTV := Lib.hid (take_verOf hkw o num xs)
      have HPO := Lib.hid (HWO.out _ (nthW_mem hkw)).2
      generalize nthW ws k = p at *
      obtain ⟨pk, ⟨ak, ax, a2, az⟩⟩ := p
      dsimp only at c0 c1 c2 c3 c4 HPO
      have hgp := AC.new wr _ rfl [.string pk, .int .i64 ak, .float .f64 ax, .int .i64 a2, .string az] 63
      have hbp := (Bl.refl wr).alloc (.cells #[.string pk, .int .i64 ak, .float .f64 ax, .int .i64 a2, .string az] 63)
      clear hkw
      go_upto_region 7 with fail
      clear c0 c1 c2 c3 c4
      generalize wr.alloc _ = V at *
      generalize wr.heap.size = gp at *
      have HGP := Lib.hid (hgp.keep (Bl.refl V).drew)
      have HBP := Lib.hid (HBL.out.trans (hbp.drew))
      have HOV2 := Lib.hid ((HOV.out.keep hbp).keep (Bl.refl V).drew)
      clear hgp hbp HBL HOV
      refine wp_region_panicsT [0, 1, 2, 3, 4, 6, 7, 8, 9, 10, 11] 5 (Bl V.drew) (fun _ _ h k => h.trans k) (Bl.refl _) [14, 15] (fun c W' => False) ?hR (by kernel_rfl) rfl (by kernel_rfl) (by kernel_rfl) (by kernel_rfl) ?_
      case hR => intro c tt W' h; exact h.elim
      generalize V.drew = Z at *
      haveI : Nonempty (ExtC (Bl Z)) := ⟨⟨Z, Bl.refl _⟩⟩
      have k0 : ∀ q : ExtC (Bl Z), _ := fun q => (HGP.out.keep q.ok).cell 0 _ rfl
      have k1 : ∀ q : ExtC (Bl Z), _ := fun q => (HGP.out.keep q.ok).cell 1 _ rfl
      have k2 : ∀ q : ExtC (Bl Z), _ := fun q => (HGP.out.keep q.ok).cell 2 _ rfl
      have k3 : ∀ q : ExtC (Bl Z), _ := fun q => (HGP.out.keep q.ok).cell 3 _ rfl
      have k4 : ∀ q : ExtC (Bl Z), _ := fun q => (HGP.out.keep q.ok).cell 4 _ rfl
      have l0 : ∀ q : ExtC (Bl Z), _ := fun q => (HG1.out.keep (HBP.out.trans q.ok)).cell 0 _ rfl
      have l1 : ∀ q : ExtC (Bl Z), _ := fun q => (HG1.out.keep (HBP.out.trans q.ok)).cell 1 _ rfl
      have l4 : ∀ q : ExtC (Bl Z), _ := fun q => (HG1.out.keep (HBP.out.trans q.ok)).cell 4 _ rfl
      repeat (refine wpI_step rfl (fun K hK => ?_); go_simp; first | (refine hK _ ?_; clear hK K) | (apply Exists.intro; refine ⟨fun q => ?_, hK _ ?_⟩; (fail); clear hK K))
      refine wpI_nil ?_
      clear k0 k1 k2 k3 k4 l0 l1 l4 this
      refine wpAnyP_one (i := 5) (by kernel_rfl) ?_
      intro Y1 hy1
      go_simp
      refine (vclone_any aa an ac xs Y1 (HX.out.keep (HB1.out.trans (HBP.out.trans hy1)))).mono ?_
      rintro e Y2 ⟨v, rfl, hv, hb2⟩
      obtain ⟨xa, xc, hve⟩ := row_shape' hv.own
      have HV := Lib.hid hv
      have HO1 := Lib.hid (HOV2.out.keep hy1)
      have HZ1 := Lib.hid (HBP.out.trans hy1).size
      have HY2 := Lib.hid (hy1.trans hb2)
      obtain ⟨xn, hxn⟩ : ∃ xn, xs.length = xn := ⟨_, rfl⟩
      rw [hxn] at hve
      have HXN := Lib.hid hxn
      subst hve
      clear hy1 hb2 hv hxn
      go_simp
      refine ⟨HY2.out, ?_⟩
      refine wpAnyP_one (i := 12) (by kernel_rfl) ?_
      intro Y3 hy3
      go_simp
      refine ⟨HY2.out.trans hy3, ?_⟩
      refine wpAnyP_one (i := 13) (by kernel_rfl) ?_
      intro Y4 hy4
      go_simp
      have hlit : (Y4.alloc (.cells #[.string pk, .slice xa xn xc, .int .i64 o, .int .i64 num, .int .i64 ak, .float .f64 ax, .int .i64 a2, .string az] 72)).heap[Y4.heap.size]? = some (.cells ([Value.string pk, .slice xa xn xc, .int .i64 o, .int .i64 num, .int .i64 ak, .float .f64 ax, .int .i64 a2, .string az]).toArray 72 (0, 0)) := heap_alloc_new Y4 _
      have hbl := (Bl.refl Y4).alloc (.cells #[.string pk, .slice xa xn xc, .int .i64 o, .int .i64 num, .int .i64 ak, .float .f64 ax, .int .i64 a2, .string az] 72)
      have HS := Lib.hid (SG.lit (size := 8) hlit rfl (by simp [Value.oneCell']))
      have HY5 := Lib.hid (HY2.out.trans (hy3.trans (hy4.trans hbl)))
      have HV5 := Lib.hid (HV.out.keep (hy3.trans (hy4.trans hbl)))
      clear hlit hbl hy3 hy4 HY2 HV
      generalize Y4.alloc _ = Y5 at *
      generalize Y4.heap.size = gl at *
      refine ⟨HY5.out, ?_⟩
      refine wpAnyP_one (i := 14) (by kernel_rfl) ?_
      intro Y6 hy6
      have HS6 := Lib.hid (HS.out.keep hy6)
      have HZ6 := Lib.hid (HY5.out.trans hy6)
      have HV6 := Lib.hid (HV5.out.keep hy6)
      have HO6 := Lib.hid (HOV2.out.keep (HY5.out.trans hy6))
      clear hy6 HS HY5 HV5
      refine pOp_appG rfl rfl _ _ _ rfl el_ver W1.heap.size (.slice va k vc) k (flat ys) rfl HO6.out.row (HBP.out.trans HZ6.out).size (some ⟨gl, 0, none⟩) 1 1 _ rfl HS6.out (by unfold maxLen; omega) (by omega) ?_
      intro v' Y7 ho hgr
      obtain ⟨va', vc', hve⟩ := row_shape' ho
      subst hve
      have HOX : Hid (OVL W1.heap.size Y7 va' (k + 1) vc' (ys ++ [⟨pk, xa, xn, xc, xs, o, num, ⟨ak, ax, a2, az⟩⟩])) := Lib.hid (HO6.out.push ⟨pk, xa, xn, xc, xs, o, num, ⟨ak, ax, a2, az⟩⟩ HV6.out HZ1.out HO1.out.blk ho hgr HPO.out hx8)
      have HBY : Hid (Bl W1 Y7) := Lib.hid (Bl.ownRow (HBP.out.trans HZ6.out) HO6.out.row (Nat.le_refl _) hgr)
      clear ho hgr HS6 HZ6 HBP HO6 HV6 HO1 HZ1
      simp only [Act.put, List.setIfInBounds_toArray]
      refine ⟨fun h => absurd h (by decide), ?_⟩
      refine wpAnyP_one (i := 15) (by kernel_rfl) ?_
      intro Y8 hy8
      go_simp
      refine wpAnyP_done (by kernel_rfl) ?_
      intro Y9 hy9
      have HBN := Lib.hid (HBY.out.trans (hy8.trans hy9))
      have HON := Lib.hid (HOX.out.keep (hy8.trans hy9))
      go_wp2_with fail
      go_roundw
      case rel => exact ⟨k + 1, va', vc', _, by omega, by go_num, HBN.out, rfl, HON.out, by rw [List.map_append, HVER.out, HTV.out]; rfl⟩
      case measure => simp [intOf]; omega
    · obtain rfl : k = wn := by omega
      go_wp2_with fail
      go_ret
      refine ⟨va, k, vc, rfl, ys, HOV.out.wider HB1.out.size, ?_, HB1.out.trans HBL.out⟩
      rw [HVER.out, List.take_of_length_le (by rw [HW.out.len]; exact Nat.le_refl _)]
end Go.Proofs.YtfmabjoindlfeaaGreat
end

/- bedrockref3.Valid. By an AI agent. -/
section
namespace Go.Proofs.YtfmabjoindlfeaaGreat
open Go.RowKit

theorem valid_bad {xs : List Int} {k : Nat} (hk : k < xs.length) (h : badT (nth xs k) = true) : validL xs = false := by
  have : xs.any badT = true := List.any_eq_true.2 ⟨nth xs k, by rw [nth_eq hk]; exact List.getElem_mem hk, h⟩
  simp [validL, this]
theorem valid_good {xs : List Int} (h : ∀ j, j < xs.length → badT (nth xs j) = false) : validL xs = (decide (1 ≤ xs.length) && decide (xs.length ≤ 8)) := by
  have : xs.any badT = false := by
    rw [List.any_eq_false]
    intro x hx
    obtain ⟨j, hj, rfl⟩ := List.getElem_of_mem hx
    have := h j hj
    rw [nth_eq hj] at this
    simp [this]
  simp [validL, this]

set_option maxHeartbeats 800000 in
theorem rvalid_any (a : Option Addr) (n ca : Nat) (xs : List Int) (w : World) (hx : IA w a n xs) :
    Calls Tryz.prog 37 #[.slice a n ca] w fun e w' => e = .returned (.bool (validL xs)) ∧ w = w' := by
  have hx1 := hx.cap
  have HX := Lib.hid hx.len
  go_enter Tryz.func37, Tryz.ntmps37
  go_wp2
  go_loop [3] (fun i => ∃ k : Nat, k ≤ n ∧ i = .int .i64 k ∧ ∀ j, j < k → badT (nth xs j) = false) (fun i => n - (intOf i).toNat)
  case atStart => exact ⟨0, Nat.zero_le _, rfl, fun j h => by omega⟩
  case round =>
    obtain ⟨k, hk, rfl, hle⟩ := hrel
    have HLE := Lib.hid hle; clear hle
    by_cases hlt : k < n
    · obtain ⟨ba, oa, rfl, hca⟩ := hx.cells k hlt
      have ha := hca k hlt
      clear hca
      have hkx : k < xs.length := by rw [HX.out]; exact hlt
      by_cases h0 : nth xs k < 0
      · have HB := Lib.hid (valid_bad hkx (show badT (nth xs k) = true by simp [badT, h0]))
        go_wp2
        go_ret
        exact ⟨ret_bool HB.out.symm, rfl⟩
      · by_cases h1 : 281474976710656 ≤ nth xs k
        · have HB := Lib.hid (valid_bad hkx (show badT (nth xs k) = true by simp [badT, h1]))
          go_wp2
          go_ret
          exact ⟨ret_bool HB.out.symm, rfl⟩
        · have HB := Lib.hid (show badT (nth xs k) = false by simp [badT]; omega)
          go_wp2
          go_round
          case rel => exact ⟨k + 1, by omega, by go_num, fun j hj => by
            by_cases e : j = k
            · subst e; exact HB.out
            · exact HLE.out j (by omega)⟩
          case measure => simp [intOf]; omega
    · have HV := Lib.hid (valid_good (xs := xs) (fun j hj => HLE.out j (by rw [HX.out] at hj; omega)))
      by_cases h1 : (1 : Int) ≤ n
      · by_cases h8 : (n : Int) ≤ 8
        · go_wp2
          go_ret
          exact ⟨ret_bool (by rw [HV.out, HX.out]; simp; omega), rfl⟩
        · go_wp2
          go_ret
          exact ⟨ret_bool (by rw [HV.out, HX.out]; simp; omega), rfl⟩
      · go_wp2
        go_ret
        exact ⟨ret_bool (by rw [HV.out, HX.out]; simp; omega), rfl⟩
end Go.Proofs.YtfmabjoindlfeaaGreat
end

/- a vector's elements, as append asks of them. By an AI agent. -/
section
namespace Go.Proofs.YtfmabjoindlfeaaGreat
open Go.RowKit

theorem el_vc : EL 23 3 1 8 := el_of Tryz.underlying23 (by kernel_rfl) (by decide)
end Go.Proofs.YtfmabjoindlfeaaGreat
end
