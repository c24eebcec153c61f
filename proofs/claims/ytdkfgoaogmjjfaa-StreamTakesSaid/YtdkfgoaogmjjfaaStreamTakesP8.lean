import Derived.Test.YtdkfgoaogmjjfaaTxnA
import Derived.Test.YtdkfgoaogmjjfaaStreamTakesP5
import Derived.Test.YtdkfgoaogmjjfaaStreamTakesP6
import Derived.Test.YtdkfgoaogmjjfaaStreamTakesP7
import Derived.Test.YtdkfgoaogmjjfaaAppP
import Derived.Deep.DeepCutAuto
import Derived.Test.YtdkfgoaogmjjfaaStrm0
import Derived.Test.YtdkfgoaogmjjfaaStreamTakesP4

/- bedrockref21.Valid (printed by wip/gen/refvalid21.py). By an AI agent. -/
section
set_option linter.unusedVariables false
set_option linter.unusedSimpArgs false
namespace Go.Proofs.Ytdkfgoaogmjjfaa
open Go.RowKit
attribute [local go_sem] eOp eOper eUpon

theorem rnotTx {t : TxnL} (h : TxParts t → False) : validT t = false := by
  cases hv : validT t
  · rfl
  · exact absurd (h (validT_parts hv)) id
theorem fresh_of {ws : List (ByteArray × ActL)} {k : Nat} (hk : k ≤ ws.length) (h : ∀ j, j < k → (nthW ws j).1 ≠ (nthW ws k).1) : freshAt ws k = true := by
  unfold freshAt
  rw [Bool.not_eq_true', List.any_eq_false]
  intro q hq
  obtain ⟨j, hj, rfl⟩ := List.getElem_of_mem hq
  rw [List.length_take] at hj
  have := h j (by omega)
  rw [nthW_eq (by omega : j < ws.length)] at this
  rw [List.getElem_take]
  simpa using this
theorem not_fresh {ws : List (ByteArray × ActL)} {k j : Nat} (hk : k ≤ ws.length) (hj : j < k) (h : (nthW ws j).1 = (nthW ws k).1) : freshAt ws k = false := by
  unfold freshAt
  rw [Bool.not_eq_false', List.any_eq_true]
  refine ⟨nthW ws j, ?_, by simpa using h⟩
  rw [nthW_eq (by omega : j < ws.length)]
  exact List.mem_take_iff_getElem.2 ⟨j, by omega, rfl⟩
theorem refFitsA_any (key : ByteArray) (a : ActL) (w : World) (hk : key.size ≤ 140737488351232) (oa : a.Ok) : Calls Try.prog 34 #[.string key, .agg #[.int .i64 a.k, .float .f64 a.x, .int .i64 a.n, .string a.s]] w fun e w' => e = .returned (.bool (fitsB key a)) ∧ Bl w w' := refFits_any key a w hk oa

set_option maxHeartbeats 12800000 in
set_option maxRecDepth 100000 in
theorem rtxValid_hid (o num prev : Int) (da : Option Addr) (dn dc : Nat) (ds : List Int) (aa : Option Addr) (an ac : Nat) (xs : List Int) (wa : Option Addr) (wn wc : Nat) (ws : List (ByteArray × ActL)) (w : World)
    (hd : IA w da dn ds) (hx : IA w aa an xs) (hw : WW w wa wn ws) (R : Bool) (HR : Hid (validT ⟨o, num, prev, ds, xs, ws⟩ = R)) :
    Calls Try.prog 52 #[.agg #[.int .i64 o, .int .i64 num, .int .i64 prev, .slice da dn dc, .slice aa an ac, .slice wa wn wc]] w fun e w' => e = .returned (.bool R) ∧ Bl w w' := by
  have hn1 := hd.cap
  have hn2 := hx.cap
  have hn3 := hw.cap
  have HD := Lib.hid hd
  have HX := Lib.hid hx
  have HWW := Lib.hid hw
  have HDL := Lib.hid hd.len
  have HXL := Lib.hid hx.len
  have HWL := Lib.hid hw.len
  have hg := AC.new w _ rfl [.int .i64 o, .int .i64 num, .int .i64 prev, .slice da dn dc, .slice aa an ac, .slice wa wn wc] 30
  have hb := (Bl.refl w).alloc (.cells [Value.int .i64 o, .int .i64 num, .int .i64 prev, .slice da dn dc, .slice aa an ac, .slice wa wn wc].toArray 30)
  have HN : Hid ((TxParts ⟨o, num, prev, ds, xs, ws⟩ → False) → R = false) := Lib.hid fun h => by rw [← HR.out]; exact rnotTx h
  have c0 := hg.cell 0 _ rfl
  have c1 := hg.cell 1 _ rfl
  have c2 := hg.cell 2 _ rfl
  have c3 := hg.cell 3 _ rfl
  have c4 := hg.cell 4 _ rfl
  have c5 := hg.cell 5 _ rfl
  clear hd hx hw
  go_enter Try.func52, Try.ntmps52
  go_upto_region 1 with fail
  generalize w.alloc _ = W at *
  have HG := Lib.hid hg
  have HB := Lib.hid hb
  clear hg hb
  cases hv : validL ds
  · have HF := Lib.hid (HN.out fun h => by have := h.deps; dsimp only at this; rw [hv] at this; cases this)
    have HVD := Lib.hid hv
    clear hv
    go_wp2_with fail
    refine (rvalid_any da dn dc ds _ (HD.out.keep HB.out)).mono ?_
    rintro e w' ⟨rfl, rfl⟩
    rw [HVD.out]
    go_wp2_with fail
    go_ret
    exact ⟨ret_bool HF.out.symm, HB.out⟩
  have HVD := Lib.hid hv
  clear hv
  cases hv : validL xs
  · have HF := Lib.hid (HN.out fun h => by have := h.at_; dsimp only at this; rw [hv] at this; cases this)
    have HVX := Lib.hid hv
    clear hv
    go_wp2_with fail
    refine (rvalid_any da dn dc ds _ (HD.out.keep HB.out)).mono ?_
    rintro e w' ⟨rfl, rfl⟩
    rw [HVD.out]
    go_wp2_with fail
    refine (rvalid_any aa an ac xs _ (HX.out.keep HB.out)).mono ?_
    rintro e w' ⟨rfl, rfl⟩
    rw [HVX.out]
    go_wp2_with fail
    go_ret
    exact ⟨ret_bool HF.out.symm, HB.out⟩
  have HVX := Lib.hid hv
  clear hv
  by_cases e5 : dn = an
  case neg =>
    have HF := Lib.hid (HN.out fun h => by have := h.len; have := HDL.out; have := HXL.out; dsimp only at *; omega)
    have q5 : ((dn : Int) != (an : Int)) = true := by rw [bne_iff_ne]; omega
    clear e5
    go_wp2_with fail
    refine (rvalid_any da dn dc ds _ (HD.out.keep HB.out)).mono ?_
    rintro e w' ⟨rfl, rfl⟩
    rw [HVD.out]
    go_wp2_with fail
    refine (rvalid_any aa an ac xs _ (HX.out.keep HB.out)).mono ?_
    rintro e w' ⟨rfl, rfl⟩
    rw [HVX.out]
    go_wp2_with fail
    go_ret
    exact ⟨ret_bool HF.out.symm, HB.out⟩
  subst e5
  have q5 : ((dn : Int) != (dn : Int)) = false := by simp
  by_cases e6 : o < 0
  · have HF := Lib.hid (HN.out fun h => by have := h.o0; dsimp only at *; omega)
    have d6 : decide (o < 0) = true := decide_eq_true e6
    go_wp2_with fail
    refine (rvalid_any da dn dc ds _ (HD.out.keep HB.out)).mono ?_
    rintro e w' ⟨rfl, rfl⟩
    rw [HVD.out]
    go_wp2_with fail
    refine (rvalid_any aa dn ac xs _ (HX.out.keep HB.out)).mono ?_
    rintro e w' ⟨rfl, rfl⟩
    rw [HVX.out]
    go_wp2_with fail
    go_ret
    exact ⟨ret_bool HF.out.symm, HB.out⟩
  obtain ⟨oi, rfl⟩ := Int.eq_ofNat_of_zero_le (show 0 ≤ o by omega)
  have d6 : decide ((oi : Int) < 0) = false := decide_eq_false e6
  by_cases e7 : dn ≤ oi
  · have HF := Lib.hid (HN.out fun h => by have := h.o1; have := HXL.out; dsimp only at *; omega)
    have d7 : decide ((dn : Int) ≤ (oi : Int)) = true := decide_eq_true (by omega)
    have d8 : decide (dn ≤ oi) = true := decide_eq_true e7
    go_wp2_with fail
    refine (rvalid_any da dn dc ds _ (HD.out.keep HB.out)).mono ?_
    rintro e w' ⟨rfl, rfl⟩
    rw [HVD.out]
    go_wp2_with fail
    refine (rvalid_any aa dn ac xs _ (HX.out.keep HB.out)).mono ?_
    rintro e w' ⟨rfl, rfl⟩
    rw [HVX.out]
    go_wp2_with fail
    go_ret
    exact ⟨ret_bool HF.out.symm, HB.out⟩
  have d7 : decide ((dn : Int) ≤ (oi : Int)) = false := decide_eq_false (by omega)
  have d8 : decide (dn ≤ oi) = false := decide_eq_false e7
  have hlt : oi < dn := by omega
  by_cases e8 : num < 1
  · have HF := Lib.hid (HN.out fun h => by have := h.num; dsimp only at this; omega)
    have d9 : decide (num < 1) = true := decide_eq_true e8
    go_wp2_with fail
    refine (rvalid_any da dn dc ds _ (HD.out.keep HB.out)).mono ?_
    rintro e w' ⟨rfl, rfl⟩
    rw [HVD.out]
    go_wp2_with fail
    refine (rvalid_any aa dn ac xs _ (HX.out.keep HB.out)).mono ?_
    rintro e w' ⟨rfl, rfl⟩
    rw [HVX.out]
    go_wp2_with fail
    go_ret
    exact ⟨ret_bool HF.out.symm, HB.out⟩
  have d9 : decide (num < 1) = false := decide_eq_false e8
  by_cases e9 : 281474976710656 ≤ num
  · have HF := Lib.hid (HN.out fun h => by have := h.num; dsimp only at this; omega)
    have d10 : decide (281474976710656 ≤ num) = true := decide_eq_true e9
    go_wp2_with fail
    refine (rvalid_any da dn dc ds _ (HD.out.keep HB.out)).mono ?_
    rintro e w' ⟨rfl, rfl⟩
    rw [HVD.out]
    go_wp2_with fail
    refine (rvalid_any aa dn ac xs _ (HX.out.keep HB.out)).mono ?_
    rintro e w' ⟨rfl, rfl⟩
    rw [HVX.out]
    go_wp2_with fail
    go_ret
    exact ⟨ret_bool HF.out.symm, HB.out⟩
  have d10 : decide (281474976710656 ≤ num) = false := decide_eq_false e9
  have HE1 := Lib.hid (And.intro e8 e9)
  go_wp2_with fail
  refine (rvalid_any da dn dc ds _ (HD.out.keep HB.out)).mono ?_
  rintro e w' ⟨rfl, rfl⟩
  rw [HVD.out]
  go_wp2_with fail
  refine (rvalid_any aa dn ac xs _ (HX.out.keep HB.out)).mono ?_
  rintro e w' ⟨rfl, rfl⟩
  rw [HVX.out]
  clear e8 e9
  obtain ⟨bx, ox, rfl, hcx⟩ := HX.out.cells oi hlt
  obtain ⟨bd, od, rfl, hcd⟩ := HD.out.cells oi hlt
  have hax : ∀ W', Bl W W' → W'.cell? ⟨bx, ox + oi, none⟩ = some (.int .i64 (nth xs oi)) := fun W' h => (HB.out.trans h).cell (hcx oi hlt)
  have had : ∀ W', Bl W W' → W'.cell? ⟨bd, od + oi, none⟩ = some (.int .i64 (nth ds oi)) := fun W' h => (HB.out.trans h).cell (hcd oi hlt)
  have HDC := Lib.hid had
  have HXC := Lib.hid hax
  have HAB := Lib.hid (HX.out.wf_get oi)
  have hm : ∃ m, nth xs oi = m ∧ nth ds oi = nth ds oi := ⟨_, rfl, rfl⟩
  obtain ⟨m, hm, -⟩ := hm
  rw [hm] at HXC HAB
  have HM := Lib.hid hm
  clear hcx hcd had hax hm
  go_upto_region 3 with fail
  clear d6 d7 d8 d9 d10 q5 e6 e7
  have HAT : Hid (atT ⟨(oi : Int), num, prev, ds, xs, ws⟩ = m) := Lib.hid (by unfold atT; exact HM.out)
  have HGZ := Lib.hid (HG.out.keep ((Bl.refl W).drew))
  have HBZ := Lib.hid (HB.out.drew)
  have HDZ := Lib.hid (HDC.out W.drew ((Bl.refl W).drew))
  have HXZ := Lib.hid (HXC.out W.drew ((Bl.refl W).drew))
  clear HG HDC HXC c0 c1 c2 c3 c4 c5
  have hoi : decide ((oi : Int) < (dn : Int)) = true := decide_eq_true (by omega)
  obtain ⟨dv, hdv⟩ : ∃ dv, nth ds oi = dv := ⟨_, rfl⟩
  rw [hdv] at HDZ
  have HDV := Lib.hid hdv
  clear hdv
  by_cases e10 : prev < 0
  · have HF := Lib.hid (HN.out fun h => by have := h.prev; dsimp only at this; omega)
    have t0 : decide (prev < 0) = true := decide_eq_true e10
    refine wp_region_allS (by kernel_rfl) (by kernel_rfl) ?_
    clear HB
    generalize W.drew = Z at *
    have k0 : ∀ q : Ext Z, _ := fun q => (HGZ.out.keep q.bl).cell 0 _ rfl
    have k2 : ∀ q : Ext Z, _ := fun q => (HGZ.out.keep q.bl).cell 2 _ rfl
    have k3 : ∀ q : Ext Z, _ := fun q => (HGZ.out.keep q.bl).cell 3 _ rfl
    have k4 : ∀ q : Ext Z, _ := fun q => (HGZ.out.keep q.bl).cell 4 _ rfl
    have kd : ∀ q : Ext Z, _ := fun q => q.bl.cell HDZ.out
    have kx : ∀ q : Ext Z, _ := fun q => q.bl.cell HXZ.out
    repeat (refine wpS_step (fun K hK => ?_); go_simp; first | (refine hK _ ?_; clear hK K) | (apply Exists.intro; refine ⟨fun q => ?_, hK _ ?_⟩; (fail); clear hK K))
    refine wpS_nil ?_
    intro q1
    have HB := Lib.hid (HBZ.out.trans q1.bl)
    clear k0 k2 k3 k4 kd kx
    generalize ExtC.at q1 = W7 at *
    go_wp2_with fail
    go_ret
    exact ⟨ret_bool HF.out.symm, HB.out⟩
  have t0 : decide (prev < 0) = false := decide_eq_false e10
  by_cases e11 : m ≤ prev
  · have HF := Lib.hid (HN.out fun h => by have := h.prev; have := HAT.out; dsimp only at *; omega)
    have t1 : decide (m ≤ prev) = true := decide_eq_true e11
    refine wp_region_allS (by kernel_rfl) (by kernel_rfl) ?_
    clear HB
    generalize W.drew = Z at *
    have k0 : ∀ q : Ext Z, _ := fun q => (HGZ.out.keep q.bl).cell 0 _ rfl
    have k2 : ∀ q : Ext Z, _ := fun q => (HGZ.out.keep q.bl).cell 2 _ rfl
    have k3 : ∀ q : Ext Z, _ := fun q => (HGZ.out.keep q.bl).cell 3 _ rfl
    have k4 : ∀ q : Ext Z, _ := fun q => (HGZ.out.keep q.bl).cell 4 _ rfl
    have kd : ∀ q : Ext Z, _ := fun q => q.bl.cell HDZ.out
    have kx : ∀ q : Ext Z, _ := fun q => q.bl.cell HXZ.out
    repeat (refine wpS_step (fun K hK => ?_); go_simp; first | (refine hK _ ?_; clear hK K) | (apply Exists.intro; refine ⟨fun q => ?_, hK _ ?_⟩; (fail); clear hK K))
    refine wpS_nil ?_
    intro q1
    have HB := Lib.hid (HBZ.out.trans q1.bl)
    clear k0 k2 k3 k4 kd kx
    generalize ExtC.at q1 = W7 at *
    go_wp2_with fail
    go_ret
    exact ⟨ret_bool HF.out.symm, HB.out⟩
  have t1 : decide (m ≤ prev) = false := decide_eq_false e11
  by_cases e12 : m ≤ dv
  · have HF := Lib.hid (HN.out fun h => by have := h.less; have := HAT.out; have := HDV.out; dsimp only at *; rw [Int.toNat_natCast] at *; omega)
    have t2 : decide (m ≤ dv) = true := decide_eq_true e12
    refine wp_region_allS (by kernel_rfl) (by kernel_rfl) ?_
    clear HB
    generalize W.drew = Z at *
    have k0 : ∀ q : Ext Z, _ := fun q => (HGZ.out.keep q.bl).cell 0 _ rfl
    have k2 : ∀ q : Ext Z, _ := fun q => (HGZ.out.keep q.bl).cell 2 _ rfl
    have k3 : ∀ q : Ext Z, _ := fun q => (HGZ.out.keep q.bl).cell 3 _ rfl
    have k4 : ∀ q : Ext Z, _ := fun q => (HGZ.out.keep q.bl).cell 4 _ rfl
    have kd : ∀ q : Ext Z, _ := fun q => q.bl.cell HDZ.out
    have kx : ∀ q : Ext Z, _ := fun q => q.bl.cell HXZ.out
    repeat (refine wpS_step (fun K hK => ?_); go_simp; first | (refine hK _ ?_; clear hK K) | (apply Exists.intro; refine ⟨fun q => ?_, hK _ ?_⟩; (fail); clear hK K))
    refine wpS_nil ?_
    intro q1
    have HB := Lib.hid (HBZ.out.trans q1.bl)
    clear k0 k2 k3 k4 kd kx
    generalize ExtC.at q1 = W7 at *
    go_wp2_with fail
    go_ret
    exact ⟨ret_bool HF.out.symm, HB.out⟩
  have t2 : decide (m ≤ dv) = false := decide_eq_false e12
  have HE := Lib.hid (And.intro e10 (And.intro e11 e12))
  clear e10 e11 e12
  refine wp_region_idx [0, 1, 2, 3, 4, 5, 6, 7, 8, 9, 10, 11, 12, 13, 14, 15, 16, 17, 18, 19, 20, 21, 22, 23, 24, 25, 26, 27, 28, 29, 30, 31, 32, 33, 34, 35, 36, 37, 38, 39, 41, 42] 4 (Bl W.drew) (fun _ _ h k => h.trans k) (Bl.refl _) (by kernel_rfl) rfl (by kernel_rfl) (by kernel_rfl) ?_
  clear HB
  generalize W.drew = Z at *
  haveI : Nonempty (ExtC (Bl Z)) := ⟨⟨Z, Bl.refl _⟩⟩
  have k0 : ∀ q : ExtC (Bl Z), _ := fun q => (HGZ.out.keep q.ok).cell 0 _ rfl
  have k2 : ∀ q : ExtC (Bl Z), _ := fun q => (HGZ.out.keep q.ok).cell 2 _ rfl
  have k3 : ∀ q : ExtC (Bl Z), _ := fun q => (HGZ.out.keep q.ok).cell 3 _ rfl
  have k4 : ∀ q : ExtC (Bl Z), _ := fun q => (HGZ.out.keep q.ok).cell 4 _ rfl
  have kd : ∀ q : ExtC (Bl Z), _ := fun q => q.ok.cell HDZ.out
  have kx : ∀ q : ExtC (Bl Z), _ := fun q => q.ok.cell HXZ.out

  repeat (refine wpI_step rfl (fun K hK => ?_); go_simp; first | (refine hK _ ?_; clear hK K) | (apply Exists.intro; refine ⟨fun q => ?_, hK _ ?_⟩; (fail); clear hK K))
  refine wpI_nil ?_
  clear k0 k2 k3 k4 kd kx this t0 t1 t2
  refine wpAnyE_one (i := 40) (by kernel_rfl) ?_
  intro Y1 hy1
  go_simp
  refine (rwith3_any (some ⟨bd, od, none⟩) dn dc ds (oi : Int) m _ (HD.out.keep (HBZ.out.trans hy1)) HAB.out).mono ?_
  rintro e Y2 ⟨v, rfl, hf, hb2⟩
  obtain ⟨va, vn, vc, rfl, hI⟩ := hf.si
  have HI := Lib.hid hI
  have HB2 := Lib.hid (hy1.trans hb2)
  clear hf hI hy1 hb2
  refine ⟨_, rfl, HB2.out, ?_⟩
  refine wpAnyE_one (i := 43) (by kernel_rfl) ?_
  intro Y3 hy3
  go_simp
  refine (rsame_any va (some ⟨bx, ox, none⟩) vn dn vc ac _ xs _ (HI.out.keep hy3) (HX.out.keep (HBZ.out.trans (HB2.out.trans hy3)))).mono ?_
  rintro e Y4 ⟨rfl, hb4⟩
  have HB4 := Lib.hid (HB2.out.trans (hy3.trans hb4))
  clear hy3 hb4 HI HB2
  refine ⟨_, rfl, HB4.out, ?_⟩
  by_cases hs : withL ds (oi : Int) m = xs
  case neg =>
    have HF := Lib.hid (HN.out fun h => by have := h.eq; have := HAT.out; dsimp only at *; simp_all)
    rw [decide_eq_false hs]
    clear hs
    refine wpAnyE_one (i := 44) (by kernel_rfl) ?_
    intro Y5 hy5
    go_simp
    refine ⟨HB4.out.trans hy5, ?_⟩
    refine wpAnyE_one (i := 45) (by kernel_rfl) ?_
    intro Y6 hy6
    go_simp
    refine ⟨HB4.out.trans (hy5.trans hy6), ?_⟩
    refine wpAnyE_done (by kernel_rfl) ?_
    intro Y7 hy7
    have HB := Lib.hid (HBZ.out.trans (HB4.out.trans (hy5.trans (hy6.trans hy7))))
    go_wp2_with fail
    go_ret
    exact ⟨ret_bool HF.out.symm, HB.out⟩
  have HS := Lib.hid hs
  rw [decide_eq_true hs]
  clear hs
  refine wpAnyE_one (i := 44) (by kernel_rfl) ?_
  intro Y5 hy5
  go_simp
  refine ⟨HB4.out.trans hy5, ?_⟩
  refine wpAnyE_one (i := 45) (by kernel_rfl) ?_
  intro Y6 hy6
  go_simp
  refine ⟨HB4.out.trans (hy5.trans hy6), ?_⟩
  refine wpAnyE_done (by kernel_rfl) ?_
  intro Y7 hy7
  have HB := Lib.hid (HBZ.out.trans (HB4.out.trans (hy5.trans (hy6.trans hy7))))
  have HG7 := Lib.hid (HGZ.out.keep (HB4.out.trans (hy5.trans (hy6.trans hy7))))
  clear HBZ HB4 hy5 hy6 hy7 HGZ HDZ HXZ
  have HFIN : Hid ((∀ j, j < ws.length → okW ws j = true) → 1 ≤ ws.length → ws.length ≤ 200 → R = true) := Lib.hid fun h1 h2 h3 => by
    rw [← HR.out]
    obtain ⟨e3, e4, e5⟩ := HE.out
    obtain ⟨e1, e2⟩ := HE1.out
    have hdl := HDL.out
    have hxl := HXL.out
    have hdv := HDV.out
    refine validT_of ⟨HVD.out, HVX.out, by show ds.length = xs.length; omega, by show (0 : Int) ≤ oi; omega, by show (oi : Int) < xs.length; omega, ⟨by show 1 ≤ num; omega, by show num ≤ _; omega⟩, ⟨by show 0 ≤ prev; omega, ?_⟩, ?_, ?_, h1, h2, h3⟩
    · rw [HAT.out]; show prev < m; omega
    · rw [HAT.out]; show nth ds (oi : Int).toNat < m; rw [Int.toNat_natCast, hdv]; omega
    · rw [HAT.out]; exact HS.out
  clear HE HE1 HDL HXL HDV HS HAT HVD HVX HM HAB HR
  have c5 := (HG7.out).cell 5 _ rfl
  by_cases h1 : 1 ≤ wn
  case neg =>
    have HF := Lib.hid (HN.out fun h => by have := h.few; have := HWL.out; dsimp only at *; omega)
    have d1 : decide ((wn : Int) < 1) = true := decide_eq_true (by omega)
    have d2 : decide (wn < 1) = true := decide_eq_true (by omega)
    go_wp2_with fail
    go_ret
    exact ⟨ret_bool HF.out.symm, HB.out⟩
  have d1 : decide ((wn : Int) < 1) = false := decide_eq_false (by omega)
  have d2 : decide (wn < 1) = false := decide_eq_false (by omega)
  by_cases h2 : wn ≤ 200
  case neg =>
    have HF := Lib.hid (HN.out fun h => by have := h.few; have := HWL.out; dsimp only at *; omega)
    have d3 : decide ((200 : Int) < (wn : Int)) = true := decide_eq_true (by omega)
    have d4 : decide (200 < wn) = true := decide_eq_true (by omega)
    go_wp2_with fail
    go_ret
    exact ⟨ret_bool HF.out.symm, HB.out⟩
  have d3 : decide ((200 : Int) < (wn : Int)) = false := decide_eq_false (by omega)
  have d4 : decide (200 < wn) = false := decide_eq_false (by omega)
  go_wp2_with fail
  clear c5 d1 d2 d3 d4
  go_loopw [3] (fun i wr => ∃ k : Nat, k ≤ wn ∧ i = .int .i64 k ∧ Bl Y7 wr ∧ ∀ j, j < k → okW ws j = true) (fun i _ => wn - (intOf i).toNat)
  case atStart => exact ⟨0, Nat.zero_le _, rfl, Bl.refl _, fun j hj => absurd hj (Nat.not_lt_zero _)⟩
  case round =>
    obtain ⟨k, hk, rfl, hbl, hok⟩ := hrel
    have HOK := Lib.hid hok
    have HBL := Lib.hid hbl
    clear hok hbl
    have c5 := (HG7.out.keep HBL.out).cell 5 _ rfl
    by_cases hlt2 : k < wn
    · have hkl : k < ws.length := by rw [HWL.out]; exact hlt2
      obtain ⟨ba, oa, rfl, _⟩ := HWW.out.cells k hlt2
      have HWC := Lib.hid (HWW.out.get (HB.out.trans (HBL.out.drew)) hlt2)
      have HWOK := Lib.hid (HWW.out.ok _ (nthW_mem hkl))
      have HFR := Lib.hid (fun h => fresh_of (Nat.le_of_lt hkl) h)
      have HNF := Lib.hid (fun j hj h => not_fresh (j := j) (Nat.le_of_lt hkl) hj h)
      have HWK : Hid (okW ws k = (freshAt ws k && fitsB (nthW ws k).1 (nthW ws k).2)) := Lib.hid rfl
      have HBAD : Hid (okW ws k = false → R = false) := Lib.hid fun h => HN.out fun p => by have := p.ok k hkl; dsimp only at this; rw [h] at this; cases this
      have HSTP : Hid (okW ws k = true → ∀ j, j < k + 1 → okW ws j = true) := Lib.hid (fun h j hj => by
        rcases Nat.lt_or_ge j k with h' | h'
        · exact HOK.out j h'
        · obtain rfl : j = k := by omega
          exact h)
      clear hkl
      generalize okW ws k = okk at *
      obtain ⟨p, hp⟩ : ∃ p, nthW ws k = p := ⟨_, rfl⟩
      rw [hp] at HWC HWOK HFR HNF HWK
      have HPK := Lib.hid hp
      clear hp
      obtain ⟨key, ⟨ak, ax, an2, az⟩⟩ := p
      dsimp only at HFR HNF HWK
      go_upto_region 10 with fail
      clear c5
      refine wp_region_extall (by kernel_rfl) (by kernel_rfl) ?_
      have HGZ := Lib.hid (HG7.out.keep HBL.out.drew)
      have HBZ := Lib.hid (HBL.out.drew)
      generalize wr.drew = Z at *
      have k5 : ∀ q : Ext Z, _ := fun q => (HGZ.out.keep q.bl).cell 5 _ rfl
      have w0 : ∀ q : Ext Z, _ := fun q => (HWC.out.keep q.bl).c0
      have w1 : ∀ q : Ext Z, _ := fun q => (HWC.out.keep q.bl).c1
      have w2 : ∀ q : Ext Z, _ := fun q => (HWC.out.keep q.bl).c2
      have w3 : ∀ q : Ext Z, _ := fun q => (HWC.out.keep q.bl).c3
      have w4 : ∀ q : Ext Z, _ := fun q => (HWC.out.keep q.bl).c4
      dsimp only at w0 w1 w2 w3 w4
      have HFT := Lib.hid (fun w => refFitsA_any key ⟨ak, ax, an2, az⟩ w HWOK.out.1 HWOK.out.2)
      dsimp only at HFT
      generalize fitsB key ⟨ak, ax, an2, az⟩ = ft at *
      repeat (refine wpE_step (fun K hK => ?_); go_simp; first | (refine hK _ ?_; clear hK K) | (apply Exists.intro; refine ⟨fun q => ?_, hK _ ?_⟩; (with_reducible exact HFT.out _); clear hK K))
      refine wpE_nil ?_
      intro q1
      have HWY := Lib.hid (HWC.out.keep q1.bl)
      have HGY := Lib.hid (HGZ.out.keep q1.bl)
      have HBY := Lib.hid (HBZ.out.trans q1.bl)
      clear k5 w0 w1 w2 w3 w4 HFT HGZ HWC HBZ
      generalize ExtC.at q1 = Y at *
      cases ft
      · have HF := Lib.hid (HBAD.out (by rw [HWK.out, Bool.and_false]))
        go_wp2_with fail
        go_ret
        exact ⟨ret_bool HF.out.symm, HB.out.trans HBY.out⟩
      go_wp2_with fail
      go_loopw [4] (fun i wz => ∃ j : Nat, j ≤ k ∧ i = .int .i64 j ∧ Bl Y wz ∧ ∀ i, i < j → (nthW ws i).1 ≠ key) (fun i _ => k - (intOf i).toNat)
      case atStart => exact ⟨0, Nat.zero_le _, rfl, Bl.refl _, fun j hj => absurd hj (Nat.not_lt_zero _)⟩
      case round =>
        obtain ⟨j, hj, rfl, hbz, hne⟩ := hrel
        have HBZ := Lib.hid hbz
        have HNE := Lib.hid hne
        clear hbz hne
        by_cases hjk : j < k
        · have hjw : j < wn := by omega
          have HWJ := Lib.hid (HWW.out.get (HB.out.trans (HBY.out.trans (HBZ.out.drew))) hjw)
          obtain ⟨pj, hpj⟩ : ∃ p, nthW ws j = p := ⟨_, rfl⟩
          rw [hpj] at HWJ
          have HPJ := Lib.hid hpj
          clear hpj
          obtain ⟨kj, aj⟩ := pj
          go_upto_region 15 with fail
          refine wp_region_extall (by kernel_rfl) (by kernel_rfl) ?_
          have HGQ := Lib.hid (HGY.out.keep HBZ.out.drew)
          have HWQ := Lib.hid (HWY.out.keep HBZ.out.drew)
          have HBQ := Lib.hid (HBZ.out.drew)
          generalize wr.drew = Q at *
          have k5 : ∀ q : Ext Q, _ := fun q => (HGQ.out.keep q.bl).cell 5 _ rfl
          have w0 : ∀ q : Ext Q, _ := fun q => (HWQ.out.keep q.bl).c0
          have j0 : ∀ q : Ext Q, _ := fun q => (HWJ.out.keep q.bl).c0
          dsimp only at w0 j0
          by_cases hkk : kj = key
          · have HF := Lib.hid (HBAD.out (by rw [HWK.out, HNF.out j hjk (by rw [HPJ.out, hkk])]; rfl))
            have qk : (kj.toList == key.toList) = true := by rw [hkk]; simp
            clear hkk
            repeat (refine wpE_step (fun K hK => ?_); go_simp; first | (refine hK _ ?_; clear hK K) | (apply Exists.intro; refine ⟨fun q => ?_, hK _ ?_⟩; (fail); clear hK K))
            refine wpE_nil ?_
            intro q2
            have HBN := Lib.hid (HBQ.out.trans q2.bl)
            clear k5 w0 j0 HGQ HWQ HBQ HWJ
            generalize ExtC.at q2 = N at *
            go_wp2_with fail
            go_ret
            exact ⟨ret_bool HF.out.symm, HB.out.trans (HBY.out.trans HBN.out)⟩
          · have qk : (kj.toList == key.toList) = false := by
              rw [beq_eq_false_iff_ne]
              exact fun e => hkk (toList_inj e)
            have HNE2 : Hid (∀ i, i < j + 1 → (nthW ws i).1 ≠ key) := Lib.hid (fun i hi => by
              rcases Nat.lt_or_ge i j with h' | h'
              · exact HNE.out i h'
              · obtain rfl : i = j := by omega
                rw [HPJ.out]; exact hkk)
            clear hkk
            repeat (refine wpE_step (fun K hK => ?_); go_simp; first | (refine hK _ ?_; clear hK K) | (apply Exists.intro; refine ⟨fun q => ?_, hK _ ?_⟩; (fail); clear hK K))
            refine wpE_nil ?_
            intro q2
            have HBN := Lib.hid (HBQ.out.trans q2.bl)
            clear k5 w0 j0 HGQ HWQ HBQ HWJ
            generalize ExtC.at q2 = N at *
            go_wp2_with fail
            go_roundw
            case rel =>
              iterate 20 (apply Exists.intro)
              refine And.symm ⟨rfl, ?_⟩
              exact ⟨j + 1, by omega, by go_num, HBN.out, HNE2.out⟩
            case measure => simp [intOf]; omega
        · have hje : j = k := by omega
          subst hje
          have HOK2 := Lib.hid (HSTP.out (by rw [HWK.out, HFR.out HNE.out]; rfl))
          go_wp2_with fail
          go_roundw
          case rel => exact ⟨j + 1, by omega, by go_num, HBY.out.trans HBZ.out, HOK2.out⟩
          case measure => simp [intOf]; omega
    · have hkn : k = wn := by omega
      subst hkn
      have HT := Lib.hid (HFIN.out (fun j hj => HOK.out j (by rw [← HWL.out]; exact hj)) (by rw [HWL.out]; exact h1) (by rw [HWL.out]; exact h2))
      go_wp2_with fail
      go_ret
      exact ⟨ret_bool HT.out.symm, HB.out.trans HBL.out⟩
theorem rtxValid_any (t : TxnL) (s : TxAt) (w : World) (h : TX w s t) : Calls Try.prog 52 #[txV t s] w fun e w' => e = .returned (.bool (validT t)) ∧ Bl w w' := by
  obtain ⟨o, num, prev, ds, xs, ws⟩ := t
  exact rtxValid_hid o num prev s.da s.dn s.dc ds s.aa s.an s.ac xs s.wa s.wn s.wc ws w h.deps h.at_ h.ws _ (Lib.hid rfl)
end Go.Proofs.Ytdkfgoaogmjjfaa
end

/- bedrockref21.Chain (printed by wip/gen/rchain.py). By an AI agent. -/
section
set_option linter.unusedVariables false
set_option linter.unusedSimpArgs false
namespace Go.Proofs.Ytdkfgoaogmjjfaa
open Go.RowKit
attribute [local go_sem] eOp eOper eUpon

def lastC (own : List TxnL) (self : Int) (k : Nat) : Int := if k = 0 then 0 else nth (nthT own (k - 1)).at_ self.toNat
def numC (own : List TxnL) (k : Nat) : Int := if k = 0 then 0 else (nthT own (k - 1)).num
theorem chainAt_eq (own : List TxnL) (self : Int) (k : Nat) : chainAt own self k = (validT (nthT own k) && (decide ((nthT own k).o = self) && (decide ((nthT own k).at_.length = (nthT own 0).at_.length) && (decide ((nthT own k).prev = lastC own self k) && (decide (k = 0) || decide ((nthT own k).num = numC own k + 1)))))) := by
  unfold chainAt lastC numC
  by_cases h : k = 0
  · subst h; simp
  · simp [h]
theorem numC_bd {own : List TxnL} {self : Int} {k : Nat} (h : ∀ j, j < k → chainAt own self j = true) : 0 ≤ numC own k ∧ numC own k ≤ 281474976710655 := by
  unfold numC
  split
  · omega
  · have := chain_place (h (k - 1) (by omega))
    omega
set_option maxHeartbeats 12800000 in
set_option maxRecDepth 100000 in
theorem rchain_any (ta : Option Addr) (tn tc : Nat) (own : List TxnL) (f : Nat → TxAt) (self : Int) (w : World) (h : TS w ta tn own f) :
    Calls Try.prog 16 #[.slice ta tn tc, .int .i64 self] w fun e w' => e = .returned (.bool (chainL own self)) ∧ Bl w w' := by
  have hcap := h.cap
  have HP := Lib.hid h
  have HL := Lib.hid h.len
  have hsf := store_float
  clear h
  go_enter Try.func16, Try.ntmps16
  go_wp2_with fail
  go_loopw [5, 6, 7] (fun lv nv i wr => ∃ (k : Nat) (la nu : Int), k ≤ tn ∧ i = .int .i64 k ∧ lv = .int .i64 la ∧ nv = .int .i64 nu ∧ la = lastC own self k ∧ nu = numC own k ∧ Bl w wr ∧ ∀ j, j < k → chainAt own self j = true) (fun _ _ i _ => tn - (intOf i).toNat)
  case atStart => exact ⟨0, 0, 0, Nat.zero_le _, rfl, rfl, rfl, rfl, rfl, Bl.refl _, fun j hj => absurd hj (Nat.not_lt_zero _)⟩
  case round =>
    obtain ⟨k, la, nu, hk, rfl, rfl, rfl, hla, hnu, hbl, hok⟩ := hrel
    have HBL := Lib.hid hbl
    have HOK := Lib.hid hok
    have HLA := Lib.hid hla
    have HNU := Lib.hid hnu
    have hnb := numC_bd hok
    rw [← hnu] at hnb
    clear hbl hok hla hnu
    by_cases hlt : k < tn
    · have hkl : k < own.length := by rw [HL.out]; exact hlt
      obtain ⟨ba, oa, rfl, _⟩ := HP.out.cells k hlt
      have h0n : 0 < tn := by omega
      obtain ⟨c0, c1, c2, c3, c4, c5⟩ := HP.out.get HBL.out hlt
      have HT := Lib.hid ((HP.out.tx k hlt).keep HBL.out)
      have HNO := Lib.hid (fun h => chainL_no (self := self) hkl h)
      have HYES := Lib.hid (fun h => chain_step HOK.out h)
      have HCS := Lib.hid (chainAt_eq own self k)
      rw [← HLA.out, ← HNU.out] at HCS
      have HZ := Lib.hid (fun W (hb : Bl w W) => HP.out.get hb h0n)
      have HZX := Lib.hid (HP.out.tx 0 h0n).at_.len
      have HN1 : Hid (lastC own self (k + 1) = nth (nthT own k).at_ self.toNat ∧ numC own (k + 1) = (nthT own k).num) := Lib.hid ⟨by unfold lastC; rw [if_neg (Nat.succ_ne_zero k)]; rfl, by unfold numC; rw [if_neg (Nat.succ_ne_zero k)]; rfl⟩
      obtain ⟨tk, htk⟩ : ∃ t, nthT own k = t := ⟨_, rfl⟩
      obtain ⟨sk, hsk⟩ : ∃ s, f k = s := ⟨_, rfl⟩
      rw [htk] at c0 c1 c2 HT HCS HN1
      rw [hsk] at c3 c4 c5 HT
      clear htk hsk hkl
      obtain ⟨o, num, prev, ds, xs, ws⟩ := tk
      obtain ⟨da, dn, dc, aa, an, ac, wa, wn, wc⟩ := sk
      have hxl := HT.out.at_.len
      have hxc := HT.out.at_.cap
      dsimp only at c0 c1 c2 c3 c4 c5 HCS hxl hxc HN1
      have HV := Lib.hid (fun W (h : Bl wr W) (R : Bool) HR => rtxValid_hid o num prev da dn dc ds aa an ac xs wa wn wc ws W (HT.out.deps.keep h) (HT.out.at_.keep h) (HT.out.ws.keep h) R HR)
      have hgp := AC.new wr _ rfl [.int .i64 o, .int .i64 num, .int .i64 prev, .slice da dn dc, .slice aa an ac, .slice wa wn wc] 30
      have hbp := (Bl.refl wr).alloc (.cells [Value.int .i64 o, .int .i64 num, .int .i64 prev, .slice da dn dc, .slice aa an ac, .slice wa wn wc].toArray 30)
      go_upto_region 6 with fail
      clear c0 c1 c2 c3 c4 c5
      generalize wr.alloc _ = V at *
      have HGP := Lib.hid (hgp.keep ((Bl.refl V).drew))
      have HBP := Lib.hid (hbp.drew)
      clear hgp hbp
      generalize wr.heap.size = gp at *
      have HVD := Lib.hid (fun (q : Ext V.drew) R HR => HV.out q.at (HBP.out.trans q.bl) R HR)
      obtain ⟨ln, hln⟩ : ∃ l, (nthT own 0).at_.length = l := ⟨_, rfl⟩
      rw [hln] at HCS
      have hz4 : ∀ q : Ext V.drew, _ := fun q => (HZ.out q.at (HBL.out.trans (HBP.out.trans q.bl))).c4
      obtain ⟨s0, hs0⟩ : ∃ s, f 0 = s := ⟨_, rfl⟩
      rw [hs0] at hz4 HZX
      obtain ⟨da0, dn0, dc0, aa0, an0, ac0, wa0, wn0, wc0⟩ := s0
      dsimp only at hz4 HZX
      rw [Nat.zero_mul, Nat.add_zero] at hz4
      have hA0 : an0 = ln := by rw [← HZX.out, hln]
      subst hA0
      rw [hxl] at HCS
      have k0 : ∀ q : Ext V.drew, _ := fun q => (HGP.out.keep q.bl).cell 0 _ rfl
      have k1 : ∀ q : Ext V.drew, _ := fun q => (HGP.out.keep q.bl).cell 1 _ rfl
      have k2 : ∀ q : Ext V.drew, _ := fun q => (HGP.out.keep q.bl).cell 2 _ rfl
      have k3 : ∀ q : Ext V.drew, _ := fun q => (HGP.out.keep q.bl).cell 3 _ rfl
      have k4 : ∀ q : Ext V.drew, _ := fun q => (HGP.out.keep q.bl).cell 4 _ rfl
      have k5 : ∀ q : Ext V.drew, _ := fun q => (HGP.out.keep q.bl).cell 5 _ rfl
      have hn1 : IntKind.i64.wrap (nu + 1) = nu + 1 := by rw [IntKind.wrap_i64]; omega
      obtain ⟨nu1, hnu1⟩ : ∃ x, nu + 1 = x := ⟨_, rfl⟩
      rw [hnu1] at HCS
      have hnw : IntKind.i64.wrap (nu + 1) = nu1 := by rw [hn1, hnu1]
      clear hs0 hln hn1 hnu1 hnb
      cases hv : validT ⟨o, num, prev, ds, xs, ws⟩
      case false =>
        have HF : Hid (chainL own self = false) := Lib.hid (HNO.out (by rw [HCS.out, hv]; rfl))
        have HVF := Lib.hid (fun q => HVD.out q false (Lib.hid hv))
        clear hv
        refine wp_region_allS (by kernel_rfl) (by kernel_rfl) ?_
        repeat (refine wpS_step (fun K hK => ?_); go_simp; first | (refine hK _ ?_; clear hK K) | (apply Exists.intro; refine ⟨fun q => ?_, hK _ ?_⟩; (with_reducible exact HVF.out q); clear hK K))
        refine wpS_nil ?_
        intro q1
        have HBN := Lib.hid (HBP.out.trans q1.bl)
        clear k0 k1 k2 k3 k4 k5 hz4
        generalize ExtC.at q1 = Y at *
        go_wp2_with fail
        go_ret
        exact ⟨ret_bool HF.out.symm, HBL.out.trans HBN.out⟩
      have HVT := Lib.hid hv
      have HVF := Lib.hid (fun q => HVD.out q true HVT)
      have hpp := validT_parts hv
      have HOB := Lib.hid (And.intro hpp.o0 hpp.o1)
      clear hv HVD hpp
      by_cases ho : o = self
      case neg =>
        have HF : Hid (chainL own self = false) := Lib.hid (HNO.out (by rw [HCS.out]; simp [ho]))
        have q2 : (o != self) = true := by rw [bne_iff_ne]; exact ho
        clear ho
        refine wp_region_allS (by kernel_rfl) (by kernel_rfl) ?_
        repeat (refine wpS_step (fun K hK => ?_); go_simp; first | (refine hK _ ?_; clear hK K) | (apply Exists.intro; refine ⟨fun q => ?_, hK _ ?_⟩; (with_reducible exact HVF.out q); clear hK K))
        refine wpS_nil ?_
        intro q1
        have HBN := Lib.hid (HBP.out.trans q1.bl)
        clear k0 k1 k2 k3 k4 k5 hz4
        generalize ExtC.at q1 = Y at *
        go_wp2_with fail
        go_ret
        exact ⟨ret_bool HF.out.symm, HBL.out.trans HBN.out⟩
      have HO := Lib.hid ho
      have q2 : (o != self) = false := by rw [ho]; simp
      clear ho
      by_cases hal : an = an0
      case neg =>
        have HF : Hid (chainL own self = false) := Lib.hid (HNO.out (by rw [HCS.out]; simp [hal]))
        have q3 : ((an : Int) != (an0 : Int)) = true := by rw [bne_iff_ne]; omega
        clear hal
        refine wp_region_allS (by kernel_rfl) (by kernel_rfl) ?_
        repeat (refine wpS_step (fun K hK => ?_); go_simp; first | (refine hK _ ?_; clear hK K) | (apply Exists.intro; refine ⟨fun q => ?_, hK _ ?_⟩; (with_reducible exact HVF.out q); clear hK K))
        refine wpS_nil ?_
        intro q1
        have HBN := Lib.hid (HBP.out.trans q1.bl)
        clear k0 k1 k2 k3 k4 k5 hz4
        generalize ExtC.at q1 = Y at *
        go_wp2_with fail
        go_ret
        exact ⟨ret_bool HF.out.symm, HBL.out.trans HBN.out⟩
      have HAL := Lib.hid hal
      have q3 : ((an : Int) != (an0 : Int)) = false := by rw [hal]; simp
      clear hal
      by_cases hpr : prev = la
      case neg =>
        have HF : Hid (chainL own self = false) := Lib.hid (HNO.out (by rw [HCS.out]; simp [hpr]))
        have q4 : (prev != la) = true := by rw [bne_iff_ne]; exact hpr
        clear hpr
        refine wp_region_allS (by kernel_rfl) (by kernel_rfl) ?_
        repeat (refine wpS_step (fun K hK => ?_); go_simp; first | (refine hK _ ?_; clear hK K) | (apply Exists.intro; refine ⟨fun q => ?_, hK _ ?_⟩; (with_reducible exact HVF.out q); clear hK K))
        refine wpS_nil ?_
        intro q1
        have HBN := Lib.hid (HBP.out.trans q1.bl)
        clear k0 k1 k2 k3 k4 k5 hz4
        generalize ExtC.at q1 = Y at *
        go_wp2_with fail
        go_ret
        exact ⟨ret_bool HF.out.symm, HBL.out.trans HBN.out⟩
      have HPR := Lib.hid hpr
      have q4 : (prev != la) = false := by rw [hpr]; simp
      clear hpr
      have HOK2 : Hid (chainAt own self k = true → ∀ j, j < k + 1 → chainAt own self j = true) := Lib.hid HYES.out
      have hs0 : 0 ≤ self := by have := HOB.out.1; have := HO.out; dsimp only at *; omega
      have hs1 : self < an := by have := HOB.out.2; have := HO.out; dsimp only at *; omega
      obtain ⟨si, rfl⟩ := Int.eq_ofNat_of_zero_le hs0
      have hsl : si < an := by omega
      obtain ⟨bx, ox, hax, hcx⟩ := HT.out.at_.cells si hsl
      dsimp only at hax
      subst hax
      have HCC := Lib.hid (hcx si hsl)
      dsimp only at HCC
      have HNX : Hid (lastC own (si : Int) (k + 1) = nth xs si ∧ numC own (k + 1) = num) := Lib.hid (by rw [HN1.out.1, HN1.out.2]; exact ⟨rfl, rfl⟩)
      generalize nth xs si = lx at *
      have hidx : decide (si < an) = true := decide_eq_true hsl
      clear hcx hs0 hs1
      rcases Nat.eq_zero_or_pos k with hk0 | hk0
      · have HY := Lib.hid (HOK2.out (by rw [HCS.out, HVT.out]; simp [HO.out, HAL.out, HPR.out, hk0]))
        have hd0 : decide ((0 : Int) < (k : Int)) = false := decide_eq_false (by omega)
        have hd1 : decide (0 < k) = false := decide_eq_false (by omega)
        refine wp_region_allS (by kernel_rfl) (by kernel_rfl) ?_
        repeat (refine wpS_step (fun K hK => ?_); go_simp; first | (refine hK _ ?_; clear hK K) | (apply Exists.intro; refine ⟨fun q => ?_, hK _ ?_⟩; (with_reducible exact HVF.out q); clear hK K))
        refine wpS_nil ?_
        intro q1
        have HBN := Lib.hid (HBP.out.trans q1.bl)
        have HGN := Lib.hid (HGP.out.keep q1.bl)
        clear k0 k1 k2 k3 k4 k5 hz4 q2 q3 q4 hnw
        generalize ExtC.at q1 = Y at *
        go_upto_region 8 with fail
        refine wp_region_extall (by kernel_rfl) (by kernel_rfl) ?_
        have HGZ := Lib.hid (HGN.out.keep ((Bl.refl Y).drew))
        have HBZ := Lib.hid (HBN.out.drew)
        clear HGN HBN HGP HBP
        generalize Y.drew = Z at *
        have k1 : ∀ q : Ext Z, _ := fun q => (HGZ.out.keep q.bl).cell 1 _ rfl
        have k4 : ∀ q : Ext Z, _ := fun q => (HGZ.out.keep q.bl).cell 4 _ rfl
        have kx : ∀ q : Ext Z, _ := fun q => (HBZ.out.trans q.bl).cell HCC.out
        repeat (refine wpE_step (fun K hK => ?_); go_simp; first | (refine hK _ ?_; clear hK K) | (apply Exists.intro; refine ⟨fun m => ?_, hK _ ?_⟩; (fail); clear hK K))
        refine wpE_nil ?_
        intro q3
        have HBF := Lib.hid (HBL.out.trans (HBZ.out.trans q3.bl))
        clear k1 k4 kx HGZ HBZ
        generalize ExtC.at q3 = Y3 at *
        go_wp2_with fail
        go_roundw
        case rel => exact ⟨k + 1, lx, num, by omega, by go_num, rfl, rfl, HNX.out.1.symm, HNX.out.2.symm, HBF.out, HY.out⟩
        case measure => simp [intOf]; omega
      · have hd0 : decide ((0 : Int) < (k : Int)) = true := decide_eq_true (by omega)
        have hd1 : decide (0 < k) = true := decide_eq_true (by omega)
        by_cases hnm : num = nu1
        case neg =>
          have HF : Hid (chainL own (si : Int) = false) := Lib.hid (HNO.out (by rw [HCS.out]; simp [hnm, show ¬ k = 0 by omega]))
          have q5 : (num != nu1) = true := by rw [bne_iff_ne]; exact hnm
          clear hnm
          refine wp_region_allS (by kernel_rfl) (by kernel_rfl) ?_
          repeat (refine wpS_step (fun K hK => ?_); go_simp; first | (refine hK _ ?_; clear hK K) | (apply Exists.intro; refine ⟨fun q => ?_, hK _ ?_⟩; (with_reducible exact HVF.out q); clear hK K))
          refine wpS_nil ?_
          intro q1
          have HBN := Lib.hid (HBP.out.trans q1.bl)
          clear k0 k1 k2 k3 k4 k5 hz4
          generalize ExtC.at q1 = Y at *
          go_wp2_with fail
          go_ret
          exact ⟨ret_bool HF.out.symm, HBL.out.trans HBN.out⟩
        have HY := Lib.hid (HOK2.out (by rw [HCS.out, HVT.out]; simp [HO.out, HAL.out, HPR.out, hnm]))
        have q5 : (num != nu1) = false := by rw [hnm]; simp
        clear hnm
        refine wp_region_allS (by kernel_rfl) (by kernel_rfl) ?_
        repeat (refine wpS_step (fun K hK => ?_); go_simp; first | (refine hK _ ?_; clear hK K) | (apply Exists.intro; refine ⟨fun q => ?_, hK _ ?_⟩; (with_reducible exact HVF.out q); clear hK K))
        refine wpS_nil ?_
        intro q1
        have HBN := Lib.hid (HBP.out.trans q1.bl)
        have HGN := Lib.hid (HGP.out.keep q1.bl)
        clear k0 k1 k2 k3 k4 k5 hz4 q2 q3 q4 hnw
        generalize ExtC.at q1 = Y at *
        go_upto_region 8 with fail
        refine wp_region_extall (by kernel_rfl) (by kernel_rfl) ?_
        have HGZ := Lib.hid (HGN.out.keep ((Bl.refl Y).drew))
        have HBZ := Lib.hid (HBN.out.drew)
        clear HGN HBN HGP HBP
        generalize Y.drew = Z at *
        have k1 : ∀ q : Ext Z, _ := fun q => (HGZ.out.keep q.bl).cell 1 _ rfl
        have k4 : ∀ q : Ext Z, _ := fun q => (HGZ.out.keep q.bl).cell 4 _ rfl
        have kx : ∀ q : Ext Z, _ := fun q => (HBZ.out.trans q.bl).cell HCC.out
        repeat (refine wpE_step (fun K hK => ?_); go_simp; first | (refine hK _ ?_; clear hK K) | (apply Exists.intro; refine ⟨fun m => ?_, hK _ ?_⟩; (fail); clear hK K))
        refine wpE_nil ?_
        intro q3
        have HBF := Lib.hid (HBL.out.trans (HBZ.out.trans q3.bl))
        clear k1 k4 kx HGZ HBZ
        generalize ExtC.at q3 = Y3 at *
        go_wp2_with fail
        go_roundw
        case rel => exact ⟨k + 1, lx, num, by omega, by go_num, rfl, rfl, HNX.out.1.symm, HNX.out.2.symm, HBF.out, HY.out⟩
        case measure => simp [intOf]; omega
    · have hkn : k = tn := by omega
      subst hkn
      have HT := Lib.hid (chainL_yes (own := own) (self := self) (fun j hj => HOK.out j (by rw [← HL.out]; exact hj)))
      go_wp2_with fail
      go_ret
      exact ⟨ret_bool HT.out.symm, HBL.out⟩
end Go.Proofs.Ytdkfgoaogmjjfaa
end

/- bedrocklaw21.Light: are writes few and short enough? By an AI agent. -/
section
set_option linter.unusedVariables false
set_option linter.unusedSimpArgs false
namespace Go.Proofs.Ytdkfgoaogmjjfaa
open Go.RowKit
attribute [local go_sem] eOp eOper eUpon

def weightW (p : ByteArray × ActL) : Nat := 20 + p.1.size + p.2.s.size
def sumW (ps : List (ByteArray × ActL)) (k : Nat) : Nat := ((ps.take k).map weightW).sum
theorem sumW_succ {ps : List (ByteArray × ActL)} {k : Nat} (hk : k < ps.length) : sumW ps (k + 1) = sumW ps k + weightW (nthW ps k) := by
  unfold sumW
  rw [List.take_succ_eq_append_getElem hk, List.map_append, List.sum_append, nthW_eq hk]
  simp
theorem sumW_le (ps : List (ByteArray × ActL)) (k : Nat) : sumW ps k ≤ sumW ps ps.length := by
  unfold sumW
  rw [List.take_length]
  conv => rhs; rw [← List.take_append_drop k ps]
  rw [List.map_append, List.sum_append]; omega
theorem sumW_ge (ps : List (ByteArray × ActL)) : 20 * ps.length ≤ sumW ps ps.length := by
  unfold sumW
  rw [List.take_length]
  induction ps with
  | nil => simp
  | cons p ps ih =>
    rw [List.map_cons, List.sum_cons, List.length_cons]
    have : 20 ≤ weightW p := by unfold weightW; omega
    omega
def lightB (ps : List (ByteArray × ActL)) : Bool := decide (sumW ps ps.length < 20000)
theorem lightB_len {ps : List (ByteArray × ActL)} (h : lightB ps = true) : ps.length < 1000 := by
  have := sumW_ge ps
  simp only [lightB, decide_eq_true_eq] at h
  omega
set_option maxHeartbeats 3200000 in
set_option maxRecDepth 100000 in
theorem light21_any (pd : Option Addr) (pn pc : Nat) (ps : List (ByteArray × ActL)) (w : World) (hp : WW w pd pn ps) :
    Calls Try.prog 29 #[.slice pd pn pc] w fun e w' => e = .returned (.bool (lightB ps)) ∧ Bl w w' := by
  have hcap := hp.cap
  have HP := Lib.hid hp
  have HL := Lib.hid hp.len
  clear hp
  go_enter Try.func29, Try.ntmps29
  go_wp2_with fail
  go_loopw [3, 4] (fun sv i wr => ∃ (k s : Nat), k ≤ pn ∧ i = .int .i64 k ∧ sv = .int .i64 s ∧ s = sumW ps k ∧ Bl w wr) (fun _ i _ => pn - (intOf i).toNat)
  case atStart => exact ⟨0, 0, Nat.zero_le _, rfl, rfl, rfl, Bl.refl _⟩
  case round =>
    obtain ⟨k, s, hk, rfl, rfl, hs, hbl⟩ := hrel
    have HS := Lib.hid hs
    have HBL := Lib.hid hbl
    clear hs hbl
    by_cases hlt : k < pn
    · by_cases hs6 : s < 20000
      · have hkl : k < ps.length := by rw [HL.out]; exact hlt
        obtain ⟨ba, oa, rfl, _⟩ := HP.out.cells k hlt
        have HOK := Lib.hid (HP.out.ok _ (nthW_mem hkl))
        have HSU := Lib.hid (sumW_succ hkl)
        have HPC := Lib.hid (HP.out.get HBL.out hlt)
        clear hkl
        generalize nthW ps k = p at *
        obtain ⟨key, ⟨pk, px, pm, pz⟩⟩ := p
        have hks : key.size ≤ 140737488351232 := HOK.out.1
        have hzs : pz.size ≤ 140737488351232 := HOK.out.2.s
        have q1 : decide ((s : Int) < 20000) = true := decide_eq_true (by omega)
        have q2 : decide (s < 20000) = true := decide_eq_true hs6
        have HS6 := Lib.hid hs6
        have HKS := Lib.hid (And.intro hks hzs)
        clear hs6 hks hzs
        go_upto_region 5 with fail
        have hs6 := HS6.out
        obtain ⟨hks, hzs⟩ := HKS.out
        refine wp_region_extall (by kernel_rfl) (by kernel_rfl) ?_
        have HPZ := Lib.hid (HPC.out.keep ((Bl.refl wr).drew))
        have HBZ := Lib.hid (HBL.out.drew)
        generalize wr.drew = Z at *
        have e0 : ∀ q : Ext Z, _ := fun q => (HPZ.out.keep q.bl).c0
        have e4 : ∀ q : Ext Z, _ := fun q => (HPZ.out.keep q.bl).c4
        dsimp only at e0 e4
        have w1 : IntKind.i64.wrap ((s : Int) + 20) = ((s + 20 : Nat) : Int) := by rw [IntKind.wrap_i64]; omega
        have w2 : IntKind.i64.wrap (((s + 20 : Nat) : Int) + (key.size : Int)) = ((s + 20 + key.size : Nat) : Int) := by rw [IntKind.wrap_i64]; omega
        have w3 : IntKind.i64.wrap (((s + 20 + key.size : Nat) : Int) + (pz.size : Int)) = ((s + 20 + key.size + pz.size : Nat) : Int) := by rw [IntKind.wrap_i64]; omega
        have HT : Hid (s + 20 + key.size + pz.size = sumW ps (k + 1)) := Lib.hid (by rw [HSU.out, ← HS.out]; unfold weightW; dsimp only; omega)
        generalize s + 20 + key.size + pz.size = s3 at *
        generalize s + 20 + key.size = s2 at *
        generalize s + 20 = s1 at *
        repeat (refine wpE_step (fun K hK => ?_); go_simp; first | (refine hK _ ?_; clear hK K) | (apply Exists.intro; refine ⟨fun m => ?_, hK _ ?_⟩; (fail); clear hK K))
        refine wpE_nil ?_
        intro q1
        have HBN := Lib.hid (HBZ.out.trans q1.bl)
        clear e0 e4 w1 w2 w3
        generalize ExtC.at q1 = Y at *
        go_wp2_with fail
        go_roundw
        case rel => exact ⟨k + 1, s3, by omega, by go_num, rfl, HT.out, HBN.out⟩
        case measure => simp [intOf]; omega
      · have q1 : decide ((s : Int) < 20000) = false := decide_eq_false (by omega)
        have q2 : decide (s < 20000) = false := decide_eq_false hs6
        have HF : Hid (lightB ps = false) := Lib.hid (by
          have := sumW_le ps k
          have := HS.out
          simp only [lightB, decide_eq_false_iff_not]; omega)
        go_wp2_with fail
        go_ret
        exact ⟨ret_bool HF.out.symm, HBL.out⟩
    · have hkp : k = pn := by omega
      subst hkp
      by_cases hs6 : s < 20000
      · have q1 : decide ((s : Int) < 20000) = true := decide_eq_true (by omega)
        have HF : Hid (lightB ps = true) := Lib.hid (by have := HS.out; simp only [lightB, decide_eq_true_eq, HL.out]; omega)
        go_wp2_with fail
        go_ret
        exact ⟨ret_bool HF.out.symm, HBL.out⟩
      · have q1 : decide ((s : Int) < 20000) = false := decide_eq_false (by omega)
        have q2 : decide (s < 20000) = false := decide_eq_false hs6
        have HF : Hid (lightB ps = false) := Lib.hid (by have := HS.out; simp only [lightB, decide_eq_false_iff_not, HL.out]; omega)
        go_wp2_with fail
        go_ret
        exact ⟨ret_bool HF.out.symm, HBL.out⟩
end Go.Proofs.Ytdkfgoaogmjjfaa
end
