/- the walk of OpTexts. By an AI agent. -/
import Derived.Test.YtafoagllbajfnaaDoorTexts0
import Derived.Test.YtafoagllbajfnaaDoorTog0
import Derived.Test.YtafoagllbajfnaaDoorExt
import Derived.Test.YtafoagllbajfnaaDoorOp8
import Derived.Deep.DeepCutAuto
namespace Go.Proofs.YtafoagllbajfnaaDoor
open Go.RowKit
attribute [local go_sem] eOp eOper eUpon

/-- two boxes of a law: two acts -/
structure Two (w W : World) (a b : ActL) : Prop where
  bl : Bl w W
  a : AC W w.heap.size a.cs
  b : AC W (w.heap.size + 1) b.cs
theorem Two.keep {w W W' : World} {a b : ActL} (h : Two w W a b) (k : Bl W W') : Two w W' a b := ⟨h.bl.trans k, h.a.keep k, h.b.keep k⟩
theorem Two.new (w : World) (a b : ActL) (T U : TypeId) : Two w ((w.alloc (.cells a.cs.toArray T)).alloc (.cells b.cs.toArray U)) a b :=
  ⟨((Bl.refl w).alloc _).alloc _, (AC.new w _ rfl a.cs T).keep ((Bl.refl _).alloc _), AC.new (w.alloc (.cells a.cs.toArray T)) (w.heap.size + 1) (by simp) b.cs U⟩

set_option maxHeartbeats 1600000 in
set_option maxRecDepth 100000 in
theorem texts_yes (key : ByteArray) (ak : Int) (ax : Nat) (an : Int) (az : ByteArray) (bk : Int) (bx : Nat) (bn : Int) (bz : ByteArray) (vb : Bool) (vx : Nat) (vn : Int) (vz : ByteArray) (ub : Bool) (ux : Nat) (un : Int) (uz : ByteArray) (w : World)
    (hkey : key.size ≤ 140737488351232) (hT : Tab w)
    (Oa : Hid (ActL.Ok ⟨ak, ax, an, az⟩)) (Ob : Hid (ActL.Ok ⟨bk, bx, bn, bz⟩)) (On : Hid (ValL.Ok ⟨false, 0, 0, nilS⟩))
    (Fa : Hid (fitsB key ⟨ak, ax, an, az⟩ = true)) (Fb : Hid (fitsB key ⟨bk, bx, bn, bz⟩ = true))
    (E1 : Hid (afterL key ⟨false, 0, 0, nilS⟩ ⟨ak, ax, an, az⟩ = ⟨vb, vx, vn, vz⟩)) (E2 : Hid (afterL key ⟨false, 0, 0, nilS⟩ ⟨bk, bx, bn, bz⟩ = ⟨ub, ux, un, uz⟩))
    (tv tu : ByteArray) (sm : Bool) (Ov : Hid (ValL.Ok ⟨vb, vx, vn, vz⟩)) (Ou : Hid (ValL.Ok ⟨ub, ux, un, uz⟩)) (Hvz : vz.size ≤ 1000000) (Huz : uz.size ≤ 1000000) (T1 : Hid (SB tv (textV key ⟨vb, vx, vn, vz⟩))) (T2 : Hid (SB tu (textV key ⟨ub, ux, un, uz⟩)))
    (S1 : Hid (sameV ⟨vb, vx, vn, vz⟩ ⟨ub, ux, un, uz⟩ = sm)) (Q1 : (tv.toList == tu.toList) = sm) (Q2 : (ak != 4) = vb) :
    Calls Tryd.prog 3 #[.string key, .agg #[.int .i64 ak, .float .f64 ax, .int .i64 an, .string az], .agg #[.int .i64 bk, .float .f64 bx, .int .i64 bn, .string bz]] w fun e w' => e = .returned (.bool true) ∧ Bl w w' := by
  have hsf := store_float
  go_enter Tryd.func3, Tryd.ntmps3
  go_wp2_with fail
  refine (fits_agg key ak ax an az true _ Fa hkey Oa).mono ?_
  rintro e w1 ⟨rfl, hb1⟩
  have G := (Two.new w ⟨ak, ax, an, az⟩ ⟨bk, bx, bn, bz⟩ _ _).keep hb1
  clear hb1
  obtain ⟨b0, b1, b2, b3⟩ := G.b.act
  go_wp2_with fail
  refine (fits_agg key bk bx bn bz true _ Fb hkey Ob).mono ?_
  rintro e w2 ⟨rfl, hb2⟩
  have G := G.keep hb2
  clear hb2 b0 b1 b2 b3
  go_upto_region 3 with fail
  have hz0 := G.b.lt
  go_cut [7, 8] (fun s7 s8 W => ∃ g h, s7 = .pointer (some ⟨g, 0, none⟩) ∧ s8 = .pointer (some ⟨h, 0, none⟩) ∧ Two w W ⟨ak, ax, an, az⟩ ⟨bk, bx, bn, bz⟩ ∧ AC W g [.bool vb, .float .f64 vx, .int .i64 vn, .string vz] ∧ AC W h [.bool ub, .float .f64 ux, .int .i64 un, .string uz])
  case first =>
    refine wp_region_ext 8 4 (by kernel_rfl) rfl (by kernel_rfl) (by kernel_rfl) ?_
    have G1 := G.keep ((Bl.refl w2).drew)
    clear G
    generalize w2.drew = W at *
    obtain ⟨a0, a1, a2, a3⟩ : (∀ n : Ext W, _) ∧ (∀ n : Ext W, _) ∧ (∀ n : Ext W, _) ∧ (∀ n : Ext W, _) := ⟨fun n => (G1.keep n.bl).a.act.1, fun n => (G1.keep n.bl).a.act.2.1, fun n => (G1.keep n.bl).a.act.2.2.1, fun n => (G1.keep n.bl).a.act.2.2.2⟩
    obtain ⟨b0, b1, b2, b3⟩ : (∀ n : Ext W, _) ∧ (∀ n : Ext W, _) ∧ (∀ n : Ext W, _) ∧ (∀ n : Ext W, _) := ⟨fun n => (G1.keep n.bl).b.act.1, fun n => (G1.keep n.bl).b.act.2.1, fun n => (G1.keep n.bl).b.act.2.2.1, fun n => (G1.keep n.bl).b.act.2.2.2⟩
    simp only [List.take_succ_cons, List.take_zero]
    repeat (refine wpE_step (fun K hK => ?_); go_simp; first | (refine hK _ ?_; clear hK K) | (apply Exists.intro; refine ⟨fun n => ?_, hK _ ?_⟩; (first | exact after_agg _ _ _ _ _ _ _ _ _ _ _ _ _ _ E1 hkey On Oa | exact after_agg _ _ _ _ _ _ _ _ _ _ _ _ _ _ E2 hkey On Ob); clear hK K))
    refine wpE_nil ?_
    refine wpAnyE_all (rs := [8, 9]) (by kernel_rfl) (by simp) ?_
    intro i hi W1 hb1
    simp only [List.mem_cons, List.not_mem_nil, or_false] at hi
    rcases hi with rfl | rfl
    · go_simp
      obtain ⟨g, hg⟩ : ∃ g, g = W1.heap.size := ⟨_, rfl⟩
      rw [← hg]
      have hzg : W.heap.size ≤ g := by rw [hg]; exact hb1.size
      have cg := AC.new W1 g hg [.bool false, .float .f64 0, .int .i64 0, .string ⟨#[]⟩] 29
      replace hb1 := hb1.alloc (.cells #[.bool false, .float .f64 0, .int .i64 0, .string ⟨#[]⟩] 29)
      clear hg
      refine ⟨hb1, ?_⟩
      generalize W1.alloc (.cells #[.bool false, .float .f64 0, .int .i64 0, .string ⟨#[]⟩] 29) = X1 at *
      refine wpAnyE_one (i := 9) (by kernel_rfl) ?_
      intro W2 hbn
      replace cg := cg.keep hbn
      replace hb1 := hb1.trans hbn
      clear hbn
      go_simp
      obtain ⟨h, hh⟩ : ∃ g, g = W2.heap.size := ⟨_, rfl⟩
      rw [← hh]
      have hzh : W.heap.size ≤ h := by rw [hh]; exact hb1.size
      have hnegh : g ≠ h := by have := cg.lt; omega
      have ch := AC.new W2 h hh [.bool false, .float .f64 0, .int .i64 0, .string ⟨#[]⟩] 29
      replace cg := cg.keep ((Bl.refl W2).alloc (.cells #[.bool false, .float .f64 0, .int .i64 0, .string ⟨#[]⟩] 29))
      replace hb1 := hb1.alloc (.cells #[.bool false, .float .f64 0, .int .i64 0, .string ⟨#[]⟩] 29)
      clear hh
      refine ⟨hb1, ?_⟩
      generalize W2.alloc (.cells #[.bool false, .float .f64 0, .int .i64 0, .string ⟨#[]⟩] 29) = X2 at *
      refine wpAnyE_one (i := 10) (by kernel_rfl) ?_
      intro W3 hbn
      replace cg := cg.keep hbn
      replace ch := ch.keep hbn
      replace hb1 := hb1.trans hbn
      clear hbn
      obtain ⟨g0, g1, g2, g3⟩ := cg.val
      have f0 := cg.frozen 0
      have f1 := cg.frozen 1
      have f2 := cg.frozen 2
      have f3 := cg.frozen 3
      go_simp
      clear g0 g1 g2 g3 f0 f1 f2 f3
      replace hb1 := hb1.store4 hzg (.bool vb) (.float .f64 vx) (.int .i64 vn) (.string vz)
      replace ch := ch.other4 (Ne.symm hnegh) (.bool vb) (.float .f64 vx) (.int .i64 vn) (.string vz)
      replace cg := cg.set4 (.bool vb) (.float .f64 vx) (.int .i64 vn) (.string vz)
      refine ⟨hb1, ?_⟩
      generalize ((((W3.setCell ⟨g, 0, none⟩ (.bool vb)).setCell ⟨g, 1, none⟩ (.float .f64 vx)).setCell ⟨g, 2, none⟩ (.int .i64 vn)).setCell ⟨g, 3, none⟩ (.string vz)) = X3 at *
      refine wpAnyE_one (i := 11) (by kernel_rfl) ?_
      intro W4 hbn
      replace cg := cg.keep hbn
      replace ch := ch.keep hbn
      replace hb1 := hb1.trans hbn
      clear hbn
      obtain ⟨g0, g1, g2, g3⟩ := ch.val
      have f0 := ch.frozen 0
      have f1 := ch.frozen 1
      have f2 := ch.frozen 2
      have f3 := ch.frozen 3
      go_simp
      clear g0 g1 g2 g3 f0 f1 f2 f3
      replace hb1 := hb1.store4 hzh (.bool ub) (.float .f64 ux) (.int .i64 un) (.string uz)
      replace cg := cg.other4 hnegh (.bool ub) (.float .f64 ux) (.int .i64 un) (.string uz)
      replace ch := ch.set4 (.bool ub) (.float .f64 ux) (.int .i64 un) (.string uz)
      refine ⟨hb1, ?_⟩
      generalize ((((W4.setCell ⟨h, 0, none⟩ (.bool ub)).setCell ⟨h, 1, none⟩ (.float .f64 ux)).setCell ⟨h, 2, none⟩ (.int .i64 un)).setCell ⟨h, 3, none⟩ (.string uz)) = X4 at *
      refine wpAnyE_done (by kernel_rfl) ?_
      intro WE hbn
      replace cg := cg.keep hbn
      replace ch := ch.keep hbn
      replace hb1 := hb1.trans hbn
      clear hbn
      go_step
      go_meet
      case rel => exact ⟨g, h, rfl, rfl, G1.keep hb1, cg, ch⟩
    · go_simp
      obtain ⟨h, hh⟩ : ∃ g, g = W1.heap.size := ⟨_, rfl⟩
      rw [← hh]
      have hzh : W.heap.size ≤ h := by rw [hh]; exact hb1.size
      have ch := AC.new W1 h hh [.bool false, .float .f64 0, .int .i64 0, .string ⟨#[]⟩] 29
      replace hb1 := hb1.alloc (.cells #[.bool false, .float .f64 0, .int .i64 0, .string ⟨#[]⟩] 29)
      clear hh
      refine ⟨hb1, ?_⟩
      generalize W1.alloc (.cells #[.bool false, .float .f64 0, .int .i64 0, .string ⟨#[]⟩] 29) = X1 at *
      refine wpAnyE_one (i := 8) (by kernel_rfl) ?_
      intro W2 hbn
      replace ch := ch.keep hbn
      replace hb1 := hb1.trans hbn
      clear hbn
      go_simp
      obtain ⟨g, hg⟩ : ∃ g, g = W2.heap.size := ⟨_, rfl⟩
      rw [← hg]
      have hzg : W.heap.size ≤ g := by rw [hg]; exact hb1.size
      have hnehg : h ≠ g := by have := ch.lt; omega
      have cg := AC.new W2 g hg [.bool false, .float .f64 0, .int .i64 0, .string ⟨#[]⟩] 29
      replace ch := ch.keep ((Bl.refl W2).alloc (.cells #[.bool false, .float .f64 0, .int .i64 0, .string ⟨#[]⟩] 29))
      replace hb1 := hb1.alloc (.cells #[.bool false, .float .f64 0, .int .i64 0, .string ⟨#[]⟩] 29)
      clear hg
      refine ⟨hb1, ?_⟩
      generalize W2.alloc (.cells #[.bool false, .float .f64 0, .int .i64 0, .string ⟨#[]⟩] 29) = X2 at *
      refine wpAnyE_one (i := 10) (by kernel_rfl) ?_
      intro W3 hbn
      replace cg := cg.keep hbn
      replace ch := ch.keep hbn
      replace hb1 := hb1.trans hbn
      clear hbn
      obtain ⟨g0, g1, g2, g3⟩ := cg.val
      have f0 := cg.frozen 0
      have f1 := cg.frozen 1
      have f2 := cg.frozen 2
      have f3 := cg.frozen 3
      go_simp
      clear g0 g1 g2 g3 f0 f1 f2 f3
      replace hb1 := hb1.store4 hzg (.bool vb) (.float .f64 vx) (.int .i64 vn) (.string vz)
      replace ch := ch.other4 hnehg (.bool vb) (.float .f64 vx) (.int .i64 vn) (.string vz)
      replace cg := cg.set4 (.bool vb) (.float .f64 vx) (.int .i64 vn) (.string vz)
      refine ⟨hb1, ?_⟩
      generalize ((((W3.setCell ⟨g, 0, none⟩ (.bool vb)).setCell ⟨g, 1, none⟩ (.float .f64 vx)).setCell ⟨g, 2, none⟩ (.int .i64 vn)).setCell ⟨g, 3, none⟩ (.string vz)) = X3 at *
      refine wpAnyE_one (i := 11) (by kernel_rfl) ?_
      intro W4 hbn
      replace cg := cg.keep hbn
      replace ch := ch.keep hbn
      replace hb1 := hb1.trans hbn
      clear hbn
      obtain ⟨g0, g1, g2, g3⟩ := ch.val
      have f0 := ch.frozen 0
      have f1 := ch.frozen 1
      have f2 := ch.frozen 2
      have f3 := ch.frozen 3
      go_simp
      clear g0 g1 g2 g3 f0 f1 f2 f3
      replace hb1 := hb1.store4 hzh (.bool ub) (.float .f64 ux) (.int .i64 un) (.string uz)
      replace cg := cg.other4 (Ne.symm hnehg) (.bool ub) (.float .f64 ux) (.int .i64 un) (.string uz)
      replace ch := ch.set4 (.bool ub) (.float .f64 ux) (.int .i64 un) (.string uz)
      refine ⟨hb1, ?_⟩
      generalize ((((W4.setCell ⟨h, 0, none⟩ (.bool ub)).setCell ⟨h, 1, none⟩ (.float .f64 ux)).setCell ⟨h, 2, none⟩ (.int .i64 un)).setCell ⟨h, 3, none⟩ (.string uz)) = X4 at *
      refine wpAnyE_done (by kernel_rfl) ?_
      intro WE hbn
      replace cg := cg.keep hbn
      replace ch := ch.keep hbn
      replace hb1 := hb1.trans hbn
      clear hbn
      go_step
      go_meet
      case rel => exact ⟨g, h, rfl, rfl, G1.keep hb1, cg, ch⟩
  case rest =>
    obtain ⟨g, h, rfl, rfl, G2, cg, ch⟩ := hcut
    clear hz0 G
    go_wp2_with fail
    refine wp_region_extall (by kernel_rfl) (by kernel_rfl) ?_
    replace G2 := G2.keep ((Bl.refl wc).drew)
    replace cg := cg.keep ((Bl.refl wc).drew)
    replace ch := ch.keep ((Bl.refl wc).drew)
    generalize wc.drew = W at *
    obtain ⟨a0, a1, a2, a3⟩ : (∀ n : Ext W, _) ∧ (∀ n : Ext W, _) ∧ (∀ n : Ext W, _) ∧ (∀ n : Ext W, _) := ⟨fun n => (G2.keep n.bl).a.act.1, fun n => (G2.keep n.bl).a.act.2.1, fun n => (G2.keep n.bl).a.act.2.2.1, fun n => (G2.keep n.bl).a.act.2.2.2⟩
    obtain ⟨c0, c1, c2, c3⟩ : (∀ n : Ext W, _) ∧ (∀ n : Ext W, _) ∧ (∀ n : Ext W, _) ∧ (∀ n : Ext W, _) := ⟨fun n => (cg.keep n.bl).val.1, fun n => (cg.keep n.bl).val.2.1, fun n => (cg.keep n.bl).val.2.2.1, fun n => (cg.keep n.bl).val.2.2.2⟩
    obtain ⟨d0, d1, d2, d3⟩ : (∀ n : Ext W, _) ∧ (∀ n : Ext W, _) ∧ (∀ n : Ext W, _) ∧ (∀ n : Ext W, _) := ⟨fun n => (ch.keep n.bl).val.1, fun n => (ch.keep n.bl).val.2.1, fun n => (ch.keep n.bl).val.2.2.1, fun n => (ch.keep n.bl).val.2.2.2⟩
    have hTn : ∀ n : Ext W, Tab n.at := fun n => hT.keep (G2.bl.trans n.bl)
    repeat (refine wpE_step (fun K hK => ?_); go_simp; first | (refine hK _ ?_; clear hK K) | (apply Exists.intro; refine ⟨fun n => ?_, hK _ ?_⟩; (first | exact alive6_any _ (hTn n) | exact text_agg _ _ _ _ _ _ _ hkey Ov Hvz (hTn n) T1 | exact text_agg _ _ _ _ _ _ _ hkey Ou Huz (hTn n) T2 | exact same_agg _ _ _ _ _ _ _ _ _ _ S1 Ov Ou); clear hK K))
    refine wpE_nil ?_
    intro n
    have hbn := G2.bl.trans n.bl
    clear a0 a1 a2 a3 c0 c1 c2 c3 d0 d1 d2 d3 hTn
    go_wp2_with fail
    go_ret
    exact ⟨rfl, hbn⟩
end Go.Proofs.YtafoagllbajfnaaDoor
