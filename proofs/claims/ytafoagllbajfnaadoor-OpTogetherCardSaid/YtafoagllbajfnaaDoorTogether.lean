/- the walk of OpTogether (where the acts fit). By an AI agent. -/
import Derived.Test.YtafoagllbajfnaaDoorTog0
import Derived.Test.YtafoagllbajfnaaDoorExt
import Derived.Deep.DeepCutAuto
namespace Go.Proofs.YtafoagllbajfnaaDoor
open Go.RowKit
attribute [local go_sem] eOp eOper eUpon

set_option maxHeartbeats 6400000 in
set_option maxRecDepth 100000 in
theorem together_core (key : ByteArray) (vb : Bool) (vx : Nat) (vn : Int) (vz : ByteArray) (r1b : Bool) (r1x : Nat) (r1n : Int) (r1z : ByteArray) (r2b : Bool) (r2x : Nat) (r2n : Int) (r2z : ByteArray) (r3b : Bool) (r3x : Nat) (r3n : Int) (r3z : ByteArray) (r5b : Bool) (r5x : Nat) (r5n : Int) (r5z : ByteArray) (r6b : Bool) (r6x : Nat) (r6n : Int) (r6z : ByteArray) (u1b : Bool) (u1x : Nat) (u1n : Int) (u1z : ByteArray) (t1b : Bool) (t1x : Nat) (t1n : Int) (t1z : ByteArray) (t2b : Bool) (t2x : Nat) (t2n : Int) (t2z : ByteArray) (t3b : Bool) (t3x : Nat) (t3n : Int) (t3z : ByteArray) (ak : Int) (ax : Nat) (an : Int) (az : ByteArray) (bk : Int) (bx : Nat) (bn : Int) (bz : ByteArray) (ck : Int) (cx : Nat) (cn : Int) (cz : ByteArray) (abk : Int) (abx : Nat) (abn : Int) (abz : ByteArray) (abck : Int) (abcx : Nat) (abcn : Int) (abcz : ByteArray) (bck : Int) (bcx : Nat) (bcn : Int) (bcz : ByteArray) (dk : Int) (dx : Nat) (dn : Int) (dz : ByteArray) (w : World) (hkey : key.size ≤ 140737488351232) (hT : Tab w) (hK : isKeyB key = true) (hv : vz.size ≤ 3000)
    (E1 : Hid (afterL key ⟨vb, vx, vn, vz⟩ ⟨ak, ax, an, az⟩ = ⟨r1b, r1x, r1n, r1z⟩))
    (E2 : Hid (afterL key ⟨r1b, r1x, r1n, r1z⟩ ⟨bk, bx, bn, bz⟩ = ⟨r2b, r2x, r2n, r2z⟩))
    (E3 : Hid (afterL key ⟨r2b, r2x, r2n, r2z⟩ ⟨ck, cx, cn, cz⟩ = ⟨r3b, r3x, r3n, r3z⟩))
    (E4 : Hid (bothL key ⟨ak, ax, an, az⟩ ⟨bk, bx, bn, bz⟩ = ⟨abk, abx, abn, abz⟩))
    (E5 : Hid (bothL key ⟨abk, abx, abn, abz⟩ ⟨ck, cx, cn, cz⟩ = ⟨abck, abcx, abcn, abcz⟩))
    (E6 : Hid (afterL key ⟨vb, vx, vn, vz⟩ ⟨abck, abcx, abcn, abcz⟩ = ⟨r5b, r5x, r5n, r5z⟩))
    (E7 : Hid (bothL key ⟨bk, bx, bn, bz⟩ ⟨ck, cx, cn, cz⟩ = ⟨bck, bcx, bcn, bcz⟩))
    (E8 : Hid (bothL key ⟨ak, ax, an, az⟩ ⟨bck, bcx, bcn, bcz⟩ = ⟨dk, dx, dn, dz⟩))
    (E9 : Hid (afterL key ⟨vb, vx, vn, vz⟩ ⟨dk, dx, dn, dz⟩ = ⟨r6b, r6x, r6n, r6z⟩))
    (E10 : Hid (afterL key ⟨false, 0, 0, nilS⟩ ⟨ck, cx, cn, cz⟩ = ⟨u1b, u1x, u1n, u1z⟩))
    (E11 : Hid (afterL key ⟨vb, vx, vn, vz⟩ ⟨ck, cx, cn, cz⟩ = ⟨t1b, t1x, t1n, t1z⟩))
    (E12 : Hid (afterL key ⟨t1b, t1x, t1n, t1z⟩ ⟨ak, ax, an, az⟩ = ⟨t2b, t2x, t2n, t2z⟩))
    (E13 : Hid (afterL key ⟨t2b, t2x, t2n, t2z⟩ ⟨bk, bx, bn, bz⟩ = ⟨t3b, t3x, t3n, t3z⟩))
    (S5 : Hid (sameV ⟨r3b, r3x, r3n, r3z⟩ ⟨r5b, r5x, r5n, r5z⟩ = true))
    (S6 : Hid (sameV ⟨r3b, r3x, r3n, r3z⟩ ⟨r6b, r6x, r6n, r6z⟩ = true))
    (Ov : Hid (ValL.Ok ⟨vb, vx, vn, vz⟩))
    (Or1 : Hid (ValL.Ok ⟨r1b, r1x, r1n, r1z⟩))
    (Or2 : Hid (ValL.Ok ⟨r2b, r2x, r2n, r2z⟩))
    (Or3 : Hid (ValL.Ok ⟨r3b, r3x, r3n, r3z⟩))
    (Or5 : Hid (ValL.Ok ⟨r5b, r5x, r5n, r5z⟩))
    (Or6 : Hid (ValL.Ok ⟨r6b, r6x, r6n, r6z⟩))
    (Ou1 : Hid (ValL.Ok ⟨u1b, u1x, u1n, u1z⟩))
    (Ot1 : Hid (ValL.Ok ⟨t1b, t1x, t1n, t1z⟩))
    (Ot2 : Hid (ValL.Ok ⟨t2b, t2x, t2n, t2z⟩))
    (Ot3 : Hid (ValL.Ok ⟨t3b, t3x, t3n, t3z⟩))
    (On : Hid (ValL.Ok ⟨false, 0, 0, nilS⟩))
    (Oa : Hid (ActL.Ok ⟨ak, ax, an, az⟩))
    (Ob : Hid (ActL.Ok ⟨bk, bx, bn, bz⟩))
    (Oc : Hid (ActL.Ok ⟨ck, cx, cn, cz⟩))
    (Oab : Hid (ActL.Ok ⟨abk, abx, abn, abz⟩))
    (Oabc : Hid (ActL.Ok ⟨abck, abcx, abcn, abcz⟩))
    (Obc : Hid (ActL.Ok ⟨bck, bcx, bcn, bcz⟩))
    (Od : Hid (ActL.Ok ⟨dk, dx, dn, dz⟩))
    (Fa : Hid (fitsB key ⟨ak, ax, an, az⟩ = true))
    (Fb : Hid (fitsB key ⟨bk, bx, bn, bz⟩ = true))
    (Fc : Hid (fitsB key ⟨ck, cx, cn, cz⟩ = true))
    (SR : Hid (regB key = true → sameV ⟨r3b, r3x, r3n, r3z⟩ ⟨u1b, u1x, u1n, u1z⟩ = true))
    (SN : Hid (regB key = false → sameV ⟨r3b, r3x, r3n, r3z⟩ ⟨t3b, t3x, t3n, t3z⟩ = true ∧ fitsB key ⟨abk, abx, abn, abz⟩ = true)) :
    Calls Tryd.prog 4 #[.string key, .agg #[.int .i64 ak, .float .f64 ax, .int .i64 an, .string az], .agg #[.int .i64 bk, .float .f64 bx, .int .i64 bn, .string bz], .agg #[.int .i64 ck, .float .f64 cx, .int .i64 cn, .string cz], .agg #[.bool vb, .float .f64 vx, .int .i64 vn, .string vz]] w fun e w' => e = .returned (.bool true) ∧ Bl w w' := by
  have hsf := store_float
  have hp := key_pos hK
  have HH := Lib.hid (hd_get hp)
  have HP := Lib.hid hp
  clear hK
  go_enter Tryd.func4, Tryd.ntmps4
  go_wp2_with fail
  refine (fits_agg key ak ax an az true _ Fa hkey Oa).mono ?_
  rintro e w1 ⟨rfl, hb1⟩
  have G := (Four.new w ⟨ak, ax, an, az⟩ ⟨bk, bx, bn, bz⟩ ⟨ck, cx, cn, cz⟩ ⟨vb, vx, vn, vz⟩ _ _ _ _).keep hb1
  clear hb1
  obtain ⟨b0, b1, b2, b3⟩ := G.b.act
  go_wp2_with fail
  refine (fits_agg key bk bx bn bz true _ Fb hkey Ob).mono ?_
  rintro e w2 ⟨rfl, hb2⟩
  have G := G.keep hb2
  clear hb2 b0 b1 b2 b3
  obtain ⟨c0, c1, c2, c3⟩ := G.c.act
  go_wp2_with fail
  refine (fits_agg key ck cx cn cz true _ Fc hkey Oc).mono ?_
  rintro e w3 ⟨rfl, hb3⟩
  have G := G.keep hb3
  clear hb3 c0 c1 c2 c3
  obtain ⟨v0, v1, v2, v3⟩ := G.v.val
  go_upto_region 3 with fail
  have hz0 := G.big
  clear v0 v1 v2 v3
  go_cut [11] (fun s11 W => ∃ g, s11 = .pointer (some ⟨g, 0, none⟩) ∧ Four w W ⟨ak, ax, an, az⟩ ⟨bk, bx, bn, bz⟩ ⟨ck, cx, cn, cz⟩ ⟨vb, vx, vn, vz⟩ ∧ AC W g [.bool r3b, .float .f64 r3x, .int .i64 r3n, .string r3z])
  case first =>
    refine wp_region_ext 10 2 (by kernel_rfl) rfl (by kernel_rfl) (by kernel_rfl) ?_
    have G1 := G.keep ((Bl.refl w3).drew)
    clear G
    generalize w3.drew = W at *
    obtain ⟨a0, a1, a2, a3⟩ : (∀ n : Ext W, _) ∧ (∀ n : Ext W, _) ∧ (∀ n : Ext W, _) ∧ (∀ n : Ext W, _) := ⟨fun n => (G1.keep n.bl).a.act.1, fun n => (G1.keep n.bl).a.act.2.1, fun n => (G1.keep n.bl).a.act.2.2.1, fun n => (G1.keep n.bl).a.act.2.2.2⟩
    obtain ⟨b0, b1, b2, b3⟩ : (∀ n : Ext W, _) ∧ (∀ n : Ext W, _) ∧ (∀ n : Ext W, _) ∧ (∀ n : Ext W, _) := ⟨fun n => (G1.keep n.bl).b.act.1, fun n => (G1.keep n.bl).b.act.2.1, fun n => (G1.keep n.bl).b.act.2.2.1, fun n => (G1.keep n.bl).b.act.2.2.2⟩
    obtain ⟨c0, c1, c2, c3⟩ : (∀ n : Ext W, _) ∧ (∀ n : Ext W, _) ∧ (∀ n : Ext W, _) ∧ (∀ n : Ext W, _) := ⟨fun n => (G1.keep n.bl).c.act.1, fun n => (G1.keep n.bl).c.act.2.1, fun n => (G1.keep n.bl).c.act.2.2.1, fun n => (G1.keep n.bl).c.act.2.2.2⟩
    obtain ⟨v0, v1, v2, v3⟩ : (∀ n : Ext W, _) ∧ (∀ n : Ext W, _) ∧ (∀ n : Ext W, _) ∧ (∀ n : Ext W, _) := ⟨fun n => (G1.keep n.bl).v.val.1, fun n => (G1.keep n.bl).v.val.2.1, fun n => (G1.keep n.bl).v.val.2.2.1, fun n => (G1.keep n.bl).v.val.2.2.2⟩
    simp only [List.take_succ_cons, List.take_zero]
    repeat (refine wpE_step (fun K hK => ?_); go_simp; first | (refine hK _ ?_; clear hK K) | (apply Exists.intro; refine ⟨fun n => ?_, hK _ ?_⟩; (first | exact after_agg _ _ _ _ _ _ _ _ _ _ _ _ _ _ E1 hkey Ov Oa | exact after_agg _ _ _ _ _ _ _ _ _ _ _ _ _ _ E2 hkey Or1 Ob | exact after_agg _ _ _ _ _ _ _ _ _ _ _ _ _ _ E3 hkey Or2 Oc); clear hK K))
    refine wpE_nil ?_
    refine wpAnyE_one (i := 10) (by kernel_rfl) ?_
    intro W1 hb1
    go_simp
    obtain ⟨g, hg⟩ : ∃ g, g = W1.heap.size := ⟨_, rfl⟩
    rw [← hg]
    have hzg : W.heap.size ≤ g := by rw [hg]; exact hb1.size
    have cg := AC.new W1 g hg [.bool false, .float .f64 0, .int .i64 0, .string ⟨#[]⟩] 29
    replace hb1 := hb1.alloc (.cells #[.bool false, .float .f64 0, .int .i64 0, .string ⟨#[]⟩] 29)
    clear hg
    refine ⟨hb1, ?_⟩
    generalize W1.alloc (.cells #[.bool false, .float .f64 0, .int .i64 0, .string ⟨#[]⟩] 29) = X1 at *
    refine wpAnyE_one (i := 11) (by kernel_rfl) ?_
    intro W2 hbn
    replace cg := cg.keep hbn
    replace hb1 := hb1.trans hbn
    clear hbn
    obtain ⟨g0, g1, g2, g3⟩ := cg.val
    have f0 := cg.frozen 0
    have f1 := cg.frozen 1
    have f2 := cg.frozen 2
    have f3 := cg.frozen 3
    go_simp
    clear g0 g1 g2 g3 f0 f1 f2 f3
    replace hb1 := hb1.store4 hzg (.bool r3b) (.float .f64 r3x) (.int .i64 r3n) (.string r3z)
    replace cg := cg.set4 (.bool r3b) (.float .f64 r3x) (.int .i64 r3n) (.string r3z)
    refine ⟨hb1, ?_⟩
    generalize ((((W2.setCell ⟨g, 0, none⟩ (.bool r3b)).setCell ⟨g, 1, none⟩ (.float .f64 r3x)).setCell ⟨g, 2, none⟩ (.int .i64 r3n)).setCell ⟨g, 3, none⟩ (.string r3z)) = X2 at *
    refine wpAnyE_done (by kernel_rfl) ?_
    intro WE hbn
    replace cg := cg.keep hbn
    replace hb1 := hb1.trans hbn
    clear hbn
    go_step
    go_meet
    case rel => exact ⟨g, rfl, G1.keep hb1, cg⟩
  case rest =>
    obtain ⟨g, rfl, G2, cg⟩ := hcut
    clear hz0 G
    go_upto_region 4 with fail
    refine wp_region_extall (by kernel_rfl) (by kernel_rfl) ?_
    have G1 := G2.keep ((Bl.refl wc).drew)
    replace cg := cg.keep ((Bl.refl wc).drew)
    clear G2
    generalize wc.drew = W at *
    obtain ⟨a0, a1, a2, a3⟩ : (∀ n : Ext W, _) ∧ (∀ n : Ext W, _) ∧ (∀ n : Ext W, _) ∧ (∀ n : Ext W, _) := ⟨fun n => (G1.keep n.bl).a.act.1, fun n => (G1.keep n.bl).a.act.2.1, fun n => (G1.keep n.bl).a.act.2.2.1, fun n => (G1.keep n.bl).a.act.2.2.2⟩
    obtain ⟨b0, b1, b2, b3⟩ : (∀ n : Ext W, _) ∧ (∀ n : Ext W, _) ∧ (∀ n : Ext W, _) ∧ (∀ n : Ext W, _) := ⟨fun n => (G1.keep n.bl).b.act.1, fun n => (G1.keep n.bl).b.act.2.1, fun n => (G1.keep n.bl).b.act.2.2.1, fun n => (G1.keep n.bl).b.act.2.2.2⟩
    obtain ⟨c0, c1, c2, c3⟩ : (∀ n : Ext W, _) ∧ (∀ n : Ext W, _) ∧ (∀ n : Ext W, _) ∧ (∀ n : Ext W, _) := ⟨fun n => (G1.keep n.bl).c.act.1, fun n => (G1.keep n.bl).c.act.2.1, fun n => (G1.keep n.bl).c.act.2.2.1, fun n => (G1.keep n.bl).c.act.2.2.2⟩
    obtain ⟨v0, v1, v2, v3⟩ : (∀ n : Ext W, _) ∧ (∀ n : Ext W, _) ∧ (∀ n : Ext W, _) ∧ (∀ n : Ext W, _) := ⟨fun n => (G1.keep n.bl).v.val.1, fun n => (G1.keep n.bl).v.val.2.1, fun n => (G1.keep n.bl).v.val.2.2.1, fun n => (G1.keep n.bl).v.val.2.2.2⟩
    obtain ⟨r0, r1, r2, r3⟩ : (∀ n : Ext W, _) ∧ (∀ n : Ext W, _) ∧ (∀ n : Ext W, _) ∧ (∀ n : Ext W, _) := ⟨fun n => (cg.keep n.bl).val.1, fun n => (cg.keep n.bl).val.2.1, fun n => (cg.keep n.bl).val.2.2.1, fun n => (cg.keep n.bl).val.2.2.2⟩
    repeat (refine wpE_step (fun K hK => ?_); go_simp; first | (refine hK _ ?_; clear hK K) | (apply Exists.intro; refine ⟨fun n => ?_, hK _ ?_⟩; (first | exact both_agg _ _ _ _ _ _ _ _ _ _ _ _ _ _ E4 hkey Oa Ob | exact both_agg _ _ _ _ _ _ _ _ _ _ _ _ _ _ E5 hkey Oab Oc | exact after_agg _ _ _ _ _ _ _ _ _ _ _ _ _ _ E6 hkey Ov Oabc | exact same_agg _ _ _ _ _ _ _ _ _ _ S5 Or3 Or5 | exact both_agg _ _ _ _ _ _ _ _ _ _ _ _ _ _ E7 hkey Ob Oc | exact both_agg _ _ _ _ _ _ _ _ _ _ _ _ _ _ E8 hkey Oa Obc | exact after_agg _ _ _ _ _ _ _ _ _ _ _ _ _ _ E9 hkey Ov Od | exact same_agg _ _ _ _ _ _ _ _ _ _ S6 Or3 Or6); clear hK K))
    refine wpE_nil ?_
    intro n
    replace G1 := G1.keep n.bl
    replace cg := cg.keep n.bl
    clear a0 a1 a2 a3 b0 b1 b2 b3 c0 c1 c2 c3 v0 v1 v2 v3 r0 r1 r2 r3
    generalize ExtC.at n = W4 at *
    cases hreg : regB key
    · obtain ⟨S7, F7⟩ := SN.out hreg
      have S7 := Lib.hid S7
      have F7 := Lib.hid F7
      have q1 : (((key[0]'HP.out).toNat : Int) == 114) = false := by
        rw [HH.out]
        simp [regB] at hreg
        simp; omega
      have q2 : (((key[0]'HP.out).toNat : Int) == 116) = false := by
        rw [HH.out]
        simp [regB] at hreg
        simp; omega
      have hp := HP.out
      clear SN SR
      go_wp2_with fail
      refine wp_region_extall (by kernel_rfl) (by kernel_rfl) ?_
      replace G1 := G1.keep ((Bl.refl W4).drew)
      replace cg := cg.keep ((Bl.refl W4).drew)
      generalize W4.drew = W at *
      have hTn : ∀ n : Ext W, Tab n.at := fun n => hT.keep (G1.bl.trans n.bl)
      obtain ⟨a0, a1, a2, a3⟩ : (∀ n : Ext W, _) ∧ (∀ n : Ext W, _) ∧ (∀ n : Ext W, _) ∧ (∀ n : Ext W, _) := ⟨fun n => (G1.keep n.bl).a.act.1, fun n => (G1.keep n.bl).a.act.2.1, fun n => (G1.keep n.bl).a.act.2.2.1, fun n => (G1.keep n.bl).a.act.2.2.2⟩
      obtain ⟨b0, b1, b2, b3⟩ : (∀ n : Ext W, _) ∧ (∀ n : Ext W, _) ∧ (∀ n : Ext W, _) ∧ (∀ n : Ext W, _) := ⟨fun n => (G1.keep n.bl).b.act.1, fun n => (G1.keep n.bl).b.act.2.1, fun n => (G1.keep n.bl).b.act.2.2.1, fun n => (G1.keep n.bl).b.act.2.2.2⟩
      obtain ⟨c0, c1, c2, c3⟩ : (∀ n : Ext W, _) ∧ (∀ n : Ext W, _) ∧ (∀ n : Ext W, _) ∧ (∀ n : Ext W, _) := ⟨fun n => (G1.keep n.bl).c.act.1, fun n => (G1.keep n.bl).c.act.2.1, fun n => (G1.keep n.bl).c.act.2.2.1, fun n => (G1.keep n.bl).c.act.2.2.2⟩
      obtain ⟨v0, v1, v2, v3⟩ : (∀ n : Ext W, _) ∧ (∀ n : Ext W, _) ∧ (∀ n : Ext W, _) ∧ (∀ n : Ext W, _) := ⟨fun n => (G1.keep n.bl).v.val.1, fun n => (G1.keep n.bl).v.val.2.1, fun n => (G1.keep n.bl).v.val.2.2.1, fun n => (G1.keep n.bl).v.val.2.2.2⟩
      obtain ⟨r0, r1, r2, r3⟩ : (∀ n : Ext W, _) ∧ (∀ n : Ext W, _) ∧ (∀ n : Ext W, _) ∧ (∀ n : Ext W, _) := ⟨fun n => (cg.keep n.bl).val.1, fun n => (cg.keep n.bl).val.2.1, fun n => (cg.keep n.bl).val.2.2.1, fun n => (cg.keep n.bl).val.2.2.2⟩
      repeat (refine wpE_step (fun K hK => ?_); go_simp; first | (refine hK _ ?_; clear hK K) | (apply Exists.intro; refine ⟨fun n => ?_, hK _ ?_⟩; (first | exact alive6_any _ (hTn n) | exact after_agg _ _ _ _ _ _ _ _ _ _ _ _ _ _ E11 hkey Ov Oc | exact after_agg _ _ _ _ _ _ _ _ _ _ _ _ _ _ E12 hkey Ot1 Oa | exact after_agg _ _ _ _ _ _ _ _ _ _ _ _ _ _ E13 hkey Ot2 Ob | exact same_agg _ _ _ _ _ _ _ _ _ _ S7 Or3 Ot3 | exact both_agg _ _ _ _ _ _ _ _ _ _ _ _ _ _ E4 hkey Oa Ob | exact fits_agg _ _ _ _ _ _ _ F7 hkey Oab); clear hK K))
      refine wpE_nil ?_
      intro n
      have hbn := G1.bl.trans n.bl
      clear hTn a0 a1 a2 a3 b0 b1 b2 b3 c0 c1 c2 c3 v0 v1 v2 v3 r0 r1 r2 r3
      go_wp2_with fail
      go_ret
      exact ⟨rfl, hbn⟩
    · have S7 := Lib.hid (SR.out hreg)
      have hp := HP.out
      clear SN SR
      have hq : (((key[0]'HP.out).toNat : Int) == 114) = true ∨ ((((key[0]'HP.out).toNat : Int) == 114) = false ∧ (((key[0]'HP.out).toNat : Int) == 116) = true) := by
        rw [HH.out]
        simp [regB] at hreg
        simp; omega
      rcases hq with q1 | ⟨q1, q2⟩
      all_goals
        go_wp2_with fail
        refine wp_region_extall (by kernel_rfl) (by kernel_rfl) ?_
        replace G1 := G1.keep ((Bl.refl W4).drew)
        replace cg := cg.keep ((Bl.refl W4).drew)
        generalize W4.drew = W at *
        have hTn : ∀ n : Ext W, Tab n.at := fun n => hT.keep (G1.bl.trans n.bl)
        obtain ⟨a0, a1, a2, a3⟩ : (∀ n : Ext W, _) ∧ (∀ n : Ext W, _) ∧ (∀ n : Ext W, _) ∧ (∀ n : Ext W, _) := ⟨fun n => (G1.keep n.bl).a.act.1, fun n => (G1.keep n.bl).a.act.2.1, fun n => (G1.keep n.bl).a.act.2.2.1, fun n => (G1.keep n.bl).a.act.2.2.2⟩
        obtain ⟨b0, b1, b2, b3⟩ : (∀ n : Ext W, _) ∧ (∀ n : Ext W, _) ∧ (∀ n : Ext W, _) ∧ (∀ n : Ext W, _) := ⟨fun n => (G1.keep n.bl).b.act.1, fun n => (G1.keep n.bl).b.act.2.1, fun n => (G1.keep n.bl).b.act.2.2.1, fun n => (G1.keep n.bl).b.act.2.2.2⟩
        obtain ⟨c0, c1, c2, c3⟩ : (∀ n : Ext W, _) ∧ (∀ n : Ext W, _) ∧ (∀ n : Ext W, _) ∧ (∀ n : Ext W, _) := ⟨fun n => (G1.keep n.bl).c.act.1, fun n => (G1.keep n.bl).c.act.2.1, fun n => (G1.keep n.bl).c.act.2.2.1, fun n => (G1.keep n.bl).c.act.2.2.2⟩
        obtain ⟨v0, v1, v2, v3⟩ : (∀ n : Ext W, _) ∧ (∀ n : Ext W, _) ∧ (∀ n : Ext W, _) ∧ (∀ n : Ext W, _) := ⟨fun n => (G1.keep n.bl).v.val.1, fun n => (G1.keep n.bl).v.val.2.1, fun n => (G1.keep n.bl).v.val.2.2.1, fun n => (G1.keep n.bl).v.val.2.2.2⟩
        obtain ⟨r0, r1, r2, r3⟩ : (∀ n : Ext W, _) ∧ (∀ n : Ext W, _) ∧ (∀ n : Ext W, _) ∧ (∀ n : Ext W, _) := ⟨fun n => (cg.keep n.bl).val.1, fun n => (cg.keep n.bl).val.2.1, fun n => (cg.keep n.bl).val.2.2.1, fun n => (cg.keep n.bl).val.2.2.2⟩
        repeat (refine wpE_step (fun K hK => ?_); go_simp; first | (refine hK _ ?_; clear hK K) | (apply Exists.intro; refine ⟨fun n => ?_, hK _ ?_⟩; (first | exact alive6_any _ (hTn n) | exact after_agg _ _ _ _ _ _ _ _ _ _ _ _ _ _ E10 hkey On Oc | exact same_agg _ _ _ _ _ _ _ _ _ _ S7 Or3 Ou1); clear hK K))
        refine wpE_nil ?_
        intro n
        have hbn := G1.bl.trans n.bl
        clear hTn a0 a1 a2 a3 b0 b1 b2 b3 c0 c1 c2 c3 v0 v1 v2 v3 r0 r1 r2 r3
        go_wp2_with fail
        go_ret
        exact ⟨rfl, hbn⟩
end Go.Proofs.YtafoagllbajfnaaDoor
