/- the walk of OpActs. · OpActs: the walk and how its arguments are opened. By an AI agent. -/
import Derived.Test.YtgdlcoicejgdkaaDoorRefO3
import Derived.Test.YtgdlcoicejgdkaaDoorRefO5
import Derived.Test.YtgdlcoicejgdkaaDoorRefO7
import Derived.Test.YtgdlcoicejgdkaaDoorOpSame
import Derived.Test.YtgdlcoicejgdkaaDoorOpGet2
import Derived.Test.YtgdlcoicejgdkaaDoorOpenA
namespace Go.Proofs.YtgdlcoicejgdkaaDoor
open Go.RowKit
attribute [local go_sem] eOp eOper eUpon

theorem oget_agg (s : ByteArray) (k : Int) (x : Nat) (n : Int) (z : ByteArray) (c : Int) (w : World) (h : Hid (getA s.data.toList = (⟨k, x, n, z⟩, c))) :
    Calls Tryd.prog 36 #[.string s] w fun e w' => e = .returned (.tuple #[.agg #[.int .i64 k, .float .f64 x, .int .i64 n, .string z], .int .i64 c]) ∧ Bl w w' := by
  refine (oget_any s s.data.toList w rfl).mono ?_
  rintro e w' ⟨rfl, hb⟩
  rw [h.out]
  exact ⟨rfl, hb⟩
theorem refGet_agg (s : ByteArray) (k : Int) (x : Nat) (n : Int) (z : ByteArray) (c : Int) (w : World) (h : Hid (getA s.data.toList = (⟨k, x, n, z⟩, c))) (hsz : s.size ≤ 3000) :
    Calls Tryd.prog 37 #[.string s] w fun e w' => e = .returned (.tuple #[.agg #[.int .i64 k, .float .f64 x, .int .i64 n, .string z], .int .i64 c]) ∧ Bl w w' := by
  refine (refGetA_any s s.data.toList w rfl hsz).mono ?_
  rintro e w' ⟨rfl, hb⟩
  unfold outA
  rw [h.out]
  exact ⟨rfl, hb⟩
theorem refSameV_agg (vb : Bool) (vx : Nat) (vn : Int) (vs : ByteArray) (rb : Bool) (rx : Nat) (rn : Int) (rs : ByteArray) (r : Bool) (w : World)
    (h : Hid (sameV ⟨vb, vx, vn, vs⟩ ⟨rb, rx, rn, rs⟩ = r)) (ov : Hid (ValL.Ok ⟨vb, vx, vn, vs⟩)) (oa : Hid (ValL.Ok ⟨rb, rx, rn, rs⟩)) :
    Calls Tryd.prog 14 #[.agg #[.bool vb, .float .f64 vx, .int .i64 vn, .string vs], .agg #[.bool rb, .float .f64 rx, .int .i64 rn, .string rs]] w fun e w' => e = .returned (.bool r) ∧ Bl w w' := by
  refine (refSameV_any ⟨vb, vx, vn, vs⟩ ⟨rb, rx, rn, rs⟩ w ov.out oa.out).mono ?_
  rintro e w' ⟨rfl, hb⟩
  rw [h.out]
  exact ⟨rfl, hb⟩
theorem refSameA_agg (l : Int) (y : Nat) (m : Int) (t : ByteArray) (k : Int) (x : Nat) (n : Int) (s : ByteArray) (r : Bool) (w : World)
    (h : Hid (sameA ⟨l, y, m, t⟩ ⟨k, x, n, s⟩ = r)) (ob : Hid (ActL.Ok ⟨l, y, m, t⟩)) (oa : Hid (ActL.Ok ⟨k, x, n, s⟩)) :
    Calls Tryd.prog 38 #[.agg #[.int .i64 l, .float .f64 y, .int .i64 m, .string t], .agg #[.int .i64 k, .float .f64 x, .int .i64 n, .string s]] w fun e w' => e = .returned (.bool r) ∧ Bl w w' := by
  refine (refSameA_any ⟨l, y, m, t⟩ ⟨k, x, n, s⟩ w ob.out oa.out).mono ?_
  rintro e w' ⟨rfl, hb⟩
  rw [h.out]
  exact ⟨rfl, hb⟩
/-- four boxes of a law: two acts, two values -/
structure F4 (w W : World) (a b c d : List Value) : Prop where
  bl : Bl w W
  a : AC W w.heap.size a
  b : AC W (w.heap.size + 1) b
  c : AC W (w.heap.size + 1 + 1) c
  d : AC W (w.heap.size + 1 + 1 + 1) d
theorem F4.keep {w W W' : World} {a b c d : List Value} (h : F4 w W a b c d) (k : Bl W W') : F4 w W' a b c d := ⟨h.bl.trans k, h.a.keep k, h.b.keep k, h.c.keep k, h.d.keep k⟩
theorem F4.new (w : World) (a b c d : List Value) (T U V X : TypeId) : F4 w ((((w.alloc (.cells a.toArray T)).alloc (.cells b.toArray U)).alloc (.cells c.toArray V)).alloc (.cells d.toArray X)) a b c d :=
  ⟨((((Bl.refl w).alloc _).alloc _).alloc _).alloc _, (((AC.new w _ rfl a T).keep ((Bl.refl _).alloc _)).keep ((Bl.refl _).alloc _)).keep ((Bl.refl _).alloc _), ((AC.new _ (w.heap.size + 1) (by simp) b U).keep ((Bl.refl _).alloc _)).keep ((Bl.refl _).alloc _), (AC.new _ (w.heap.size + 1 + 1) (by simp) c V).keep ((Bl.refl _).alloc _), AC.new _ (w.heap.size + 1 + 1 + 1) (by simp) d X⟩

set_option maxHeartbeats 6400000 in
set_option maxRecDepth 100000 in
theorem acts_core (key : ByteArray) (ak : Int) (ax : Nat) (an : Int) (az : ByteArray) (bk : Int) (bx : Nat) (bn : Int) (bz : ByteArray) (vb : Bool) (vx : Nat) (vn : Int) (vz : ByteArray) (ub : Bool) (ux : Nat) (un : Int) (uz : ByteArray) (s : ByteArray)
    (gk : Int) (gx : Nat) (gn : Int) (gz : ByteArray) (gc : Int) (pb : ByteArray) (pc : Int) (f r1 r2 : Bool) (cb : Bool) (cx : Nat) (cn : Int) (cz : ByteArray) (jk : Int) (jx : Nat) (jn : Int) (jz : ByteArray) (tv : ByteArray) (w : World)
    (hkey : key.size ≤ 140737488351232) (hT : Tab w) (hk3 : key.size ≤ 3000) (hz : az.size + bz.size + vz.size + uz.size ≤ 9000) (hs3 : s.size ≤ 3000) (hvz : vz.size ≤ 1000000)
    (Oa : Hid (ActL.Ok ⟨ak, ax, an, az⟩)) (Ob : Hid (ActL.Ok ⟨bk, bx, bn, bz⟩)) (Ov : Hid (ValL.Ok ⟨vb, vx, vn, vz⟩)) (Ou : Hid (ValL.Ok ⟨ub, ux, un, uz⟩)) (Og : Hid (ActL.Ok ⟨gk, gx, gn, gz⟩)) (Oc : Hid (ValL.Ok ⟨cb, cx, cn, cz⟩)) (Oj : Hid (ActL.Ok ⟨jk, jx, jn, jz⟩))
    (P : Hid (SB pb (putS ⟨ak, ax, an, az⟩) ∧ putC ⟨ak, ax, an, az⟩ = pc)) (Gt : Hid (getA s.data.toList = (⟨gk, gx, gn, gz⟩, gc))) (Fa : Hid (fitsB key ⟨ak, ax, an, az⟩ = f))
    (S0 : Hid (sameA ⟨gk, gx, gn, gz⟩ ⟨gk, gx, gn, gz⟩ = true)) (S1 : Hid (sameA ⟨ak, ax, an, az⟩ ⟨bk, bx, bn, bz⟩ = r1)) (S2 : Hid (sameV ⟨vb, vx, vn, vz⟩ ⟨ub, ux, un, uz⟩ = r2))
    (E1 : Hid (afterL key ⟨vb, vx, vn, vz⟩ ⟨ak, ax, an, az⟩ = ⟨cb, cx, cn, cz⟩)) (E2 : Hid (bothL key ⟨ak, ax, an, az⟩ ⟨bk, bx, bn, bz⟩ = ⟨jk, jx, jn, jz⟩))
    (S3 : Hid (sameV ⟨cb, cx, cn, cz⟩ ⟨cb, cx, cn, cz⟩ = true)) (S4 : Hid (sameA ⟨jk, jx, jn, jz⟩ ⟨jk, jx, jn, jz⟩ = true)) (T1 : Hid (SB tv (textV key ⟨vb, vx, vn, vz⟩))) :
    Calls Tryd.prog 10 #[.string key, .agg #[.int .i64 ak, .float .f64 ax, .int .i64 an, .string az], .agg #[.int .i64 bk, .float .f64 bx, .int .i64 bn, .string bz], .agg #[.bool vb, .float .f64 vx, .int .i64 vn, .string vz], .agg #[.bool ub, .float .f64 ux, .int .i64 un, .string uz], .string s] w fun e w' => e = .returned (.bool true) ∧ Bl w w' := by
  have hsf := store_float
  have hza : az.size ≤ 9000 := by omega
  have hzb : bz.size ≤ 9000 := by omega
  have hzv : vz.size ≤ 9000 := by omega
  have hzu : uz.size ≤ 9000 := by omega
  go_enter Tryd.func10, Tryd.ntmps10
  go_wp2_with fail
  refine (put_agg ak ax an az pb pc _ Oa P).mono ?_
  rintro e w1 ⟨rfl, hb1⟩
  have G := (F4.new w [.int .i64 ak, .float .f64 ax, .int .i64 an, .string az] [.int .i64 bk, .float .f64 bx, .int .i64 bn, .string bz] [.bool vb, .float .f64 vx, .int .i64 vn, .string vz] [.bool ub, .float .f64 ux, .int .i64 un, .string uz] _ _ _ _).keep hb1
  clear hb1
  obtain ⟨a0, a1, a2, a3⟩ := G.a.act
  go_wp2_with fail
  refine (refPut_agg ak ax an az pb pc _ Oa P).mono ?_
  rintro e w2 ⟨rfl, hb2⟩
  replace G := G.keep hb2
  clear hb2 a0 a1 a2 a3
  go_wp2_with fail
  refine (oget_agg s gk gx gn gz gc _ Gt).mono ?_
  rintro e w3 ⟨rfl, hb3⟩
  replace G := G.keep hb3
  clear hb3
  go_upto_region 6 with fail
  have cg := AC.new w3 w3.heap.size rfl [.int .i64 gk, .float .f64 gx, .int .i64 gn, .string gz] 28
  replace G := G.keep ((Bl.refl w3).alloc (.cells #[.int .i64 gk, .float .f64 gx, .int .i64 gn, .string gz] 28))
  generalize w3.alloc (.cells #[.int .i64 gk, .float .f64 gx, .int .i64 gn, .string gz] 28) = X3 at *
  generalize w3.heap.size = g at *
  go_wp2_with fail
  refine (refGet_agg s gk gx gn gz gc _ Gt hs3).mono ?_
  rintro e w4 ⟨rfl, hb4⟩
  replace G := G.keep hb4
  replace cg := cg.keep hb4
  clear hb4
  go_upto_region 7 with fail
  have ci := AC.new w4 w4.heap.size rfl [.int .i64 gk, .float .f64 gx, .int .i64 gn, .string gz] 28
  replace cg := cg.keep ((Bl.refl w4).alloc (.cells #[.int .i64 gk, .float .f64 gx, .int .i64 gn, .string gz] 28))
  replace G := G.keep ((Bl.refl w4).alloc (.cells #[.int .i64 gk, .float .f64 gx, .int .i64 gn, .string gz] 28))
  generalize w4.alloc (.cells #[.int .i64 gk, .float .f64 gx, .int .i64 gn, .string gz] 28) = X4 at *
  generalize w4.heap.size = i at *
  refine wp_region_extall (by kernel_rfl) (by kernel_rfl) ?_
  replace G := G.keep ((Bl.refl X4).drew)
  replace cg := cg.keep ((Bl.refl X4).drew)
  replace ci := ci.keep ((Bl.refl X4).drew)
  generalize X4.drew = W at *
  obtain ⟨a0, a1, a2, a3⟩ : (∀ n : Ext W, _) ∧ (∀ n : Ext W, _) ∧ (∀ n : Ext W, _) ∧ (∀ n : Ext W, _) := ⟨fun n => (G.keep n.bl).a.act.1, fun n => (G.keep n.bl).a.act.2.1, fun n => (G.keep n.bl).a.act.2.2.1, fun n => (G.keep n.bl).a.act.2.2.2⟩
  obtain ⟨b0, b1, b2, b3⟩ : (∀ n : Ext W, _) ∧ (∀ n : Ext W, _) ∧ (∀ n : Ext W, _) ∧ (∀ n : Ext W, _) := ⟨fun n => (G.keep n.bl).b.act.1, fun n => (G.keep n.bl).b.act.2.1, fun n => (G.keep n.bl).b.act.2.2.1, fun n => (G.keep n.bl).b.act.2.2.2⟩
  obtain ⟨v0, v1, v2, v3⟩ : (∀ n : Ext W, _) ∧ (∀ n : Ext W, _) ∧ (∀ n : Ext W, _) ∧ (∀ n : Ext W, _) := ⟨fun n => (G.keep n.bl).c.val.1, fun n => (G.keep n.bl).c.val.2.1, fun n => (G.keep n.bl).c.val.2.2.1, fun n => (G.keep n.bl).c.val.2.2.2⟩
  obtain ⟨u0, u1, u2, u3⟩ : (∀ n : Ext W, _) ∧ (∀ n : Ext W, _) ∧ (∀ n : Ext W, _) ∧ (∀ n : Ext W, _) := ⟨fun n => (G.keep n.bl).d.val.1, fun n => (G.keep n.bl).d.val.2.1, fun n => (G.keep n.bl).d.val.2.2.1, fun n => (G.keep n.bl).d.val.2.2.2⟩
  obtain ⟨g0, g1, g2, g3⟩ : (∀ n : Ext W, _) ∧ (∀ n : Ext W, _) ∧ (∀ n : Ext W, _) ∧ (∀ n : Ext W, _) := ⟨fun n => (cg.keep n.bl).act.1, fun n => (cg.keep n.bl).act.2.1, fun n => (cg.keep n.bl).act.2.2.1, fun n => (cg.keep n.bl).act.2.2.2⟩
  obtain ⟨i0, i1, i2, i3⟩ : (∀ n : Ext W, _) ∧ (∀ n : Ext W, _) ∧ (∀ n : Ext W, _) ∧ (∀ n : Ext W, _) := ⟨fun n => (ci.keep n.bl).act.1, fun n => (ci.keep n.bl).act.2.1, fun n => (ci.keep n.bl).act.2.2.1, fun n => (ci.keep n.bl).act.2.2.2⟩
  repeat (refine wpE_step (fun K hK => ?_); go_simp; first | (refine hK _ ?_; clear hK K) | (apply Exists.intro; refine ⟨fun n => ?_, hK _ ?_⟩; (first | with_reducible exact refSameA_agg _ _ _ _ _ _ _ _ _ _ S0 Og Og | with_reducible exact fits_agg _ _ _ _ _ _ _ Fa hkey Oa | with_reducible exact refFits_agg _ _ _ _ _ _ _ Fa hkey Oa | with_reducible exact sameA_agg _ _ _ _ _ _ _ _ _ _ S1 Oa Ob | with_reducible exact refSameA_agg _ _ _ _ _ _ _ _ _ _ S1 Oa Ob | with_reducible exact same_agg _ _ _ _ _ _ _ _ _ _ S2 Ov Ou | with_reducible exact refSameV_agg _ _ _ _ _ _ _ _ _ _ S2 Ov Ou); clear hK K))
  refine wpE_nil ?_
  intro n1
  replace G := G.keep n1.bl
  clear cg ci a0 a1 a2 a3 b0 b1 b2 b3 v0 v1 v2 v3 u0 u1 u2 u3 g0 g1 g2 g3 i0 i1 i2 i3
  generalize n1.at = W1 at *
  go_upto_region 9 with fail
  refine wp_region_extall (by kernel_rfl) (by kernel_rfl) ?_
  replace G := G.keep ((Bl.refl W1).drew)
  generalize W1.drew = W2 at *
  obtain ⟨a0, a1, a2, a3⟩ : (∀ n : Ext W2, _) ∧ (∀ n : Ext W2, _) ∧ (∀ n : Ext W2, _) ∧ (∀ n : Ext W2, _) := ⟨fun n => (G.keep n.bl).a.act.1, fun n => (G.keep n.bl).a.act.2.1, fun n => (G.keep n.bl).a.act.2.2.1, fun n => (G.keep n.bl).a.act.2.2.2⟩
  obtain ⟨b0, b1, b2, b3⟩ : (∀ n : Ext W2, _) ∧ (∀ n : Ext W2, _) ∧ (∀ n : Ext W2, _) ∧ (∀ n : Ext W2, _) := ⟨fun n => (G.keep n.bl).b.act.1, fun n => (G.keep n.bl).b.act.2.1, fun n => (G.keep n.bl).b.act.2.2.1, fun n => (G.keep n.bl).b.act.2.2.2⟩
  obtain ⟨v0, v1, v2, v3⟩ : (∀ n : Ext W2, _) ∧ (∀ n : Ext W2, _) ∧ (∀ n : Ext W2, _) ∧ (∀ n : Ext W2, _) := ⟨fun n => (G.keep n.bl).c.val.1, fun n => (G.keep n.bl).c.val.2.1, fun n => (G.keep n.bl).c.val.2.2.1, fun n => (G.keep n.bl).c.val.2.2.2⟩
  have hTn : ∀ n : Ext W2, Tab n.at := fun n => hT.keep (G.bl.trans n.bl)
  repeat (refine wpE_step (fun K hK => ?_); go_simp; first | (refine hK _ ?_; clear hK K) | (apply Exists.intro; refine ⟨fun n => ?_, hK _ ?_⟩; (first | with_reducible exact alive6_any _ (hTn n) | with_reducible exact after_agg _ _ _ _ _ _ _ _ _ _ _ _ _ _ E1 hkey Ov Oa | with_reducible exact refAfter_agg _ _ _ _ _ _ _ _ _ _ _ _ _ _ E1 hkey Ov Oa | with_reducible exact refSameV_agg _ _ _ _ _ _ _ _ _ _ S3 Oc Oc | with_reducible exact both_agg _ _ _ _ _ _ _ _ _ _ _ _ _ _ E2 hkey Oa Ob | with_reducible exact refBoth_agg _ _ _ _ _ _ _ _ _ _ _ _ _ _ E2 hkey Oa Ob | with_reducible exact refSameA_agg _ _ _ _ _ _ _ _ _ _ S4 Oj Oj | with_reducible exact text_agg _ _ _ _ _ _ _ hkey Ov hvz (hTn n) T1 | with_reducible exact refText_agg _ _ _ _ _ _ _ hkey Ov hvz T1); clear hK K))
  refine wpE_nil ?_
  intro n2
  have hbn := G.bl.trans n2.bl
  clear a0 a1 a2 a3 b0 b1 b2 b3 v0 v1 v2 v3 hTn
  go_wp2_with fail
  go_ret
  exact ⟨rfl, hbn⟩
set_option maxHeartbeats 3200000 in
set_option maxRecDepth 100000 in
theorem acts_big (key : ByteArray) (ak : Int) (ax : Nat) (an : Int) (az : ByteArray) (bk : Int) (bx : Nat) (bn : Int) (bz : ByteArray) (vb : Bool) (vx : Nat) (vn : Int) (vz : ByteArray) (ub : Bool) (ux : Nat) (un : Int) (uz : ByteArray) (s : ByteArray) (w : World)
    (hT : Tab w) (hkey : key.size ≤ 140737488351232) (hza : az.size ≤ 140737488351232) (hzb : bz.size ≤ 140737488351232) (hzv : vz.size ≤ 140737488351232) (hzu : uz.size ≤ 140737488351232) (hs : s.size ≤ 140737488351232)
    (h : 3000 < key.size ∨ (key.size ≤ 3000 ∧ 9000 < az.size + bz.size + vz.size + uz.size) ∨ (key.size ≤ 3000 ∧ az.size + bz.size + vz.size + uz.size ≤ 9000 ∧ 3000 < s.size)) :
    Calls Tryd.prog 10 #[.string key, .agg #[.int .i64 ak, .float .f64 ax, .int .i64 an, .string az], .agg #[.int .i64 bk, .float .f64 bx, .int .i64 bn, .string bz], .agg #[.bool vb, .float .f64 vx, .int .i64 vn, .string vz], .agg #[.bool ub, .float .f64 ux, .int .i64 un, .string uz], .string s] w fun e w' => e = .returned (.bool true) ∧ Bl w w' := by
  have hb4 : ∀ T U V X (a b c d : List Value), Bl w ((((w.alloc (.cells a.toArray T)).alloc (.cells b.toArray U)).alloc (.cells c.toArray V)).alloc (.cells d.toArray X)) := fun T U V X a b c d => ((((Bl.refl w).alloc _).alloc _).alloc _).alloc _
  rcases h with h | ⟨h1, h2⟩ | ⟨h1, h2, h3⟩
  all_goals
    go_enter Tryd.func10, Tryd.ntmps10
    go_wp2_with fail
    refine (alive6_any _ (hT.keep (hb4 28 28 34 34 [.int .i64 ak, .float .f64 ax, .int .i64 an, .string az] [.int .i64 bk, .float .f64 bx, .int .i64 bn, .string bz] [.bool vb, .float .f64 vx, .int .i64 vn, .string vz] [.bool ub, .float .f64 ux, .int .i64 un, .string uz]))).mono ?_
    rintro e w1 ⟨rfl, hb1⟩
    have hbn := (hb4 28 28 34 34 [.int .i64 ak, .float .f64 ax, .int .i64 an, .string az] [.int .i64 bk, .float .f64 bx, .int .i64 bn, .string bz] [.bool vb, .float .f64 vx, .int .i64 vn, .string vz] [.bool ub, .float .f64 ux, .int .i64 un, .string uz]).trans hb1
    clear hb1 hb4
    go_wp2_with fail
    go_ret
    exact ⟨rfl, hbn⟩
theorem getA_ok (l : List UInt8) (h : l.length ≤ 3000) : (getA l).1.Ok := by
  have hn : ∀ (k : Int) (m : List UInt8), -9223372036854775808 ≤ k ∧ k ≤ 9223372036854775807 → (numA k m).1.Ok := by
    intro k m hk
    unfold numA
    split
    · rename_i h8
      exact act_ok hk (getR_lt _ (getN_lt8 h8.1).2) (by decide) nil_size
    · exact act_ok (by decide) (by decide) (by decide) nil_size
  have hb : badA.1.Ok := act_ok (by decide) (by decide) (by decide) nil_size
  have hs : ∀ m : List UInt8, m.length ≤ 3000 → (setA m).1.Ok := by
    intro m hm
    unfold setA
    split
    · exact hb
    · split
      · exact hn 0 _ (by decide)
      · split
        · split
          · refine act_ok (by decide) (by decide) (by decide) ?_
            rw [(SB.mk m.tail).size, List.length_tail]; omega
          · exact hb
        · exact hb
  unfold getA
  split
  · exact hb
  · split
    · exact hs _ (by rw [List.length_tail]; omega)
    · split
      · split
        · exact act_ok (by decide) (by decide) (wrap_ok _) nil_size
        · exact hb
      · split
        · exact hn 2 _ (by decide)
        · split
          · exact hn 3 _ (by decide)
          · split
            · split
              · exact act_ok (by decide) (by decide) (by decide) nil_size
              · exact hb
            · exact hb
theorem sameA_refl (a : ActL) : sameA a a = true := by simp [sameA]
theorem opActs_walk (key : ByteArray) (a b : ActL) (v u : ValL) (s : ByteArray) (w : World) (hkey : key.size ≤ 140737488351232) (oa : a.Ok) (ob : b.Ok) (ov : v.Ok) (ou : u.Ok) (hs : s.size ≤ 140737488351232) (hT : Tab w) :
    Calls Tryd.prog 10 #[.string key, a.v, b.v, v.v, u.v, .string s] w fun e w' => e = .returned (.bool true) ∧ Bl w w' := by
  have hza := oa.s
  have hzb := ob.s
  have hzv := ov.s
  have hzu := ou.s
  by_cases h1 : 3000 < key.size
  · exact acts_big key a.k a.x a.n a.s b.k b.x b.n b.s v.there v.x v.n v.s u.there u.x u.n u.s s w hT hkey hza hzb hzv hzu hs (.inl h1)
  by_cases h2 : 9000 < a.s.size + b.s.size + v.s.size + u.s.size
  · exact acts_big key a.k a.x a.n a.s b.k b.x b.n b.s v.there v.x v.n v.s u.there u.x u.n u.s s w hT hkey hza hzb hzv hzu hs (.inr (.inl ⟨by omega, h2⟩))
  by_cases h3 : 3000 < s.size
  · exact acts_big key a.k a.x a.n a.s b.k b.x b.n b.s v.there v.x v.n v.s u.there u.x u.n u.s s w hT hkey hza hzb hzv hzu hs (.inr (.inr ⟨by omega, by omega, h3⟩))
  have hg := getA_ok s.data.toList (by have : s.data.toList.length = s.size := by simp
                                       omega)
  obtain ⟨⟨⟨gk, gx, gn, gz⟩, gc⟩, hG⟩ : ∃ p, getA s.data.toList = p := ⟨_, rfl⟩
  rw [hG] at hg
  obtain ⟨⟨cb, cx, cn, cz⟩, hC⟩ : ∃ p, afterL key v a = p := ⟨_, rfl⟩
  have hc := after_ok (key := key) ov oa
  rw [hC] at hc
  obtain ⟨⟨jk, jx, jn, jz⟩, hJ⟩ : ∃ p, bothL key a b = p := ⟨_, rfl⟩
  have hj := both_ok (key := key) oa ob
  rw [hJ] at hj
  exact acts_core key a.k a.x a.n a.s b.k b.x b.n b.s v.there v.x v.n v.s u.there u.x u.n u.s s gk gx gn gz gc ⟨(putS a).toArray⟩ (putC a) _ _ _ cb cx cn cz jk jx jn jz ⟨(textV key v).toArray⟩ w hkey hT (by omega) (by omega) (by omega) (by omega)
    (Lib.hid oa) (Lib.hid ob) (Lib.hid ov) (Lib.hid ou) (Lib.hid hg) (Lib.hid hc) (Lib.hid hj) (Lib.hid ⟨SB.mk _, rfl⟩) (Lib.hid hG) (Lib.hid rfl) (Lib.hid (sameA_refl _)) (Lib.hid rfl) (Lib.hid rfl) (Lib.hid hC) (Lib.hid hJ) (Lib.hid (sameV_refl _)) (Lib.hid (sameA_refl _)) (Lib.hid (SB.mk _))
end Go.Proofs.YtgdlcoicejgdkaaDoor

