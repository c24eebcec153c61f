/- IkeyOrder, walked. By an AI agent. -/
import Derived.Test.YtgdlcoicejgdkaaDoorIkeyHeadsX
import Derived.Test.YtgdlcoicejgdkaaDoorIkeyO
import Derived.Test.YtgdlcoicejgdkaaDoorIkeyT
import Derived.Sort.Walk0
namespace Go.Proofs.YtgdlcoicejgdkaaDoor
open Go.RowKit
attribute [local go_sem] eOp eOper eUpon

theorem SB.less {s t : ByteArray} {l m : List UInt8} (hs : SB s l) (ht : SB t m) : Op.bytesLess s.toList t.toList = less l m := by
  rw [ByteArray.toList_eq, ByteArray.toList_eq, show s.data.toList = l from hs, show t.data.toList = m from ht]; rfl
/-- the two versions' boxes -/
structure GO (w W : World) (c1 c2 : List Value) : Prop where
  bl : Bl w W
  a : AC W w.heap.size c1
  b : AC W (w.heap.size + 1) c2
theorem GO.keep {w W W' : World} {c1 c2 : List Value} (h : GO w W c1 c2) (k : Bl W W') : GO w W' c1 c2 := ⟨h.bl.trans k, h.a.keep k, h.b.keep k⟩
theorem GO.new (w : World) (T U : TypeId) (c1 c2 : List Value) : GO w ((w.alloc (.cells c1.toArray T)).alloc (.cells c2.toArray U)) c1 c2 :=
  ⟨((Bl.refl w).alloc _).alloc _, (AC.new w _ rfl c1 T).keep ((Bl.refl _).alloc _), AC.new _ (w.heap.size + 1) (by simp) c2 U⟩
theorem ktime_any (V : VerL) (a : Option Addr) (n ca : Nat) (T : Int) (w : World) (hx : IA w a n V.at_) (HT : Hid (timeL V = T)) :
    Calls Tryd.prog 70 #[.agg #[.string V.key, .slice a n ca, .int .i64 V.origin, .int .i64 V.tx, .int .i64 V.act.k, .float .f64 V.act.x, .int .i64 V.act.n, .string V.act.s]] w fun e w' => e = .returned (.int .i64 T) ∧ Bl w w' :=
  time_any V.key a n ca V.at_ V.origin V.tx V.act.k V.act.x V.act.n V.act.s T w hx HT
set_option maxHeartbeats 3200000 in
set_option maxRecDepth 100000 in
theorem ikeyOrder_walk (a : Option Addr) (n ca : Nat) (V : VerL) (b : Option Addr) (m cb : Nat) (W : VerL) (w : World) (hI : IA w a n V.at_) (hV : VR V) (hJ : IA w b m W.at_) (hW : VR W) :
    Calls Tryd.prog 5 #[.agg #[.string V.key, .slice a n ca, .int .i64 V.origin, .int .i64 V.tx, .int .i64 V.act.k, .float .f64 V.act.x, .int .i64 V.act.n, .string V.act.s], .agg #[.string W.key, .slice b m cb, .int .i64 W.origin, .int .i64 W.tx, .int .i64 W.act.k, .float .f64 W.act.x, .int .i64 W.act.n, .string W.act.s]] w
      fun e w' => e = .returned (.bool true) ∧ Bl w w' := by
  have hsf := store_float
  have hkV := hV.key
  have hkW := hW.key
  have G := GO.new w 30 30 (verC V.key a n ca V.origin V.tx V.act.k V.act.x V.act.n V.act.s) (verC W.key b m cb W.origin W.tx W.act.k W.act.x W.act.n W.act.s)
  go_enter Tryd.func5, Tryd.ntmps5
  go_wp2_with fail
  refine (kput_any V.key a n ca V.at_ V.origin V.tx V.act.k V.act.x V.act.n V.act.s ⟨(kputS V).toArray⟩ (kputC V) _ hkV (hI.keep G.bl) (Lib.hid ⟨SB.mk _, rfl⟩)).mono ?_
  rintro e w1 ⟨rfl, hb1⟩
  replace G := G.keep hb1
  clear hb1
  obtain ⟨b0, b1, b2, b3, b4, b5, b6, b7⟩ := G.b.ver
  go_wp2_with fail
  refine (kput_any W.key b m cb W.at_ W.origin W.tx W.act.k W.act.x W.act.n W.act.s ⟨(kputS W).toArray⟩ (kputC W) _ hkW (hJ.keep G.bl) (Lib.hid ⟨SB.mk _, rfl⟩)).mono ?_
  rintro e w2 ⟨rfl, hb2⟩
  replace G := G.keep hb2
  clear hb2 b0 b1 b2 b3 b4 b5 b6 b7
  cases hvV : validK V
  · rw [show kputC V = 1 from by unfold kputC; rw [hvV]; rfl]
    generalize (⟨(kputS V).toArray⟩ : ByteArray) = z1
    generalize (⟨(kputS W).toArray⟩ : ByteArray) = z2
    generalize kputC W = kc
    go_wp2_with fail
    refine (alive5_any _).mono ?_
    rintro e w3 ⟨rfl, hb3⟩
    go_wp2_with fail
    go_ret
    exact ⟨rfl, G.bl.trans hb3⟩
  cases hvW : validK W
  · rw [show kputC V = 0 from by unfold kputC; rw [hvV]; rfl, show kputC W = 1 from by unfold kputC; rw [hvW]; rfl]
    generalize (⟨(kputS V).toArray⟩ : ByteArray) = z1
    generalize (⟨(kputS W).toArray⟩ : ByteArray) = z2
    go_wp2_with fail
    refine (alive5_any _).mono ?_
    rintro e w3 ⟨rfl, hb3⟩
    go_wp2_with fail
    go_ret
    exact ⟨rfl, G.bl.trans hb3⟩
  rw [show kputC V = 0 from by unfold kputC; rw [hvV]; rfl, show kputC W = 0 from by unfold kputC; rw [hvW]; rfl, show kputS V = putK V from by unfold kputS; rw [hvV]; rfl, show kputS W = putK W from by unfold kputS; rw [hvW]; rfl]
  have KV := (validK_iff V).1 hvV
  have KW := (validK_iff W).1 hvW
  obtain ⟨kv, ekv⟩ : ∃ kv, kv = V.key.data.toList := ⟨_, rfl⟩
  obtain ⟨kw, ekw⟩ : ∃ kw, kw = W.key.data.toList := ⟨_, rfl⟩
  have HKV : Hid (SB V.key kv) := Lib.hid ekv.symm
  have HKW : Hid (SB W.key kw) := Lib.hid ekw.symm
  have ps : SB ⟨(putK V).toArray⟩ (headL kv ++ tailK V) := by rw [ekv]; exact SB.mk _
  have pt : SB ⟨(putK W).toArray⟩ (headL kw ++ tailK W) := by rw [ekw]; exact SB.mk _
  have HPS := Lib.hid ps
  have HPT := Lib.hid pt
  clear ps pt ekv ekw
  generalize (⟨(putK V).toArray⟩ : ByteArray) = s at *
  generalize (⟨(putK W).toArray⟩ : ByteArray) = t at *
  have k64V : V.key.size ≤ 64 := by
    have := KV.key
    simp only [isKeyB, Bool.and_eq_true, decide_eq_true_eq] at this
    exact this.2.1
  have k64W : W.key.size ≤ 64 := by
    have := KW.key
    simp only [isKeyB, Bool.and_eq_true, decide_eq_true_eq] at this
    exact this.2.1
  obtain ⟨a0, a1, a2, a3, a4, a5, a6, a7⟩ := G.a.ver
  obtain ⟨b0, b1, b2, b3, b4, b5, b6, b7⟩ := G.b.ver
  by_cases hk : kv = kw
  · have q1 : (V.key.toList == W.key.toList) = true := by rw [SB.beq HKV.out HKW.out]; exact decide_eq_true hk
    subst hk
    obtain ⟨x, hx⟩ : ∃ x, SB x (headL kv) := ⟨_, SB.mk _⟩
    have hxe : x = ⟨(headL kv).toArray⟩ := SB.eq hx (SB.mk _)
    have r1 : ((s.extract 0 x.size).toList == x.toList) = true := front_eq hx HPS.out rfl
    have r3 : x.size + 13 ≤ s.size := by rw [hx.size, HPS.out.size]; unfold tailK; simp only [List.length_append, putB_len]; omega
    have r4 : s.size ≤ 1000 := by
      rw [HPS.out.size, List.length_append]
      have := (headL_len kv).2
      have h3 := HKV.out.size
      have h4 := putL_len V.at_
      have h5 := KV.len
      unfold tailK; simp only [List.length_append, putB_len]; omega
    obtain ⟨T1, hT1⟩ : ∃ T, timeL V = T := ⟨_, rfl⟩
    obtain ⟨T2, hT2⟩ : ∃ T, timeL W = T := ⟨_, rfl⟩
    have htl := tail_less KV KW
    have hls : Op.bytesLess s.toList t.toList = less (tailK V) (tailK W) := by rw [SB.less HPS.out HPT.out, less_same]
    rw [← hls, hT1, hT2] at htl
    have HX := Lib.hid hxe
    have HTL := Lib.hid htl
    have HT1 := Lib.hid hT1
    have HT2 := Lib.hid hT2
    clear hx hxe hls htl hT1 hT2
    go_upto_region 7 with fail
    refine wp_region_extall (by kernel_rfl) (by kernel_rfl) ?_
    replace G := G.keep ((Bl.refl w2).drew)
    clear a0 a1 a2 a3 a4 a5 a6 a7 b0 b1 b2 b3 b4 b5 b6 b7
    generalize w2.drew = Z at *
    obtain ⟨a0, a1, a2, a3, a4, a5, a6, a7⟩ : (∀ n : Ext Z, _) ∧ (∀ n : Ext Z, _) ∧ (∀ n : Ext Z, _) ∧ (∀ n : Ext Z, _) ∧ (∀ n : Ext Z, _) ∧ (∀ n : Ext Z, _) ∧ (∀ n : Ext Z, _) ∧ (∀ n : Ext Z, _) :=
      ⟨fun n => (G.keep n.bl).a.ver.1, fun n => (G.keep n.bl).a.ver.2.1, fun n => (G.keep n.bl).a.ver.2.2.1, fun n => (G.keep n.bl).a.ver.2.2.2.1, fun n => (G.keep n.bl).a.ver.2.2.2.2.1, fun n => (G.keep n.bl).a.ver.2.2.2.2.2.1, fun n => (G.keep n.bl).a.ver.2.2.2.2.2.2.1, fun n => (G.keep n.bl).a.ver.2.2.2.2.2.2.2⟩
    obtain ⟨b0, b1, b2, b3, b4, b5, b6, b7⟩ : (∀ n : Ext Z, _) ∧ (∀ n : Ext Z, _) ∧ (∀ n : Ext Z, _) ∧ (∀ n : Ext Z, _) ∧ (∀ n : Ext Z, _) ∧ (∀ n : Ext Z, _) ∧ (∀ n : Ext Z, _) ∧ (∀ n : Ext Z, _) :=
      ⟨fun n => (G.keep n.bl).b.ver.1, fun n => (G.keep n.bl).b.ver.2.1, fun n => (G.keep n.bl).b.ver.2.2.1, fun n => (G.keep n.bl).b.ver.2.2.2.1, fun n => (G.keep n.bl).b.ver.2.2.2.2.1, fun n => (G.keep n.bl).b.ver.2.2.2.2.2.1, fun n => (G.keep n.bl).b.ver.2.2.2.2.2.2.1, fun n => (G.keep n.bl).b.ver.2.2.2.2.2.2.2⟩
    have H1 := Lib.hid (fun q : Ext Z => rtime_any V a n ca T1 q.at (hI.keep (G.bl.trans q.bl)) HT1)
    have H2 := Lib.hid (fun q : Ext Z => rtime_any W b m cb T2 q.at (hJ.keep (G.bl.trans q.bl)) HT2)
    repeat (refine wpE_step (fun K hK => ?_); go_simp; first | (refine hK _ ?_; clear hK K) | (apply Exists.intro; refine ⟨fun n => ?_, hK _ ?_⟩; (first | with_reducible exact H1.out n | with_reducible exact H2.out n); clear hK K))
    refine wpE_nil ?_
    intro n1
    replace G := G.keep n1.bl
    clear a0 a1 a2 a3 a4 a5 a6 a7 b0 b1 b2 b3 b4 b5 b6 b7
    generalize n1.at = W1 at *
    have o1 := KV.o0
    have c8 : (T1 > T2 ∨ T1 < T2 ∨ (T1 = T2 ∧ (V.origin > W.origin ∨ V.origin < W.origin ∨ (V.origin = W.origin ∧ (V.tx > W.tx ∨ V.tx < W.tx ∨ V.tx = W.tx))))) := by omega
    have HN : ∀ P : Prop, (¬ (T1 = T2 ∧ V.origin = W.origin ∧ V.tx = W.tx)) → (LaterP T1 V.origin V.tx T2 W.origin W.tx ↔ P) → [Decidable P] → Op.bytesLess s.toList t.toList = decide P := by
      intro P h1 h2 _
      rcases HTL.out with h | h
      · exact absurd h h1
      · rw [h, decide_eq_decide]; exact h2
    replace HN := Lib.hid HN
    have HXS : Hid (Calls Tryd.prog 22 #[.string V.key] W1 fun e w' => e = .returned (.string x) ∧ Bl W1 w') := Lib.hid (by rw [HX.out]; exact head_any V.key kv W1 HKV.out (by omega))
    obtain ⟨a0, a1, a2, a3, a4, a5, a6, a7⟩ := G.a.ver
    obtain ⟨b0, b1, b2, b3, b4, b5, b6, b7⟩ := G.b.ver
    clear o1
    generalize V.origin = oV at *
    generalize W.origin = oW at *
    generalize V.tx = tV at *
    generalize W.tx = tW at *
    rcases c8 with h | h | ⟨rfl, h | h | ⟨rfl, h | h | rfl⟩⟩
    · have q2 : Op.bytesLess s.toList t.toList = true := by rw [HN.out True (by omega) (by unfold LaterP; simp; try omega)]; rfl
      have n0 : (T1 == T2) = false := by rw [beq_eq_false_iff_ne]; omega
      clear HN
      go_wp2_with fail
      refine (HXS.out).mono ?_
      rintro e w3 ⟨rfl, hb3⟩
      go_wp2_with fail
      refine (alive5_any _).mono ?_
      rintro e w4 ⟨rfl, hb4⟩
      have hB := (G.bl.trans hb3).trans hb4
      go_wp2_with fail
      go_ret
      first | exact ⟨rfl, hB⟩ | exact ⟨ret_bool (by simp; omega), hB⟩
    · have q2 : Op.bytesLess s.toList t.toList = false := by rw [HN.out False (by omega) (by unfold LaterP; simp; try omega)]; rfl
      have n0 : (T1 == T2) = false := by rw [beq_eq_false_iff_ne]; omega
      clear HN
      go_wp2_with fail
      refine (HXS.out).mono ?_
      rintro e w3 ⟨rfl, hb3⟩
      go_wp2_with fail
      refine (alive5_any _).mono ?_
      rintro e w4 ⟨rfl, hb4⟩
      have hB := (G.bl.trans hb3).trans hb4
      go_wp2_with fail
      go_ret
      first | exact ⟨rfl, hB⟩ | exact ⟨ret_bool (by simp; omega), hB⟩
    · have q2 : Op.bytesLess s.toList t.toList = true := by rw [HN.out True (by omega) (by unfold LaterP; simp; try omega)]; rfl
      have n0 : (oV == oW) = false := by rw [beq_eq_false_iff_ne]; omega
      clear HN
      go_wp2_with fail
      refine (HXS.out).mono ?_
      rintro e w3 ⟨rfl, hb3⟩
      go_wp2_with fail
      refine (alive5_any _).mono ?_
      rintro e w4 ⟨rfl, hb4⟩
      have hB := (G.bl.trans hb3).trans hb4
      go_wp2_with fail
      go_ret
      first | exact ⟨rfl, hB⟩ | exact ⟨ret_bool (by simp; omega), hB⟩
    · have q2 : Op.bytesLess s.toList t.toList = false := by rw [HN.out False (by omega) (by unfold LaterP; simp; try omega)]; rfl
      have n0 : (oV == oW) = false := by rw [beq_eq_false_iff_ne]; omega
      clear HN
      go_wp2_with fail
      refine (HXS.out).mono ?_
      rintro e w3 ⟨rfl, hb3⟩
      go_wp2_with fail
      refine (alive5_any _).mono ?_
      rintro e w4 ⟨rfl, hb4⟩
      have hB := (G.bl.trans hb3).trans hb4
      go_wp2_with fail
      go_ret
      first | exact ⟨rfl, hB⟩ | exact ⟨ret_bool (by simp; omega), hB⟩
    · have q2 : Op.bytesLess s.toList t.toList = true := by rw [HN.out True (by omega) (by unfold LaterP; simp; try omega)]; rfl
      have n0 : (tV == tW) = false := by rw [beq_eq_false_iff_ne]; omega
      clear HN
      go_wp2_with fail
      refine (HXS.out).mono ?_
      rintro e w3 ⟨rfl, hb3⟩
      go_wp2_with fail
      refine (alive5_any _).mono ?_
      rintro e w4 ⟨rfl, hb4⟩
      have hB := (G.bl.trans hb3).trans hb4
      go_wp2_with fail
      go_ret
      first | exact ⟨rfl, hB⟩ | exact ⟨ret_bool (by simp; omega), hB⟩
    · have q2 : Op.bytesLess s.toList t.toList = false := by rw [HN.out False (by omega) (by unfold LaterP; simp; try omega)]; rfl
      have n0 : (tV == tW) = false := by rw [beq_eq_false_iff_ne]; omega
      clear HN
      go_wp2_with fail
      refine (HXS.out).mono ?_
      rintro e w3 ⟨rfl, hb3⟩
      go_wp2_with fail
      refine (alive5_any _).mono ?_
      rintro e w4 ⟨rfl, hb4⟩
      have hB := (G.bl.trans hb3).trans hb4
      go_wp2_with fail
      go_ret
      first | exact ⟨rfl, hB⟩ | exact ⟨ret_bool (by simp; omega), hB⟩
    · generalize Op.bytesLess s.toList t.toList = bb at *
      clear HN
      go_wp2_with fail
      refine (HXS.out).mono ?_
      rintro e w3 ⟨rfl, hb3⟩
      go_wp2_with fail
      refine (alive5_any _).mono ?_
      rintro e w4 ⟨rfl, hb4⟩
      have hB := (G.bl.trans hb3).trans hb4
      go_wp2_with fail
      go_ret
      first | exact ⟨rfl, hB⟩ | exact ⟨ret_bool (by simp; omega), hB⟩
  · have q1 : (V.key.toList == W.key.toList) = false := by rw [SB.beq HKV.out HKW.out]; exact decide_eq_false hk
    obtain ⟨x, hx⟩ : ∃ x, SB x (headL kv) := ⟨_, SB.mk _⟩
    obtain ⟨y, hy⟩ : ∃ y, SB y (headL kw) := ⟨_, SB.mk _⟩
    obtain ⟨B, hB⟩ : ∃ B, less kv kw = B := ⟨_, rfl⟩
    have l1 : Op.bytesLess s.toList t.toList = B := by rw [SB.less HPS.out HPT.out, less_head _ _ _ _ hk, hB]
    have l2 : Op.bytesLess V.key.toList W.key.toList = B := by rw [SB.less HKV.out HKW.out, hB]
    have l3 : Op.bytesLess x.toList y.toList = B := by
      have := less_head kv kw [] [] hk
      rw [List.append_nil, List.append_nil] at this
      rw [SB.less hx hy, this, hB]
    have hxe : x = ⟨(headL kv).toArray⟩ := SB.eq hx (SB.mk _)
    have hye : y = ⟨(headL kw).toArray⟩ := SB.eq hy (SB.mk _)
    have HX := Lib.hid hxe
    have HY := Lib.hid hye
    clear hx hy hxe hye
    go_upto_region 6 with fail
    refine wp_region_extall (by kernel_rfl) (by kernel_rfl) ?_
    replace G := G.keep ((Bl.refl w2).drew)
    clear a0 a1 a2 a3 a4 a5 a6 a7 b0 b1 b2 b3 b4 b5 b6 b7
    generalize w2.drew = Z at *
    have a0 : ∀ n : Ext Z, _ := fun n => (G.keep n.bl).a.ver.1
    have b0 : ∀ n : Ext Z, _ := fun n => (G.keep n.bl).b.ver.1
    have HA := Lib.hid (fun n : Ext Z => alive5_any n.at)
    have H1 : Hid (∀ n : Ext Z, Calls Tryd.prog 22 #[.string V.key] n.at fun e w' => e = .returned (.string x) ∧ Bl n.at w') := Lib.hid (fun n => by rw [HX.out]; exact head_any V.key kv n.at HKV.out (by omega))
    have H2 : Hid (∀ n : Ext Z, Calls Tryd.prog 22 #[.string W.key] n.at fun e w' => e = .returned (.string y) ∧ Bl n.at w') := Lib.hid (fun n => by rw [HY.out]; exact head_any W.key kw n.at HKW.out (by omega))
    repeat (refine wpE_step (fun K hK => ?_); go_simp; first | (refine hK _ ?_; clear hK K) | (apply Exists.intro; refine ⟨fun n => ?_, hK _ ?_⟩; (first | with_reducible exact HA.out n | with_reducible exact H1.out n | with_reducible exact H2.out n); clear hK K))
    refine wpE_nil ?_
    intro n1
    replace G := G.keep n1.bl
    clear a0 b0
    generalize n1.at = W1 at *
    go_wp2_with fail
    go_ret
    exact ⟨rfl, G.bl⟩
end Go.Proofs.YtgdlcoicejgdkaaDoor
