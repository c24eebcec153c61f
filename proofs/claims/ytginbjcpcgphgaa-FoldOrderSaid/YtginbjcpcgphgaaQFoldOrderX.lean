/- bedrocklaw17.FoldOrder: the walk. By an AI agent. -/
import Derived.Test.YtginbjcpcgphgaaCore29
import Derived.Test.YtginbjcpcgphgaaCore30

set_option linter.unusedVariables false
set_option linter.unusedSimpArgs false
namespace Go.Proofs.Ytginbjcpcgphgaa
open Go.RowKit
attribute [local go_sem] eOp eOper eUpon

theorem VA.dropk {w : World} {b off n : Nat} {vs : List VerL} (h : VA w (some ⟨b, off, none⟩) n vs) (k : Nat) (hk : k ≤ n) : VA w (some ⟨b, off + k * 8, none⟩) (n - k) (vs.drop k) := by
  refine ⟨by rw [List.length_drop, h.len], by have := h.cap; omega, fun _ _ => ⟨b, off + k * 8, rfl, fun j hj => ?_⟩⟩
  obtain ⟨b', off', e, hc⟩ := h.cells 0 (by omega)
  simp only [Option.some.injEq, Addr.mk.injEq] at e
  obtain ⟨rfl, rfl, _⟩ := e
  have e2 : nthR (vs.drop k) j = nthR vs (k + j) := by
    rw [nthR_eq (by rw [List.length_drop, h.len]; exact hj), nthR_eq (by rw [h.len]; omega), List.getElem_drop]
  rw [e2, show off + k * 8 + j * 8 = off + (k + j) * 8 by omega]
  exact hc (k + j) (by omega)
theorem VA.takek {w : World} {b off n : Nat} {vs : List VerL} (h : VA w (some ⟨b, off, none⟩) n vs) (k : Nat) (hk : k ≤ n) : VA w (some ⟨b, off, none⟩) k (vs.take k) := by
  refine ⟨by rw [List.length_take, h.len]; omega, by have := h.cap; omega, fun _ _ => ⟨b, off, rfl, fun j hj => ?_⟩⟩
  obtain ⟨b', off', e, hc⟩ := h.cells 0 (by omega)
  simp only [Option.some.injEq, Addr.mk.injEq] at e
  obtain ⟨rfl, rfl, _⟩ := e
  have e2 : nthR (vs.take k) j = nthR vs j := by
    rw [nthR_eq (by rw [List.length_take, h.len]; omega), nthR_eq (by rw [h.len]; omega), List.getElem_take]
  rw [e2]
  exact hc j (by omega)
theorem turned_same (vs : List VerL) (J : Nat) : (orderOf vs).length = (orderOf (vs.drop J ++ vs.take J)).length ∧ ∀ j (h : j < (orderOf vs).length) (k : j < (orderOf (vs.drop J ++ vs.take J)).length), AlV (orderOf vs)[j] (orderOf (vs.drop J ++ vs.take J))[j] := by
  have hm : ∀ v, v ∈ vs ↔ v ∈ vs.drop J ++ vs.take J := fun v => by
    have h := List.take_append_drop J vs
    constructor
    · intro q; rw [← h] at q; rcases List.mem_append.1 q with q | q
      · exact List.mem_append.2 (.inr q)
      · exact List.mem_append.2 (.inl q)
    · intro q; rw [← h]; rcases List.mem_append.1 q with q | q
      · exact List.mem_append.2 (.inr q)
      · exact List.mem_append.2 (.inl q)
  refine strict_same _ _ (order_strict _) (order_strict _) (fun x hx => ?_) (fun y hy => ?_)
  · obtain ⟨o, ho, ha⟩ := order_cover ((hm x).1 (order_mem hx))
    exact ⟨o, ho, ha.symm⟩
  · obtain ⟨o, ho, ha⟩ := order_cover ((hm y).2 (order_mem hy))
    exact ⟨o, ho, ha⟩
theorem turned_nth (vs : List VerL) (J : Nat) : (orderOf vs).length = (orderOf (vs.drop J ++ vs.take J)).length ∧ ∀ j, j < (orderOf vs).length → AlV (nthR (orderOf vs) j) (nthR (orderOf (vs.drop J ++ vs.take J)) j) := by
  obtain ⟨t1, t2⟩ := turned_same vs J
  refine ⟨t1, fun j hj => ?_⟩
  rw [nthR_eq hj, nthR_eq (by omega)]
  exact t2 j hj (by omega)
set_option maxHeartbeats 6400000 in
set_option maxRecDepth 100000 in
theorem foldOrder_any (a : Option Addr) (n ca : Nat) (vs : List VerL) (by_ : Int) (w : World) (hv : VA w a n vs) (hca : n ≤ ca) (hby : -9223372036854775808 ≤ by_ ∧ by_ ≤ 9223372036854775807) :
    Calls Try.prog 6 #[.slice a n ca, .int .i64 by_] w fun e w' => e = .returned (.bool true) ∧ Bl w w' := by
  have hsf := store_fl
  have HL := Lib.hid hv.len
  go_enter Try.func6, Try.ntmps6
  go_wp2_with fail
  refine (light17_any a n ca vs _ hv).mono ?_
  rintro e w1 ⟨lb, rfl, hlb, rfl⟩
  cases lb
  case false =>
    go_wp2_with fail
    refine (alive17_any _).mono ?_
    rintro e w1 ⟨rfl, hb1⟩
    go_wp2_with fail
    go_ret
    exact ⟨rfl, hb1⟩
  case true =>
  have hn60 : n ≤ 60 := hlb rfl
  clear hlb
  by_cases hn0 : n = 0
  · subst hn0
    go_wp2_with fail
    refine (alive17_any _).mono ?_
    rintro e w1 ⟨rfl, hb1⟩
    go_wp2_with fail
    go_ret
    exact ⟨rfl, hb1⟩
  have q0 : ((n : Int) == 0) = false := by rw [beq_eq_false_iff_ne]; omega
  obtain ⟨b, off, rfl, _⟩ := hv.cells 0 (by omega)
  obtain ⟨K, hK⟩ : ∃ K, by_.tmod n = K := ⟨_, rfl⟩
  have hK1 : K < n := by rw [← hK]; exact Int.tmod_lt_of_pos _ (by omega)
  have hK2 : -(n : Int) < K := by rw [← hK]; exact Int.lt_tmod_of_pos _ (by omega)
  go_upto_if 24 with fail
  go_cut [5] (fun s W => ∃ J : Nat, J < n ∧ s = .int .i64 (J : Int) ∧ w = W)
  case first =>
    by_cases hMn : K < 0
    · have q2 : decide (K < 0) = true := decide_eq_true hMn
      obtain ⟨J, hJ⟩ : ∃ J : Nat, K + (n : Int) = (J : Int) := ⟨(K + n).toNat, by omega⟩
      have hJn : J < n := by omega
      clear hMn hK
      go_wp2_with fail
      go_meet
      case rel => exact ⟨J, hJn, rfl, rfl⟩
    · have q2 : decide (K < 0) = false := decide_eq_false hMn
      obtain ⟨J, hJ⟩ : ∃ J : Nat, K = (J : Int) := ⟨K.toNat, by omega⟩
      have hJn : J < n := by omega
      subst hJ
      clear hMn hK
      go_wp2_with fail
      go_meet
      case rel => exact ⟨J, hJn, rfl, rfl⟩
  case rest =>
  obtain ⟨J, hJn, rfl, rfl⟩ := hcut
  clear hK hK1 hK2
  go_wp2_with fail
  refine (fOrder_any _ n ca vs _ hv (by omega)).mono ?_
  rintro e W1 ⟨oa, om, oc, rfl, hvo, hb1⟩
  have HVO := Lib.hid hvo
  have HB1 := Lib.hid hb1
  clear hvo hb1
  go_upto_region 7 with fail
  refine wp_region_idx [0, 1, 2, 4, 5, 6] 4 (Bl W1.drew) (fun _ _ h k => h.trans k) (Bl.refl _) (by kernel_rfl) rfl (by kernel_rfl) (by kernel_rfl) ?_
  have HB2 := Lib.hid (HB1.out.trans ((Bl.refl W1).drew))
  have HVO2 := Lib.hid (HVO.out.keep ((Bl.refl W1).drew))
  clear HB1 HVO
  generalize W1.drew = W at *
  have h1 : (0 : Int) ≤ (J : Int) := by omega
  have h2 : (J : Int) ≤ (n : Int) := by omega
  have h3 : (J : Int) ≤ (ca : Int) := by omega
  have h4 : J ≤ n := by omega
  have h5 : J ≤ ca := by omega
  have h6 : (ca = J) = False := by simp; omega
  repeat (refine wpI_step rfl (fun K hK => ?_); go_simp; refine hK _ ?_; clear hK K)
  refine wpI_nil ?_
  have VA0 := hv.keep HB2.out
  obtain ⟨xs, hx1, hx2, hx3, hx4⟩ := (VA0.dropk J (by omega)).vcs
  obtain ⟨ys, hy1, hy2, hy3, hy4⟩ := (VA0.takek J (by omega)).vcs
  have HX3 := Lib.hid hx3
  have HX4 := Lib.hid hx4
  have HY3 := Lib.hid hy3
  have HY4 := Lib.hid hy4
  have HX1 := Lib.hid hx1
  have HY1 := Lib.hid hy1
  have HX2 := Lib.hid hx2
  have HY2 := Lib.hid hy2
  clear hx1 hx2 hx3 hx4 hy1 hy2 hy3 hy4 VA0
  refine wpAnyE_one (i := 3) (by kernel_rfl) ?_
  intro Y1 hb1
  have HY1B := Lib.hid hb1
  refine eOp_appG (i := 3) rfl rfl _ _ _ rfl el_vr W.heap.size (.slice none 0 0) 0 [] rfl (World.ownsRow_nil _ _ _ _) hb1.size _ (n - J) _ _ rfl (HX3.out.keep hb1) (by unfold maxLen; omega) (by omega) ?_
  intro v1 Y2 ho1 hg1
  have HS1 := Lib.hid ((SV.nil W Y1).both HX4.out (by rw [HX2.out]; exact ho1))
  have HBY := Lib.hid ((SV.nil W Y1).grown hb1 hg1)
  clear ho1 hg1 HY1B hb1
  refine ⟨HBY.out, ?_⟩
  simp only [Act.put, List.setIfInBounds_toArray]
  refine wpAnyE_one (i := 7) (by kernel_rfl) ?_
  intro Y3 hb3
  have HS3 := Lib.hid (HS1.out.keep hb3)
  have HB3 := Lib.hid (HBY.out.trans hb3)
  clear hb3 HS1 HBY
  refine eOp_appG (i := 7) rfl rfl _ _ _ rfl el_vr W.heap.size v1 _ _ rfl HS3.out.own HB3.out.size _ J _ _ rfl (HY3.out.keep HB3.out) (by rw [List.nil_append, HX2.out]; unfold maxLen; omega) (by rw [List.nil_append, HX2.out]; omega) ?_
  intro v2 Y4 ho2 hg2
  have HS4 := Lib.hid (HS3.out.both HY4.out (by rw [HY2.out]; exact ho2))
  have HB4 := Lib.hid (HS3.out.grown HB3.out hg2)
  obtain ⟨ta, tc, rfl, hvt⟩ := HS4.out.va HB4.out (n := n) (by rw [List.nil_append, List.length_append, HX2.out, HY2.out]; omega) (by omega)
  have HVT := Lib.hid (show VA Y4 ta n (vs.drop J ++ vs.take J) by rw [List.nil_append, List.map_append, HX1.out, HY1.out] at hvt; exact hvt)
  clear ho2 hg2 HS3 HB3 HS4 hvt
  refine ⟨HB4.out, ?_⟩
  simp only [Act.put, List.setIfInBounds_toArray]
  refine wpAnyE_one (i := 8) (by kernel_rfl) ?_
  intro Y5 hb5
  have HVT5 := Lib.hid (HVT.out.keep hb5)
  have HB5 := Lib.hid (HB4.out.trans hb5)
  clear hb5 HVT HB4
  go_simp
  refine (fOrder_any ta n tc (vs.drop J ++ vs.take J) Y5 HVT5.out (by omega)).mono ?_
  rintro e W6 ⟨pa, pm, pc, rfl, hvp, hb6⟩
  have HB6 := Lib.hid (HB5.out.trans hb6)
  have HVP := Lib.hid hvp
  clear hvp hb6 HB5 HVT5
  refine ⟨_, rfl, HB6.out, ?_⟩
  refine wpAnyE_one (i := 9) (by kernel_rfl) ?_
  intro Y7 hb7
  have HB7 := Lib.hid (HB6.out.trans hb7)
  have HVP7 := Lib.hid (HVP.out.keep hb7)
  clear hb7 HB6 HVP
  go_simp
  refine ⟨HB7.out, ?_⟩
  refine wpAnyE_done (by kernel_rfl) ?_
  intro W8 hb8
  have HB8 := Lib.hid (HB2.out.trans (HB7.out.trans hb8))
  have HVP8 := Lib.hid (HVP7.out.keep hb8)
  have HVO8 := Lib.hid (HVO2.out.keep (HB7.out.trans hb8))
  clear hb8 HB7 HVP7 HVO2 HB2
  obtain ⟨t1, t2⟩ := turned_nth vs J
  have hlen := order_len vs
  obtain ⟨os, hos⟩ : ∃ os, orderOf vs = os := ⟨_, rfl⟩
  obtain ⟨ps, hps⟩ : ∃ ps, orderOf (vs.drop J ++ vs.take J) = ps := ⟨_, rfl⟩
  have HSTR := Lib.hid (order_strict vs)
  rw [hos] at HVO8 t1 hlen HSTR t2
  rw [hps] at HVP8 t1 t2
  have hpm : pm = om := by rw [← HVP8.out.len, ← HVO8.out.len, t1]
  subst hpm
  have HAL := Lib.hid (show ∀ j, j < pm → AlV (nthR os j) (nthR ps j) from fun j hj => t2 j (by rw [HVO8.out.len]; exact hj))
  have hon : pm ≤ n := by rw [← HVO8.out.len, ← HL.out]; exact hlen
  clear t1 t2 hlen hos hps h6
  have r1 : ((pm : Int) != (pm : Int)) = false := by simp
  have r2 : decide ((n : Int) < (pm : Int)) = false := decide_eq_false (by omega)
  have r2n : decide (n < pm) = false := decide_eq_false (by omega)
  go_step
  go_wp2_with fail
  go_loopw [8] (fun iv wr => ∃ k : Nat, k ≤ pm ∧ iv = .int .i64 (k : Int) ∧ Bl W8 wr) (fun iv _ => pm - (intOf iv).toNat)
  case atStart => exact ⟨0, Nat.zero_le _, by go_num, Bl.refl _⟩
  case round =>
    obtain ⟨k, hk, rfl, hb⟩ := hrel
    have HB := Lib.hid hb
    clear hb
    by_cases hlt : k < pm
    · obtain ⟨b1, o1, rfl, hc1⟩ := HVO8.out.cells k hlt
      obtain ⟨b2, o2, rfl, hc2⟩ := HVP8.out.cells k hlt
      have E1 := (hc1 k hlt).keep HB.out
      have E2 := (hc2 k hlt).keep HB.out
      have HA := Lib.hid (HAL.out k hlt)
      obtain ⟨V1, hV1⟩ : ∃ V, nthR os k = V := ⟨_, rfl⟩
      obtain ⟨V2, hV2⟩ : ∃ V, nthR ps k = V := ⟨_, rfl⟩
      rw [hV1] at E1 HA
      rw [hV2] at E2 HA
      clear hV1 hV2 hc1 hc2
      obtain ⟨k2, a2, o2', t2', c2'⟩ := V2
      obtain ⟨-, g1, g2, g3⟩ := HA.out
      clear HA
      dsimp only at g1 g2 g3
      subst g1 g2 g3
      have m1 : (V1.origin != V1.origin) = false := by simp
      have m2 : (V1.tx != V1.tx) = false := by simp
      have HE1 := Lib.hid E1
      have HE2 := Lib.hid E2
      clear E1 E2
      go_upto_region 13 with fail
      refine wp_region_allS (by kernel_rfl) (by kernel_rfl) ?_
      have HG1 := Lib.hid (HE1.out.keep ((Bl.refl wr).drew))
      have HG2 := Lib.hid (HE2.out.keep ((Bl.refl wr).drew))
      have HBD := Lib.hid (HB.out.trans ((Bl.refl wr).drew))
      clear HE1 HE2 HB
      generalize wr.drew = Z at *
      obtain ⟨va, vn, vc, e1, hI1⟩ := HG1.out.at_
      obtain ⟨ua, un, uc, f1, hI2⟩ := HG2.out.at_
      obtain ⟨p0, p1, p2, p3, p4, p5, p6, p7⟩ := HG1.out.all e1
      obtain ⟨r0, r1, r2, r3, r4, r5, r6, r7⟩ := HG2.out.all f1
      dsimp only at r2 r3
      have HI1 := Lib.hid hI1
      have HI2 := Lib.hid hI2
      clear hI1 hI2 e1 f1
      have V := Lib.hid (fun q : Ext Z => same_any va ua vn un vc uc V1.at_ V1.at_ q.at (HI1.out.keep q.bl) (HI2.out.keep q.bl))
      repeat (refine wpS_step (fun K hK => ?_); go_simp; first | (refine hK _ ?_; clear hK K) | (apply Exists.intro; refine ⟨fun q => ?_, hK _ ?_⟩; (with_reducible exact V.out q); clear hK K))
      refine wpS_nil ?_
      intro q1
      have HB1 := Lib.hid (HBD.out.trans q1.bl)
      clear V p0 p1 p2 p3 p4 p5 p6 p7 r0 r1 r2 r3 r4 r5 r6 r7 HG1 HG2 HBD HI1 HI2
      generalize ExtC.at q1 = W9 at *
      go_wp2_with fail
      refine ⟨⟨k + 1, by omega, by go_num, HB1.out⟩, ?_⟩
      simp [intOf]; omega
    · have HOO := Lib.hid (show orderOf os = os from order_id HSTR.out)
      go_wp2_with fail
      refine (fOrder_any oa pm oc os _ (HVO8.out.keep HB.out) (by omega)).mono ?_
      rintro e w9 ⟨qa, qm, qc, rfl, hvq, hb9⟩
      rw [HOO.out] at hvq
      have hqm : qm = pm := by rw [← hvq.len, ← HVO8.out.len]
      subst hqm
      have HBZ := Lib.hid (HB8.out.trans (HB.out.trans hb9))
      clear hvq hb9
      go_wp2_with fail
      refine (alive17_any _).mono ?_
      rintro e w10 ⟨rfl, hb10⟩
      go_wp2_with fail
      go_ret
      exact ⟨by simp, HBZ.out.trans hb10⟩
end Go.Proofs.Ytginbjcpcgphgaa
