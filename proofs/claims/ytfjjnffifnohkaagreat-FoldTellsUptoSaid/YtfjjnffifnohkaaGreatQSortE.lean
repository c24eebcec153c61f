import Derived.Test.YtfjjnffifnohkaaGreatQFoldTellsUptoP20

/- slices.symMergeCmpFunc over versions: many against one element (printed in part by wip/gen/sorte.py). By an AI agent. -/
section
set_option linter.unusedVariables false
set_option linter.unusedSimpArgs false
namespace Go.Proofs.YtfjjnffifnohkaaGreat
open Go.RowKit
attribute [local go_sem] eOp eOper eUpon

theorem ins_el {P S : List VC} {x : VC} {i : Nat} {Q : List VC} (hi : i < S.length) : el (INS P S x S.length Q) (P.length + i) = el S i := by
  unfold INS
  rw [List.take_of_length_le (Nat.le_refl _), el_right, el_left _ hi]
set_option maxHeartbeats 3200000 in
set_option maxRecDepth 100000 in
theorem symM_right (w W : World) (g n ca : Nat) (P S : List VC) (x : VC) (Q : List VC) (a m b : Nat) (hp : P.length = a) (ha : a + S.length = m) (hb : m + 1 = b) (hn : b + Q.length = n) (hn1 : n ≤ 1000000) (h1 : 1 < S.length) (hS : Srt leC S) (hr : RW w W g (P ++ (S ++ ([x] ++ Q)))) :
    Calls Tryz.prog 171 #[.slice (some ⟨g, 0, none⟩) n ca, .int .i64 a, .int .i64 m, .int .i64 b, .func (.func 22) #[] #[]] W fun e W' => e = .returned (.tuple #[]) ∧ RW w W' g (P ++ (mrg leC S [x] ++ Q)) := by
  have hsf := store_fl
  have e0 : P ++ (S ++ ([x] ++ Q)) = INS P S x S.length Q := by simp [INS]
  rw [e0] at hr
  have HR := Lib.hid hr
  have HS := Lib.hid hS
  have HP := Lib.hid hp
  have HA := Lib.hid ha
  have HB := Lib.hid hb
  have HN := Lib.hid hn
  have s1 : (m : Int) - (a : Int) = (S.length : Int) := by omega
  have s2 : (b : Int) - (m : Int) = 1 := by omega
  have s3 : ((S.length : Int) == 1) = false := by rw [beq_eq_false_iff_ne]; omega
  have b0 : S.length ≤ 1000000 := by omega
  have b1 : a ≤ 1000000 := by omega
  have b2 : m ≤ 1000000 := by omega
  have b3 : b ≤ 1000000 := by omega
  clear hr hS hp ha hb hn e0
  obtain ⟨sl, hsl⟩ : ∃ sl, S.length = sl := ⟨_, rfl⟩
  rw [hsl] at s1 s3 b0
  have HSL := Lib.hid hsl
  clear hsl
  go_enter Tryz.func171, Tryz.ntmps171
  go_wp2_with fail
  go_loopw [14, 15] (fun iv jv wr => ∃ i j : Nat, a ≤ i ∧ i ≤ j ∧ j ≤ m ∧ iv = .int .i64 (i : Int) ∧ jv = .int .i64 (j : Int) ∧ RW w wr g (INS P S x S.length Q) ∧ (a < i → leC (el S (i - 1 - a)) x = true) ∧ (j < m → leC (el S (j - a)) x = false)) (fun iv jv _ => (intOf jv).toNat - (intOf iv).toNat)
  case atStart => exact ⟨a, m, Nat.le_refl _, by have := HA.out; omega, Nat.le_refl _, rfl, rfl, HR.out, fun h => absurd h (Nat.lt_irrefl _), fun h => absurd h (Nat.lt_irrefl _)⟩
  case round =>
    clear HR s1 s2 s3
    obtain ⟨i, j, hi, hij, hj, rfl, rfl, hrow, c1, c2⟩ := hrel
    have HC1 := Lib.hid c1
    have HC2 := Lib.hid c2
    have HROW := Lib.hid hrow
    clear c1 c2 hrow
    have b4 : i ≤ 1000000 := by omega
    have b5 : j ≤ 1000000 := by omega
    by_cases hlt : i < j
    · have q0 : decide ((i : Int) < (j : Int)) = true := decide_eq_true (by omega)
      have q0n : decide (i < j) = true := decide_eq_true hlt
      obtain ⟨s, hs⟩ : ∃ s, i + j = s := ⟨_, rfl⟩
      obtain ⟨h, hh⟩ : ∃ h, s / 2 = h := ⟨_, rfl⟩
      have s4 : (i : Int) + (j : Int) = (s : Int) := by omega
      have hf : (s : Int) / 2 = (h : Int) := by omega
      have b6 : s ≤ 2000000 := by omega
      have b7 : h ≤ 1000000 := by omega
      have hih : i ≤ h ∧ h < j := by omega
      have hnh : h < n := by have := HB.out; have := HN.out; omega
      have hnm : m < n := by have := HB.out; have := HN.out; omega
      have HL := Lib.hid (show (INS P S x S.length Q).length = n by rw [ins_len (Nat.le_refl _)]; have := HP.out; have := HA.out; have := HB.out; have := HN.out; omega)
      have eh := Lib.hid (show el (INS P S x S.length Q) h = el S (h - a) by
        have := ins_el (P := P) (S := S) (x := x) (Q := Q) (i := h - a) (by have := HA.out; omega)
        rwa [show P.length + (h - a) = h by have := HP.out; omega] at this)
      have em := Lib.hid (show el (INS P S x S.length Q) m = x by rw [← HA.out, ← HP.out]; exact ins_x (Nat.le_refl _))
      obtain ⟨L, hLL⟩ : ∃ L, INS P S x S.length Q = L := ⟨_, rfl⟩
      have HLL := Lib.hid hLL
      rw [hLL] at HL eh em HROW
      clear hLL hs hh
      obtain ⟨y, hy⟩ : ∃ y, el S (h - a) = y := ⟨_, rfl⟩
      have HY := Lib.hid hy
      rw [hy] at eh
      clear hy
      obtain ⟨R0, hR⟩ : ∃ R0, orderL x.ver y.ver = R0 := ⟨_, rfl⟩
      have HRR := Lib.hid hR
      clear hR
      obtain ⟨qb, hqb⟩ : ∃ qb, decide (R0 < 0) = qb := ⟨_, rfl⟩
      go_upto_region 17 with fail
      have qRR : True := trivial
      refine wp_region_allS (by kernel_rfl) (by kernel_rfl) ?_
      have HZ := Lib.hid (HROW.out.keep ((Bl.refl _).drew))
      clear HROW
      generalize World.drew _ = Z at *
      obtain ⟨x0, x1, x2, x3, x4, x5, x6, x7⟩ := HZ.out.all8 (by rw [HL.out]; exact hnm) em.out
      obtain ⟨y0, y1, y2, y3, y4, y5, y6, y7⟩ := HZ.out.all8 (by rw [HL.out]; exact hnh) eh.out
      have V := Lib.hid (fun q : Ext Z => forder_w _ _ R0 q.at (em.out ▸ (HZ.out.keep q.bl).at_ (by rw [HL.out]; exact hnm)) (eh.out ▸ (HZ.out.keep q.bl).at_ (by rw [HL.out]; exact hnh)) HRR)
      repeat (refine wpS_step (fun K hK => ?_); go_simp; first | (refine hK _ ?_; clear hK K) | (apply Exists.intro; refine ⟨fun q => ?_, hK _ ?_⟩; (with_reducible exact V.out q); clear hK K))
      refine wpS_nil ?_
      intro q1
      have HROW := Lib.hid (HZ.out.keep q1.bl)
      clear x0 x1 x2 x3 x4 x5 x6 x7 y0 y1 y2 y3 y4 y5 y6 y7 V HZ
      generalize q1.at = Y at *
      clear q1
      cases qb
      · have HF := Lib.hid (show leC (el S (h - a)) x = true by rw [HY.out]; exact leC_yes.2 (by rw [HRR.out]; exact of_decide_eq_false hqb))
        go_wp2_with fail
        go_roundw
        case rel => exact ⟨h + 1, j, by omega, by omega, hj, by go_num, rfl, by rw [HLL.out]; exact HROW.out, fun _ => by rw [Nat.add_sub_cancel]; exact HF.out, HC2.out⟩
        case measure => simp [intOf]; omega
      · have HF := Lib.hid (show leC (el S (h - a)) x = false by rw [HY.out]; exact leC_not.2 (by rw [HRR.out]; exact of_decide_eq_true hqb))
        go_wp2_with fail
        go_roundw
        case rel => exact ⟨i, h, hi, by omega, by omega, rfl, rfl, by rw [HLL.out]; exact HROW.out, HC1.out, fun _ => HF.out⟩
        case measure => simp [intOf]; omega
    · have q0 : decide ((i : Int) < (j : Int)) = false := decide_eq_false (by omega)
      have q0n : decide (i < j) = false := decide_eq_false hlt
      obtain rfl : i = j := by omega
      obtain ⟨d, hd⟩ : ∃ d, a + d = i := ⟨i - a, by omega⟩
      have HD := Lib.hid (ins_done (P := P) (Q := Q) HS.out (i := d) (x := x) (by have := HA.out; omega) (fun h => by have := HC1.out (by omega); rwa [show i - 1 - a = d - 1 by omega] at this) (fun h => by have := HC2.out (by have := HA.out; omega); rwa [show i - a = d by omega] at this))
      have HDI := Lib.hid hd
      have HDR := Lib.hid (show d ≤ S.length by have := HA.out; omega)
      clear hd HC1 HC2
      go_wp2_with fail
      go_loopw [17] (fun kv wr => ∃ t k : Nat, d ≤ t ∧ t ≤ S.length ∧ a + t = k ∧ kv = .int .i64 (k : Int) ∧ RW w wr g (INS P S x t Q)) (fun kv _ => (intOf kv).toNat)
      case atStart => exact ⟨S.length, m, HDR.out, Nat.le_refl _, HA.out, rfl, HROW.out⟩
      case round =>
        clear HROW
        obtain ⟨t, k, htd, htS, hk, rfl, hrow⟩ := hrel
        have HZ0 := Lib.hid hrow
        have HK := Lib.hid hk
        have HTD := Lib.hid htd
        have HTS := Lib.hid htS
        clear hrow hk htd htS
        have b9 : k ≤ 1000000 := by have := HK.out; have := HTS.out; have := HA.out; omega
        by_cases hlz : i < k
        · have q1 : decide ((i : Int) < (k : Int)) = true := decide_eq_true (by omega)
          have q1n : decide (i < k) = true := decide_eq_true hlz
          have ht0 : 0 < t := by have := HDI.out; have := HK.out; omega
          obtain ⟨k1, hk1⟩ : ∃ k1, k1 + 1 = k := ⟨k - 1, by omega⟩
          have hw1 : IntKind.i64.wrap ((k : Int) - 1) = (k1 : Int) := by rw [IntKind.wrap_i64]; omega
          have HL := Lib.hid (show (INS P S x t Q).length = n by rw [ins_len HTS.out]; have := HP.out; have := HA.out; have := HB.out; have := HN.out; omega)
          have hnk : k < n := by have := HA.out; have := HB.out; have := HN.out; have := HK.out; have := HTS.out; omega
          have hnk1 : k1 < n := by omega
          have ex := Lib.hid (show el (INS P S x t Q) k = x by rw [← HK.out, ← HP.out]; exact ins_x HTS.out)
          have ey := Lib.hid (show el (INS P S x t Q) k1 = el S (t - 1) by rw [show k1 = P.length + t - 1 by have := HK.out; have := HP.out; omega]; exact ins_y ht0 HTS.out)
          have HSW := Lib.hid (show swp (INS P S x t Q) k1 k = INS P S x (t - 1) Q by rw [show k1 = P.length + t - 1 by have := HK.out; have := HP.out; omega, ← HK.out, ← HP.out]; exact ins_swap ht0 HTS.out)
          have HK1 := Lib.hid hk1
          have HT0 := Lib.hid ht0
          clear ht0 hk1
          generalize el S (t - 1) = y at *
          obtain ⟨L, hLL⟩ : ∃ L, INS P S x t Q = L := ⟨_, rfl⟩
          rw [hLL] at HL ex ey HSW HZ0
          clear hLL
          go_upto_region 23 with fail
          refine wp_region_idx [0, 1, 2, 3, 4, 5, 6, 7, 8, 10, 11, 12] 6 (FrG w g) (fun _ _ h k => h.trans k) HZ0.out.bl.drew (by kernel_rfl) rfl (by kernel_rfl) (by kernel_rfl) ?_
          have HZ := Lib.hid (HZ0.out.keep (Bl.refl _).drew)
          clear HZ0
          generalize World.drew _ = Z at *
          haveI : Nonempty (ExtC (FrG w g)) := ⟨⟨Z, HZ.out.bl⟩⟩
          repeat (refine wpI_step rfl (fun K hK => ?_); go_simp; first | (refine hK _ ?_; clear hK K) | (apply Exists.intro; refine ⟨fun q => ?_, hK _ ?_⟩; fail; clear hK K))
          refine wpI_nil ?_
          clear this
          refine wpAnyE_all (rs := [9, 13]) (by kernel_rfl) (by decide) ?_
          intro i' hi' X1 hx1
          simp only [List.mem_cons, List.not_mem_nil, or_false] at hi'
          have H1 := Lib.hid (HZ.out.keep hx1)
          clear HZ hx1
          rcases hi' with rfl | rfl
          · obtain ⟨e0, e1, e2, e3, e4, e5, e6, e7⟩ := H1.out.at8 (by rw [HL.out]; exact hnk1) ey.out
            go_simp
            refine ⟨H1.out.bl, ?_⟩
            clear e0 e1 e2 e3 e4 e5 e6 e7
            refine wpAnyE_one (i := 13) (by kernel_rfl) ?_
            intro X2 hx2
            have H2 := Lib.hid (H1.out.keep hx2)
            clear H1 hx2
            obtain ⟨e0, e1, e2, e3, e4, e5, e6, e7⟩ := H2.out.at8 (by rw [HL.out]; exact hnk) ex.out
            go_simp
            refine ⟨H2.out.bl, ?_⟩
            clear e0 e1 e2 e3 e4 e5 e6 e7
            refine wpAnyE_one (i := 14) (by kernel_rfl) ?_
            intro Xa hx
            have H3 := Lib.hid (H2.out.keep hx)
            clear H2 hx
            go_simp
            refine ⟨H3.out.bl, ?_⟩
            refine wpAnyE_one (i := 15) (by kernel_rfl) ?_
            intro Xb hx
            have H4 := Lib.hid (H3.out.keep hx)
            clear H3 hx
            obtain ⟨e0, e1, e2, e3, e4, e5, e6, e7⟩ := H4.out.cells (j := k) (by rw [HL.out]; exact hnk)
            have f0 := H4.out.frozen (k * 8)
            have f1 := H4.out.frozen (k * 8 + 1)
            have f2 := H4.out.frozen (k * 8 + 2)
            have f3 := H4.out.frozen (k * 8 + 3)
            have f4 := H4.out.frozen (k * 8 + 4)
            have f5 := H4.out.frozen (k * 8 + 5)
            have f6 := H4.out.frozen (k * 8 + 6)
            have f7 := H4.out.frozen (k * 8 + 7)
            go_simp
            have hv1 : VOk _ g _ := ey.out ▸ H4.out.at_ (j := k1) (by rw [HL.out]; exact hnk1)
            have hv2 : VOk _ g _ := ex.out ▸ H4.out.at_ (j := k) (by rw [HL.out]; exact hnk)
            have k5 := H4.out.st8 (j := k) (by rw [HL.out]; exact hnk) hv1
            have k6 := hv2.st8 (k * 8) y
            unfold st8 at k5 k6
            have HV := Lib.hid k6
            have H5 := Lib.hid k5
            refine ⟨H5.out.bl, ?_⟩
            clear k5 e0 e1 e2 e3 e4 e5 e6 e7 f0 f1 f2 f3 f4 f5 f6 f7 H4 k6 hv1 hv2
            generalize World.setCell _ _ _ = Y0 at *
            refine wpAnyE_one (i := 16) (by kernel_rfl) ?_
            intro Xa hx
            have H6 := Lib.hid (H5.out.keep hx)
            have HV1 := Lib.hid (HV.out.keep hx)
            clear H5 hx HV
            go_simp
            refine ⟨H6.out.bl, ?_⟩
            refine wpAnyE_one (i := 17) (by kernel_rfl) ?_
            intro Xb hx
            have H7 := Lib.hid (H6.out.keep hx)
            have HV2 := Lib.hid (HV1.out.keep hx)
            clear H6 hx HV1
            obtain ⟨e0, e1, e2, e3, e4, e5, e6, e7⟩ := H7.out.cells (j := k1) (by rw [List.length_set, HL.out]; exact hnk1)
            have f0 := H7.out.frozen (k1 * 8)
            have f1 := H7.out.frozen (k1 * 8 + 1)
            have f2 := H7.out.frozen (k1 * 8 + 2)
            have f3 := H7.out.frozen (k1 * 8 + 3)
            have f4 := H7.out.frozen (k1 * 8 + 4)
            have f5 := H7.out.frozen (k1 * 8 + 5)
            have f6 := H7.out.frozen (k1 * 8 + 6)
            have f7 := H7.out.frozen (k1 * 8 + 7)
            go_simp
            have k5 := H7.out.st8 (j := k1) (by rw [List.length_set, HL.out]; exact hnk1) HV2.out
            unfold st8 at k5
            have H8 := Lib.hid k5
            refine ⟨H8.out.bl, ?_⟩
            clear k5 e0 e1 e2 e3 e4 e5 e6 e7 f0 f1 f2 f3 f4 f5 f6 f7 H7 HV2
            generalize World.setCell _ _ _ = Y1 at *
            refine wpAnyE_done (by kernel_rfl) ?_
            intro X9 hx
            have H9 := Lib.hid (H8.out.keep hx)
            clear H8 hx
            have HE := Lib.hid (show (L.set k y).set k1 x = INS P S x (t - 1) Q by rw [← HSW.out, swp_comm _ (by rw [HL.out]; exact hnk1) (by rw [HL.out]; exact hnk)]; unfold swp; rw [ex.out, ey.out])
            rw [HE.out] at H9
            clear HE
            go_wp2_with fail
            go_roundw
            case rel => exact ⟨t - 1, k1, by have := HK.out; have := HDI.out; have := HT0.out; omega, by have := HTS.out; omega, by have := HK.out; have := HK1.out; have := HT0.out; omega, by go_num, H9.out⟩
            case measure => have := HK1.out; simp [intOf]; omega
          · obtain ⟨e0, e1, e2, e3, e4, e5, e6, e7⟩ := H1.out.at8 (by rw [HL.out]; exact hnk) ex.out
            go_simp
            refine ⟨H1.out.bl, ?_⟩
            clear e0 e1 e2 e3 e4 e5 e6 e7
            refine wpAnyE_one (i := 9) (by kernel_rfl) ?_
            intro X2 hx2
            have H2 := Lib.hid (H1.out.keep hx2)
            clear H1 hx2
            obtain ⟨e0, e1, e2, e3, e4, e5, e6, e7⟩ := H2.out.at8 (by rw [HL.out]; exact hnk1) ey.out
            go_simp
            refine ⟨H2.out.bl, ?_⟩
            clear e0 e1 e2 e3 e4 e5 e6 e7
            refine wpAnyE_one (i := 14) (by kernel_rfl) ?_
            intro Xa hx
            have H3 := Lib.hid (H2.out.keep hx)
            clear H2 hx
            go_simp
            refine ⟨H3.out.bl, ?_⟩
            refine wpAnyE_one (i := 15) (by kernel_rfl) ?_
            intro Xb hx
            have H4 := Lib.hid (H3.out.keep hx)
            clear H3 hx
            obtain ⟨e0, e1, e2, e3, e4, e5, e6, e7⟩ := H4.out.cells (j := k) (by rw [HL.out]; exact hnk)
            have f0 := H4.out.frozen (k * 8)
            have f1 := H4.out.frozen (k * 8 + 1)
            have f2 := H4.out.frozen (k * 8 + 2)
            have f3 := H4.out.frozen (k * 8 + 3)
            have f4 := H4.out.frozen (k * 8 + 4)
            have f5 := H4.out.frozen (k * 8 + 5)
            have f6 := H4.out.frozen (k * 8 + 6)
            have f7 := H4.out.frozen (k * 8 + 7)
            go_simp
            have hv1 : VOk _ g _ := ey.out ▸ H4.out.at_ (j := k1) (by rw [HL.out]; exact hnk1)
            have hv2 : VOk _ g _ := ex.out ▸ H4.out.at_ (j := k) (by rw [HL.out]; exact hnk)
            have k5 := H4.out.st8 (j := k) (by rw [HL.out]; exact hnk) hv1
            have k6 := hv2.st8 (k * 8) y
            unfold st8 at k5 k6
            have HV := Lib.hid k6
            have H5 := Lib.hid k5
            refine ⟨H5.out.bl, ?_⟩
            clear k5 e0 e1 e2 e3 e4 e5 e6 e7 f0 f1 f2 f3 f4 f5 f6 f7 H4 k6 hv1 hv2
            generalize World.setCell _ _ _ = Y0 at *
            refine wpAnyE_one (i := 16) (by kernel_rfl) ?_
            intro Xa hx
            have H6 := Lib.hid (H5.out.keep hx)
            have HV1 := Lib.hid (HV.out.keep hx)
            clear H5 hx HV
            go_simp
            refine ⟨H6.out.bl, ?_⟩
            refine wpAnyE_one (i := 17) (by kernel_rfl) ?_
            intro Xb hx
            have H7 := Lib.hid (H6.out.keep hx)
            have HV2 := Lib.hid (HV1.out.keep hx)
            clear H6 hx HV1
            obtain ⟨e0, e1, e2, e3, e4, e5, e6, e7⟩ := H7.out.cells (j := k1) (by rw [List.length_set, HL.out]; exact hnk1)
            have f0 := H7.out.frozen (k1 * 8)
            have f1 := H7.out.frozen (k1 * 8 + 1)
            have f2 := H7.out.frozen (k1 * 8 + 2)
            have f3 := H7.out.frozen (k1 * 8 + 3)
            have f4 := H7.out.frozen (k1 * 8 + 4)
            have f5 := H7.out.frozen (k1 * 8 + 5)
            have f6 := H7.out.frozen (k1 * 8 + 6)
            have f7 := H7.out.frozen (k1 * 8 + 7)
            go_simp
            have k5 := H7.out.st8 (j := k1) (by rw [List.length_set, HL.out]; exact hnk1) HV2.out
            unfold st8 at k5
            have H8 := Lib.hid k5
            refine ⟨H8.out.bl, ?_⟩
            clear k5 e0 e1 e2 e3 e4 e5 e6 e7 f0 f1 f2 f3 f4 f5 f6 f7 H7 HV2
            generalize World.setCell _ _ _ = Y1 at *
            refine wpAnyE_done (by kernel_rfl) ?_
            intro X9 hx
            have H9 := Lib.hid (H8.out.keep hx)
            clear H8 hx
            have HE := Lib.hid (show (L.set k y).set k1 x = INS P S x (t - 1) Q by rw [← HSW.out, swp_comm _ (by rw [HL.out]; exact hnk1) (by rw [HL.out]; exact hnk)]; unfold swp; rw [ex.out, ey.out])
            rw [HE.out] at H9
            clear HE
            go_wp2_with fail
            go_roundw
            case rel => exact ⟨t - 1, k1, by have := HK.out; have := HDI.out; have := HT0.out; omega, by have := HTS.out; omega, by have := HK.out; have := HK1.out; have := HT0.out; omega, by go_num, H9.out⟩
            case measure => have := HK1.out; simp [intOf]; omega
        · have q1 : decide ((i : Int) < (k : Int)) = false := decide_eq_false (by omega)
          have q1n : decide (i < k) = false := decide_eq_false hlz
          obtain rfl : t = d := by have := HK.out; have := HDI.out; have := HTD.out; omega
          rw [HD.out] at HZ0
          go_wp2_with fail
          refine bodyPost_ret (results_none rfl _ _ _) rfl ?_
          exact ⟨rfl, HZ0.out⟩
end Go.Proofs.YtfjjnffifnohkaaGreat
end
