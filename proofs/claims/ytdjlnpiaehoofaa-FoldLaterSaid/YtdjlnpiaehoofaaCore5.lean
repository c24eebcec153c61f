import Derived.Test.YtdjlnpiaehoofaaCore4

/- slices.insertionSortCmpFunc over versions. By an AI agent. -/
section
set_option linter.unusedVariables false
set_option linter.unusedSimpArgs false
namespace Go.Proofs.Ytdjlnpiaehoofaa
open Go.RowKit
attribute [local go_sem] eOp eOper eUpon

def leC (a b : VC) : Bool := leV a.ver b.ver
theorem leC_pre : Pre leC := ⟨fun a b => leV_pre.total a.ver b.ver, fun a b c => leV_pre.trans a.ver b.ver c.ver⟩
theorem leC_not {a b : VC} : leC a b = false ↔ orderL b.ver a.ver < 0 := by unfold leC leV; simp
theorem leC_yes {a b : VC} : leC a b = true ↔ ¬ orderL b.ver a.ver < 0 := by unfold leC leV; simp
/-- x on its way into S -/
def INS (P S : List VC) (x : VC) (i : Nat) (Q : List VC) : List VC := P ++ (S.take i ++ (x :: (S.drop i ++ Q)))
theorem ins_len {P S : List VC} {x : VC} {i : Nat} {Q : List VC} (hi : i ≤ S.length) : (INS P S x i Q).length = P.length + S.length + 1 + Q.length := by
  unfold INS; simp; omega
theorem ins_x {P S : List VC} {x : VC} {i : Nat} {Q : List VC} (hi : i ≤ S.length) : el (INS P S x i Q) (P.length + i) = x := by
  unfold INS
  rw [el_right]
  have h : (S.take i).length = i := by rw [List.length_take]; omega
  have := el_right (S.take i) (x :: (S.drop i ++ Q)) 0
  rw [h, Nat.add_zero] at this
  rw [this]; rfl
theorem ins_y {P S : List VC} {x : VC} {i : Nat} {Q : List VC} (h0 : 0 < i) (hi : i ≤ S.length) : el (INS P S x i Q) (P.length + i - 1) = el S (i - 1) := by
  unfold INS
  rw [show P.length + i - 1 = P.length + (i - 1) by omega, el_right, el_left _ (by rw [List.length_take]; omega)]
  unfold el
  rw [List.getElem?_take_of_lt (by omega)]
theorem ins_swap {P S : List VC} {x : VC} {i : Nat} {Q : List VC} (h0 : 0 < i) (hi : i ≤ S.length) : swp (INS P S x i Q) (P.length + i - 1) (P.length + i) = INS P S x (i - 1) Q := by
  obtain ⟨k, rfl⟩ : ∃ k, i = k + 1 := ⟨i - 1, by omega⟩
  rw [Nat.add_sub_cancel]
  have e1 : INS P S x (k + 1) Q = (P ++ S.take k) ++ (el S k :: ([] ++ (x :: (S.drop (k + 1) ++ Q)))) := by
    unfold INS
    rw [take_el (by omega)]
    simp
  have hl : (P ++ S.take k).length = P.length + k := by rw [List.length_append, List.length_take]; omega
  have := swp_mid (P ++ S.take k) [] (S.drop (k + 1) ++ Q) (el S k) x
  rw [hl] at this
  rw [e1, show P.length + (k + 1) - 1 = P.length + k by omega, show P.length + (k + 1) = P.length + k + (([] : List VC).length + 1) by simp; omega, this]
  unfold INS
  rw [drop_el (show k < S.length by omega)]
  simp
/-- it is in its place -/
theorem ins_done {P S : List VC} {x : VC} {i : Nat} {Q : List VC} (hS : Srt leC S) (hi : i ≤ S.length) (c1 : 0 < i → leC (el S (i - 1)) x = true) (c2 : i < S.length → leC (el S i) x = false) : INS P S x i Q = P ++ (mrg leC S [x] ++ Q) := by
  rw [one_last leC_pre x hS hi c1 c2]
  unfold INS
  simp
set_option maxHeartbeats 3200000 in
set_option maxRecDepth 100000 in
theorem isort_any (w W : World) (g n ca : Nat) (P X Q : List VC) (p b : Nat) (hp : P.length = p) (hb : p + X.length = b) (hn : P.length + X.length + Q.length = n) (hn1 : n ≤ 1000000) (hr : RW w W g (P ++ (X ++ Q))) :
    Calls Try.prog 64 #[.slice (some ⟨g, 0, none⟩) n ca, .int .i64 p, .int .i64 b, .func (.func 36) #[] #[]] W fun e W' => e = .returned (.tuple #[]) ∧ RW w W' g (P ++ (srt leC X ++ Q)) := by
  have hsf := store_fl
  have HR := Lib.hid hr
  have HP := Lib.hid hp
  have HBB := Lib.hid hb
  have HN := Lib.hid hn
  clear hr hp hb hn
  have hpn : p ≤ 1000000 := by have := HP.out; have := HN.out; omega
  have hbn : b ≤ n := by have := HP.out; have := HBB.out; have := HN.out; omega
  go_enter Try.func64, Try.ntmps64
  go_wp2_with fail
  go_loopw [8] (fun iv wr => ∃ k c : Nat, 1 ≤ k ∧ (k = 1 ∨ k ≤ X.length) ∧ p + k = c ∧ iv = .int .i64 (c : Int) ∧ RW w wr g (P ++ (srt leC (X.take k) ++ (X.drop k ++ Q)))) (fun iv _ => b + 1 - (intOf iv).toNat)
  case atStart =>
    refine ⟨1, p + 1, Nat.le_refl _, .inl rfl, rfl, by go_num, ?_⟩
    have e : srt leC (X.take 1) = X.take 1 := by cases X with
      | nil => rfl
      | cons x X => exact srt_one x
    rw [e, ← List.append_assoc (X.take 1), List.take_append_drop]
    exact HR.out
  case round =>
    obtain ⟨k, c, hk1, hk2, hc0, rfl, hrow⟩ := hrel
    have HCK := Lib.hid hc0
    clear hc0
    by_cases hlt : k < X.length
    · have hlb : decide ((c : Int) < (b : Int)) = true := decide_eq_true (by have := HBB.out; have := HCK.out; omega)
      have hlbn : decide (c < b) = true := decide_eq_true (by have := HBB.out; have := HCK.out; omega)
      have hcb : c ≤ 1000000 := by have := HBB.out; have := HCK.out; omega
      have hS := Lib.hid (srt_sorted leC_pre (X.take k))
      have hSl : (srt leC (X.take k)).length = k := by rw [srt_len, List.length_take]; omega
      have hrow2 : RW w wr g (INS P (srt leC (X.take k)) (el X k) k (X.drop (k + 1) ++ Q)) := by
        unfold INS
        rw [List.take_of_length_le (by omega), List.drop_eq_nil_of_le (by omega), List.nil_append, ← List.cons_append, ← drop_el hlt]
        exact hrow
      have hnext := Lib.hid (show srt leC (X.take (k + 1)) = mrg leC (srt leC (X.take k)) [el X k] by rw [take_el hlt, srt_append leC_pre, srt_one])
      clear hrow
      generalize srt leC (X.take k) = S at *
      generalize el X k = x at *
      have HSL := Lib.hid hSl
      have HROW := Lib.hid hrow2
      clear hSl hrow2
      go_wp2_with fail
      go_loopw [9] (fun jv wr => ∃ i j : Nat, i ≤ k ∧ p + i = j ∧ jv = .int .i64 (j : Int) ∧ RW w wr g (INS P S x i (X.drop (k + 1) ++ Q)) ∧ (i < k → leC (el S i) x = false)) (fun jv _ => (intOf jv).toNat)
      case atStart => exact ⟨k, c, Nat.le_refl _, HCK.out, rfl, HROW.out, fun h => absurd h (Nat.lt_irrefl _)⟩
      case round =>
        clear HROW
        obtain ⟨i, j, hik, hj, rfl, hrow, hc⟩ := hrel
        have HRI := Lib.hid hrow
        have HC := Lib.hid hc
        have HJ := Lib.hid hj
        have hjn : j < n := by have := HP.out; have := HN.out; omega
        clear hrow hc hj
        by_cases h0 : i = 0
        · have q0 : decide ((p : Int) < (j : Int)) = false := decide_eq_false (by have := HJ.out; omega)
          have q0n : decide (p < j) = false := decide_eq_false (by have := HJ.out; omega)
          have hdone := ins_done (P := P) (Q := X.drop (k + 1) ++ Q) hS.out (i := i) (by rw [HSL.out]; omega) (fun h => absurd h0 (by omega)) (fun h => HC.out (by rw [HSL.out] at h; exact h))
          have HD := Lib.hid (show RW w _ g (P ++ (mrg leC S [x] ++ (X.drop (k + 1) ++ Q))) from hdone ▸ HRI.out)
          clear hdone
          go_upto_region 4 with fail
          refine wp_region_allS (by kernel_rfl) (by kernel_rfl) ?_
          repeat (refine wpS_step (fun K hK => ?_); go_simp; first | (refine hK _ ?_; clear hK K) | (apply Exists.intro; refine ⟨fun q => ?_, hK _ ?_⟩; fail; clear hK K))
          refine wpS_nil ?_
          intro q1
          go_wp2_with fail
          go_roundw
          case rel => exact ⟨k + 1, c + 1, by omega, .inr (by omega), by have := HCK.out; omega, by go_num, by rw [hnext.out]; exact HD.out.keep ((Bl.refl _).drew.trans q1.bl)⟩
          case measure => have := HBB.out; have := HCK.out; simp [intOf]; omega
        · have q0 : decide ((p : Int) < (j : Int)) = true := decide_eq_true (by have := HJ.out; omega)
          have q0n : decide (p < j) = true := decide_eq_true (by have := HJ.out; omega)
          obtain ⟨m, hm⟩ : ∃ m, m + 1 = j := ⟨j - 1, by have := HJ.out; omega⟩
          have hw : IntKind.i64.wrap ((j : Int) - 1) = (m : Int) := by rw [IntKind.wrap_i64]; omega
          have hmn : m < n := by omega
          have hik2 : i ≤ S.length := by rw [HSL.out]; exact hik
          have HL := Lib.hid (show (INS P S x i (X.drop (k + 1) ++ Q)).length = n by rw [ins_len hik2, List.length_append, List.length_drop]; have := HP.out; have := HN.out; have := HSL.out; omega)
          have ex := Lib.hid (show el (INS P S x i (X.drop (k + 1) ++ Q)) j = x by rw [← HJ.out, ← HP.out]; exact ins_x hik2)
          have ey := Lib.hid (show el (INS P S x i (X.drop (k + 1) ++ Q)) m = el S (i - 1) by rw [show m = P.length + i - 1 by have := HJ.out; have := HP.out; omega]; exact ins_y (by omega) hik2)
          have HSW := Lib.hid (show swp (INS P S x i (X.drop (k + 1) ++ Q)) m j = INS P S x (i - 1) (X.drop (k + 1) ++ Q) by rw [show m = P.length + i - 1 by have := HJ.out; have := HP.out; omega, ← HJ.out, ← HP.out]; exact ins_swap (by omega) hik2)
          have HDN := Lib.hid (fun h => ins_done (P := P) (Q := X.drop (k + 1) ++ Q) hS.out (i := i) (x := x) hik2 (fun _ => h) (fun h => HC.out (by rw [HSL.out] at h; exact h)))
          have HI0 := Lib.hid h0
          have HM := Lib.hid hm
          have HIK := Lib.hid hik
          clear h0 hm hik hik2
          obtain ⟨y, hy⟩ : ∃ y, el S (i - 1) = y := ⟨_, rfl⟩
          have HY := Lib.hid hy
          rw [hy] at ey HDN
          clear hy
          obtain ⟨L, hLL⟩ : ∃ L, INS P S x i (X.drop (k + 1) ++ Q) = L := ⟨_, rfl⟩
          rw [hLL] at HL ex ey HSW HDN HRI
          clear hLL
          obtain ⟨R, hR⟩ : ∃ R, orderL x.ver y.ver = R := ⟨_, rfl⟩
          have HRR := Lib.hid hR
          clear hR
          go_upto_region 4 with fail
          refine wp_region_allS (by kernel_rfl) (by kernel_rfl) ?_
          have HZ := Lib.hid (HRI.out.keep ((Bl.refl wr).drew))
          clear HRI
          generalize wr.drew = Z at *
          obtain ⟨x0, x1, x2, x3, x4, x5, x6, x7⟩ := HZ.out.all8 (by rw [HL.out]; exact hjn) ex.out
          obtain ⟨y0, y1, y2, y3, y4, y5, y6, y7⟩ := HZ.out.all8 (by rw [HL.out]; exact hmn) ey.out
          have V := Lib.hid (fun q : Ext Z => forder_w x y R q.at (ex.out ▸ (HZ.out.keep q.bl).at_ (by rw [HL.out]; exact hjn)) (ey.out ▸ (HZ.out.keep q.bl).at_ (by rw [HL.out]; exact hmn)) HRR)
          repeat (refine wpS_step (fun K hK => ?_); go_simp; first | (refine hK _ ?_; clear hK K) | (apply Exists.intro; refine ⟨fun q => ?_, hK _ ?_⟩; (with_reducible exact V.out q); clear hK K))
          refine wpS_nil ?_
          intro q1
          have HZ0 := Lib.hid (HZ.out.keep q1.bl)
          clear x0 x1 x2 x3 x4 x5 x6 x7 y0 y1 y2 y3 y4 y5 y6 y7 V HZ
          generalize q1.at = Y at *
          clear q1
          by_cases hR0 : R < 0
          · have qR : decide (R < 0) = true := decide_eq_true hR0
            have HC2 := Lib.hid (show leC y x = false from leC_not.2 (by rw [HRR.out]; exact hR0))
            go_upto_region 6 with fail
            refine wp_region_idx [0, 1, 2, 3, 4, 5, 6, 7, 8, 10, 11, 12] 6 (Bl w) (fun _ _ h k => h.trans k) HZ0.out.bl.drew (by kernel_rfl) rfl (by kernel_rfl) (by kernel_rfl) ?_
            have HZ := Lib.hid (HZ0.out.keep (Bl.refl _).drew)
            clear HZ0
            generalize World.drew _ = Z at *
            haveI : Nonempty (ExtC (Bl w)) := ⟨⟨Z, HZ.out.bl⟩⟩
            repeat (refine wpI_step rfl (fun K hK => ?_); go_simp; first | (refine hK _ ?_; clear hK K) | (apply Exists.intro; refine ⟨fun q => ?_, hK _ ?_⟩; fail; clear hK K))
            refine wpI_nil ?_
            clear this
            refine wpAnyE_all (rs := [9, 13]) (by kernel_rfl) (by decide) ?_
            intro i' hi' X1 hx1
            simp only [List.mem_cons, List.not_mem_nil, or_false] at hi'
            have H1 := Lib.hid (HZ.out.keep hx1)
            clear HZ hx1
            rcases hi' with rfl | rfl
            · obtain ⟨e0, e1, e2, e3, e4, e5, e6, e7⟩ := H1.out.at8 (by rw [HL.out]; exact hmn) ey.out
              go_simp
              refine ⟨H1.out.bl, ?_⟩
              clear e0 e1 e2 e3 e4 e5 e6 e7
              refine wpAnyE_one (i := 13) (by kernel_rfl) ?_
              intro X2 hx2
              have H2 := Lib.hid (H1.out.keep hx2)
              clear H1 hx2
              obtain ⟨e0, e1, e2, e3, e4, e5, e6, e7⟩ := H2.out.at8 (by rw [HL.out]; exact hjn) ex.out
              go_simp
              refine ⟨H2.out.bl, ?_⟩
              clear e0 e1 e2 e3 e4 e5 e6 e7
              refine wpAnyE_one (i := 14) (by kernel_rfl) ?_
              intro Xa hx
              have H3 := Lib.hid (H2.out.keep hx)
              clear H2 hx
              go_simp
              refine ⟨H3.out.bl, ?_⟩
              refine wpAnyE_one (i := 15) (by kernel_rfl) ?_
              intro Xb hx
              have H4 := Lib.hid (H3.out.keep hx)
              clear H3 hx
              obtain ⟨e0, e1, e2, e3, e4, e5, e6, e7⟩ := H4.out.cells (j := j) (by rw [HL.out]; exact hjn)
              have f0 := H4.out.frozen (j * 8)
              have f1 := H4.out.frozen (j * 8 + 1)
              have f2 := H4.out.frozen (j * 8 + 2)
              have f3 := H4.out.frozen (j * 8 + 3)
              have f4 := H4.out.frozen (j * 8 + 4)
              have f5 := H4.out.frozen (j * 8 + 5)
              have f6 := H4.out.frozen (j * 8 + 6)
              have f7 := H4.out.frozen (j * 8 + 7)
              go_simp
              have hv1 : VOk _ g _ := ey.out ▸ H4.out.at_ (j := m) (by rw [HL.out]; exact hmn)
              have hv2 : VOk _ g _ := ex.out ▸ H4.out.at_ (j := j) (by rw [HL.out]; exact hjn)
              have k5 := H4.out.st8 (j := j) (by rw [HL.out]; exact hjn) hv1
              have k6 := hv2.st8 (j * 8) y
              unfold st8 at k5 k6
              have HV := Lib.hid k6
              have H5 := Lib.hid k5
              refine ⟨H5.out.bl, ?_⟩
              clear k5 e0 e1 e2 e3 e4 e5 e6 e7 f0 f1 f2 f3 f4 f5 f6 f7 H4 k6 hv1 hv2
              generalize World.setCell _ _ _ = Y0 at *
              refine wpAnyE_one (i := 16) (by kernel_rfl) ?_
              intro Xa hx
              have H6 := Lib.hid (H5.out.keep hx)
              have HV1 := Lib.hid (HV.out.keep hx)
              clear H5 hx HV
              go_simp
              refine ⟨H6.out.bl, ?_⟩
              refine wpAnyE_one (i := 17) (by kernel_rfl) ?_
              intro Xb hx
              have H7 := Lib.hid (H6.out.keep hx)
              have HV2 := Lib.hid (HV1.out.keep hx)
              clear H6 hx HV1
              obtain ⟨e0, e1, e2, e3, e4, e5, e6, e7⟩ := H7.out.cells (j := m) (by rw [List.length_set, HL.out]; exact hmn)
              have f0 := H7.out.frozen (m * 8)
              have f1 := H7.out.frozen (m * 8 + 1)
              have f2 := H7.out.frozen (m * 8 + 2)
              have f3 := H7.out.frozen (m * 8 + 3)
              have f4 := H7.out.frozen (m * 8 + 4)
              have f5 := H7.out.frozen (m * 8 + 5)
              have f6 := H7.out.frozen (m * 8 + 6)
              have f7 := H7.out.frozen (m * 8 + 7)
              go_simp
              have k5 := H7.out.st8 (j := m) (by rw [List.length_set, HL.out]; exact hmn) HV2.out
              unfold st8 at k5
              have H8 := Lib.hid k5
              refine ⟨H8.out.bl, ?_⟩
              clear k5 e0 e1 e2 e3 e4 e5 e6 e7 f0 f1 f2 f3 f4 f5 f6 f7 H7 HV2
              generalize World.setCell _ _ _ = Y1 at *
              refine wpAnyE_done (by kernel_rfl) ?_
              intro X9 hx
              have H9 := Lib.hid (H8.out.keep hx)
              clear H8 hx
              have HE := Lib.hid (show (L.set j y).set m x = INS P S x (i - 1) (X.drop (k + 1) ++ Q) by rw [← HSW.out, swp_comm _ (by rw [HL.out]; exact hmn) (by rw [HL.out]; exact hjn)]; unfold swp; rw [ex.out, ey.out])
              rw [HE.out] at H9
              clear HE
              go_wp2_with fail
              go_roundw
              case rel => exact ⟨i - 1, m, by have := HIK.out; omega, by have := HM.out; have := HJ.out; have := HI0.out; omega, by go_num, H9.out, fun _ => by rw [HY.out]; exact HC2.out⟩
              case measure => have := HM.out; simp [intOf]; omega
            · obtain ⟨e0, e1, e2, e3, e4, e5, e6, e7⟩ := H1.out.at8 (by rw [HL.out]; exact hjn) ex.out
              go_simp
              refine ⟨H1.out.bl, ?_⟩
              clear e0 e1 e2 e3 e4 e5 e6 e7
              refine wpAnyE_one (i := 9) (by kernel_rfl) ?_
              intro X2 hx2
              have H2 := Lib.hid (H1.out.keep hx2)
              clear H1 hx2
              obtain ⟨e0, e1, e2, e3, e4, e5, e6, e7⟩ := H2.out.at8 (by rw [HL.out]; exact hmn) ey.out
              go_simp
              refine ⟨H2.out.bl, ?_⟩
              clear e0 e1 e2 e3 e4 e5 e6 e7
              refine wpAnyE_one (i := 14) (by kernel_rfl) ?_
              intro Xa hx
              have H3 := Lib.hid (H2.out.keep hx)
              clear H2 hx
              go_simp
              refine ⟨H3.out.bl, ?_⟩
              refine wpAnyE_one (i := 15) (by kernel_rfl) ?_
              intro Xb hx
              have H4 := Lib.hid (H3.out.keep hx)
              clear H3 hx
              obtain ⟨e0, e1, e2, e3, e4, e5, e6, e7⟩ := H4.out.cells (j := j) (by rw [HL.out]; exact hjn)
              have f0 := H4.out.frozen (j * 8)
              have f1 := H4.out.frozen (j * 8 + 1)
              have f2 := H4.out.frozen (j * 8 + 2)
              have f3 := H4.out.frozen (j * 8 + 3)
              have f4 := H4.out.frozen (j * 8 + 4)
              have f5 := H4.out.frozen (j * 8 + 5)
              have f6 := H4.out.frozen (j * 8 + 6)
              have f7 := H4.out.frozen (j * 8 + 7)
              go_simp
              have hv1 : VOk _ g _ := ey.out ▸ H4.out.at_ (j := m) (by rw [HL.out]; exact hmn)
              have hv2 : VOk _ g _ := ex.out ▸ H4.out.at_ (j := j) (by rw [HL.out]; exact hjn)
              have k5 := H4.out.st8 (j := j) (by rw [HL.out]; exact hjn) hv1
              have k6 := hv2.st8 (j * 8) y
              unfold st8 at k5 k6
              have HV := Lib.hid k6
              have H5 := Lib.hid k5
              refine ⟨H5.out.bl, ?_⟩
              clear k5 e0 e1 e2 e3 e4 e5 e6 e7 f0 f1 f2 f3 f4 f5 f6 f7 H4 k6 hv1 hv2
              generalize World.setCell _ _ _ = Y0 at *
              refine wpAnyE_one (i := 16) (by kernel_rfl) ?_
              intro Xa hx
              have H6 := Lib.hid (H5.out.keep hx)
              have HV1 := Lib.hid (HV.out.keep hx)
              clear H5 hx HV
              go_simp
              refine ⟨H6.out.bl, ?_⟩
              refine wpAnyE_one (i := 17) (by kernel_rfl) ?_
              intro Xb hx
              have H7 := Lib.hid (H6.out.keep hx)
              have HV2 := Lib.hid (HV1.out.keep hx)
              clear H6 hx HV1
              obtain ⟨e0, e1, e2, e3, e4, e5, e6, e7⟩ := H7.out.cells (j := m) (by rw [List.length_set, HL.out]; exact hmn)
              have f0 := H7.out.frozen (m * 8)
              have f1 := H7.out.frozen (m * 8 + 1)
              have f2 := H7.out.frozen (m * 8 + 2)
              have f3 := H7.out.frozen (m * 8 + 3)
              have f4 := H7.out.frozen (m * 8 + 4)
              have f5 := H7.out.frozen (m * 8 + 5)
              have f6 := H7.out.frozen (m * 8 + 6)
              have f7 := H7.out.frozen (m * 8 + 7)
              go_simp
              have k5 := H7.out.st8 (j := m) (by rw [List.length_set, HL.out]; exact hmn) HV2.out
              unfold st8 at k5
              have H8 := Lib.hid k5
              refine ⟨H8.out.bl, ?_⟩
              clear k5 e0 e1 e2 e3 e4 e5 e6 e7 f0 f1 f2 f3 f4 f5 f6 f7 H7 HV2
              generalize World.setCell _ _ _ = Y1 at *
              refine wpAnyE_done (by kernel_rfl) ?_
              intro X9 hx
              have H9 := Lib.hid (H8.out.keep hx)
              clear H8 hx
              have HE := Lib.hid (show (L.set j y).set m x = INS P S x (i - 1) (X.drop (k + 1) ++ Q) by rw [← HSW.out, swp_comm _ (by rw [HL.out]; exact hmn) (by rw [HL.out]; exact hjn)]; unfold swp; rw [ex.out, ey.out])
              rw [HE.out] at H9
              clear HE
              go_wp2_with fail
              go_roundw
              case rel => exact ⟨i - 1, m, by have := HIK.out; omega, by have := HM.out; have := HJ.out; have := HI0.out; omega, by go_num, H9.out, fun _ => by rw [HY.out]; exact HC2.out⟩
              case measure => have := HM.out; simp [intOf]; omega
          · have qR : decide (R < 0) = false := decide_eq_false hR0
            have HD := Lib.hid (HDN.out (leC_yes.2 (by rw [HRR.out]; exact hR0)) ▸ HZ0.out)
            go_wp2_with fail
            go_roundw
            case rel => exact ⟨k + 1, c + 1, by omega, .inr (by omega), by have := HCK.out; omega, by go_num, by rw [hnext.out]; exact HD.out⟩
            case measure => have := HBB.out; have := HCK.out; simp [intOf]; omega
    · have hlb : decide ((c : Int) < (b : Int)) = false := decide_eq_false (by have := HBB.out; have := HCK.out; omega)
      have hlbn : decide (c < b) = false := decide_eq_false (by have := HBB.out; have := HCK.out; omega)
      have HE := Lib.hid (show P ++ (srt leC (X.take k) ++ (X.drop k ++ Q)) = P ++ (srt leC X ++ Q) by
        rw [List.take_of_length_le (by omega), List.drop_eq_nil_of_le (by omega), List.nil_append])
      rw [HE.out] at hrow
      have HRI := Lib.hid hrow
      clear hrow
      go_wp2_with fail
      go_end0
      exact ⟨rfl, HRI.out⟩
end Go.Proofs.Ytdjlnpiaehoofaa
end
