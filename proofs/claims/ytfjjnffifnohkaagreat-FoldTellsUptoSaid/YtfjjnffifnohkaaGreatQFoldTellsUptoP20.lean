import Derived.Test.YtfjjnffifnohkaaGreatQFoldTellsUptoP19

/- slices.swapRangeCmpFunc, rotateCmpFunc over versions (printed in part by wip/gen/sortb.py). By an AI agent. -/
section
set_option linter.unusedVariables false
set_option linter.unusedSimpArgs false
namespace Go.Proofs.YtfjjnffifnohkaaGreat
open Go.RowKit
attribute [local go_sem] eOp eOper eUpon

/-- two parts of which i elements are changed for each other -/
def SWR (P A M B Q : List VC) (i : Nat) : List VC := P ++ ((B.take i ++ A.drop i) ++ (M ++ ((A.take i ++ B.drop i) ++ Q)))
theorem swr_zero (P A M B Q : List VC) : SWR P A M B Q 0 = P ++ (A ++ (M ++ (B ++ Q))) := by simp [SWR]
theorem swr_all {P A M B Q : List VC} {m : Nat} (ha : A.length = m) (hb : B.length = m) : SWR P A M B Q m = P ++ (B ++ (M ++ (A ++ Q))) := by
  unfold SWR
  rw [List.take_of_length_le (by omega), List.take_of_length_le (by omega), List.drop_eq_nil_of_le (by omega), List.drop_eq_nil_of_le (by omega)]
  simp
theorem swr_len {P A M B Q : List VC} {m i : Nat} (ha : A.length = m) (hb : B.length = m) (hi : i ≤ m) : (SWR P A M B Q i).length = P.length + m + M.length + m + Q.length := by
  unfold SWR; simp; omega
theorem swr_form {P A M B Q : List VC} {m i : Nat} (ha : A.length = m) (hb : B.length = m) (hi : i < m) : SWR P A M B Q i = (P ++ B.take i) ++ (el A i :: ((A.drop (i + 1) ++ (M ++ A.take i)) ++ (el B i :: (B.drop (i + 1) ++ Q)))) := by
  unfold SWR
  rw [drop_el (show i < A.length by omega), drop_el (show i < B.length by omega)]
  simp
theorem swr_lens {P A M B : List VC} {m i : Nat} (ha : A.length = m) (hb : B.length = m) (hi : i < m) : (P ++ B.take i).length = P.length + i ∧ (A.drop (i + 1) ++ (M ++ A.take i)).length + 1 = m + M.length := by
  constructor
  · rw [List.length_append, List.length_take]; omega
  · simp; omega
theorem swr_x {P A M B Q : List VC} {m i : Nat} (ha : A.length = m) (hb : B.length = m) (hi : i < m) : el (SWR P A M B Q i) (P.length + i) = el A i := by
  rw [swr_form ha hb hi, ← (swr_lens (P := P) (M := M) ha hb hi).1]
  have := el_right (P ++ B.take i) (el A i :: ((A.drop (i + 1) ++ (M ++ A.take i)) ++ (el B i :: (B.drop (i + 1) ++ Q)))) 0
  exact this
theorem swr_y {P A M B Q : List VC} {m i : Nat} (ha : A.length = m) (hb : B.length = m) (hi : i < m) : el (SWR P A M B Q i) (P.length + i + (m + M.length)) = el B i := by
  have hl := swr_lens (P := P) (M := M) ha hb hi
  rw [swr_form ha hb hi, ← hl.1, ← hl.2, el_right]
  have := el_right (el A i :: (A.drop (i + 1) ++ (M ++ A.take i))) (el B i :: (B.drop (i + 1) ++ Q)) 0
  exact this
theorem swr_step {P A M B Q : List VC} {m i : Nat} (ha : A.length = m) (hb : B.length = m) (hi : i < m) : swp (SWR P A M B Q i) (P.length + i) (P.length + i + (m + M.length)) = SWR P A M B Q (i + 1) := by
  have hl := swr_lens (P := P) (M := M) ha hb hi
  have := swp_mid (P ++ B.take i) (A.drop (i + 1) ++ (M ++ A.take i)) (B.drop (i + 1) ++ Q) (el A i) (el B i)
  rw [hl.1, hl.2] at this
  rw [swr_form ha hb hi, this]
  unfold SWR
  rw [take_el (show i < A.length by omega), take_el (show i < B.length by omega)]
  simp
set_option maxHeartbeats 3200000 in
set_option maxRecDepth 100000 in
theorem swapR_any (w W : World) (g n ca : Nat) (P A M B Q : List VC) (p q m : Nat) (hp : P.length = p) (ha : A.length = m) (hb : B.length = m) (hq : p + (m + M.length) = q) (hn : P.length + m + M.length + m + Q.length = n) (hn1 : n ≤ 1000000) (f : Value) (hr : RW w W g (P ++ (A ++ (M ++ (B ++ Q))))) :
    Calls Tryz.prog 203 #[.slice (some ⟨g, 0, none⟩) n ca, .int .i64 p, .int .i64 q, .int .i64 m, f] W fun e W' => e = .returned (.tuple #[]) ∧ RW w W' g (P ++ (B ++ (M ++ (A ++ Q)))) := by
  have hsf := store_fl
  have HR := Lib.hid hr
  have HP := Lib.hid hp
  have HA := Lib.hid ha
  have HB := Lib.hid hb
  have HQ := Lib.hid hq
  have HN := Lib.hid hn
  clear hr hp ha hb hq hn
  have hpn : p ≤ 1000000 := by have := HP.out; have := HN.out; omega
  have hqn : q ≤ 1000000 := by have := HQ.out; have := HP.out; have := HN.out; omega
  have hmn : m ≤ 1000000 := by have := HN.out; omega
  go_enter Tryz.func203, Tryz.ntmps203
  go_wp2_with fail
  go_loopw [10] (fun iv wr => ∃ i : Nat, i ≤ m ∧ iv = .int .i64 (i : Int) ∧ RW w wr g (SWR P A M B Q i)) (fun iv _ => m - (intOf iv).toNat)
  case atStart => exact ⟨0, Nat.zero_le _, rfl, by rw [swr_zero]; exact HR.out⟩
  case round =>
    obtain ⟨i, him, rfl, hrow⟩ := hrel
    have HZ0 := Lib.hid hrow
    clear hrow
    by_cases hlt : i < m
    · have hq0 : decide ((i : Int) < (m : Int)) = true := decide_eq_true (by omega)
      have hq1 : decide (i < m) = true := decide_eq_true hlt
      obtain ⟨ja, hja⟩ : ∃ ja, p + i = ja := ⟨_, rfl⟩
      obtain ⟨jb, hjb⟩ : ∃ jb, q + i = jb := ⟨_, rfl⟩
      have hwa : IntKind.i64.wrap ((p : Int) + (i : Int)) = (ja : Int) := by rw [IntKind.wrap_i64]; omega
      have hwb : IntKind.i64.wrap ((q : Int) + (i : Int)) = (jb : Int) := by rw [IntKind.wrap_i64]; omega
      have HL := Lib.hid (show (SWR P A M B Q i).length = n by rw [swr_len HA.out HB.out him]; exact HN.out)
      have hna : ja < n := by have := HP.out; have := HN.out; omega
      have hnb : jb < n := by have := HP.out; have := HN.out; have := HQ.out; omega
      have ex := Lib.hid (show el (SWR P A M B Q i) ja = el A i by rw [← hja, ← HP.out]; exact swr_x HA.out HB.out hlt)
      have ey := Lib.hid (show el (SWR P A M B Q i) jb = el B i by rw [show jb = P.length + i + (m + M.length) by have := HP.out; have := HQ.out; omega]; exact swr_y HA.out HB.out hlt)
      have HSW := Lib.hid (show swp (SWR P A M B Q i) ja jb = SWR P A M B Q (i + 1) by rw [show jb = P.length + i + (m + M.length) by have := HP.out; have := HQ.out; omega, ← hja, ← HP.out]; exact swr_step HA.out HB.out hlt)
      clear hja hjb
      generalize el A i = x at *
      generalize el B i = y at *
      obtain ⟨L, hLL⟩ : ∃ L, SWR P A M B Q i = L := ⟨_, rfl⟩
      rw [hLL] at HL ex ey HSW HZ0
      clear hLL
      go_upto_region 3 with fail
      refine wp_region_idx [0, 1, 2, 3, 4, 5, 6, 7, 8, 9, 10, 11, 12, 14, 15, 16, 17, 18] 6 (FrG w g) (fun _ _ h k => h.trans k) HZ0.out.bl.drew (by kernel_rfl) rfl (by kernel_rfl) (by kernel_rfl) ?_
      have HZ := Lib.hid (HZ0.out.keep (Bl.refl _).drew)
      clear HZ0
      generalize World.drew _ = Z at *
      haveI : Nonempty (ExtC (FrG w g)) := ⟨⟨Z, HZ.out.bl⟩⟩
      repeat (refine wpI_step rfl (fun K hK => ?_); go_simp; first | (refine hK _ ?_; clear hK K) | (apply Exists.intro; refine ⟨fun q => ?_, hK _ ?_⟩; fail; clear hK K))
      refine wpI_nil ?_
      clear this
      refine wpAnyE_all (rs := [13, 19]) (by kernel_rfl) (by decide) ?_
      intro i' hi' X1 hx1
      simp only [List.mem_cons, List.not_mem_nil, or_false] at hi'
      have H1 := Lib.hid (HZ.out.keep hx1)
      clear HZ hx1
      rcases hi' with rfl | rfl
      · obtain ⟨e0, e1, e2, e3, e4, e5, e6, e7⟩ := H1.out.at8 (by rw [HL.out]; exact hnb) ey.out
        go_simp
        refine ⟨H1.out.bl, ?_⟩
        clear e0 e1 e2 e3 e4 e5 e6 e7
        refine wpAnyE_one (i := 19) (by kernel_rfl) ?_
        intro X2 hx2
        have H2 := Lib.hid (H1.out.keep hx2)
        clear H1 hx2
        obtain ⟨e0, e1, e2, e3, e4, e5, e6, e7⟩ := H2.out.at8 (by rw [HL.out]; exact hna) ex.out
        go_simp
        refine ⟨H2.out.bl, ?_⟩
        clear e0 e1 e2 e3 e4 e5 e6 e7
        refine wpAnyE_one (i := 20) (by kernel_rfl) ?_
        intro Xa hx
        have H3 := Lib.hid (H2.out.keep hx)
        clear H2 hx
        go_simp
        refine ⟨H3.out.bl, ?_⟩
        refine wpAnyE_one (i := 21) (by kernel_rfl) ?_
        intro Xb hx
        have H4 := Lib.hid (H3.out.keep hx)
        clear H3 hx
        obtain ⟨e0, e1, e2, e3, e4, e5, e6, e7⟩ := H4.out.cells (j := ja) (by rw [HL.out]; exact hna)
        have f0 := H4.out.frozen (ja * 8)
        have f1 := H4.out.frozen (ja * 8 + 1)
        have f2 := H4.out.frozen (ja * 8 + 2)
        have f3 := H4.out.frozen (ja * 8 + 3)
        have f4 := H4.out.frozen (ja * 8 + 4)
        have f5 := H4.out.frozen (ja * 8 + 5)
        have f6 := H4.out.frozen (ja * 8 + 6)
        have f7 := H4.out.frozen (ja * 8 + 7)
        go_simp
        have hv1 : VOk _ g _ := ey.out ▸ H4.out.at_ (j := jb) (by rw [HL.out]; exact hnb)
        have hv2 : VOk _ g _ := ex.out ▸ H4.out.at_ (j := ja) (by rw [HL.out]; exact hna)
        have k5 := H4.out.st8 (j := ja) (by rw [HL.out]; exact hna) hv1
        have k6 := hv2.st8 (ja * 8) y
        unfold st8 at k5 k6
        have HV := Lib.hid k6
        have H5 := Lib.hid k5
        refine ⟨H5.out.bl, ?_⟩
        clear k5 e0 e1 e2 e3 e4 e5 e6 e7 f0 f1 f2 f3 f4 f5 f6 f7 H4 k6 hv1 hv2
        generalize World.setCell _ _ _ = Y0 at *
        refine wpAnyE_one (i := 22) (by kernel_rfl) ?_
        intro Xa hx
        have H6 := Lib.hid (H5.out.keep hx)
        have HV1 := Lib.hid (HV.out.keep hx)
        clear H5 hx HV
        go_simp
        refine ⟨H6.out.bl, ?_⟩
        refine wpAnyE_one (i := 23) (by kernel_rfl) ?_
        intro Xb hx
        have H7 := Lib.hid (H6.out.keep hx)
        have HV2 := Lib.hid (HV1.out.keep hx)
        clear H6 hx HV1
        obtain ⟨e0, e1, e2, e3, e4, e5, e6, e7⟩ := H7.out.cells (j := jb) (by rw [List.length_set, HL.out]; exact hnb)
        have f0 := H7.out.frozen (jb * 8)
        have f1 := H7.out.frozen (jb * 8 + 1)
        have f2 := H7.out.frozen (jb * 8 + 2)
        have f3 := H7.out.frozen (jb * 8 + 3)
        have f4 := H7.out.frozen (jb * 8 + 4)
        have f5 := H7.out.frozen (jb * 8 + 5)
        have f6 := H7.out.frozen (jb * 8 + 6)
        have f7 := H7.out.frozen (jb * 8 + 7)
        go_simp
        have k5 := H7.out.st8 (j := jb) (by rw [List.length_set, HL.out]; exact hnb) HV2.out
        unfold st8 at k5
        have H8 := Lib.hid k5
        refine ⟨H8.out.bl, ?_⟩
        clear k5 e0 e1 e2 e3 e4 e5 e6 e7 f0 f1 f2 f3 f4 f5 f6 f7 H7 HV2
        generalize World.setCell _ _ _ = Y1 at *
        refine wpAnyE_done (by kernel_rfl) ?_
        intro X9 hx
        have H9 := Lib.hid (H8.out.keep hx)
        clear H8 hx
        have HE := Lib.hid (show (L.set ja y).set jb x = SWR P A M B Q (i + 1) by rw [← HSW.out]; unfold swp; rw [ex.out, ey.out])
        rw [HE.out] at H9
        clear HE
        go_wp2_with fail
        go_roundw
        case rel => exact ⟨i + 1, by omega, by go_num, H9.out⟩
        case measure => simp [intOf]; omega
      · obtain ⟨e0, e1, e2, e3, e4, e5, e6, e7⟩ := H1.out.at8 (by rw [HL.out]; exact hna) ex.out
        go_simp
        refine ⟨H1.out.bl, ?_⟩
        clear e0 e1 e2 e3 e4 e5 e6 e7
        refine wpAnyE_one (i := 13) (by kernel_rfl) ?_
        intro X2 hx2
        have H2 := Lib.hid (H1.out.keep hx2)
        clear H1 hx2
        obtain ⟨e0, e1, e2, e3, e4, e5, e6, e7⟩ := H2.out.at8 (by rw [HL.out]; exact hnb) ey.out
        go_simp
        refine ⟨H2.out.bl, ?_⟩
        clear e0 e1 e2 e3 e4 e5 e6 e7
        refine wpAnyE_one (i := 20) (by kernel_rfl) ?_
        intro Xa hx
        have H3 := Lib.hid (H2.out.keep hx)
        clear H2 hx
        go_simp
        refine ⟨H3.out.bl, ?_⟩
        refine wpAnyE_one (i := 21) (by kernel_rfl) ?_
        intro Xb hx
        have H4 := Lib.hid (H3.out.keep hx)
        clear H3 hx
        obtain ⟨e0, e1, e2, e3, e4, e5, e6, e7⟩ := H4.out.cells (j := ja) (by rw [HL.out]; exact hna)
        have f0 := H4.out.frozen (ja * 8)
        have f1 := H4.out.frozen (ja * 8 + 1)
        have f2 := H4.out.frozen (ja * 8 + 2)
        have f3 := H4.out.frozen (ja * 8 + 3)
        have f4 := H4.out.frozen (ja * 8 + 4)
        have f5 := H4.out.frozen (ja * 8 + 5)
        have f6 := H4.out.frozen (ja * 8 + 6)
        have f7 := H4.out.frozen (ja * 8 + 7)
        go_simp
        have hv1 : VOk _ g _ := ey.out ▸ H4.out.at_ (j := jb) (by rw [HL.out]; exact hnb)
        have hv2 : VOk _ g _ := ex.out ▸ H4.out.at_ (j := ja) (by rw [HL.out]; exact hna)
        have k5 := H4.out.st8 (j := ja) (by rw [HL.out]; exact hna) hv1
        have k6 := hv2.st8 (ja * 8) y
        unfold st8 at k5 k6
        have HV := Lib.hid k6
        have H5 := Lib.hid k5
        refine ⟨H5.out.bl, ?_⟩
        clear k5 e0 e1 e2 e3 e4 e5 e6 e7 f0 f1 f2 f3 f4 f5 f6 f7 H4 k6 hv1 hv2
        generalize World.setCell _ _ _ = Y0 at *
        refine wpAnyE_one (i := 22) (by kernel_rfl) ?_
        intro Xa hx
        have H6 := Lib.hid (H5.out.keep hx)
        have HV1 := Lib.hid (HV.out.keep hx)
        clear H5 hx HV
        go_simp
        refine ⟨H6.out.bl, ?_⟩
        refine wpAnyE_one (i := 23) (by kernel_rfl) ?_
        intro Xb hx
        have H7 := Lib.hid (H6.out.keep hx)
        have HV2 := Lib.hid (HV1.out.keep hx)
        clear H6 hx HV1
        obtain ⟨e0, e1, e2, e3, e4, e5, e6, e7⟩ := H7.out.cells (j := jb) (by rw [List.length_set, HL.out]; exact hnb)
        have f0 := H7.out.frozen (jb * 8)
        have f1 := H7.out.frozen (jb * 8 + 1)
        have f2 := H7.out.frozen (jb * 8 + 2)
        have f3 := H7.out.frozen (jb * 8 + 3)
        have f4 := H7.out.frozen (jb * 8 + 4)
        have f5 := H7.out.frozen (jb * 8 + 5)
        have f6 := H7.out.frozen (jb * 8 + 6)
        have f7 := H7.out.frozen (jb * 8 + 7)
        go_simp
        have k5 := H7.out.st8 (j := jb) (by rw [List.length_set, HL.out]; exact hnb) HV2.out
        unfold st8 at k5
        have H8 := Lib.hid k5
        refine ⟨H8.out.bl, ?_⟩
        clear k5 e0 e1 e2 e3 e4 e5 e6 e7 f0 f1 f2 f3 f4 f5 f6 f7 H7 HV2
        generalize World.setCell _ _ _ = Y1 at *
        refine wpAnyE_done (by kernel_rfl) ?_
        intro X9 hx
        have H9 := Lib.hid (H8.out.keep hx)
        clear H8 hx
        have HE := Lib.hid (show (L.set ja y).set jb x = SWR P A M B Q (i + 1) by rw [← HSW.out]; unfold swp; rw [ex.out, ey.out])
        rw [HE.out] at H9
        clear HE
        go_wp2_with fail
        go_roundw
        case rel => exact ⟨i + 1, by omega, by go_num, H9.out⟩
        case measure => simp [intOf]; omega
    · have hq0 : decide ((i : Int) < (m : Int)) = false := decide_eq_false (by omega)
      have hq1 : decide (i < m) = false := decide_eq_false hlt
      obtain rfl : i = m := by omega
      have HE := Lib.hid (swr_all (P := P) (M := M) (Q := Q) HA.out HB.out)
      rw [HE.out] at HZ0
      go_wp2_with fail
      go_end0
      exact ⟨rfl, HZ0.out⟩
end Go.Proofs.YtfjjnffifnohkaaGreat
end

/- slices.rotateCmpFunc over versions. By an AI agent. -/
section
set_option linter.unusedVariables false
set_option linter.unusedSimpArgs false
namespace Go.Proofs.YtfjjnffifnohkaaGreat
open Go.RowKit

/-- what is still to be turned round -/
structure ROT (w W : World) (g m n : Nat) (T : List VC) (p i j : Nat) (P A B Q : List VC) : Prop where
  lp : P.length = p
  la : A.length = i
  lb : B.length = j
  pm : p + i = m
  ln : p + i + j + Q.length = n
  i0 : 0 < i
  j0 : 0 < j
  row : RW w W g (P ++ (A ++ (B ++ Q)))
  tt : P ++ (B ++ (A ++ Q)) = T
set_option maxHeartbeats 1600000 in
set_option maxRecDepth 100000 in
theorem rotate_any (w W : World) (g n ca : Nat) (P A B Q : List VC) (a m b : Nat) (hp : P.length = a) (ha : a + A.length = m) (hb : m + B.length = b) (hn : b + Q.length = n) (hn1 : n ≤ 1000000) (h0 : 0 < A.length) (h1 : 0 < B.length) (f : Value) (hr : RW w W g (P ++ (A ++ (B ++ Q)))) :
    Calls Tryz.prog 193 #[.slice (some ⟨g, 0, none⟩) n ca, .int .i64 a, .int .i64 m, .int .i64 b, f] W fun e W' => e = .returned (.tuple #[]) ∧ RW w W' g (P ++ (B ++ (A ++ Q))) := by
  have HR := Lib.hid (show ROT w W g m n (P ++ (B ++ (A ++ Q))) a A.length B.length P A B Q from ⟨hp, rfl, rfl, ha, by omega, h0, h1, hr, rfl⟩)
  have s1 : (m : Int) - (a : Int) = (A.length : Int) := by omega
  have s2 : (b : Int) - (m : Int) = (B.length : Int) := by omega
  have b1 : A.length ≤ 1000000 := by omega
  have b2 : B.length ≤ 1000000 := by omega
  have b3 : m ≤ 1000000 := by omega
  clear hp ha hb hn h0 h1 hr
  generalize P ++ (B ++ (A ++ Q)) = T at *
  generalize A.length = i0 at *
  generalize B.length = j0 at *
  go_enter Tryz.func193, Tryz.ntmps193
  go_wp2_with fail
  go_loopw [10, 11] (fun iv jv wr => ∃ (p i j : Nat) (P A B Q : List VC), iv = .int .i64 (i : Int) ∧ jv = .int .i64 (j : Int) ∧ ROT w wr g m n T p i j P A B Q) (fun iv jv _ => (intOf iv).toNat + (intOf jv).toNat)
  case atStart => exact ⟨a, i0, j0, P, A, B, Q, rfl, rfl, HR.out⟩
  case round =>
    clear HR s1 s2 b1 b2 P A B Q
    obtain ⟨p, i, j, P, A, B, Q, rfl, rfl, hR⟩ := hrel
    have HR := Lib.hid hR
    clear hR
    have b1 : i ≤ 1000000 := by have := HR.out.ln; omega
    have b2 : j ≤ 1000000 := by have := HR.out.ln; omega
    have s1 : (m : Int) - (i : Int) = (p : Int) := by have := HR.out.pm; omega
    have b4 : p ≤ 1000000 := by have := HR.out.pm; omega
    by_cases hij : i = j
    · have q0 : ((i : Int) != (j : Int)) = false := by simp; omega
      subst hij
      have H := Lib.hid (swapR_any w wr g n ca P A [] B Q p m i HR.out.lp HR.out.la HR.out.lb (by have := HR.out.pm; simp; omega) (by have := HR.out.ln; have := HR.out.lp; simp; omega) hn1 f (by rw [List.nil_append]; exact HR.out.row))
      rw [List.nil_append, HR.out.tt] at H
      go_wp2_with fail
      refine H.out.mono ?_
      rintro e W2 ⟨rfl, h2⟩
      have H2 := Lib.hid h2
      clear h2
      go_wp2_with fail
      go_end0
      exact ⟨rfl, H2.out⟩
    · have q0 : ((i : Int) != (j : Int)) = true := by simp; omega
      by_cases hlt : j < i
      · have q1 : decide ((j : Int) < (i : Int)) = true := decide_eq_true (by omega)
        have q2 : decide (j < i) = true := decide_eq_true hlt
        obtain ⟨d, hd⟩ : ∃ d, d + j = i := ⟨i - j, by omega⟩
        have s3 : (i : Int) - (j : Int) = (d : Int) := by omega
        have HD := Lib.hid hd
        have hA : A.take j ++ A.drop j = A := List.take_append_drop _ _
        have lA : (A.take j).length = j := by rw [List.length_take, HR.out.la]; omega
        have lB : (A.drop j).length = d := by rw [List.length_drop, HR.out.la]; omega
        have H := Lib.hid (swapR_any w wr g n ca P (A.take j) (A.drop j) B Q p m j HR.out.lp lA HR.out.lb (by have := HR.out.pm; omega) (by have := HR.out.ln; have := HR.out.lp; omega) hn1 f (by rw [← List.append_assoc (A.take j), hA]; exact HR.out.row))
        have HT := Lib.hid (show ∀ W2, RW w W2 g (P ++ (B ++ (A.drop j ++ (A.take j ++ Q)))) → ROT w W2 g m n T (p + j) d j (P ++ B) (A.drop j) (A.take j) Q from fun W2 h => ⟨by rw [List.length_append, HR.out.lp, HR.out.lb], lB, lA, by have := HR.out.pm; omega, by have := HR.out.ln; omega, by omega, HR.out.j0, by rw [List.append_assoc]; exact h, by
          rw [← HR.out.tt, List.append_assoc P B, ← List.append_assoc (A.take j), hA]⟩)
        clear hd hA lA lB
        go_wp2_with fail
        refine H.out.mono ?_
        rintro e W2 ⟨rfl, h2⟩
        have H2 := Lib.hid (HT.out _ h2)
        clear h2
        go_wp2_with fail
        go_roundw
        case rel => exact ⟨_, d, j, _, _, _, _, rfl, rfl, H2.out⟩
        case measure => have := HD.out; have := HR.out.j0; simp [intOf]; omega
      · have q1 : decide ((j : Int) < (i : Int)) = false := decide_eq_false (by omega)
        have q2 : decide (j < i) = false := decide_eq_false hlt
        obtain ⟨d, hd⟩ : ∃ d, d + i = j := ⟨j - i, by omega⟩
        have s3 : (j : Int) - (i : Int) = (d : Int) := by omega
        have s4 : (m : Int) + (j : Int) - (i : Int) = ((m + d : Nat) : Int) := by omega
        obtain ⟨q, hq⟩ : ∃ q, m + d = q := ⟨_, rfl⟩
        rw [hq] at s4
        have HQ := Lib.hid hq
        have HD := Lib.hid hd
        have hB : B.take d ++ B.drop d = B := List.take_append_drop _ _
        have lA : (B.take d).length = d := by rw [List.length_take, HR.out.lb]; omega
        have lB : (B.drop d).length = i := by rw [List.length_drop, HR.out.lb]; omega
        have H := Lib.hid (swapR_any w wr g n ca P A (B.take d) (B.drop d) Q p q i HR.out.lp HR.out.la lB (by have := HR.out.pm; omega) (by have := HR.out.ln; have := HR.out.lp; omega) hn1 f (by rw [← List.append_assoc (B.take d), hB]; exact HR.out.row))
        have HT := Lib.hid (show ∀ W2, RW w W2 g (P ++ (B.drop d ++ (B.take d ++ (A ++ Q)))) → ROT w W2 g m n T p i d P (B.drop d) (B.take d) (A ++ Q) from fun W2 h => ⟨HR.out.lp, lB, lA, HR.out.pm, by have := HR.out.ln; have := HR.out.la; rw [List.length_append]; omega, HR.out.i0, by omega, h, by
          rw [← HR.out.tt, ← List.append_assoc (B.take d), hB]⟩)
        clear hd hB lA lB hq
        go_wp2_with fail
        refine H.out.mono ?_
        rintro e W2 ⟨rfl, h2⟩
        have H2 := Lib.hid (HT.out _ h2)
        clear h2
        go_wp2_with fail
        go_roundw
        case rel => exact ⟨_, i, d, _, _, _, _, rfl, rfl, H2.out⟩
        case measure => have := HD.out; have := HR.out.i0; simp [intOf]; omega
end Go.Proofs.YtfjjnffifnohkaaGreat
end

/- slices.symMergeCmpFunc over versions: one element against many (printed in part by wip/gen/sortd.py). By an AI agent. -/
section
set_option linter.unusedVariables false
set_option linter.unusedSimpArgs false
namespace Go.Proofs.YtfjjnffifnohkaaGreat
open Go.RowKit
attribute [local go_sem] eOp eOper eUpon

theorem ins_right {P S : List VC} {x : VC} {i : Nat} {Q : List VC} (hi : i < S.length) : swp (INS P S x i Q) (P.length + i) (P.length + i + 1) = INS P S x (i + 1) Q := by
  have e1 : INS P S x i Q = (P ++ S.take i) ++ (x :: ([] ++ (el S i :: (S.drop (i + 1) ++ Q)))) := by
    unfold INS
    rw [drop_el hi]
    simp
  have hl : (P ++ S.take i).length = P.length + i := by rw [List.length_append, List.length_take]; omega
  have := swp_mid (P ++ S.take i) [] (S.drop (i + 1) ++ Q) x (el S i)
  rw [hl] at this
  rw [e1, show P.length + i + 1 = P.length + i + (([] : List VC).length + 1) by simp, this]
  unfold INS
  rw [take_el hi]
  simp
theorem ins_z {P S : List VC} {x : VC} {i : Nat} {Q : List VC} (hi : i < S.length) : el (INS P S x i Q) (P.length + i + 1) = el S i := by
  have e1 : INS P S x i Q = (P ++ S.take i) ++ (x :: ([] ++ (el S i :: (S.drop (i + 1) ++ Q)))) := by
    unfold INS
    rw [drop_el hi]
    simp
  have hl : (P ++ S.take i).length = P.length + i := by rw [List.length_append, List.length_take]; omega
  rw [e1, ← hl]
  exact el_right (P ++ S.take i) (x :: ([] ++ (el S i :: (S.drop (i + 1) ++ Q)))) 1
/-- it is in its place, coming from the left -/
theorem ins_done2 {P R : List VC} {x : VC} {i : Nat} {Q : List VC} (hR : Srt leC R) (hi : i ≤ R.length) (c1 : 0 < i → leC x (el R (i - 1)) = false) (c2 : i < R.length → leC x (el R i) = true) : INS P R x i Q = P ++ (mrg leC [x] R ++ Q) := by
  rw [one_first leC_pre x hR hi c1 c2]
  unfold INS
  simp
set_option maxHeartbeats 3200000 in
set_option maxRecDepth 100000 in
theorem symM_left (w W : World) (g n ca : Nat) (P R : List VC) (x : VC) (Q : List VC) (a m b : Nat) (hp : P.length = a) (ha : a + 1 = m) (hb : m + R.length = b) (hn : b + Q.length = n) (hn1 : n ≤ 1000000) (h1 : 0 < R.length) (hR : Srt leC R) (hr : RW w W g (P ++ ([x] ++ (R ++ Q)))) :
    Calls Tryz.prog 171 #[.slice (some ⟨g, 0, none⟩) n ca, .int .i64 a, .int .i64 m, .int .i64 b, .func (.func 22) #[] #[]] W fun e W' => e = .returned (.tuple #[]) ∧ RW w W' g (P ++ (mrg leC [x] R ++ Q)) := by
  have hsf := store_fl
  have e0 : P ++ ([x] ++ (R ++ Q)) = INS P R x 0 Q := by simp [INS]
  rw [e0] at hr
  have HR := Lib.hid hr
  have HS := Lib.hid hR
  have HP := Lib.hid hp
  have HA := Lib.hid ha
  have HB := Lib.hid hb
  have HN := Lib.hid hn
  have s1 : (m : Int) - (a : Int) = 1 := by omega
  have b1 : a ≤ 1000000 := by omega
  have b2 : m ≤ 1000000 := by omega
  have b3 : b ≤ 1000000 := by omega
  clear hr hR hp ha hb hn e0
  go_enter Tryz.func171, Tryz.ntmps171
  go_wp2_with fail
  go_loopw [10, 11] (fun iv jv wr => ∃ i j : Nat, m ≤ i ∧ i ≤ j ∧ j ≤ b ∧ iv = .int .i64 (i : Int) ∧ jv = .int .i64 (j : Int) ∧ RW w wr g (INS P R x 0 Q) ∧ (m < i → leC x (el R (i - 1 - m)) = false) ∧ (j < b → leC x (el R (j - m)) = true)) (fun iv jv _ => (intOf jv).toNat - (intOf iv).toNat)
  case atStart => exact ⟨m, b, Nat.le_refl _, by have := HB.out; omega, Nat.le_refl _, rfl, rfl, HR.out, fun h => absurd h (Nat.lt_irrefl _), fun h => absurd h (Nat.lt_irrefl _)⟩
  case round =>
    clear HR s1
    obtain ⟨i, j, hi, hij, hj, rfl, rfl, hrow, c1, c2⟩ := hrel
    have HC1 := Lib.hid c1
    have HC2 := Lib.hid c2
    have HROW := Lib.hid hrow
    clear c1 c2 hrow
    have b4 : i ≤ 1000000 := by omega
    have b5 : j ≤ 1000000 := by omega
    by_cases hlt : i < j
    · have q0 : decide ((i : Int) < (j : Int)) = true := decide_eq_true (by omega)
      have q0n : decide (i < j) = true := decide_eq_true hlt
      obtain ⟨s, hs⟩ : ∃ s, i + j = s := ⟨_, rfl⟩
      obtain ⟨h, hh⟩ : ∃ h, s / 2 = h := ⟨_, rfl⟩
      have s2 : (i : Int) + (j : Int) = (s : Int) := by omega
      have hf : (s : Int) / 2 = (h : Int) := by omega
      have b6 : s ≤ 2000000 := by omega
      have b7 : h ≤ 1000000 := by omega
      have hih : i ≤ h ∧ h < j := by omega
      have hnh : h < n := by have := HN.out; omega
      have hna : a < n := by have := HA.out; have := HN.out; omega
      have HL := Lib.hid (show (INS P R x 0 Q).length = n by rw [ins_len (Nat.zero_le _)]; have := HP.out; have := HA.out; have := HB.out; have := HN.out; omega)
      have eh := Lib.hid (show el (INS P R x 0 Q) h = el R (h - m) by
        have : INS P R x 0 Q = (P ++ [x]) ++ (R ++ Q) := by simp [INS]
        rw [this, show h = (P ++ [x]).length + (h - m) by rw [List.length_append, List.length_singleton]; have := HP.out; have := HA.out; omega, el_right, el_left _ (by have := HB.out; omega)]
        congr 1
        rw [List.length_append, List.length_singleton]; have := HP.out; have := HA.out; omega)
      have ea := Lib.hid (show el (INS P R x 0 Q) a = x by rw [← HP.out]; exact ins_x (i := 0) (Nat.zero_le _))
      obtain ⟨L, hLL⟩ : ∃ L, INS P R x 0 Q = L := ⟨_, rfl⟩
      have HLL := Lib.hid hLL
      rw [hLL] at HL eh ea HROW
      clear hLL hs hh
      obtain ⟨y, hy⟩ : ∃ y, el R (h - m) = y := ⟨_, rfl⟩
      have HY := Lib.hid hy
      rw [hy] at eh
      clear hy
      obtain ⟨R0, hR⟩ : ∃ R0, orderL y.ver x.ver = R0 := ⟨_, rfl⟩
      have HRR := Lib.hid hR
      clear hR
      go_upto_region 5 with fail
      refine wp_region_allS (by kernel_rfl) (by kernel_rfl) ?_
      have HZ := Lib.hid (HROW.out.keep ((Bl.refl _).drew))
      clear HROW
      generalize World.drew _ = Z at *
      obtain ⟨x0, x1, x2, x3, x4, x5, x6, x7⟩ := HZ.out.all8 (by rw [HL.out]; exact hnh) eh.out
      obtain ⟨y0, y1, y2, y3, y4, y5, y6, y7⟩ := HZ.out.all8 (by rw [HL.out]; exact hna) ea.out
      have V := Lib.hid (fun q : Ext Z => forder_w _ _ R0 q.at (eh.out ▸ (HZ.out.keep q.bl).at_ (by rw [HL.out]; exact hnh)) (ea.out ▸ (HZ.out.keep q.bl).at_ (by rw [HL.out]; exact hna)) HRR)
      repeat (refine wpS_step (fun K hK => ?_); go_simp; first | (refine hK _ ?_; clear hK K) | (apply Exists.intro; refine ⟨fun q => ?_, hK _ ?_⟩; (with_reducible exact V.out q); clear hK K))
      refine wpS_nil ?_
      intro q1
      have HROW := Lib.hid (HZ.out.keep q1.bl)
      clear x0 x1 x2 x3 x4 x5 x6 x7 y0 y1 y2 y3 y4 y5 y6 y7 V HZ
      generalize q1.at = Y at *
      clear q1
      by_cases hR0 : R0 < 0
      · have qR : decide (R0 < 0) = true := decide_eq_true hR0
        have HF := Lib.hid (show leC x (el R (h - m)) = false by rw [HY.out]; exact leC_not.2 (by rw [HRR.out]; exact hR0))
        go_wp2_with fail
        go_roundw
        case rel => exact ⟨h + 1, j, by omega, by omega, hj, by go_num, rfl, by rw [HLL.out]; exact HROW.out, fun _ => by rw [Nat.add_sub_cancel]; exact HF.out, HC2.out⟩
        case measure => simp [intOf]; omega
      · have qR : decide (R0 < 0) = false := decide_eq_false hR0
        have HF := Lib.hid (show leC x (el R (h - m)) = true by rw [HY.out]; exact leC_yes.2 (by rw [HRR.out]; exact hR0))
        go_wp2_with fail
        go_roundw
        case rel => exact ⟨i, h, hi, by omega, by omega, rfl, rfl, by rw [HLL.out]; exact HROW.out, HC1.out, fun _ => HF.out⟩
        case measure => simp [intOf]; omega
    · have q0 : decide ((i : Int) < (j : Int)) = false := decide_eq_false (by omega)
      have q0n : decide (i < j) = false := decide_eq_false hlt
      obtain rfl : i = j := by omega
      obtain ⟨d, hd⟩ : ∃ d, m + d = i := ⟨i - m, by omega⟩
      have HD := Lib.hid (ins_done2 (P := P) (Q := Q) HS.out (i := d) (x := x) (by have := HB.out; omega) (fun h => by have := HC1.out (by omega); rwa [show i - 1 - m = d - 1 by omega] at this) (fun h => by have := HC2.out (by have := HB.out; omega); rwa [show i - m = d by omega] at this))
      have HDI := Lib.hid hd
      have hdR : d ≤ R.length := by have := HB.out; omega
      have HDR := Lib.hid hdR
      have s3 : (i : Int) - 1 = ((a + d : Nat) : Int) := by have := HA.out; omega
      obtain ⟨z, hz⟩ : ∃ z, a + d = z := ⟨_, rfl⟩
      rw [hz] at s3
      have HZZ := Lib.hid hz
      have b8 : z ≤ 1000000 := by have := HA.out; omega
      clear hd hdR hz HC1 HC2
      go_wp2_with fail
      go_loopw [13] (fun kv wr => ∃ t k : Nat, t ≤ d ∧ a + t = k ∧ kv = .int .i64 (k : Int) ∧ RW w wr g (INS P R x t Q)) (fun kv _ => z - (intOf kv).toNat)
      case atStart => exact ⟨0, a, Nat.zero_le _, rfl, rfl, HROW.out⟩
      case round =>
        clear HROW
        obtain ⟨t, k, htd, hk, rfl, hrow⟩ := hrel
        have HZ0 := Lib.hid hrow
        have HK := Lib.hid hk
        clear hrow hk
        have b9 : k ≤ 1000000 := by have := HK.out; have := HZZ.out; omega
        by_cases hlz : k < z
        · have q1 : decide ((k : Int) < (z : Int)) = true := decide_eq_true (by omega)
          have q1n : decide (k < z) = true := decide_eq_true hlz
          have htR : t < R.length := by have := HDR.out; have := HK.out; have := HZZ.out; omega
          obtain ⟨k1, hk1⟩ : ∃ k1, k + 1 = k1 := ⟨_, rfl⟩
          have hw1 : IntKind.i64.wrap ((k : Int) + 1) = (k1 : Int) := by rw [IntKind.wrap_i64]; omega
          have HL := Lib.hid (show (INS P R x t Q).length = n by rw [ins_len (by omega)]; have := HP.out; have := HA.out; have := HB.out; have := HN.out; omega)
          have hnk : k < n := by have := HA.out; have := HB.out; have := HN.out; have := HK.out; omega
          have hnk1 : k1 < n := by have := HA.out; have := HB.out; have := HN.out; have := HK.out; omega
          have ex := Lib.hid (show el (INS P R x t Q) k = x by rw [← HK.out, ← HP.out]; exact ins_x (by omega))
          have ey := Lib.hid (show el (INS P R x t Q) k1 = el R t by rw [← hk1, ← HK.out, ← HP.out]; exact ins_z htR)
          have HSW := Lib.hid (show swp (INS P R x t Q) k k1 = INS P R x (t + 1) Q by rw [← hk1, ← HK.out, ← HP.out]; exact ins_right htR)
          have HK1 := Lib.hid hk1
          clear htR hk1
          generalize el R t = y at *
          obtain ⟨L, hLL⟩ : ∃ L, INS P R x t Q = L := ⟨_, rfl⟩
          rw [hLL] at HL ex ey HSW HZ0
          clear hLL
          go_upto_region 11 with fail
          refine wp_region_idx [0, 1, 2, 3, 4, 5, 6, 7, 8, 10, 11, 12] 6 (FrG w g) (fun _ _ h k => h.trans k) HZ0.out.bl.drew (by kernel_rfl) rfl (by kernel_rfl) (by kernel_rfl) ?_
          have HZ := Lib.hid (HZ0.out.keep (Bl.refl _).drew)
          clear HZ0
          generalize World.drew _ = Z at *
          haveI : Nonempty (ExtC (FrG w g)) := ⟨⟨Z, HZ.out.bl⟩⟩
          repeat (refine wpI_step rfl (fun K hK => ?_); go_simp; first | (refine hK _ ?_; clear hK K) | (apply Exists.intro; refine ⟨fun q => ?_, hK _ ?_⟩; fail; clear hK K))
          refine wpI_nil ?_
          clear this
          refine wpAnyE_all (rs := [9, 13]) (by kernel_rfl) (by decide) ?_
          intro i' hi' X1 hx1
          simp only [List.mem_cons, List.not_mem_nil, or_false] at hi'
          have H1 := Lib.hid (HZ.out.keep hx1)
          clear HZ hx1
          rcases hi' with rfl | rfl
          · obtain ⟨e0, e1, e2, e3, e4, e5, e6, e7⟩ := H1.out.at8 (by rw [HL.out]; exact hnk1) ey.out
            go_simp
            refine ⟨H1.out.bl, ?_⟩
            clear e0 e1 e2 e3 e4 e5 e6 e7
            refine wpAnyE_one (i := 13) (by kernel_rfl) ?_
            intro X2 hx2
            have H2 := Lib.hid (H1.out.keep hx2)
            clear H1 hx2
            obtain ⟨e0, e1, e2, e3, e4, e5, e6, e7⟩ := H2.out.at8 (by rw [HL.out]; exact hnk) ex.out
            go_simp
            refine ⟨H2.out.bl, ?_⟩
            clear e0 e1 e2 e3 e4 e5 e6 e7
            refine wpAnyE_one (i := 14) (by kernel_rfl) ?_
            intro Xa hx
            have H3 := Lib.hid (H2.out.keep hx)
            clear H2 hx
            go_simp
            refine ⟨H3.out.bl, ?_⟩
            refine wpAnyE_one (i := 15) (by kernel_rfl) ?_
            intro Xb hx
            have H4 := Lib.hid (H3.out.keep hx)
            clear H3 hx
            obtain ⟨e0, e1, e2, e3, e4, e5, e6, e7⟩ := H4.out.cells (j := k) (by rw [HL.out]; exact hnk)
            have f0 := H4.out.frozen (k * 8)
            have f1 := H4.out.frozen (k * 8 + 1)
            have f2 := H4.out.frozen (k * 8 + 2)
            have f3 := H4.out.frozen (k * 8 + 3)
            have f4 := H4.out.frozen (k * 8 + 4)
            have f5 := H4.out.frozen (k * 8 + 5)
            have f6 := H4.out.frozen (k * 8 + 6)
            have f7 := H4.out.frozen (k * 8 + 7)
            go_simp
            have hv1 : VOk _ g _ := ey.out ▸ H4.out.at_ (j := k1) (by rw [HL.out]; exact hnk1)
            have hv2 : VOk _ g _ := ex.out ▸ H4.out.at_ (j := k) (by rw [HL.out]; exact hnk)
            have k5 := H4.out.st8 (j := k) (by rw [HL.out]; exact hnk) hv1
            have k6 := hv2.st8 (k * 8) y
            unfold st8 at k5 k6
            have HV := Lib.hid k6
            have H5 := Lib.hid k5
            refine ⟨H5.out.bl, ?_⟩
            clear k5 e0 e1 e2 e3 e4 e5 e6 e7 f0 f1 f2 f3 f4 f5 f6 f7 H4 k6 hv1 hv2
            generalize World.setCell _ _ _ = Y0 at *
            refine wpAnyE_one (i := 16) (by kernel_rfl) ?_
            intro Xa hx
            have H6 := Lib.hid (H5.out.keep hx)
            have HV1 := Lib.hid (HV.out.keep hx)
            clear H5 hx HV
            go_simp
            refine ⟨H6.out.bl, ?_⟩
            refine wpAnyE_one (i := 17) (by kernel_rfl) ?_
            intro Xb hx
            have H7 := Lib.hid (H6.out.keep hx)
            have HV2 := Lib.hid (HV1.out.keep hx)
            clear H6 hx HV1
            obtain ⟨e0, e1, e2, e3, e4, e5, e6, e7⟩ := H7.out.cells (j := k1) (by rw [List.length_set, HL.out]; exact hnk1)
            have f0 := H7.out.frozen (k1 * 8)
            have f1 := H7.out.frozen (k1 * 8 + 1)
            have f2 := H7.out.frozen (k1 * 8 + 2)
            have f3 := H7.out.frozen (k1 * 8 + 3)
            have f4 := H7.out.frozen (k1 * 8 + 4)
            have f5 := H7.out.frozen (k1 * 8 + 5)
            have f6 := H7.out.frozen (k1 * 8 + 6)
            have f7 := H7.out.frozen (k1 * 8 + 7)
            go_simp
            have k5 := H7.out.st8 (j := k1) (by rw [List.length_set, HL.out]; exact hnk1) HV2.out
            unfold st8 at k5
            have H8 := Lib.hid k5
            refine ⟨H8.out.bl, ?_⟩
            clear k5 e0 e1 e2 e3 e4 e5 e6 e7 f0 f1 f2 f3 f4 f5 f6 f7 H7 HV2
            generalize World.setCell _ _ _ = Y1 at *
            refine wpAnyE_done (by kernel_rfl) ?_
            intro X9 hx
            have H9 := Lib.hid (H8.out.keep hx)
            clear H8 hx
            have HE := Lib.hid (show (L.set k y).set k1 x = INS P R x (t + 1) Q by rw [← HSW.out]; unfold swp; rw [ex.out, ey.out])
            rw [HE.out] at H9
            clear HE hw1
            go_wp2_with fail
            go_roundw
            case rel => exact ⟨t + 1, k + 1, by have := HK.out; have := HZZ.out; omega, by have := HK.out; omega, by go_num, H9.out⟩
            case measure => simp [intOf]; omega
          · obtain ⟨e0, e1, e2, e3, e4, e5, e6, e7⟩ := H1.out.at8 (by rw [HL.out]; exact hnk) ex.out
            go_simp
            refine ⟨H1.out.bl, ?_⟩
            clear e0 e1 e2 e3 e4 e5 e6 e7
            refine wpAnyE_one (i := 9) (by kernel_rfl) ?_
            intro X2 hx2
            have H2 := Lib.hid (H1.out.keep hx2)
            clear H1 hx2
            obtain ⟨e0, e1, e2, e3, e4, e5, e6, e7⟩ := H2.out.at8 (by rw [HL.out]; exact hnk1) ey.out
            go_simp
            refine ⟨H2.out.bl, ?_⟩
            clear e0 e1 e2 e3 e4 e5 e6 e7
            refine wpAnyE_one (i := 14) (by kernel_rfl) ?_
            intro Xa hx
            have H3 := Lib.hid (H2.out.keep hx)
            clear H2 hx
            go_simp
            refine ⟨H3.out.bl, ?_⟩
            refine wpAnyE_one (i := 15) (by kernel_rfl) ?_
            intro Xb hx
            have H4 := Lib.hid (H3.out.keep hx)
            clear H3 hx
            obtain ⟨e0, e1, e2, e3, e4, e5, e6, e7⟩ := H4.out.cells (j := k) (by rw [HL.out]; exact hnk)
            have f0 := H4.out.frozen (k * 8)
            have f1 := H4.out.frozen (k * 8 + 1)
            have f2 := H4.out.frozen (k * 8 + 2)
            have f3 := H4.out.frozen (k * 8 + 3)
            have f4 := H4.out.frozen (k * 8 + 4)
            have f5 := H4.out.frozen (k * 8 + 5)
            have f6 := H4.out.frozen (k * 8 + 6)
            have f7 := H4.out.frozen (k * 8 + 7)
            go_simp
            have hv1 : VOk _ g _ := ey.out ▸ H4.out.at_ (j := k1) (by rw [HL.out]; exact hnk1)
            have hv2 : VOk _ g _ := ex.out ▸ H4.out.at_ (j := k) (by rw [HL.out]; exact hnk)
            have k5 := H4.out.st8 (j := k) (by rw [HL.out]; exact hnk) hv1
            have k6 := hv2.st8 (k * 8) y
            unfold st8 at k5 k6
            have HV := Lib.hid k6
            have H5 := Lib.hid k5
            refine ⟨H5.out.bl, ?_⟩
            clear k5 e0 e1 e2 e3 e4 e5 e6 e7 f0 f1 f2 f3 f4 f5 f6 f7 H4 k6 hv1 hv2
            generalize World.setCell _ _ _ = Y0 at *
            refine wpAnyE_one (i := 16) (by kernel_rfl) ?_
            intro Xa hx
            have H6 := Lib.hid (H5.out.keep hx)
            have HV1 := Lib.hid (HV.out.keep hx)
            clear H5 hx HV
            go_simp
            refine ⟨H6.out.bl, ?_⟩
            refine wpAnyE_one (i := 17) (by kernel_rfl) ?_
            intro Xb hx
            have H7 := Lib.hid (H6.out.keep hx)
            have HV2 := Lib.hid (HV1.out.keep hx)
            clear H6 hx HV1
            obtain ⟨e0, e1, e2, e3, e4, e5, e6, e7⟩ := H7.out.cells (j := k1) (by rw [List.length_set, HL.out]; exact hnk1)
            have f0 := H7.out.frozen (k1 * 8)
            have f1 := H7.out.frozen (k1 * 8 + 1)
            have f2 := H7.out.frozen (k1 * 8 + 2)
            have f3 := H7.out.frozen (k1 * 8 + 3)
            have f4 := H7.out.frozen (k1 * 8 + 4)
            have f5 := H7.out.frozen (k1 * 8 + 5)
            have f6 := H7.out.frozen (k1 * 8 + 6)
            have f7 := H7.out.frozen (k1 * 8 + 7)
            go_simp
            have k5 := H7.out.st8 (j := k1) (by rw [List.length_set, HL.out]; exact hnk1) HV2.out
            unfold st8 at k5
            have H8 := Lib.hid k5
            refine ⟨H8.out.bl, ?_⟩
            clear k5 e0 e1 e2 e3 e4 e5 e6 e7 f0 f1 f2 f3 f4 f5 f6 f7 H7 HV2
            generalize World.setCell _ _ _ = Y1 at *
            refine wpAnyE_done (by kernel_rfl) ?_
            intro X9 hx
            have H9 := Lib.hid (H8.out.keep hx)
            clear H8 hx
            have HE := Lib.hid (show (L.set k y).set k1 x = INS P R x (t + 1) Q by rw [← HSW.out]; unfold swp; rw [ex.out, ey.out])
            rw [HE.out] at H9
            clear HE hw1
            go_wp2_with fail
            go_roundw
            case rel => exact ⟨t + 1, k + 1, by have := HK.out; have := HZZ.out; omega, by have := HK.out; omega, by go_num, H9.out⟩
            case measure => simp [intOf]; omega
        · have q1 : decide ((k : Int) < (z : Int)) = false := decide_eq_false (by omega)
          have q1n : decide (k < z) = false := decide_eq_false hlz
          obtain rfl : t = d := by have := HK.out; have := HZZ.out; omega
          rw [HD.out] at HZ0
          go_wp2_with fail
          refine bodyPost_ret (results_none rfl _ _ _) rfl ?_
          exact ⟨rfl, HZ0.out⟩
end Go.Proofs.YtfjjnffifnohkaaGreat
end
