import Derived.Test.YtdjlnpiaehoofaaCore5

/- slices.swapRangeCmpFunc, rotateCmpFunc over versions (printed in part by wip/gen/sortb.py). By an AI agent. -/
section
set_option linter.unusedVariables false
set_option linter.unusedSimpArgs false
namespace Go.Proofs.Ytdjlnpiaehoofaa
open Go.RowKit
attribute [local go_sem] eOp eOper eUpon

/-- two parts of which i elements are changed for each other -/
def SWR (P A M B Q : List VC) (i : Nat) : List VC := P ++ ((B.take i ++ A.drop i) ++ (M ++ ((A.take i ++ B.drop i) ++ Q)))
theorem swr_zero (P A M B Q : List VC) : SWR P A M B Q 0 = P ++ (A ++ (M ++ (B ++ Q))) := by simp [SWR]
theorem swr_all {P A M B Q : List VC} {m : Nat} (ha : A.length = m) (hb : B.length = m) : SWR P A M B Q m = P ++ (B ++ (M ++ (A ++ Q))) := by
  unfold SWR
  rw [List.take_of_length_le (by omega), List.take_of_length_le (by omega), List.drop_eq_nil_of_le (by omega), List.drop_eq_nil_of_le (by omega)]
  simp
theorem swr_len {P A M B Q : List VC} {m i : Nat} (ha : A.length = m) (hb : B.length = m) (hi : i ≤ m) : (SWR P A M B Q i).length = P.length + m + M.length + m + Q.length := by
  unfold SWR; simp; omega
theorem swr_form {P A M B Q : List VC} {m i : Nat} (ha : A.length = m) (hb : B.length = m) (hi : i < m) : SWR P A M B Q i = (P ++ B.take i) ++ (el A i :: ((A.drop (i + 1) ++ (M ++ A.take i)) ++ (el B i :: (B.drop (i + 1) ++ Q)))) := by
  unfold SWR
  rw [drop_el (show i < A.length by omega), drop_el (show i < B.length by omega)]
  simp
theorem swr_lens {P A M B : List VC} {m i : Nat} (ha : A.length = m) (hb : B.length = m) (hi : i < m) : (P ++ B.take i).length = P.length + i ∧ (A.drop (i + 1) ++ (M ++ A.take i)).length + 1 = m + M.length := by
  constructor
  · rw [List.length_append, List.length_take]; omega
  · simp; omega
theorem swr_x {P A M B Q : List VC} {m i : Nat} (ha : A.length = m) (hb : B.length = m) (hi : i < m) : el (SWR P A M B Q i) (P.length + i) = el A i := by
  rw [swr_form ha hb hi, ← (swr_lens (P := P) (M := M) ha hb hi).1]
  have := el_right (P ++ B.take i) (el A i :: ((A.drop (i + 1) ++ (M ++ A.take i)) ++ (el B i :: (B.drop (i + 1) ++ Q)))) 0
  exact this
theorem swr_y {P A M B Q : List VC} {m i : Nat} (ha : A.length = m) (hb : B.length = m) (hi : i < m) : el (SWR P A M B Q i) (P.length + i + (m + M.length)) = el B i := by
  have hl := swr_lens (P := P) (M := M) ha hb hi
  rw [swr_form ha hb hi, ← hl.1, ← hl.2, el_right]
  have := el_right (el A i :: (A.drop (i + 1) ++ (M ++ A.take i))) (el B i :: (B.drop (i + 1) ++ Q)) 0
  exact this
theorem swr_step {P A M B Q : List VC} {m i : Nat} (ha : A.length = m) (hb : B.length = m) (hi : i < m) : swp (SWR P A M B Q i) (P.length + i) (P.length + i + (m + M.length)) = SWR P A M B Q (i + 1) := by
  have hl := swr_lens (P := P) (M := M) ha hb hi
  have := swp_mid (P ++ B.take i) (A.drop (i + 1) ++ (M ++ A.take i)) (B.drop (i + 1) ++ Q) (el A i) (el B i)
  rw [hl.1, hl.2] at this
  rw [swr_form ha hb hi, this]
  unfold SWR
  rw [take_el (show i < A.length by omega), take_el (show i < B.length by omega)]
  simp
set_option maxHeartbeats 3200000 in
set_option maxRecDepth 100000 in
theorem swapR_any (w W : World) (g n ca : Nat) (P A M B Q : List VC) (p q m : Nat) (hp : P.length = p) (ha : A.length = m) (hb : B.length = m) (hq : p + (m + M.length) = q) (hn : P.length + m + M.length + m + Q.length = n) (hn1 : n ≤ 1000000) (f : Value) (hr : RW w W g (P ++ (A ++ (M ++ (B ++ Q))))) :
    Calls Try.prog 77 #[.slice (some ⟨g, 0, none⟩) n ca, .int .i64 p, .int .i64 q, .int .i64 m, f] W fun e W' => e = .returned (.tuple #[]) ∧ RW w W' g (P ++ (B ++ (M ++ (A ++ Q)))) := by
  have hsf := store_fl
  have HR := Lib.hid hr
  have HP := Lib.hid hp
  have HA := Lib.hid ha
  have HB := Lib.hid hb
  have HQ := Lib.hid hq
  have HN := Lib.hid hn
  clear hr hp ha hb hq hn
  have hpn : p ≤ 1000000 := by have := HP.out; have := HN.out; omega
  have hqn : q ≤ 1000000 := by have := HQ.out; have := HP.out; have := HN.out; omega
  have hmn : m ≤ 1000000 := by have := HN.out; omega
  go_enter Try.func77, Try.ntmps77
  go_wp2_with fail
  go_loopw [10] (fun iv wr => ∃ i : Nat, i ≤ m ∧ iv = .int .i64 (i : Int) ∧ RW w wr g (SWR P A M B Q i)) (fun iv _ => m - (intOf iv).toNat)
  case atStart => exact ⟨0, Nat.zero_le _, rfl, by rw [swr_zero]; exact HR.out⟩
  case round =>
    obtain ⟨i, him, rfl, hrow⟩ := hrel
    have HZ0 := Lib.hid hrow
    clear hrow
    by_cases hlt : i < m
    · have hq0 : decide ((i : Int) < (m : Int)) = true := decide_eq_true (by omega)
      have hq1 : decide (i < m) = true := decide_eq_true hlt
      obtain ⟨ja, hja⟩ : ∃ ja, p + i = ja := ⟨_, rfl⟩
      obtain ⟨jb, hjb⟩ : ∃ jb, q + i = jb := ⟨_, rfl⟩
      have hwa : IntKind.i64.wrap ((p : Int) + (i : Int)) = (ja : Int) := by rw [IntKind.wrap_i64]; omega
      have hwb : IntKind.i64.wrap ((q : Int) + (i : Int)) = (jb : Int) := by rw [IntKind.wrap_i64]; omega
      have HL := Lib.hid (show (SWR P A M B Q i).length = n by rw [swr_len HA.out HB.out him]; exact HN.out)
      have hna : ja < n := by have := HP.out; have := HN.out; omega
      have hnb : jb < n := by have := HP.out; have := HN.out; have := HQ.out; omega
      have ex := Lib.hid (show el (SWR P A M B Q i) ja = el A i by rw [← hja, ← HP.out]; exact swr_x HA.out HB.out hlt)
      have ey := Lib.hid (show el (SWR P A M B Q i) jb = el B i by rw [show jb = P.length + i + (m + M.length) by have := HP.out; have := HQ.out; omega]; exact swr_y HA.out HB.out hlt)
      have HSW := Lib.hid (show swp (SWR P A M B Q i) ja jb = SWR P A M B Q (i + 1) by rw [show jb = P.length + i + (m + M.length) by have := HP.out; have := HQ.out; omega, ← hja, ← HP.out]; exact swr_step HA.out HB.out hlt)
      clear hja hjb
      generalize el A i = x at *
      generalize el B i = y at *
      obtain ⟨L, hLL⟩ : ∃ L, SWR P A M B Q i = L := ⟨_, rfl⟩
      rw [hLL] at HL ex ey HSW HZ0
      clear hLL
      go_upto_region 3 with fail
      refine wp_region_idx [0, 1, 2, 3, 4, 5, 6, 7, 8, 9, 10, 11, 12, 14, 15, 16, 17, 18] 6 (Bl w) (fun _ _ h k => h.trans k) HZ0.out.bl.drew (by kernel_rfl) rfl (by kernel_rfl) (by kernel_rfl) ?_
      have HZ := Lib.hid (HZ0.out.keep (Bl.refl _).drew)
      clear HZ0
      generalize World.drew _ = Z at *
      haveI : Nonempty (ExtC (Bl w)) := ⟨⟨Z, HZ.out.bl⟩⟩
      repeat (refine wpI_step rfl (fun K hK => ?_); go_simp; first | (refine hK _ ?_; clear hK K) | (apply Exists.intro; refine ⟨fun q => ?_, hK _ ?_⟩; fail; clear hK K))
      refine wpI_nil ?_
      clear this
      refine wpAnyE_all (rs := [13, 19]) (by kernel_rfl) (by decide) ?_
      intro i' hi' X1 hx1
      simp only [List.mem_cons, List.not_mem_nil, or_false] at hi'
      have H1 := Lib.hid (HZ.out.keep hx1)
      clear HZ hx1
      rcases hi' with rfl | rfl
      · obtain ⟨e0, e1, e2, e3, e4, e5, e6, e7⟩ := H1.out.at8 (by rw [HL.out]; exact hnb) ey.out
        go_simp
        refine ⟨H1.out.bl, ?_⟩
        clear e0 e1 e2 e3 e4 e5 e6 e7
        refine wpAnyE_one (i := 19) (by kernel_rfl) ?_
        intro X2 hx2
        have H2 := Lib.hid (H1.out.keep hx2)
        clear H1 hx2
        obtain ⟨e0, e1, e2, e3, e4, e5, e6, e7⟩ := H2.out.at8 (by rw [HL.out]; exact hna) ex.out
        go_simp
        refine ⟨H2.out.bl, ?_⟩
        clear e0 e1 e2 e3 e4 e5 e6 e7
        refine wpAnyE_one (i := 20) (by kernel_rfl) ?_
        intro Xa hx
        have H3 := Lib.hid (H2.out.keep hx)
        clear H2 hx
        go_simp
        refine ⟨H3.out.bl, ?_⟩
        refine wpAnyE_one (i := 21) (by kernel_rfl) ?_
        intro Xb hx
        have H4 := Lib.hid (H3.out.keep hx)
        clear H3 hx
        obtain ⟨e0, e1, e2, e3, e4, e5, e6, e7⟩ := H4.out.cells (j := ja) (by rw [HL.out]; exact hna)
        have f0 := H4.out.frozen (ja * 8)
        have f1 := H4.out.frozen (ja * 8 + 1)
        have f2 := H4.out.frozen (ja * 8 + 2)
        have f3 := H4.out.frozen (ja * 8 + 3)
        have f4 := H4.out.frozen (ja * 8 + 4)
        have f5 := H4.out.frozen (ja * 8 + 5)
        have f6 := H4.out.frozen (ja * 8 + 6)
        have f7 := H4.out.frozen (ja * 8 + 7)
        go_simp
        have hv1 : VOk _ g _ := ey.out ▸ H4.out.at_ (j := jb) (by rw [HL.out]; exact hnb)
        have hv2 : VOk _ g _ := ex.out ▸ H4.out.at_ (j := ja) (by rw [HL.out]; exact hna)
        have k5 := H4.out.st8 (j := ja) (by rw [HL.out]; exact hna) hv1
        have k6 := hv2.st8 (ja * 8) y
        unfold st8 at k5 k6
        have HV := Lib.hid k6
        have H5 := Lib.hid k5
        refine ⟨H5.out.bl, ?_⟩
        clear k5 e0 e1 e2 e3 e4 e5 e6 e7 f0 f1 f2 f3 f4 f5 f6 f7 H4 k6 hv1 hv2
        generalize World.setCell _ _ _ = Y0 at *
        refine wpAnyE_one (i := 22) (by kernel_rfl) ?_
        intro Xa hx
        have H6 := Lib.hid (H5.out.keep hx)
        have HV1 := Lib.hid (HV.out.keep hx)
        clear H5 hx HV
        go_simp
        refine ⟨H6.out.bl, ?_⟩
        refine wpAnyE_one (i := 23) (by kernel_rfl) ?_
        intro Xb hx
        have H7 := Lib.hid (H6.out.keep hx)
        have HV2 := Lib.hid (HV1.out.keep hx)
        clear H6 hx HV1
        obtain ⟨e0, e1, e2, e3, e4, e5, e6, e7⟩ := H7.out.cells (j := jb) (by rw [List.length_set, HL.out]; exact hnb)
        have f0 := H7.out.frozen (jb * 8)
        have f1 := H7.out.frozen (jb * 8 + 1)
        have f2 := H7.out.frozen (jb * 8 + 2)
        have f3 := H7.out.frozen (jb * 8 + 3)
        have f4 := H7.out.frozen (jb * 8 + 4)
        have f5 := H7.out.frozen (jb * 8 + 5)
        have f6 := H7.out.frozen (jb * 8 + 6)
        have f7 := H7.out.frozen (jb * 8 + 7)
        go_simp
        have k5 := H7.out.st8 (j := jb) (by rw [List.length_set, HL.out]; exact hnb) HV2.out
        unfold st8 at k5
        have H8 := Lib.hid k5
        refine ⟨H8.out.bl, ?_⟩
        clear k5 e0 e1 e2 e3 e4 e5 e6 e7 f0 f1 f2 f3 f4 f5 f6 f7 H7 HV2
        generalize World.setCell _ _ _ = Y1 at *
        refine wpAnyE_done (by kernel_rfl) ?_
        intro X9 hx
        have H9 := Lib.hid (H8.out.keep hx)
        clear H8 hx
        have HE := Lib.hid (show (L.set ja y).set jb x = SWR P A M B Q (i + 1) by rw [← HSW.out]; unfold swp; rw [ex.out, ey.out])
        rw [HE.out] at H9
        clear HE
        go_wp2_with fail
        go_roundw
        case rel => exact ⟨i + 1, by omega, by go_num, H9.out⟩
        case measure => simp [intOf]; omega
      · obtain ⟨e0, e1, e2, e3, e4, e5, e6, e7⟩ := H1.out.at8 (by rw [HL.out]; exact hna) ex.out
        go_simp
        refine ⟨H1.out.bl, ?_⟩
        clear e0 e1 e2 e3 e4 e5 e6 e7
        refine wpAnyE_one (i := 13) (by kernel_rfl) ?_
        intro X2 hx2
        have H2 := Lib.hid (H1.out.keep hx2)
        clear H1 hx2
        obtain ⟨e0, e1, e2, e3, e4, e5, e6, e7⟩ := H2.out.at8 (by rw [HL.out]; exact hnb) ey.out
        go_simp
        refine ⟨H2.out.bl, ?_⟩
        clear e0 e1 e2 e3 e4 e5 e6 e7
        refine wpAnyE_one (i := 20) (by kernel_rfl) ?_
        intro Xa hx
        have H3 := Lib.hid (H2.out.keep hx)
        clear H2 hx
        go_simp
        refine ⟨H3.out.bl, ?_⟩
        refine wpAnyE_one (i := 21) (by kernel_rfl) ?_
        intro Xb hx
        have H4 := Lib.hid (H3.out.keep hx)
        clear H3 hx
        obtain ⟨e0, e1, e2, e3, e4, e5, e6, e7⟩ := H4.out.cells (j := ja) (by rw [HL.out]; exact hna)
        have f0 := H4.out.frozen (ja * 8)
        have f1 := H4.out.frozen (ja * 8 + 1)
        have f2 := H4.out.frozen (ja * 8 + 2)
        have f3 := H4.out.frozen (ja * 8 + 3)
        have f4 := H4.out.frozen (ja * 8 + 4)
        have f5 := H4.out.frozen (ja * 8 + 5)
        have f6 := H4.out.frozen (ja * 8 + 6)
        have f7 := H4.out.frozen (ja * 8 + 7)
        go_simp
        have hv1 : VOk _ g _ := ey.out ▸ H4.out.at_ (j := jb) (by rw [HL.out]; exact hnb)
        have hv2 : VOk _ g _ := ex.out ▸ H4.out.at_ (j := ja) (by rw [HL.out]; exact hna)
        have k5 := H4.out.st8 (j := ja) (by rw [HL.out]; exact hna) hv1
        have k6 := hv2.st8 (ja * 8) y
        unfold st8 at k5 k6
        have HV := Lib.hid k6
        have H5 := Lib.hid k5
        refine ⟨H5.out.bl, ?_⟩
        clear k5 e0 e1 e2 e3 e4 e5 e6 e7 f0 f1 f2 f3 f4 f5 f6 f7 H4 k6 hv1 hv2
        generalize World.setCell _ _ _ = Y0 at *
        refine wpAnyE_one (i := 22) (by kernel_rfl) ?_
        intro Xa hx
        have H6 := Lib.hid (H5.out.keep hx)
        have HV1 := Lib.hid (HV.out.keep hx)
        clear H5 hx HV
        go_simp
        refine ⟨H6.out.bl, ?_⟩
        refine wpAnyE_one (i := 23) (by kernel_rfl) ?_
        intro Xb hx
        have H7 := Lib.hid (H6.out.keep hx)
        have HV2 := Lib.hid (HV1.out.keep hx)
        clear H6 hx HV1
        obtain ⟨e0, e1, e2, e3, e4, e5, e6, e7⟩ := H7.out.cells (j := jb) (by rw [List.length_set, HL.out]; exact hnb)
        have f0 := H7.out.frozen (jb * 8)
        have f1 := H7.out.frozen (jb * 8 + 1)
        have f2 := H7.out.frozen (jb * 8 + 2)
        have f3 := H7.out.frozen (jb * 8 + 3)
        have f4 := H7.out.frozen (jb * 8 + 4)
        have f5 := H7.out.frozen (jb * 8 + 5)
        have f6 := H7.out.frozen (jb * 8 + 6)
        have f7 := H7.out.frozen (jb * 8 + 7)
        go_simp
        have k5 := H7.out.st8 (j := jb) (by rw [List.length_set, HL.out]; exact hnb) HV2.out
        unfold st8 at k5
        have H8 := Lib.hid k5
        refine ⟨H8.out.bl, ?_⟩
        clear k5 e0 e1 e2 e3 e4 e5 e6 e7 f0 f1 f2 f3 f4 f5 f6 f7 H7 HV2
        generalize World.setCell _ _ _ = Y1 at *
        refine wpAnyE_done (by kernel_rfl) ?_
        intro X9 hx
        have H9 := Lib.hid (H8.out.keep hx)
        clear H8 hx
        have HE := Lib.hid (show (L.set ja y).set jb x = SWR P A M B Q (i + 1) by rw [← HSW.out]; unfold swp; rw [ex.out, ey.out])
        rw [HE.out] at H9
        clear HE
        go_wp2_with fail
        go_roundw
        case rel => exact ⟨i + 1, by omega, by go_num, H9.out⟩
        case measure => simp [intOf]; omega
    · have hq0 : decide ((i : Int) < (m : Int)) = false := decide_eq_false (by omega)
      have hq1 : decide (i < m) = false := decide_eq_false hlt
      obtain rfl : i = m := by omega
      have HE := Lib.hid (swr_all (P := P) (M := M) (Q := Q) HA.out HB.out)
      rw [HE.out] at HZ0
      go_wp2_with fail
      go_end0
      exact ⟨rfl, HZ0.out⟩
end Go.Proofs.Ytdjlnpiaehoofaa
end

/- slices.rotateCmpFunc over versions. By an AI agent. -/
section
set_option linter.unusedVariables false
set_option linter.unusedSimpArgs false
namespace Go.Proofs.Ytdjlnpiaehoofaa
open Go.RowKit

/-- what is still to be turned round -/
structure ROT (w W : World) (g m n : Nat) (T : List VC) (p i j : Nat) (P A B Q : List VC) : Prop where
  lp : P.length = p
  la : A.length = i
  lb : B.length = j
  pm : p + i = m
  ln : p + i + j + Q.length = n
  i0 : 0 < i
  j0 : 0 < j
  row : RW w W g (P ++ (A ++ (B ++ Q)))
  tt : P ++ (B ++ (A ++ Q)) = T
set_option maxHeartbeats 1600000 in
set_option maxRecDepth 100000 in
theorem rotate_any (w W : World) (g n ca : Nat) (P A B Q : List VC) (a m b : Nat) (hp : P.length = a) (ha : a + A.length = m) (hb : m + B.length = b) (hn : b + Q.length = n) (hn1 : n ≤ 1000000) (h0 : 0 < A.length) (h1 : 0 < B.length) (f : Value) (hr : RW w W g (P ++ (A ++ (B ++ Q)))) :
    Calls Try.prog 75 #[.slice (some ⟨g, 0, none⟩) n ca, .int .i64 a, .int .i64 m, .int .i64 b, f] W fun e W' => e = .returned (.tuple #[]) ∧ RW w W' g (P ++ (B ++ (A ++ Q))) := by
  have HR := Lib.hid (show ROT w W g m n (P ++ (B ++ (A ++ Q))) a A.length B.length P A B Q from ⟨hp, rfl, rfl, ha, by omega, h0, h1, hr, rfl⟩)
  have s1 : (m : Int) - (a : Int) = (A.length : Int) := by omega
  have s2 : (b : Int) - (m : Int) = (B.length : Int) := by omega
  have b1 : A.length ≤ 1000000 := by omega
  have b2 : B.length ≤ 1000000 := by omega
  have b3 : m ≤ 1000000 := by omega
  clear hp ha hb hn h0 h1 hr
  generalize P ++ (B ++ (A ++ Q)) = T at *
  generalize A.length = i0 at *
  generalize B.length = j0 at *
  go_enter Try.func75, Try.ntmps75
  go_wp2_with fail
  go_loopw [10, 11] (fun iv jv wr => ∃ (p i j : Nat) (P A B Q : List VC), iv = .int .i64 (i : Int) ∧ jv = .int .i64 (j : Int) ∧ ROT w wr g m n T p i j P A B Q) (fun iv jv _ => (intOf iv).toNat + (intOf jv).toNat)
  case atStart => exact ⟨a, i0, j0, P, A, B, Q, rfl, rfl, HR.out⟩
  case round =>
    clear HR s1 s2 b1 b2 P A B Q
    obtain ⟨p, i, j, P, A, B, Q, rfl, rfl, hR⟩ := hrel
    have HR := Lib.hid hR
    clear hR
    have b1 : i ≤ 1000000 := by have := HR.out.ln; omega
    have b2 : j ≤ 1000000 := by have := HR.out.ln; omega
    have s1 : (m : Int) - (i : Int) = (p : Int) := by have := HR.out.pm; omega
    have b4 : p ≤ 1000000 := by have := HR.out.pm; omega
    by_cases hij : i = j
    · have q0 : ((i : Int) != (j : Int)) = false := by simp; omega
      subst hij
      have H := Lib.hid (swapR_any w wr g n ca P A [] B Q p m i HR.out.lp HR.out.la HR.out.lb (by have := HR.out.pm; simp; omega) (by have := HR.out.ln; have := HR.out.lp; simp; omega) hn1 f (by rw [List.nil_append]; exact HR.out.row))
      rw [List.nil_append, HR.out.tt] at H
      go_wp2_with fail
      refine H.out.mono ?_
      rintro e W2 ⟨rfl, h2⟩
      have H2 := Lib.hid h2
      clear h2
      go_wp2_with fail
      go_end0
      exact ⟨rfl, H2.out⟩
    · have q0 : ((i : Int) != (j : Int)) = true := by simp; omega
      by_cases hlt : j < i
      · have q1 : decide ((j : Int) < (i : Int)) = true := decide_eq_true (by omega)
        have q2 : decide (j < i) = true := decide_eq_true hlt
        obtain ⟨d, hd⟩ : ∃ d, d + j = i := ⟨i - j, by omega⟩
        have s3 : (i : Int) - (j : Int) = (d : Int) := by omega
        have HD := Lib.hid hd
        have hA : A.take j ++ A.drop j = A := List.take_append_drop _ _
        have lA : (A.take j).length = j := by rw [List.length_take, HR.out.la]; omega
        have lB : (A.drop j).length = d := by rw [List.length_drop, HR.out.la]; omega
        have H := Lib.hid (swapR_any w wr g n ca P (A.take j) (A.drop j) B Q p m j HR.out.lp lA HR.out.lb (by have := HR.out.pm; omega) (by have := HR.out.ln; have := HR.out.lp; omega) hn1 f (by rw [← List.append_assoc (A.take j), hA]; exact HR.out.row))
        have HT := Lib.hid (show ∀ W2, RW w W2 g (P ++ (B ++ (A.drop j ++ (A.take j ++ Q)))) → ROT w W2 g m n T (p + j) d j (P ++ B) (A.drop j) (A.take j) Q from fun W2 h => ⟨by rw [List.length_append, HR.out.lp, HR.out.lb], lB, lA, by have := HR.out.pm; omega, by have := HR.out.ln; omega, by omega, HR.out.j0, by rw [List.append_assoc]; exact h, by
          rw [← HR.out.tt, List.append_assoc P B, ← List.append_assoc (A.take j), hA]⟩)
        clear hd hA lA lB
        go_wp2_with fail
        refine H.out.mono ?_
        rintro e W2 ⟨rfl, h2⟩
        have H2 := Lib.hid (HT.out _ h2)
        clear h2
        go_wp2_with fail
        go_roundw
        case rel => exact ⟨_, d, j, _, _, _, _, rfl, rfl, H2.out⟩
        case measure => have := HD.out; have := HR.out.j0; simp [intOf]; omega
      · have q1 : decide ((j : Int) < (i : Int)) = false := decide_eq_false (by omega)
        have q2 : decide (j < i) = false := decide_eq_false hlt
        obtain ⟨d, hd⟩ : ∃ d, d + i = j := ⟨j - i, by omega⟩
        have s3 : (j : Int) - (i : Int) = (d : Int) := by omega
        have s4 : (m : Int) + (j : Int) - (i : Int) = ((m + d : Nat) : Int) := by omega
        obtain ⟨q, hq⟩ : ∃ q, m + d = q := ⟨_, rfl⟩
        rw [hq] at s4
        have HQ := Lib.hid hq
        have HD := Lib.hid hd
        have hB : B.take d ++ B.drop d = B := List.take_append_drop _ _
        have lA : (B.take d).length = d := by rw [List.length_take, HR.out.lb]; omega
        have lB : (B.drop d).length = i := by rw [List.length_drop, HR.out.lb]; omega
        have H := Lib.hid (swapR_any w wr g n ca P A (B.take d) (B.drop d) Q p q i HR.out.lp HR.out.la lB (by have := HR.out.pm; omega) (by have := HR.out.ln; have := HR.out.lp; omega) hn1 f (by rw [← List.append_assoc (B.take d), hB]; exact HR.out.row))
        have HT := Lib.hid (show ∀ W2, RW w W2 g (P ++ (B.drop d ++ (B.take d ++ (A ++ Q)))) → ROT w W2 g m n T p i d P (B.drop d) (B.take d) (A ++ Q) from fun W2 h => ⟨HR.out.lp, lB, lA, HR.out.pm, by have := HR.out.ln; have := HR.out.la; rw [List.length_append]; omega, HR.out.i0, by omega, h, by
          rw [← HR.out.tt, ← List.append_assoc (B.take d), hB]⟩)
        clear hd hB lA lB hq
        go_wp2_with fail
        refine H.out.mono ?_
        rintro e W2 ⟨rfl, h2⟩
        have H2 := Lib.hid (HT.out _ h2)
        clear h2
        go_wp2_with fail
        go_roundw
        case rel => exact ⟨_, i, d, _, _, _, _, rfl, rfl, H2.out⟩
        case measure => have := HD.out; have := HR.out.i0; simp [intOf]; omega
end Go.Proofs.Ytdjlnpiaehoofaa
end
