/- bedrocklaw17.FoldParts: the walk. By an AI agent. -/
import Derived.Test.YtdjlnpiaehoofaaCore14
import Derived.Test.YtdjlnpiaehoofaaCore15

set_option linter.unusedVariables false
set_option linter.unusedSimpArgs false
namespace Go.Proofs.Ytdjlnpiaehoofaa
open Go.RowKit
attribute [local go_sem] eOp eOper eUpon

theorem VA.slot {w : World} {b off n ca : Nat} {vs : List VerL} (h : VA w (some ⟨b, off, none⟩) n vs) (k : Nat) (hk : k ≤ n) (hc : n ≤ ca) : VA w (if ca = k then some ⟨b, off, none⟩ else some ⟨b, off + k * 8, none⟩) (n - k) (vs.drop k) := by
  split
  · have e : n - k = 0 := by omega
    have e2 : vs.drop k = [] := List.drop_eq_nil_of_le (by rw [h.len]; omega)
    rw [e, e2]
    exact ⟨rfl, by omega, fun j hj => by omega⟩
  · exact h.dropk k hk
theorem VA.none0 (w : World) (a : Option Addr) : VA w a 0 [] := ⟨rfl, by omega, fun j hj => by omega⟩
set_option maxHeartbeats 6400000 in
set_option maxRecDepth 100000 in
theorem foldParts_any (key : ByteArray) (a : Option Addr) (n ca : Nat) (vs : List VerL) (fa : Option Addr) (fn fc : Nat) (floor : List Int) (ma : Option Addr) (mn mc : Nat) (more : List Int) (kk : Int) (w : World) (hkey : key.size ≤ 140737488351232) (hv : VA w a n vs) (hca : n ≤ ca) (hf : IA w fa fn floor) (hm : IA w ma mn more) :
    Calls Try.prog 6 #[.string key, .slice a n ca, .slice fa fn fc, .slice ma mn mc, .int .i64 kk] w fun e w' => e = .returned (.bool true) ∧ Bl w w' := by
  have hsf := store_fl
  have HL := Lib.hid hv.len
  have HFL := Lib.hid hf.len
  have HML := Lib.hid hm.len
  have hfc := hf.cap
  have hmc := hm.cap
  go_enter Try.func6, Try.ntmps6
  go_wp2_with fail
  refine (light17_any a n ca vs _ hv).mono ?_
  rintro e w1 ⟨lb, rfl, hlb, rfl⟩
  cases lb
  case false =>
    go_wp2_with fail
    refine (alive17_any _).mono ?_
    rintro e w1 ⟨rfl, hb1⟩
    go_wp2_with fail
    go_ret
    exact ⟨rfl, hb1⟩
  case true =>
  have hn60 : n ≤ 60 := hlb rfl
  clear hlb
  go_wp2_with fail
  refine (valid_any fa fn fc floor _ hf).mono ?_
  rintro e w1 ⟨rfl, rfl⟩
  obtain ⟨vb, hvb⟩ : ∃ vb, validL floor = vb := ⟨_, rfl⟩
  rw [hvb]
  clear hvb
  cases vb
  case false =>
    go_wp2_with fail
    refine (alive17_any _).mono ?_
    rintro e w1 ⟨rfl, hb1⟩
    go_wp2_with fail
    go_ret
    exact ⟨rfl, hb1⟩
  case true =>
  by_cases hne : mn = fn
  case neg =>
    have q1 : ((mn : Int) != (fn : Int)) = true := by simp; omega
    go_wp2_with fail
    refine (alive17_any _).mono ?_
    rintro e w1 ⟨rfl, hb1⟩
    go_wp2_with fail
    go_ret
    exact ⟨rfl, hb1⟩
  case pos =>
  have q1 : ((mn : Int) != (fn : Int)) = false := by simp; omega
  have HNE := Lib.hid hne
  clear hne
  go_wp2_with fail
  refine (right17_any key a n ca vs fn _ hkey hv).mono ?_
  rintro e w1 ⟨rb, rfl, hrb, hb1⟩
  cases rb
  case false =>
    go_wp2_with fail
    refine (alive17_any _).mono ?_
    rintro e w2 ⟨rfl, hb2⟩
    go_wp2_with fail
    go_ret
    exact ⟨rfl, hb1.trans hb2⟩
  case true =>
  have HRT := Lib.hid (hrb rfl)
  have HB := Lib.hid hb1
  clear hrb hb1
  by_cases hk0 : kk < 0
  case pos =>
    have q2 : decide (kk < 0) = true := decide_eq_true hk0
    go_wp2_with fail
    refine (alive17_any _).mono ?_
    rintro e w2 ⟨rfl, hb2⟩
    go_wp2_with fail
    go_ret
    exact ⟨rfl, HB.out.trans hb2⟩
  case neg =>
  obtain ⟨K, rfl⟩ : ∃ K : Nat, kk = (K : Int) := ⟨kk.toNat, by omega⟩
  have q2 : decide ((K : Int) < 0) = false := decide_eq_false (by omega)
  clear hk0
  by_cases hkn : n < K
  case pos =>
    have q3 : decide ((n : Int) < (K : Int)) = true := decide_eq_true (by omega)
    have q4 : decide (n < K) = true := decide_eq_true hkn
    go_wp2_with fail
    refine (alive17_any _).mono ?_
    rintro e w2 ⟨rfl, hb2⟩
    go_wp2_with fail
    go_ret
    exact ⟨rfl, HB.out.trans hb2⟩
  case neg =>
  have hKn : K ≤ n := by omega
  have q3 : decide ((n : Int) < (K : Int)) = false := decide_eq_false (by omega)
  have q4 : decide (n < K) = false := decide_eq_false hkn
  clear hkn
  have hvB := hv.keep HB.out
  have HF1 := Lib.hid (hf.keep HB.out)
  go_upto_region 3 with fail
  go_cut [11, 12] (fun A C W => ∃ (da : Option Addr) (dn dc : Nat) (ea : Option Addr) (en ec : Nat), A = .slice da dn dc ∧ C = .slice ea en ec ∧ VA W da dn (dropL key (vs.take K) floor false) ∧ VA W ea en (dropL key (vs.drop K) floor false) ∧ Bl w1 W)
  case first =>
    have h1 : (0 : Int) ≤ (K : Int) := by omega
    have h2 : (K : Int) ≤ (n : Int) := by omega
    have h3 : (K : Int) ≤ (ca : Int) := by omega
    have h5 : K ≤ ca := by omega
    by_cases hn0 : n = 0
    · subst hn0
      have hK0 : K = 0 := by omega
      subst hK0
      have hv0 : vs = [] := List.eq_nil_of_length_eq_zero HL.out
      have V0 := Lib.hid (fun (W : World) (x : Option Addr) => (show VA W x 0 (vs.take 0) by rw [List.take_zero]; exact VA.none0 W x))
      have V1 := Lib.hid (fun (W : World) (x : Option Addr) => (show VA W x 0 (vs.drop 0) by rw [hv0]; exact VA.none0 W x))
      clear hv0 hvB
      cases a
      case none =>
        refine wp_region_idx [0, 1, 2, 3, 4, 6, 7, 8, 9, 10] 4 (Bl w1.drew) (fun _ _ h k => h.trans k) (Bl.refl _) (by kernel_rfl) rfl (by kernel_rfl) (by kernel_rfl) ?_
        have HZ := Lib.hid (Bl.refl w1).drew
        have HFZ := Lib.hid (HF1.out.keep HZ.out)
        have HT := Lib.hid (fun (W : World) (x : Option Addr) => V0.out W x)
        have HDR := Lib.hid (fun (W : World) (x : Option Addr) => V1.out W x)
        repeat (refine wpI_step rfl (fun K hK => ?_); go_simp; refine hK _ ?_; clear hK K)
        refine wpI_nil ?_
        refine wpAnyE_one (i := 5) (by kernel_rfl) ?_
        intro W1 hb1
        · go_simp
          refine (fdrop_any key _ _ _ (vs.take 0) fa fn fc floor false W1 hkey (HT.out _ _) (by omega) (HFZ.out.keep hb1)).mono ?_
          rintro e W2 ⟨xa, xn, xc, rfl, hx, hb2⟩
          have B2 := Lib.hid (hb1.trans hb2)
          have HX := Lib.hid hx
          clear hx hb1 hb2
          refine ⟨_, rfl, B2.out, ?_⟩
          refine wpAnyE_one (i := 11) (by kernel_rfl) ?_
          intro W3 hb3
          go_simp
          refine (fdrop_any key _ _ _ (vs.drop 0) fa fn fc floor false W3 hkey (HDR.out _ _) (by omega) (HFZ.out.keep (B2.out.trans hb3))).mono ?_
          rintro e W4 ⟨ya, yn, yc, rfl, hy, hb4⟩
          have B4 := Lib.hid (hb3.trans hb4)
          have HY := Lib.hid hy
          clear hy hb3 hb4
          refine ⟨_, rfl, B2.out.trans B4.out, ?_⟩
          refine wpAnyE_idx (C := Bl w1.drew) (fun _ _ h k => h.trans k) (by kernel_rfl) 0 _ (B2.out.trans B4.out) [12, 13] _ _ (by kernel_rfl) ?_
          repeat (refine wpI_step rfl (fun K hK => ?_); go_simp; refine hK _ ?_; clear hK K)
          refine wpI_nil ?_
          refine wpAnyE_done (by kernel_rfl) ?_
          intro W5 hb5
          have B5 := Lib.hid (B4.out.trans hb5)
          go_step
          go_meet
          case rel => exact ⟨xa, xn, xc, ya, yn, yc, rfl, rfl, HX.out.keep B5.out, HY.out.keep hb5, HZ.out.trans (B2.out.trans B5.out)⟩
      case some ad =>
        refine wp_region_idx [0, 1, 2, 3, 4, 6, 7, 8, 9, 10] 4 (Bl w1.drew) (fun _ _ h k => h.trans k) (Bl.refl _) (by kernel_rfl) rfl (by kernel_rfl) (by kernel_rfl) ?_
        have HZ := Lib.hid (Bl.refl w1).drew
        have HFZ := Lib.hid (HF1.out.keep HZ.out)
        have HT := Lib.hid (fun (W : World) (x : Option Addr) => V0.out W x)
        have HDR := Lib.hid (fun (W : World) (x : Option Addr) => V1.out W x)
        repeat (refine wpI_step rfl (fun K hK => ?_); go_simp; refine hK _ ?_; clear hK K)
        refine wpI_nil ?_
        refine wpAnyE_one (i := 5) (by kernel_rfl) ?_
        intro W1 hb1
        · go_simp
          refine (fdrop_any key _ _ _ (vs.take 0) fa fn fc floor false W1 hkey (HT.out _ _) (by omega) (HFZ.out.keep hb1)).mono ?_
          rintro e W2 ⟨xa, xn, xc, rfl, hx, hb2⟩
          have B2 := Lib.hid (hb1.trans hb2)
          have HX := Lib.hid hx
          clear hx hb1 hb2
          refine ⟨_, rfl, B2.out, ?_⟩
          refine wpAnyE_one (i := 11) (by kernel_rfl) ?_
          intro W3 hb3
          go_simp
          refine (fdrop_any key _ _ _ (vs.drop 0) fa fn fc floor false W3 hkey (HDR.out _ _) (by omega) (HFZ.out.keep (B2.out.trans hb3))).mono ?_
          rintro e W4 ⟨ya, yn, yc, rfl, hy, hb4⟩
          have B4 := Lib.hid (hb3.trans hb4)
          have HY := Lib.hid hy
          clear hy hb3 hb4
          refine ⟨_, rfl, B2.out.trans B4.out, ?_⟩
          refine wpAnyE_idx (C := Bl w1.drew) (fun _ _ h k => h.trans k) (by kernel_rfl) 0 _ (B2.out.trans B4.out) [12, 13] _ _ (by kernel_rfl) ?_
          repeat (refine wpI_step rfl (fun K hK => ?_); go_simp; refine hK _ ?_; clear hK K)
          refine wpI_nil ?_
          refine wpAnyE_done (by kernel_rfl) ?_
          intro W5 hb5
          have B5 := Lib.hid (B4.out.trans hb5)
          go_step
          go_meet
          case rel => exact ⟨xa, xn, xc, ya, yn, yc, rfl, rfl, HX.out.keep B5.out, HY.out.keep hb5, HZ.out.trans (B2.out.trans B5.out)⟩
    · obtain ⟨b, off, rfl, _⟩ := hv.cells 0 (by omega)
      refine wp_region_idx [0, 1, 2, 3, 4, 6, 7, 8, 9, 10] 4 (Bl w1.drew) (fun _ _ h k => h.trans k) (Bl.refl _) (by kernel_rfl) rfl (by kernel_rfl) (by kernel_rfl) ?_
      have HZ := Lib.hid (Bl.refl w1).drew
      have HFZ := Lib.hid (HF1.out.keep HZ.out)
      have HT := Lib.hid ((hvB.keep HZ.out).takek K hKn)
      have HDR := Lib.hid ((hvB.keep HZ.out).slot K hKn hca)
      repeat (refine wpI_step rfl (fun K hK => ?_); go_simp; refine hK _ ?_; clear hK K)
      refine wpI_nil ?_
      refine wpAnyE_one (i := 5) (by kernel_rfl) ?_
      intro W1 hb1
      · go_simp
        refine (fdrop_any key _ _ _ (vs.take K) fa fn fc floor false W1 hkey (HT.out.keep hb1) (by omega) (HFZ.out.keep hb1)).mono ?_
        rintro e W2 ⟨xa, xn, xc, rfl, hx, hb2⟩
        have B2 := Lib.hid (hb1.trans hb2)
        have HX := Lib.hid hx
        clear hx hb1 hb2
        refine ⟨_, rfl, B2.out, ?_⟩
        refine wpAnyE_one (i := 11) (by kernel_rfl) ?_
        intro W3 hb3
        go_simp
        refine (fdrop_any key _ _ _ (vs.drop K) fa fn fc floor false W3 hkey (HDR.out.keep (B2.out.trans hb3)) (by omega) (HFZ.out.keep (B2.out.trans hb3))).mono ?_
        rintro e W4 ⟨ya, yn, yc, rfl, hy, hb4⟩
        have B4 := Lib.hid (hb3.trans hb4)
        have HY := Lib.hid hy
        clear hy hb3 hb4
        refine ⟨_, rfl, B2.out.trans B4.out, ?_⟩
        refine wpAnyE_idx (C := Bl w1.drew) (fun _ _ h k => h.trans k) (by kernel_rfl) 0 _ (B2.out.trans B4.out) [12, 13] _ _ (by kernel_rfl) ?_
        repeat (refine wpI_step rfl (fun K hK => ?_); go_simp; refine hK _ ?_; clear hK K)
        refine wpI_nil ?_
        refine wpAnyE_done (by kernel_rfl) ?_
        intro W5 hb5
        have B5 := Lib.hid (B4.out.trans hb5)
        go_step
        go_meet
        case rel => exact ⟨xa, xn, xc, ya, yn, yc, rfl, rfl, HX.out.keep B5.out, HY.out.keep hb5, HZ.out.trans (B2.out.trans B5.out)⟩
  case rest =>
  obtain ⟨da, dn, dc, ea, en, ec, rfl, rfl, hda, hea, hbc⟩ := hcut
  have HD := Lib.hid hda
  have HE := Lib.hid hea
  have HB2 := Lib.hid (HB.out.trans hbc)
  have hdn : dn ≤ n := by rw [← hda.len]; exact Nat.le_trans (drop_len false (fun v hv => HRT.out v (List.mem_of_mem_take hv))) (by rw [List.length_take, HL.out]; omega)
  have hen : en ≤ n := by rw [← hea.len]; exact Nat.le_trans (drop_len false (fun v hv => HRT.out v (List.mem_of_mem_drop hv))) (by rw [List.length_drop, HL.out]; omega)
  clear hda hea hbc hvB HF1 HB q2 q3 q4
  obtain ⟨xs, hx1, hx2, hx3, hx4⟩ := HD.out.vcs
  obtain ⟨ys, hy1, hy2, hy3, hy4⟩ := HE.out.vcs
  have HX3 := Lib.hid hx3
  have HX4 := Lib.hid hx4
  have HY3 := Lib.hid hy3
  have HY4 := Lib.hid hy4
  have HX1 := Lib.hid hx1
  have HY1 := Lib.hid hy1
  have HX2 := Lib.hid hx2
  have HY2 := Lib.hid hy2
  clear hx1 hx2 hx3 hx4 hy1 hy2 hy3 hy4
  go_wp2_with (at_builtin; refine wpList_appG rfl _ _ _ rfl el_vr wc.heap.size (.slice none 0 0) 0 [] rfl (World.ownsRow_nil _ _ _ _) (Nat.le_refl _) da dn dc _ rfl HX3.out ?c1 ?c2 ?_)
  case c1 => unfold maxLen; omega
  case c2 => omega
  intro v1 Y1 ho1 hg1
  have HS1 := Lib.hid (SV.first HX4.out HX2.out ho1)
  have HBY := Lib.hid ((SV.nil wc wc).grown (Bl.refl wc) hg1)
  clear ho1 hg1
  go_wp2_with (at_builtin; refine wpList_appG rfl _ _ _ rfl el_vr wc.heap.size v1 _ _ rfl HS1.out.own HBY.out.size ea en ec _ rfl (HY3.out.keep HBY.out) ?c1 ?c2 ?_)
  case c1 => rw [HX2.out]; unfold maxLen; omega
  case c2 => rw [HX2.out]; omega
  intro v2 Y4 ho2 hg2
  have HS4 := Lib.hid (HS1.out.both HY4.out (by rw [HY2.out]; exact ho2))
  have HB4 := Lib.hid (HS1.out.grown HBY.out hg2)
  obtain ⟨mt, hmt⟩ : ∃ m, dn + en = m := ⟨_, rfl⟩
  have hmt2 : mt ≤ 120 := by omega
  have HMT := Lib.hid hmt
  clear hmt
  obtain ⟨ta, tc, rfl, hvt⟩ := HS4.out.va HB4.out (n := mt) (by rw [List.length_append, HX2.out, HY2.out]; exact HMT.out) (by omega)
  have HVT := Lib.hid (show VA Y4 ta mt (dropL key (vs.take K) floor false ++ dropL key (vs.drop K) floor false) by rw [List.map_append, HX1.out, HY1.out] at hvt; exact hvt)
  have HB5 := Lib.hid (HB2.out.trans HB4.out)
  clear ho2 hg2 HS1 HS4 hvt HBY HX1 HX2 HX3 HX4 HY1 HY2 HY3 HY4 HB4 HB2 HD HE
  have hmfn : floor.length = more.length := by have := HFL.out; have := HML.out; have := HNE.out; omega
  have hJl : (joinL floor more).length = fn := by rw [join_len' hmfn]; exact HFL.out
  have hJq : leqL floor (joinL floor more) = true := leq_join1 hmfn
  go_wp2_with fail
  refine (join_any fa ma fn mn fc mc floor more _ (hf.keep HB5.out) (hm.keep HB5.out)).mono ?_
  rintro e w6 ⟨jv, rfl, hj, hb6⟩
  obtain ⟨ja, jn, jc, rfl, -⟩ := hj.si
  have HJ := Lib.hid hj.iaE
  have HB6 := Lib.hid (HB5.out.trans hb6)
  have HVT6 := Lib.hid (HVT.out.keep hb6)
  clear hj hb6 HB5 HVT
  obtain ⟨at_, hat⟩ : ∃ h, joinL floor more = h := ⟨_, rfl⟩
  rw [hat] at hJl hJq HJ
  clear hat hmfn
  have F := Lib.hid (fun hN => parts_facts K HRT.out hN HFL.out hJl hJq)
  have hRm := parts_right (l1 := vs.take K) (l2 := vs.drop K) (floor := floor) false (by rw [List.take_append_drop]; exact HRT.out) HFL.out
  have hln := drop_len (floor := floor) true hRm
  generalize dropL key (vs.take K) floor false ++ dropL key (vs.drop K) floor false = ms at *
  clear hJl hJq hRm
  go_wp2_with fail
  refine (fdrop_any key ta mt tc ms fa fn fc floor true _ hkey HVT6.out (by omega) (hf.keep HB6.out)).mono ?_
  rintro e w7 ⟨na, nn, nc, rfl, hvn, hb7⟩
  have HB7 := Lib.hid (HB6.out.trans hb7)
  have HJ7 := Lib.hid (HJ.out.keep hb7)
  have HVT7 := Lib.hid (HVT6.out.keep hb7)
  have HN7 := Lib.hid hvn
  have hnn : nn ≤ 120 := by have h1 := hvn.len; have h2 := HVT7.out.len; omega
  clear hvn hb7 HB6 HJ HVT6 hln
  generalize dropL key ms floor true = ns at *
  have hn63 : n ≤ 140737488351232 := by omega
  go_wp2_with fail
  go_loopw [16] (fun iv wr => ∃ i : Nat, i ≤ n ∧ iv = .int .i64 (i : Int) ∧ Bl w7 wr ∧ ∀ x, x < i → ∀ y, y < x → ¬ AlV (nthR vs x) (nthR vs y)) (fun iv _ => n - (intOf iv).toNat)
  case atStart => exact ⟨0, Nat.zero_le _, by go_num, Bl.refl _, fun x hx => by omega⟩
  case round =>
    obtain ⟨i, hi, rfl, hbl, hno⟩ := hrel
    have HBI := Lib.hid hbl
    have HNO := Lib.hid hno
    clear hbl hno
    by_cases hlt : i < n
    · obtain ⟨b, off, rfl, hc⟩ := hv.cells i hlt
      have HC := Lib.hid hc
      clear hc
      go_wp2_with fail
      go_loopw [17] (fun jv wr => ∃ j : Nat, j ≤ i ∧ jv = .int .i64 (j : Int) ∧ Bl w7 wr ∧ ∀ y, y < j → ¬ AlV (nthR vs i) (nthR vs y)) (fun jv _ => i - (intOf jv).toNat)
      case atStart => exact ⟨0, Nat.zero_le _, by go_num, HBI.out, fun y hy => by omega⟩
      case round =>
        obtain ⟨j, hj, rfl, hbl, hny⟩ := hrel
        have HBJ := Lib.hid hbl
        have HNY := Lib.hid hny
        clear hbl hny
        by_cases hlt2 : j < i
        · have hjn : j < n := by omega
          have HE1 := Lib.hid ((HC.out i hlt).keep (HB7.out.trans (HBJ.out.trans (Bl.refl wr).drew)))
          have HE2 := Lib.hid ((HC.out j hjn).keep (HB7.out.trans (HBJ.out.trans (Bl.refl wr).drew)))
          obtain ⟨V1, hV1⟩ : ∃ V, nthR vs i = V := ⟨_, rfl⟩
          obtain ⟨V2, hV2⟩ : ∃ V, nthR vs j = V := ⟨_, rfl⟩
          rw [hV1] at HE1
          rw [hV2] at HE2
          have HV1 := Lib.hid hV1
          have HV2 := Lib.hid hV2
          have HBD := Lib.hid (HBJ.out.trans ((Bl.refl wr).drew))
          clear hV1 hV2
          go_upto_region 13 with fail
          refine wp_region_allS (by kernel_rfl) (by kernel_rfl) ?_
          generalize wr.drew = Z at *
          obtain ⟨va, vn, vc, e1, hI1⟩ := HE1.out.at_
          obtain ⟨ua, un, uc, f1, hI2⟩ := HE2.out.at_
          have HI1 := Lib.hid hI1
          have HI2 := Lib.hid hI2
          clear hI1 hI2
          have p1 : ∀ q : Ext Z, _ := fun q => q.bl.cell e1
          have p2 : ∀ q : Ext Z, _ := fun q => q.bl.cell HE1.out.c2
          have p3 : ∀ q : Ext Z, _ := fun q => q.bl.cell HE1.out.c3
          have r1 : ∀ q : Ext Z, _ := fun q => q.bl.cell f1
          have r2 : ∀ q : Ext Z, _ := fun q => q.bl.cell HE2.out.c2
          have r3 : ∀ q : Ext Z, _ := fun q => q.bl.cell HE2.out.c3
          clear e1 f1
          by_cases ho : V1.origin = V2.origin
          case neg =>
            have m1 : (V1.origin == V2.origin) = false := by simp [ho]
            have HNA := Lib.hid (show ¬ AlV V1 V2 from fun h => ho h.2.1)
            clear ho
            repeat (refine wpS_step (fun K hK => ?_); go_simp; refine hK _ ?_; clear hK K)
            refine wpS_nil ?_
            intro q1
            have HBN := Lib.hid (HBD.out.trans q1.bl)
            clear p1 p2 p3 r1 r2 r3 HE1 HE2 HI1 HI2
            generalize ExtC.at q1 = W9 at *
            go_wp2_with fail
            go_roundw
            case rel =>
              refine ⟨j + 1, by omega, by go_num, HBN.out, fun y hy => ?_⟩
              by_cases e : y = j
              · subst e; rw [HV1.out, HV2.out]; exact HNA.out
              · exact HNY.out y (by omega)
            case measure => simp [intOf]; omega
          case pos =>
          have m1 : (V1.origin == V2.origin) = true := by simp [ho]
          clear ho
          by_cases ht : V1.tx = V2.tx
          case neg =>
            have m2 : (V1.tx == V2.tx) = false := by simp [ht]
            have HNA := Lib.hid (show ¬ AlV V1 V2 from fun h => ht h.2.2.1)
            clear ht
            repeat (refine wpS_step (fun K hK => ?_); go_simp; refine hK _ ?_; clear hK K)
            refine wpS_nil ?_
            intro q1
            have HBN := Lib.hid (HBD.out.trans q1.bl)
            clear p1 p2 p3 r1 r2 r3 HE1 HE2 HI1 HI2
            generalize ExtC.at q1 = W9 at *
            go_wp2_with fail
            go_roundw
            case rel =>
              refine ⟨j + 1, by omega, by go_num, HBN.out, fun y hy => ?_⟩
              by_cases e : y = j
              · subst e; rw [HV1.out, HV2.out]; exact HNA.out
              · exact HNY.out y (by omega)
            case measure => simp [intOf]; omega
          case pos =>
          have m2 : (V1.tx == V2.tx) = true := by simp [ht]
          clear ht
          obtain ⟨sb, hsb⟩ : ∃ b, decide (V1.at_ = V2.at_) = b := ⟨_, rfl⟩
          have HSB := Lib.hid hsb
          have VV := Lib.hid (fun q : Ext Z => same_any va ua vn un vc uc V1.at_ V2.at_ q.at (HI1.out.keep q.bl) (HI2.out.keep q.bl))
          rw [hsb] at VV
          clear hsb
          repeat (refine wpS_step (fun K hK => ?_); go_simp; first | (refine hK _ ?_; clear hK K) | (apply Exists.intro; refine ⟨fun q => ?_, hK _ ?_⟩; (with_reducible exact VV.out q); clear hK K))
          refine wpS_nil ?_
          intro q1
          have HBN := Lib.hid (HBD.out.trans q1.bl)
          clear p1 p2 p3 r1 r2 r3 VV HE1 HE2 HI1 HI2
          generalize ExtC.at q1 = W9 at *
          cases sb
          case true =>
            go_wp2_with fail
            refine (alive17_any _).mono ?_
            rintro e w9 ⟨rfl, hb9⟩
            go_wp2_with fail
            go_ret
            exact ⟨rfl, HB7.out.trans (HBN.out.trans hb9)⟩
          case false =>
            have HNA := Lib.hid (show ¬ AlV V1 V2 from fun h => of_decide_eq_false HSB.out h.2.2.2)
            go_wp2_with fail
            go_roundw
            case rel =>
              refine ⟨j + 1, by omega, by go_num, HBN.out, fun y hy => ?_⟩
              by_cases e : y = j
              · subst e; rw [HV1.out, HV2.out]; exact HNA.out
              · exact HNY.out y (by omega)
            case measure => simp [intOf]; omega
        · go_wp2_with fail
          go_roundw
          case rel =>
            refine ⟨i + 1, by omega, by go_num, HBJ.out, fun x hx => ?_⟩
            by_cases e : x = i
            · subst e
              intro y hy
              exact HNY.out y (by omega)
            · exact HNO.out x (by omega)
          case measure => simp [intOf]; omega
    · have hin : i = n := by omega
      subst hin
      have T := Lib.hid (F.out (noal_of (fun x hx y hy => HNO.out x (by rw [HL.out] at hx; exact hx) y hy)))
      have G := HBI
      clear F HNO HBI

      obtain ⟨XM, hX⟩ : ∃ X, readL key ms at_ = X := ⟨_, rfl⟩
      have HXM := Lib.hid hX
      rw [hX] at T
      clear hX
      obtain ⟨XL, hX⟩ : ∃ X, readL key vs at_ = X := ⟨_, rfl⟩
      have HXL := Lib.hid hX
      rw [hX] at T
      clear hX
      obtain ⟨XN, hX⟩ : ∃ X, readL key ns at_ = X := ⟨_, rfl⟩
      have HXN := Lib.hid hX
      rw [hX] at T
      clear hX
      obtain ⟨YN, hX⟩ : ∃ X, readL key ns floor = X := ⟨_, rfl⟩
      have HYN := Lib.hid hX
      rw [hX] at T
      clear hX
      obtain ⟨YL, hX⟩ : ∃ X, readL key vs floor = X := ⟨_, rfl⟩
      have HYL := Lib.hid hX
      rw [hX] at T
      clear hX
      have S1 := Lib.hid T.out.s1
      have S2 := Lib.hid T.out.s2
      have S3 := Lib.hid T.out.s3
      have O1 := Lib.hid T.out.om
      have O2 := Lib.hid T.out.ol
      have O3 := Lib.hid T.out.on
      have O4 := Lib.hid T.out.onf
      have O5 := Lib.hid T.out.olf
      clear T
      go_wp2_with fail
      refine (alive17_any _).mono ?_
      rintro e w8 ⟨rfl, hb8⟩
      have G := Lib.hid (G.out.trans hb8)
      clear hb8
      go_wp2_with fail
      refine (fread_v key _ _ _ ms ja jn jc at_ _ XM hkey (HVT7.out.keep G.out) (by omega) (HJ7.out.keep G.out) HXM).mono ?_
      rintro e w9 ⟨rfl, hb9⟩
      have G := Lib.hid (G.out.trans hb9)
      clear hb9
      go_wp2_with fail
      refine (fread_v key _ _ _ vs ja jn jc at_ _ XL hkey (hv.keep (HB7.out.trans G.out)) (by omega) (HJ7.out.keep G.out) HXL).mono ?_
      rintro e w9 ⟨rfl, hb9⟩
      have G := Lib.hid (G.out.trans hb9)
      clear hb9
      go_wp2_with fail
      refine (same_v XM XL true _ S1 O1 O2).mono ?_
      rintro e w9 ⟨rfl, hb9⟩
      have G := Lib.hid (G.out.trans hb9)
      clear hb9
      go_wp2_with fail
      refine (fread_v key _ _ _ ns ja jn jc at_ _ XN hkey (HN7.out.keep G.out) (by omega) (HJ7.out.keep G.out) HXN).mono ?_
      rintro e w9 ⟨rfl, hb9⟩
      have G := Lib.hid (G.out.trans hb9)
      clear hb9
      go_wp2_with fail
      refine (fread_v key _ _ _ vs ja jn jc at_ _ XL hkey (hv.keep (HB7.out.trans G.out)) (by omega) (HJ7.out.keep G.out) HXL).mono ?_
      rintro e w9 ⟨rfl, hb9⟩
      have G := Lib.hid (G.out.trans hb9)
      clear hb9
      go_wp2_with fail
      refine (same_v XN XL true _ S2 O3 O2).mono ?_
      rintro e w9 ⟨rfl, hb9⟩
      have G := Lib.hid (G.out.trans hb9)
      clear hb9
      go_wp2_with fail
      refine (fread_v key _ _ _ ns fa fn fc floor _ YN hkey (HN7.out.keep G.out) (by omega) (hf.keep (HB7.out.trans G.out)) HYN).mono ?_
      rintro e w9 ⟨rfl, hb9⟩
      have G := Lib.hid (G.out.trans hb9)
      clear hb9
      go_wp2_with fail
      refine (fread_v key _ _ _ vs fa fn fc floor _ YL hkey (hv.keep (HB7.out.trans G.out)) (by omega) (hf.keep (HB7.out.trans G.out)) HYL).mono ?_
      rintro e w9 ⟨rfl, hb9⟩
      have G := Lib.hid (G.out.trans hb9)
      clear hb9
      go_wp2_with fail
      refine (same_v YN YL true _ S3 O4 O5).mono ?_
      rintro e w9 ⟨rfl, hb9⟩
      have G := Lib.hid (G.out.trans hb9)
      clear hb9
      go_wp2_with fail
      go_ret
      exact ⟨rfl, HB7.out.trans G.out⟩
end Go.Proofs.Ytdjlnpiaehoofaa
