/- bedrocklaw17.FoldLater: the walk. By an AI agent. -/
import Derived.Test.YtdjlnpiaehoofaaCore14
import Derived.Test.YtdjlnpiaehoofaaCore15

set_option linter.unusedVariables false
set_option linter.unusedSimpArgs false
namespace Go.Proofs.Ytdjlnpiaehoofaa
open Go.RowKit
attribute [local go_sem] eOp eOper eUpon

set_option maxHeartbeats 6400000 in
set_option maxRecDepth 100000 in
theorem foldLater_any (key : ByteArray) (a : Option Addr) (n ca : Nat) (vs : List VerL) (la : Option Addr) (ln lc : Nat) (ws : List VerL) (fa : Option Addr) (fn fc : Nat) (floor : List Int) (ma : Option Addr) (mn mc : Nat) (more : List Int) (w : World) (hkey : key.size ≤ 140737488351232) (hv : VA w a n vs) (hl : VA w la ln ws) (hf : IA w fa fn floor) (hm : IA w ma mn more) :
    Calls Try.prog 4 #[.string key, .slice a n ca, .slice la ln lc, .slice fa fn fc, .slice ma mn mc] w fun e w' => e = .returned (.bool true) ∧ Bl w w' := by
  have hsf := store_fl
  have HL := Lib.hid hv.len
  have HLL := Lib.hid hl.len
  have HFL := Lib.hid hf.len
  have HML := Lib.hid hm.len
  have hfc := hf.cap
  have hmc := hm.cap
  go_enter Try.func4, Try.ntmps4
  go_wp2_with fail
  refine (light17_any a n ca vs _ hv).mono ?_
  rintro e w1 ⟨lb, rfl, hlb, rfl⟩
  cases lb
  case false =>
    go_wp2_with fail
    refine (alive17_any _).mono ?_
    rintro e w9 ⟨rfl, hb9⟩
    go_wp2_with fail
    go_ret
    exact ⟨rfl, hb9⟩
  case true =>
  have hn60 : n ≤ 60 := hlb rfl
  clear hlb
  go_wp2_with fail
  refine (light17_any la ln lc ws _ hl).mono ?_
  rintro e w1 ⟨lb, rfl, hlb, rfl⟩
  cases lb
  case false =>
    go_wp2_with fail
    refine (alive17_any _).mono ?_
    rintro e w9 ⟨rfl, hb9⟩
    go_wp2_with fail
    go_ret
    exact ⟨rfl, hb9⟩
  case true =>
  have hl60 : ln ≤ 60 := hlb rfl
  clear hlb
  by_cases h60 : n + ln ≤ 60
  case neg =>
    have q0 : decide ((60 : Int) < (n : Int) + (ln : Int)) = true := decide_eq_true (by omega)
    have q0n : decide (60 < n + ln) = true := decide_eq_true (by omega)
    go_wp2_with fail
    refine (alive17_any _).mono ?_
    rintro e w9 ⟨rfl, hb9⟩
    go_wp2_with fail
    go_ret
    exact ⟨rfl, hb9⟩
  case pos =>
  have q0 : decide ((60 : Int) < (n : Int) + (ln : Int)) = false := decide_eq_false (by omega)
  have q0n : decide (60 < n + ln) = false := decide_eq_false (by omega)
  go_wp2_with fail
  refine (valid_any fa fn fc floor _ hf).mono ?_
  rintro e w1 ⟨rfl, rfl⟩
  obtain ⟨vb, hvb⟩ : ∃ vb, validL floor = vb := ⟨_, rfl⟩
  rw [hvb]
  clear hvb
  cases vb
  case false =>
    go_wp2_with fail
    refine (alive17_any _).mono ?_
    rintro e w9 ⟨rfl, hb9⟩
    go_wp2_with fail
    go_ret
    exact ⟨rfl, hb9⟩
  case true =>
  by_cases hne : mn = fn
  case neg =>
    have q1 : ((mn : Int) != (fn : Int)) = true := by simp; omega
    go_wp2_with fail
    refine (alive17_any _).mono ?_
    rintro e w9 ⟨rfl, hb9⟩
    go_wp2_with fail
    go_ret
    exact ⟨rfl, hb9⟩
  case pos =>
  have q1 : ((mn : Int) != (fn : Int)) = false := by simp; omega
  have HNE := Lib.hid hne
  clear hne
  go_wp2_with fail
  refine (right17_any key a n ca vs fn _ hkey hv).mono ?_
  rintro e w1 ⟨rb, rfl, hrb, hb1⟩
  cases rb
  case false =>
    go_wp2_with fail
    refine (alive17_any _).mono ?_
    rintro e w9 ⟨rfl, hb9⟩
    go_wp2_with fail
    go_ret
    exact ⟨rfl, hb1.trans hb9⟩
  case true =>
  have HRT := Lib.hid (hrb rfl)
  have HB1 := Lib.hid hb1
  clear hrb hb1
  go_wp2_with fail
  refine (right17_any key la ln lc ws fn _ hkey (hl.keep HB1.out)).mono ?_
  rintro e w2 ⟨rb, rfl, hrb, hb2⟩
  cases rb
  case false =>
    go_wp2_with fail
    refine (alive17_any _).mono ?_
    rintro e w9 ⟨rfl, hb9⟩
    go_wp2_with fail
    go_ret
    exact ⟨rfl, HB1.out.trans (hb2.trans hb9)⟩
  case true =>
  have HRL := Lib.hid (hrb rfl)
  have HB2 := Lib.hid (HB1.out.trans hb2)
  clear hrb hb2 HB1
  have hv2 := hv.keep HB2.out
  have hl2 := hl.keep HB2.out
  have hf2 := hf.keep HB2.out
  have hm2 := hm.keep HB2.out
  clear hv hl hf hm
  go_wp2_with fail
  go_loopw [11] (fun iv wr => ∃ i : Nat, i ≤ ln ∧ iv = .int .i64 (i : Int) ∧ Bl w2 wr ∧ ∀ x, x < i → LaterV fn floor (nthR ws x)) (fun iv _ => ln - (intOf iv).toNat)
  case atStart => exact ⟨0, Nat.zero_le _, by go_num, Bl.refl _, fun x hx => by omega⟩
  case round =>
    obtain ⟨i, hi, rfl, hbl, hno⟩ := hrel
    have HBI := Lib.hid hbl
    have HNO := Lib.hid hno
    clear hbl hno
    by_cases hlt : i < ln
    · obtain ⟨b, off, rfl, hc⟩ := hl2.cells i hlt
      have HE := Lib.hid ((hc i hlt).keep HBI.out)
      have HRV := Lib.hid (show RightV key fn (nthR ws i) from by rw [nthR_eq (by rw [HLL.out]; exact hlt)]; exact HRL.out _ (List.getElem_mem _))
      obtain ⟨V, hV⟩ : ∃ V, nthR ws i = V := ⟨_, rfl⟩
      rw [hV] at HE HRV
      have HV := Lib.hid hV
      clear hV hc
      have e2 := HE.out.c2
      go_upto_region 7 with fail
      clear e2
      refine wp_region_allS (by kernel_rfl) (by kernel_rfl) ?_
      have HED := Lib.hid (HE.out.keep (Bl.refl wr).drew)
      have HBD := Lib.hid (HBI.out.trans (Bl.refl wr).drew)
      clear HE HBI
      generalize wr.drew = Z at *
      obtain ⟨va, vn, vc, e1, hI⟩ := HED.out.at_
      have HI := Lib.hid hI
      clear hI
      have p1 : ∀ q : Ext Z, _ := fun q => q.bl.cell e1
      clear e1
      by_cases ho : V.origin = 254
      case pos =>
        have m1 : (V.origin == 254) = true := by simp [ho]
        clear ho
        repeat (refine wpS_step (fun K hK => ?_); go_simp; refine hK _ ?_; clear hK K)
        refine wpS_nil ?_
        intro q1
        have HBN := Lib.hid (HBD.out.trans q1.bl)
        clear p1
        generalize ExtC.at q1 = W9 at *
        go_wp2_with fail
        refine (alive17_any _).mono ?_
        rintro e w9 ⟨rfl, hb9⟩
        go_wp2_with fail
        go_ret
        exact ⟨rfl, HB2.out.trans (HBN.out.trans hb9)⟩
      case neg =>
      have m1 : (V.origin == 254) = false := by simp [ho]
      have HO := Lib.hid ho
      clear ho
      obtain ⟨lb, hlb⟩ : ∃ b, leqL V.at_ floor = b := ⟨_, rfl⟩
      have HLB := Lib.hid hlb
      clear hlb
      have VV := Lib.hid (fun q : Ext Z => leq_b va fa vn fn vc fc V.at_ floor lb q.at (HI.out.keep q.bl) (hf2.keep (HBD.out.trans q.bl)) HLB)
      cases lb
      case true =>
        repeat (refine wpS_step (fun K hK => ?_); go_simp; first | (refine hK _ ?_; clear hK K) | (apply Exists.intro; refine ⟨fun q => ?_, hK _ ?_⟩; (with_reducible exact VV.out q); clear hK K))
        refine wpS_nil ?_
        intro q1
        have HBN := Lib.hid (HBD.out.trans q1.bl)
        clear p1
        generalize ExtC.at q1 = W9 at *
        go_wp2_with fail
        refine (alive17_any _).mono ?_
        rintro e w9 ⟨rfl, hb9⟩
        go_wp2_with fail
        go_ret
        exact ⟨rfl, HB2.out.trans (HBN.out.trans hb9)⟩
      case false =>
      obtain ⟨O, hO, hOn⟩ : ∃ O : Nat, V.origin = (O : Int) ∧ O < fn := by
        rcases HRV.out.place with q | q
        · exact ⟨V.origin.toNat, by omega, by omega⟩
        · exact absurd q HO.out
      have hvn : vn = fn := by rw [← HI.out.len, HRV.out.len]
      subst hvn
      obtain ⟨b2, o2, rfl, hc2⟩ := HI.out.cells O hOn
      obtain ⟨b3, o3, rfl, hc3⟩ := hf2.cells O hOn
      have s1 : ∀ q : Ext Z, _ := fun q => q.bl.cell (hc2 O hOn)
      have s2 : ∀ q : Ext Z, _ := fun q => (HBD.out.trans q.bl).cell (hc3 O hOn)
      clear hc2 hc3
      rw [hO] at m1
      have hO0 : (0 : Int) ≤ (O : Int) := by omega
      have hO1 : (O : Int) < (vn : Int) := by omega
      obtain ⟨cb, hcb⟩ : ∃ b, decide (nth V.at_ O ≤ nth floor O) = b := ⟨_, rfl⟩
      have HOO := Lib.hid hO
      obtain ⟨A1, hA1⟩ : ∃ x, nth V.at_ O = x := ⟨_, rfl⟩
      obtain ⟨A2, hA2⟩ : ∃ x, nth floor O = x := ⟨_, rfl⟩
      rw [hA1] at s1 hcb
      rw [hA2] at s2 hcb
      have HA1 := Lib.hid hA1
      have HA2 := Lib.hid hA2
      have HCB := Lib.hid hcb
      clear hA1 hA2
      cases cb
      case true =>
        repeat (refine wpS_step (fun K hK => ?_); go_simp; first | (refine hK _ ?_; clear hK K) | (apply Exists.intro; refine ⟨fun q => ?_, hK _ ?_⟩; (with_reducible exact VV.out q); clear hK K))
        refine wpS_nil ?_
        intro q1
        have HBN := Lib.hid (HBD.out.trans q1.bl)
        clear p1
        generalize ExtC.at q1 = W9 at *
        go_wp2_with fail
        refine (alive17_any _).mono ?_
        rintro e w9 ⟨rfl, hb9⟩
        go_wp2_with fail
        go_ret
        exact ⟨rfl, HB2.out.trans (HBN.out.trans hb9)⟩
      case false =>
      repeat (refine wpS_step (fun K hK => ?_); go_simp; first | (refine hK _ ?_; clear hK K) | (apply Exists.intro; refine ⟨fun q => ?_, hK _ ?_⟩; (with_reducible exact VV.out q); clear hK K))
      refine wpS_nil ?_
      intro q1
      have HBN := Lib.hid (HBD.out.trans q1.bl)
      clear p1 VV s1 s2 HED
      generalize ExtC.at q1 = W9 at *
      have HLT := Lib.hid (show LaterV vn floor V from ⟨HO.out, HLB.out, fun _ _ => by
        rw [HOO.out, Int.toNat_natCast, HA1.out, HA2.out]
        have := of_decide_eq_false HCB.out
        omega⟩)
      clear HO HLB HCB HA1 HA2 HOO HRV
      go_wp2_with fail
      go_roundw
      case rel =>
        refine ⟨i + 1, by omega, by go_num, HBN.out, fun x hx => ?_⟩
        by_cases e : x = i
        · subst e; rw [HV.out]; exact HLT.out
        · exact HNO.out x (by omega)
      case measure => simp [intOf]; omega
    · have HLA := Lib.hid (show ∀ v ∈ ws, LaterV fn floor v from fun v hvm => by
        obtain ⟨j, hj, rfl⟩ := List.getElem_of_mem hvm
        have := HNO.out j (by have := HLL.out; omega)
        rwa [nthR_eq hj] at this)
      clear HNO
      go_wp2_with fail
      refine (fdrop_any key a n ca vs fa fn fc floor true _ hkey (hv2.keep HBI.out) (by omega) (hf2.keep HBI.out)).mono ?_
      rintro e w4 ⟨da, dn, dc, rfl, hvd, hb4⟩
      have G4 := Lib.hid (HBI.out.trans hb4)
      have HM := Lib.hid hvd
      have hdn : dn ≤ n := by rw [← hvd.len, ← HL.out]; exact drop_len true HRT.out
      clear hvd hb4 HBI
      obtain ⟨ms, hms⟩ : ∃ x, dropL key vs floor true = x := ⟨_, rfl⟩
      rw [hms] at HM
      have HMS := Lib.hid hms
      clear hms
      obtain ⟨xs, hx1, hx2, hx3, hx4⟩ := (hv2.keep G4.out).vcs
      obtain ⟨ys, hy1, hy2, hy3, hy4⟩ := (hl2.keep G4.out).vcs
      have HX1 := Lib.hid hx1
      have HX2 := Lib.hid hx2
      have HX3 := Lib.hid hx3
      have HX4 := Lib.hid hx4
      have HY1 := Lib.hid hy1
      have HY2 := Lib.hid hy2
      have HY3 := Lib.hid hy3
      have HY4 := Lib.hid hy4
      clear hx1 hx2 hx3 hx4 hy1 hy2 hy3 hy4
      go_wp2_with (at_builtin; refine wpList_appG rfl _ _ _ rfl el_vr w4.heap.size (.slice none 0 0) 0 [] rfl (World.ownsRow_nil _ _ _ _) (Nat.le_refl _) _ _ _ _ rfl HX3.out ?c1 ?c2 ?_)
      case c1 => unfold maxLen; omega
      case c2 => omega
      intro v1 Y1 ho1 hg1
      have HS1 := Lib.hid (SV.first HX4.out HX2.out ho1)
      have HBY := Lib.hid ((SV.nil w4 w4).grown (Bl.refl w4) hg1)
      clear ho1 hg1
      go_wp2_with (at_builtin; refine wpList_appG rfl _ _ _ rfl el_vr w4.heap.size v1 _ _ rfl HS1.out.own HBY.out.size _ _ _ _ rfl (HY3.out.keep HBY.out) ?c1 ?c2 ?_)
      case c1 => rw [HX2.out]; unfold maxLen; omega
      case c2 => rw [HX2.out]; omega
      intro v2 Y2 ho2 hg2
      have HS4 := Lib.hid (HS1.out.both HY4.out (by rw [HY2.out]; exact ho2))
      have B5 := Lib.hid (HS1.out.grown HBY.out hg2)
      have G5 := Lib.hid (G4.out.trans B5.out)
      obtain ⟨tn, hmt⟩ : ∃ m, n + ln = m := ⟨_, rfl⟩
      have hmt1 : tn ≤ 60 := by omega
      have HMT := Lib.hid hmt
      clear hmt
      obtain ⟨ta, tc, rfl, hvt⟩ := HS4.out.va B5.out (n := tn) (by rw [List.length_append, HX2.out, HY2.out]; exact HMT.out) (by omega)
      have HV1 := Lib.hid (show VA Y2 ta tn (vs ++ ws) by rw [List.map_append, HX1.out, HY1.out] at hvt; exact hvt)
      clear ho2 hg2 HS1 HS4 hvt HBY HX1 HX2 HX3 HX4 HY1 HY2 HY3 HY4 HMT
      obtain ⟨xs, hx1, hx2, hx3, hx4⟩ := (HM.out.keep B5.out).vcs
      obtain ⟨ys, hy1, hy2, hy3, hy4⟩ := (hl2.keep G5.out).vcs
      have HX1 := Lib.hid hx1
      have HX2 := Lib.hid hx2
      have HX3 := Lib.hid hx3
      have HX4 := Lib.hid hx4
      have HY1 := Lib.hid hy1
      have HY2 := Lib.hid hy2
      have HY3 := Lib.hid hy3
      have HY4 := Lib.hid hy4
      clear hx1 hx2 hx3 hx4 hy1 hy2 hy3 hy4
      go_wp2_with (at_builtin; refine wpList_appG rfl _ _ _ rfl el_vr Y2.heap.size (.slice none 0 0) 0 [] rfl (World.ownsRow_nil _ _ _ _) (Nat.le_refl _) _ _ _ _ rfl HX3.out ?c1 ?c2 ?_)
      case c1 => unfold maxLen; omega
      case c2 => omega
      intro v1 Y1 ho1 hg1
      have HS1 := Lib.hid (SV.first HX4.out HX2.out ho1)
      have HBY := Lib.hid ((SV.nil Y2 Y2).grown (Bl.refl Y2) hg1)
      clear ho1 hg1
      go_wp2_with (at_builtin; refine wpList_appG rfl _ _ _ rfl el_vr Y2.heap.size v1 _ _ rfl HS1.out.own HBY.out.size _ _ _ _ rfl (HY3.out.keep HBY.out) ?c1 ?c2 ?_)
      case c1 => rw [HX2.out]; unfold maxLen; omega
      case c2 => rw [HX2.out]; omega
      intro v2 Y4 ho2 hg2
      have HS4 := Lib.hid (HS1.out.both HY4.out (by rw [HY2.out]; exact ho2))
      have B6 := Lib.hid (HS1.out.grown HBY.out hg2)
      have G6 := Lib.hid (G5.out.trans B6.out)
      obtain ⟨un, hmt⟩ : ∃ m, dn + ln = m := ⟨_, rfl⟩
      have hmt2 : un ≤ 60 := by omega
      have HMT := Lib.hid hmt
      clear hmt
      obtain ⟨ua, uc, rfl, hvt⟩ := HS4.out.va B6.out (n := un) (by rw [List.length_append, HX2.out, HY2.out]; exact HMT.out) (by omega)
      have HV2 := Lib.hid (show VA Y4 ua un (ms ++ ws) by rw [List.map_append, HX1.out, HY1.out] at hvt; exact hvt)
      clear ho2 hg2 HS1 HS4 hvt HBY HX1 HX2 HX3 HX4 HY1 HY2 HY3 HY4 HMT
      have hmfn : floor.length = more.length := by have := HFL.out; have := HML.out; have := HNE.out; omega
      have hJl : (joinL floor more).length = fn := by rw [join_len' hmfn]; exact HFL.out
      have hJq : leqL floor (joinL floor more) = true := leq_join1 hmfn
      go_wp2_with fail
      refine (join_any fa ma fn mn fc mc floor more _ (hf2.keep G6.out) (hm2.keep G6.out)).mono ?_
      rintro e w7 ⟨jv, rfl, hj, hb7⟩
      obtain ⟨ja, jn, jc, rfl, -⟩ := hj.si
      have HJ := Lib.hid hj.iaE
      have G7 := Lib.hid (G6.out.trans hb7)
      have HT1 := Lib.hid (HV1.out.keep (B6.out.trans hb7))
      have HT2 := Lib.hid (HV2.out.keep hb7)
      clear hj hb7 G6 HV1 HV2 G5 G4 B5 B6 HM
      obtain ⟨at_, hat⟩ : ∃ h, joinL floor more = h := ⟨_, rfl⟩
      rw [hat] at hJl hJq HJ
      have HJl := Lib.hid hJl
      have HJq := Lib.hid hJq
      clear hat hmfn hJl hJq
      have KEEP := Lib.hid (fun (hN : NoTx (vs ++ ws)) (xs : List Int) (hx : xs.length = fn) (hq : leqL floor xs = true) => (show sameV (readL key (vs ++ ws) xs) (readL key (ms ++ ws) xs) = true from by rw [← HMS.out]; exact samV.1 (later_keep HRT.out HRL.out hN HLA.out HFL.out hx hq)))
      have HRA := Lib.hid (show RightL key fn (vs ++ ws) from fun v hv => by
        rcases List.mem_append.1 hv with q | q
        · exact HRT.out v q
        · exact HRL.out v q)
      have HRB := Lib.hid (show RightL key fn (ms ++ ws) from fun v hv => by
        rcases List.mem_append.1 hv with q | q
        · rw [← HMS.out] at q; exact drop_right true HRT.out HFL.out v q
        · exact HRL.out v q)
      clear HMS HLA
      generalize vs ++ ws = us at *
      generalize ms ++ ws = bs at *
      have HLAS := Lib.hid HT1.out.len
      go_wp2_with fail
      go_loopw [17] (fun iv wr => ∃ i : Nat, i ≤ tn ∧ iv = .int .i64 (i : Int) ∧ Bl w7 wr ∧ ∀ x, x < i → ∀ y, y < x → ¬ ((nthR us x).origin = (nthR us y).origin ∧ (nthR us x).tx = (nthR us y).tx)) (fun iv _ => tn - (intOf iv).toNat)
      case atStart => exact ⟨0, Nat.zero_le _, by go_num, Bl.refl _, fun x hx => by omega⟩
      case round =>
        obtain ⟨i, hi, rfl, hbl, hno⟩ := hrel
        have HBI := Lib.hid hbl
        have HNO := Lib.hid hno
        clear hbl hno
        by_cases hlt : i < tn
        · obtain ⟨b, off, rfl, hc⟩ := HT1.out.cells i hlt
          have HC := Lib.hid hc
          clear hc
          go_wp2_with fail
          go_loopw [18] (fun jv wr => ∃ j : Nat, j ≤ i ∧ jv = .int .i64 (j : Int) ∧ Bl w7 wr ∧ ∀ y, y < j → ¬ ((nthR us i).origin = (nthR us y).origin ∧ (nthR us i).tx = (nthR us y).tx)) (fun jv _ => i - (intOf jv).toNat)
          case atStart => exact ⟨0, Nat.zero_le _, by go_num, HBI.out, fun y hy => by omega⟩
          case round =>
            obtain ⟨j, hj, rfl, hbl, hny⟩ := hrel
            have HBJ := Lib.hid hbl
            have HNY := Lib.hid hny
            clear hbl hny
            by_cases hlt2 : j < i
            · have hjn : j < tn := by omega
              have HE1 := Lib.hid ((HC.out i hlt).keep (HBJ.out.trans (Bl.refl wr).drew))
              have HE2 := Lib.hid ((HC.out j hjn).keep (HBJ.out.trans (Bl.refl wr).drew))
              have hR1 : (nthR us i).at_.length = fn := by rw [nthR_eq (by rw [HLAS.out]; exact hlt)]; exact (HRA.out _ (List.getElem_mem _)).len
              have hR2 : (nthR us j).at_.length = fn := by rw [nthR_eq (by rw [HLAS.out]; exact hjn)]; exact (HRA.out _ (List.getElem_mem _)).len
              obtain ⟨V1, hV1⟩ : ∃ V, nthR us i = V := ⟨_, rfl⟩
              obtain ⟨V2, hV2⟩ : ∃ V, nthR us j = V := ⟨_, rfl⟩
              rw [hV1] at HE1 hR1
              rw [hV2] at HE2 hR2
              have HV1 := Lib.hid hV1
              have HV2 := Lib.hid hV2
              have HBD := Lib.hid (HBJ.out.trans ((Bl.refl wr).drew))
              clear hV1 hV2
              go_upto_region 18 with fail
              refine wp_region_allS (by kernel_rfl) (by kernel_rfl) ?_
              generalize wr.drew = Z at *
              obtain ⟨va, vn, vc, e1, hI1⟩ := HE1.out.at_
              obtain ⟨ya, yn, yc, f1, hI2⟩ := HE2.out.at_
              have hvn : vn = fn := by rw [← hI1.len, hR1]
              have hun : yn = fn := by rw [← hI2.len, hR2]
              rw [hvn] at e1
              rw [hun] at f1
              clear hI1 hI2 hR1 hR2 hvn hun
              have p1 : ∀ q : Ext Z, _ := fun q => q.bl.cell e1
              have p2 : ∀ q : Ext Z, _ := fun q => q.bl.cell HE1.out.c2
              have p3 : ∀ q : Ext Z, _ := fun q => q.bl.cell HE1.out.c3
              have r1 : ∀ q : Ext Z, _ := fun q => q.bl.cell f1
              have r2 : ∀ q : Ext Z, _ := fun q => q.bl.cell HE2.out.c2
              have r3 : ∀ q : Ext Z, _ := fun q => q.bl.cell HE2.out.c3
              clear e1 f1
              by_cases ho : V1.origin = V2.origin
              case neg =>
                have m1 : (V1.origin == V2.origin) = false := by simp [ho]
                have HNA := Lib.hid (show ¬ (V1.origin = V2.origin ∧ V1.tx = V2.tx) from fun h => ho h.1)
                clear ho
                repeat (refine wpS_step (fun K hK => ?_); go_simp; refine hK _ ?_; clear hK K)
                refine wpS_nil ?_
                intro q1
                have HBN := Lib.hid (HBD.out.trans q1.bl)
                clear p1 p2 p3 r1 r2 r3 HE1 HE2
                generalize ExtC.at q1 = W9 at *
                go_wp2_with fail
                go_roundw
                case rel =>
                  refine ⟨j + 1, by omega, by go_num, HBN.out, fun y hy => ?_⟩
                  by_cases e : y = j
                  · subst e; rw [HV1.out, HV2.out]; exact HNA.out
                  · exact HNY.out y (by omega)
                case measure => simp [intOf]; omega
              case pos =>
              have m1 : (V1.origin == V2.origin) = true := by simp [ho]
              clear ho
              by_cases ht : V1.tx = V2.tx
              case neg =>
                have m2 : (V1.tx == V2.tx) = false := by simp [ht]
                have HNA := Lib.hid (show ¬ (V1.origin = V2.origin ∧ V1.tx = V2.tx) from fun h => ht h.2)
                clear ht
                repeat (refine wpS_step (fun K hK => ?_); go_simp; refine hK _ ?_; clear hK K)
                refine wpS_nil ?_
                intro q1
                have HBN := Lib.hid (HBD.out.trans q1.bl)
                clear p1 p2 p3 r1 r2 r3 HE1 HE2
                generalize ExtC.at q1 = W9 at *
                go_wp2_with fail
                go_roundw
                case rel =>
                  refine ⟨j + 1, by omega, by go_num, HBN.out, fun y hy => ?_⟩
                  by_cases e : y = j
                  · subst e; rw [HV1.out, HV2.out]; exact HNA.out
                  · exact HNY.out y (by omega)
                case measure => simp [intOf]; omega
              case pos =>
              have m2 : (V1.tx == V2.tx) = true := by simp [ht]
              have m3 : ((fn : Int) == (fn : Int)) = true := by simp
              clear ht
              repeat (refine wpS_step (fun K hK => ?_); go_simp; refine hK _ ?_; clear hK K)
              refine wpS_nil ?_
              intro q1
              have HBN := Lib.hid (HBD.out.trans q1.bl)
              clear p1 p2 p3 r1 r2 r3 HE1 HE2
              generalize ExtC.at q1 = W9 at *
              go_wp2_with fail
              refine (alive17_any _).mono ?_
              rintro e w9 ⟨rfl, hb9⟩
              go_wp2_with fail
              go_ret
              exact ⟨rfl, HB2.out.trans (G7.out.trans (HBN.out.trans hb9))⟩
            · go_wp2_with fail
              go_roundw
              case rel =>
                refine ⟨i + 1, by omega, by go_num, HBJ.out, fun x hx => ?_⟩
                by_cases e : x = i
                · subst e
                  intro y hy
                  exact HNY.out y (by omega)
                · exact HNO.out x (by omega)
              case measure => simp [intOf]; omega
        · have KS := Lib.hid (KEEP.out (notx_of (fun x hx y hy => HNO.out x (by rw [HLAS.out] at hx; omega) y hy)))
          have KO1 : Hid (∀ xs : List Int, (readL key us xs).Ok) := Lib.hid (fun xs => readL_ok HRA.out.acts)
          have KO2 : Hid (∀ xs : List Int, (readL key bs xs).Ok) := Lib.hid (fun xs => readL_ok HRB.out.acts)
          have G8 := Lib.hid (G7.out.trans HBI.out)
          have HT18 := Lib.hid (HT1.out.keep HBI.out)
          have HT28 := Lib.hid (HT2.out.keep HBI.out)
          have HJ8 := Lib.hid (HJ.out.keep HBI.out)
          clear HNO KEEP HRA HRB HT1 HT2 HJ G7 HBI
          generalize wr = w8 at *
          go_wp2_with fail
          go_loopw [19] (fun iv wr => ∃ k : Nat, k ≤ ln ∧ iv = .int .i64 (k : Int) ∧ Bl w8 wr) (fun iv _ => ln - (intOf iv).toNat)
          case atStart => exact ⟨0, Nat.zero_le _, by go_num, Bl.refl _⟩
          case round =>
            obtain ⟨k, hk, rfl, hbw⟩ := hrel
            have HB := Lib.hid hbw
            clear hbw
            by_cases hlt3 : k < ln
            · obtain ⟨b, off, rfl, hc⟩ := hl2.cells k hlt3
              have E := Lib.hid (hc k hlt3)
              have HRV := Lib.hid (show RightV key fn (nthR ws k) from by rw [nthR_eq (by rw [HLL.out]; exact hlt3)]; exact HRL.out _ (List.getElem_mem _))
              obtain ⟨V, hV⟩ : ∃ V, nthR ws k = V := ⟨_, rfl⟩
              rw [hV] at E HRV
              clear hV hc
              obtain ⟨va, vn, vc, e1, hI⟩ := E.out.at_
              have E1 := Lib.hid e1
              have HI := Lib.hid hI
              clear e1 hI
              have hje : floor.length = V.at_.length := by rw [HFL.out, HRV.out.len]
              have hjl : (joinL floor V.at_).length = fn := by rw [join_len' hje]; exact HFL.out
              have hjq : leqL floor (joinL floor V.at_) = true := leq_join1 hje
              obtain ⟨X1, hX1⟩ : ∃ X, readL key us (joinL floor V.at_) = X := ⟨_, rfl⟩
              obtain ⟨X2, hX2⟩ : ∃ X, readL key bs (joinL floor V.at_) = X := ⟨_, rfl⟩
              have HS := Lib.hid (show sameV X1 X2 = true by rw [← hX1, ← hX2]; exact KS.out _ hjl hjq)
              have HO1 := Lib.hid (show X1.Ok by rw [← hX1]; exact KO1.out _)
              have HO2 := Lib.hid (show X2.Ok by rw [← hX2]; exact KO2.out _)
              have HX1 := Lib.hid hX1
              have HX2 := Lib.hid hX2
              clear hje hjl hjq hX1 hX2 E HRV
              go_upto_region 23 with fail
              refine wp_region_idx [0, 1, 2, 3, 4, 5, 6, 7, 10, 11, 12, 13, 14, 15, 16, 17] 6 (Bl wr.drew) (fun _ _ h k => h.trans k) (Bl.refl _) (by kernel_rfl) rfl (by kernel_rfl) (by kernel_rfl) ?_
              have HBZ := Lib.hid (HB.out.trans ((Bl.refl wr).drew))
              clear HB
              generalize wr.drew = Z at *
              have z1 : ∀ q : Ext Z, _ := fun q => (G8.out.trans (HBZ.out.trans q.bl)).cell E1.out
              repeat (refine wpI_step rfl (fun K hK => ?_); go_simp; refine hK _ ?_; clear hK K)
              refine wpI_nil ?_
              clear z1
              refine wpAnyE_one (i := 8) (by kernel_rfl) ?_
              intro W1 hb1
              go_simp
              refine (join_any fa va fn vn fc vc floor V.at_ W1 (hf2.keep (G8.out.trans (HBZ.out.trans hb1))) (HI.out.keep (G8.out.trans (HBZ.out.trans hb1)))).mono ?_
              rintro e W2 ⟨v2, rfl, f2, hb2⟩
              obtain ⟨xa, xn, xc, rfl, -⟩ := f2.si
              have I2 := Lib.hid f2.iaE
              have B2 := Lib.hid (hb1.trans hb2)
              have A2 := Lib.hid (HBZ.out.trans B2.out)
              refine ⟨_, rfl, B2.out, ?_⟩
              clear hb1 hb2 f2
              refine wpAnyE_sub (C' := Bl W2) (fun _ h => B2.out.trans h) ?_
              refine wpAnyE_idx (C := Bl W2) (fun _ _ h k => h.trans k) (by kernel_rfl) 4 _ (Bl.refl _) [9] _ _ (by kernel_rfl) ?_
              have R1 := Lib.hid (fun q : Ext W2 => fread_v key _ tn tc us xa xn xc (joinL floor V.at_) q.at X1 hkey (HT18.out.keep (A2.out.trans q.bl)) (by omega) (I2.out.keep q.bl) HX1)
              refine wpI_step rfl (fun K hK => ?_); go_simp; apply Exists.intro; refine ⟨fun q => ?_, hK _ ?_⟩; (with_reducible exact R1.out q); clear hK K
              refine wpI_nil ?_
              refine wpAnyE_one (i := 18) (by kernel_rfl) ?_
              intro W3 hb3
              go_simp
              refine (join_any fa va fn vn fc vc floor V.at_ W3 (hf2.keep (G8.out.trans (A2.out.trans hb3))) (HI.out.keep (G8.out.trans (A2.out.trans hb3)))).mono ?_
              rintro e W4 ⟨v4, rfl, f4, hb4⟩
              obtain ⟨za, zn, zc, rfl, -⟩ := f4.si
              have I4 := Lib.hid f4.iaE
              have B4 := Lib.hid (hb3.trans hb4)
              have A4 := Lib.hid (A2.out.trans B4.out)
              refine ⟨_, rfl, B4.out, ?_⟩
              clear hb3 hb4 f4
              refine wpAnyE_sub (C' := Bl W4) (fun _ h => B4.out.trans h) ?_
              refine wpAnyE_idx (C := Bl W4) (fun _ _ h k => h.trans k) (by kernel_rfl) 0 _ (Bl.refl _) [19, 20, 21] _ _ (by kernel_rfl) ?_
              have R2 := Lib.hid (fun q : Ext W4 => fread_v key _ un uc bs za zn zc (joinL floor V.at_) q.at X2 hkey (HT28.out.keep (A4.out.trans q.bl)) (by omega) (I4.out.keep q.bl) HX2)
              have R3 := Lib.hid (fun q : Ext W4 => same_v X1 X2 true q.at HS HO1 HO2)
              repeat (refine wpI_step rfl (fun K hK => ?_); go_simp; first | (refine hK _ ?_; clear hK K) | (apply Exists.intro; refine ⟨fun q => ?_, hK _ ?_⟩; (first | with_reducible exact R2.out q | with_reducible exact R3.out q); clear hK K))
              refine wpI_nil ?_
              refine wpAnyE_done (by kernel_rfl) ?_
              intro W5 hb5
              have HB6 := Lib.hid (A4.out.trans hb5)
              clear hb5 R1 R2 R3 HBZ B2 A2 B4 A4 I2 I4
              go_wp2_with fail
              go_roundw
              case rel => exact ⟨k + 1, by omega, by go_num, HB6.out⟩
              case measure => simp [intOf]; omega
            · obtain ⟨X1, hX1⟩ : ∃ X, readL key us at_ = X := ⟨_, rfl⟩
              obtain ⟨X2, hX2⟩ : ∃ X, readL key bs at_ = X := ⟨_, rfl⟩
              have HS := Lib.hid (show sameV X1 X2 = true by rw [← hX1, ← hX2]; exact KS.out _ HJl.out HJq.out)
              have HO1 := Lib.hid (show X1.Ok by rw [← hX1]; exact KO1.out _)
              have HO2 := Lib.hid (show X2.Ok by rw [← hX2]; exact KO2.out _)
              have HX1 := Lib.hid hX1
              have HX2 := Lib.hid hX2
              clear hX1 hX2
              go_wp2_with fail
              refine (alive17_any _).mono ?_
              rintro e w9 ⟨rfl, hb9⟩
              have G := Lib.hid (HB.out.trans hb9)
              clear hb9
              go_wp2_with fail
              refine (fread_v key _ _ _ us ja jn jc at_ _ X1 hkey (HT18.out.keep G.out) (by omega) (HJ8.out.keep G.out) HX1).mono ?_
              rintro e w9 ⟨rfl, hb9⟩
              have G := Lib.hid (G.out.trans hb9)
              clear hb9
              go_wp2_with fail
              refine (fread_v key _ _ _ bs ja jn jc at_ _ X2 hkey (HT28.out.keep G.out) (by omega) (HJ8.out.keep G.out) HX2).mono ?_
              rintro e w9 ⟨rfl, hb9⟩
              have G := Lib.hid (G.out.trans hb9)
              clear hb9
              go_wp2_with fail
              refine (same_v X1 X2 true _ HS HO1 HO2).mono ?_
              rintro e w9 ⟨rfl, hb9⟩
              have G := Lib.hid (G.out.trans hb9)
              clear hb9
              go_wp2_with fail
              go_ret
              exact ⟨rfl, HB2.out.trans (G8.out.trans G.out)⟩
end Go.Proofs.Ytdjlnpiaehoofaa
