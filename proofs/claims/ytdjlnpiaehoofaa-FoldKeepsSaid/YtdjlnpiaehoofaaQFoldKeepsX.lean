/- bedrocklaw17.FoldKeeps: the walk. By an AI agent. -/
import Derived.Test.YtdjlnpiaehoofaaCore14

set_option linter.unusedVariables false
set_option linter.unusedSimpArgs false
namespace Go.Proofs.Ytdjlnpiaehoofaa
open Go.RowKit
attribute [local go_sem] eOp eOper eUpon

set_option maxHeartbeats 6400000 in
set_option maxRecDepth 100000 in
theorem foldKeeps_any (key : ByteArray) (a : Option Addr) (n ca : Nat) (vs : List VerL) (fa : Option Addr) (fn fc : Nat) (floor : List Int) (ma : Option Addr) (mn mc : Nat) (more : List Int) (all : Bool) (w : World) (hkey : key.size ≤ 140737488351232) (hv : VA w a n vs) (hf : IA w fa fn floor) (hm : IA w ma mn more) :
    Calls Try.prog 3 #[.string key, .slice a n ca, .slice fa fn fc, .slice ma mn mc, .bool all] w fun e w' => e = .returned (.bool true) ∧ Bl w w' := by
  have hsf := store_fl
  have HL := Lib.hid hv.len
  have HFL := Lib.hid hf.len
  have HML := Lib.hid hm.len
  have hfc := hf.cap
  have hmc := hm.cap
  go_enter Try.func3, Try.ntmps3
  go_wp2_with fail
  refine (light17_any a n ca vs _ hv).mono ?_
  rintro e w1 ⟨lb, rfl, hlb, rfl⟩
  cases lb
  case false =>
    go_wp2_with fail
    refine (alive17_any _).mono ?_
    rintro e w1 ⟨rfl, hb1⟩
    go_wp2_with fail
    go_ret
    exact ⟨rfl, hb1⟩
  case true =>
  have hn60 : n ≤ 60 := hlb rfl
  clear hlb
  go_wp2_with fail
  refine (valid_any fa fn fc floor _ hf).mono ?_
  rintro e w1 ⟨rfl, rfl⟩
  obtain ⟨vb, hvb⟩ : ∃ vb, validL floor = vb := ⟨_, rfl⟩
  rw [hvb]
  have HVB := Lib.hid hvb
  clear hvb
  cases vb
  case false =>
    go_wp2_with fail
    refine (alive17_any _).mono ?_
    rintro e w1 ⟨rfl, hb1⟩
    go_wp2_with fail
    go_ret
    exact ⟨rfl, hb1⟩
  case true =>
  by_cases hne : mn = fn
  case neg =>
    have q1 : ((mn : Int) != (fn : Int)) = true := by simp; omega
    go_wp2_with fail
    refine (alive17_any _).mono ?_
    rintro e w1 ⟨rfl, hb1⟩
    go_wp2_with fail
    go_ret
    exact ⟨rfl, hb1⟩
  case pos =>
  have q1 : ((mn : Int) != (fn : Int)) = false := by simp; omega
  have HNE := Lib.hid hne
  clear hne
  go_wp2_with fail
  refine (right17_any key a n ca vs fn _ hkey hv).mono ?_
  rintro e w1 ⟨rb, rfl, hrb, hb1⟩
  cases rb
  case false =>
    go_wp2_with fail
    refine (alive17_any _).mono ?_
    rintro e w2 ⟨rfl, hb2⟩
    go_wp2_with fail
    go_ret
    exact ⟨rfl, hb1.trans hb2⟩
  case true =>
  have HRT := Lib.hid (hrb rfl)
  have HB1 := Lib.hid hb1
  clear hrb hb1
  go_wp2_with fail
  refine (fdrop_any key a n ca vs fa fn fc floor all _ hkey (hv.keep HB1.out) (by omega) (hf.keep HB1.out)).mono ?_
  rintro e w2 ⟨da, dn, dc, rfl, hvd, hb2⟩
  have HB2 := Lib.hid (HB1.out.trans hb2)
  have HVD := Lib.hid hvd
  have hdn : dn ≤ n := by rw [← hvd.len, ← HL.out]; exact drop_len all HRT.out
  clear hvd hb2 HB1
  go_wp2_with fail
  refine (join_any fa ma fn mn fc mc floor more _ (hf.keep HB2.out) (hm.keep HB2.out)).mono ?_
  rintro e w3 ⟨jv, rfl, hj, hb3⟩
  obtain ⟨ja, jn, jc, rfl, -⟩ := hj.si
  have HJ := Lib.hid hj.iaE
  have HVD3 := Lib.hid (HVD.out.keep hb3)
  have HB3 := Lib.hid (HB2.out.trans hb3)
  clear hj hb3 HB2 HVD
  go_wp2_with fail
  refine (join_any ja ja jn jn jc jc (joinL floor more) (joinL floor more) _ HJ.out HJ.out).mono ?_
  rintro e w4 ⟨tv, rfl, ht, hb4⟩
  obtain ⟨ta, tn, tc, rfl, -⟩ := ht.si
  have HT := Lib.hid ht.iaE
  have HVD4 := Lib.hid (HVD3.out.keep hb4)
  have HJ4 := Lib.hid (HJ.out.keep hb4)
  have HB4 := Lib.hid (HB3.out.trans hb4)
  clear ht hb4 HB3 HVD3 HJ
  have hmfn : floor.length = more.length := by have := HFL.out; have := HML.out; have := HNE.out; omega
  have hJl : (joinL floor more).length = fn := by rw [join_len' hmfn]; exact HFL.out
  have hJq : leqL floor (joinL floor more) = true := leq_join1 hmfn
  have hTl : (joinL (joinL floor more) (joinL floor more)).length = fn := by rw [join_len' rfl]; exact hJl
  have hTq : leqL floor (joinL (joinL floor more) (joinL floor more)) = true := leq_trans (ys := joinL floor more) (by rw [HFL.out, hJl]) (by rw [join_len' rfl]) hJq (leq_join1 rfl)
  have hok : ∀ v ∈ vs, v.act.Ok := HRT.out.acts
  have hokd : ∀ v ∈ dropL key vs floor all, v.act.Ok := (drop_right all HRT.out HFL.out).acts
  have KS : Hid (∀ xs : List Int, xs.length = fn → leqL floor xs = true → sameV (readL key vs xs) (readL key (dropL key vs floor all) xs) = true) := Lib.hid (fun xs hx hq => keeps_same all HRT.out HFL.out (hx) hq)
  have KO1 : Hid (∀ xs : List Int, (readL key vs xs).Ok) := Lib.hid (fun xs => readL_ok hok)
  have KO2 : Hid (∀ xs : List Int, (readL key (dropL key vs floor all) xs).Ok) := Lib.hid (fun xs => readL_ok hokd)
  clear hok hokd
  generalize dropL key vs floor all = ds at *
  generalize joinL floor more = at_ at *
  generalize joinL at_ at_ = top at *
  have HJl := Lib.hid hJl
  have HJq := Lib.hid hJq
  have HTl := Lib.hid hTl
  have HTq := Lib.hid hTq
  clear hJl hJq hTl hTq hmfn
  go_wp2_with fail
  go_loopw [13, 14] (fun tv iv wr => ∃ (k : Nat) (pa : Option Addr) (pn pc : Nat) (tp : List Int), k ≤ n ∧ tv = .slice pa pn pc ∧ IA wr pa pn tp ∧ tp.length = fn ∧ leqL floor tp = true ∧ Bl w4 wr ∧ iv = .int .i64 (k : Int)) (fun _ iv _ => n - (intOf iv).toNat)
  case atStart => exact ⟨0, ta, tn, tc, top, Nat.zero_le _, rfl, HT.out, HTl.out, HTq.out, Bl.refl _, by go_num⟩
  case round =>
    obtain ⟨k, pa, pn, pc, tp, hk, rfl, hp, hpl, hpq, hbw, rfl⟩ := hrel
    have HP := Lib.hid hp
    have HPL := Lib.hid hpl
    have HPQ := Lib.hid hpq
    have HB := Lib.hid hbw
    clear hp hpl hpq hbw
    by_cases hlt : k < n
    · obtain ⟨b, off, rfl, hc⟩ := hv.cells k hlt
      have E := Lib.hid (hc k hlt)
      have HRV := Lib.hid (show RightV key fn (nthR vs k) from by rw [nthR_eq (by rw [HL.out]; exact hlt)]; exact HRT.out _ (List.getElem_mem _))
      obtain ⟨V, hV⟩ : ∃ V, nthR vs k = V := ⟨_, rfl⟩
      rw [hV] at E HRV
      clear hV hc
      obtain ⟨va, vn, vc, e1, hI⟩ := E.out.at_
      have E1 := Lib.hid e1
      have HI := Lib.hid hI
      have e2 := (HB4.out.trans HB.out).cell e1
      clear e1 hI
      go_wp2_with fail
      clear e2
      refine (join_any pa va pn vn pc vc tp V.at_ _ HP.out (HI.out.keep (HB4.out.trans HB.out))).mono ?_
      rintro e w5 ⟨qv, rfl, hq, hb5⟩
      obtain ⟨qa, qn, qc, rfl, -⟩ := hq.si
      have HQ := Lib.hid hq.iaE
      have HB5 := Lib.hid (HB.out.trans hb5)
      have hqe : tp.length = V.at_.length := by rw [HPL.out, HRV.out.len]
      have HQL := Lib.hid (show (joinL tp V.at_).length = fn by rw [join_len' hqe]; exact HPL.out)
      have HQQ := Lib.hid (show leqL floor (joinL tp V.at_) = true from leq_trans (ys := tp) (by rw [HFL.out, HPL.out]) (by rw [join_len' hqe]) HPQ.out (leq_join1 hqe))
      clear hq hb5 hqe HP HPL HPQ HB
      generalize joinL tp V.at_ = tq at *
      have hje : floor.length = V.at_.length := by rw [HFL.out, HRV.out.len]
      have hjl : (joinL floor V.at_).length = fn := by rw [join_len' hje]; exact HFL.out
      have hjq : leqL floor (joinL floor V.at_) = true := leq_join1 hje
      obtain ⟨X1, hX1⟩ : ∃ X, readL key vs (joinL floor V.at_) = X := ⟨_, rfl⟩
      obtain ⟨X2, hX2⟩ : ∃ X, readL key ds (joinL floor V.at_) = X := ⟨_, rfl⟩
      have HS := Lib.hid (show sameV X1 X2 = true by rw [← hX1, ← hX2]; exact KS.out _ hjl hjq)
      have HO1 := Lib.hid (show X1.Ok by rw [← hX1]; exact KO1.out _)
      have HO2 := Lib.hid (show X2.Ok by rw [← hX2]; exact KO2.out _)
      have HX1 := Lib.hid hX1
      have HX2 := Lib.hid hX2
      clear hje hjl hjq hX1 hX2
      go_upto_region 10 with fail
      refine wp_region_idx [0, 1, 2, 3, 4, 5, 6, 7, 10, 11, 12, 13, 14, 15, 16, 17] 6 (Bl w5.drew) (fun _ _ h k => h.trans k) (Bl.refl _) (by kernel_rfl) rfl (by kernel_rfl) (by kernel_rfl) ?_
      have HBZ := Lib.hid (HB5.out.trans ((Bl.refl w5).drew))
      have HQZ := Lib.hid (HQ.out.keep ((Bl.refl w5).drew))
      clear HB5 HQ
      generalize w5.drew = Z at *
      have z1 : ∀ q : Ext Z, _ := fun q => (HB4.out.trans (HBZ.out.trans q.bl)).cell E1.out
      repeat (refine wpI_step rfl (fun K hK => ?_); go_simp; refine hK _ ?_; clear hK K)
      refine wpI_nil ?_
      clear z1
      refine wpAnyE_one (i := 8) (by kernel_rfl) ?_
      have hb04 := HB4.out
      intro W1 hb1
      · go_simp
        refine (join_any fa va fn vn fc vc floor V.at_ W1 (hf.keep (hb04.trans (HBZ.out.trans hb1))) (HI.out.keep (hb04.trans (HBZ.out.trans hb1)))).mono ?_
        rintro e W2 ⟨v2, rfl, f2, hb2⟩
        obtain ⟨xa, xn, xc, rfl, -⟩ := f2.si
        have I2 := Lib.hid f2.iaE
        have B2 := Lib.hid (hb1.trans hb2)
        have A2 := Lib.hid (HBZ.out.trans B2.out)
        refine ⟨_, rfl, B2.out, ?_⟩
        clear hb1 hb2 f2
        refine wpAnyE_sub (C' := Bl W2) (fun _ h => B2.out.trans h) ?_
        refine wpAnyE_idx (C := Bl W2) (fun _ _ h k => h.trans k) (by kernel_rfl) 4 _ (Bl.refl _) [9] _ _ (by kernel_rfl) ?_
        have R1 := Lib.hid (fun q : Ext W2 => fread_v key _ n ca vs xa xn xc (joinL floor V.at_) q.at X1 hkey (hv.keep (hb04.trans (A2.out.trans q.bl))) (by omega) (I2.out.keep q.bl) HX1)
        refine wpI_step rfl (fun K hK => ?_); go_simp; apply Exists.intro; refine ⟨fun q => ?_, hK _ ?_⟩; (with_reducible exact R1.out q); clear hK K
        refine wpI_nil ?_
        refine wpAnyE_one (i := 18) (by kernel_rfl) ?_
        intro W3 hb3
        go_simp
        refine (join_any fa va fn vn fc vc floor V.at_ W3 (hf.keep (hb04.trans (A2.out.trans hb3))) (HI.out.keep (hb04.trans (A2.out.trans hb3)))).mono ?_
        rintro e W4 ⟨v4, rfl, f4, hb4⟩
        obtain ⟨ya, yn, yc, rfl, -⟩ := f4.si
        have I4 := Lib.hid f4.iaE
        have B4 := Lib.hid (hb3.trans hb4)
        have A4 := Lib.hid (A2.out.trans B4.out)
        refine ⟨_, rfl, B4.out, ?_⟩
        clear hb3 hb4 f4
        refine wpAnyE_sub (C' := Bl W4) (fun _ h => B4.out.trans h) ?_
        refine wpAnyE_idx (C := Bl W4) (fun _ _ h k => h.trans k) (by kernel_rfl) 0 _ (Bl.refl _) [19, 20, 21] _ _ (by kernel_rfl) ?_
        have R2 := Lib.hid (fun q : Ext W4 => fread_v key da dn dc ds ya yn yc (joinL floor V.at_) q.at X2 hkey (HVD4.out.keep (A4.out.trans q.bl)) (by omega) (I4.out.keep q.bl) HX2)
        have R3 := Lib.hid (fun q : Ext W4 => same_v X1 X2 true q.at HS HO1 HO2)
        repeat (refine wpI_step rfl (fun K hK => ?_); go_simp; first | (refine hK _ ?_; clear hK K) | (apply Exists.intro; refine ⟨fun q => ?_, hK _ ?_⟩; (first | with_reducible exact R2.out q | with_reducible exact R3.out q); clear hK K))
        refine wpI_nil ?_
        refine wpAnyE_done (by kernel_rfl) ?_
        intro W5 hb5
        have HB6 := Lib.hid (A4.out.trans hb5)
        have HQ6 := Lib.hid (HQZ.out.keep (B2.out.trans (B4.out.trans hb5)))
        clear hb5 R1 R2 R3 HQZ HBZ B2 A2 B4 A4 I2 I4
        go_wp2_with fail
        go_roundw
        case rel => exact ⟨k + 1, qa, qn, qc, tq, by omega, rfl, HQ6.out, HQL.out, HQQ.out, HB6.out, by go_num⟩
        case measure => simp [intOf]; omega
    · have hkn : k = n := by omega
      subst hkn
      have q8 : decide ((dn : Int) ≤ (k : Int)) = true := decide_eq_true (by omega)
      have q9 : decide (dn ≤ k) = true := decide_eq_true hdn
      obtain ⟨X0, hX⟩ : ∃ X, readL key vs at_ = X := ⟨_, rfl⟩
      obtain ⟨Y0, hY⟩ : ∃ X, readL key ds at_ = X := ⟨_, rfl⟩
      have HS0 := Lib.hid (show sameV X0 Y0 = true by rw [← hX, ← hY]; exact KS.out _ HJl.out HJq.out)
      have HO0 := Lib.hid (show X0.Ok by rw [← hX]; exact KO1.out _)
      have HP0 := Lib.hid (show Y0.Ok by rw [← hY]; exact KO2.out _)
      have HX0 := Lib.hid hX
      have HY0 := Lib.hid hY
      clear hX hY
      obtain ⟨X1, hX⟩ : ∃ X, readL key vs floor = X := ⟨_, rfl⟩
      obtain ⟨Y1, hY⟩ : ∃ X, readL key ds floor = X := ⟨_, rfl⟩
      have HS1 := Lib.hid (show sameV X1 Y1 = true by rw [← hX, ← hY]; exact KS.out _ HFL.out (leq_refl floor))
      have HO1 := Lib.hid (show X1.Ok by rw [← hX]; exact KO1.out _)
      have HP1 := Lib.hid (show Y1.Ok by rw [← hY]; exact KO2.out _)
      have HX1 := Lib.hid hX
      have HY1 := Lib.hid hY
      clear hX hY
      obtain ⟨X2, hX⟩ : ∃ X, readL key vs tp = X := ⟨_, rfl⟩
      obtain ⟨Y2, hY⟩ : ∃ X, readL key ds tp = X := ⟨_, rfl⟩
      have HS2 := Lib.hid (show sameV X2 Y2 = true by rw [← hX, ← hY]; exact KS.out _ HPL.out HPQ.out)
      have HO2 := Lib.hid (show X2.Ok by rw [← hX]; exact KO1.out _)
      have HP2 := Lib.hid (show Y2.Ok by rw [← hY]; exact KO2.out _)
      have HX2 := Lib.hid hX
      have HY2 := Lib.hid hY
      clear hX hY
      go_wp2_with fail
      refine (alive17_any _).mono ?_
      rintro e w5 ⟨rfl, hb5⟩
      have G := Lib.hid (HB.out.trans hb5)
      have GX := Lib.hid hb5
      clear hb5
      go_wp2_with fail
      refine (fread_v key _ _ _ vs ja jn jc at_ _ X0 hkey (hv.keep (HB4.out.trans G.out)) (by omega) (HJ4.out.keep G.out) HX0).mono ?_
      rintro e w6 ⟨rfl, hb6⟩
      have G := Lib.hid (G.out.trans hb6)
      have GX := Lib.hid (GX.out.trans hb6)
      clear hb6
      go_wp2_with fail
      refine (fread_v key _ _ _ ds ja jn jc at_ _ Y0 hkey (HVD4.out.keep G.out) (by omega) (HJ4.out.keep G.out) HY0).mono ?_
      rintro e w6 ⟨rfl, hb6⟩
      have G := Lib.hid (G.out.trans hb6)
      have GX := Lib.hid (GX.out.trans hb6)
      clear hb6
      go_wp2_with fail
      refine (same_v X0 Y0 true _ HS0 HO0 HP0).mono ?_
      rintro e w6 ⟨rfl, hb6⟩
      have G := Lib.hid (G.out.trans hb6)
      have GX := Lib.hid (GX.out.trans hb6)
      clear hb6
      go_wp2_with fail
      refine (fread_v key _ _ _ vs fa fn fc floor _ X1 hkey (hv.keep (HB4.out.trans G.out)) (by omega) (hf.keep (HB4.out.trans G.out)) HX1).mono ?_
      rintro e w6 ⟨rfl, hb6⟩
      have G := Lib.hid (G.out.trans hb6)
      have GX := Lib.hid (GX.out.trans hb6)
      clear hb6
      go_wp2_with fail
      refine (fread_v key _ _ _ ds fa fn fc floor _ Y1 hkey (HVD4.out.keep G.out) (by omega) (hf.keep (HB4.out.trans G.out)) HY1).mono ?_
      rintro e w6 ⟨rfl, hb6⟩
      have G := Lib.hid (G.out.trans hb6)
      have GX := Lib.hid (GX.out.trans hb6)
      clear hb6
      go_wp2_with fail
      refine (same_v X1 Y1 true _ HS1 HO1 HP1).mono ?_
      rintro e w6 ⟨rfl, hb6⟩
      have G := Lib.hid (G.out.trans hb6)
      have GX := Lib.hid (GX.out.trans hb6)
      clear hb6
      go_wp2_with fail
      refine (fread_v key _ _ _ vs pa pn pc tp _ X2 hkey (hv.keep (HB4.out.trans G.out)) (by omega) (HP.out.keep GX.out) HX2).mono ?_
      rintro e w6 ⟨rfl, hb6⟩
      have G := Lib.hid (G.out.trans hb6)
      have GX := Lib.hid (GX.out.trans hb6)
      clear hb6
      go_wp2_with fail
      refine (fread_v key _ _ _ ds pa pn pc tp _ Y2 hkey (HVD4.out.keep G.out) (by omega) (HP.out.keep GX.out) HY2).mono ?_
      rintro e w6 ⟨rfl, hb6⟩
      have G := Lib.hid (G.out.trans hb6)
      have GX := Lib.hid (GX.out.trans hb6)
      clear hb6
      go_wp2_with fail
      refine (same_v X2 Y2 true _ HS2 HO2 HP2).mono ?_
      rintro e w6 ⟨rfl, hb6⟩
      have G := Lib.hid (G.out.trans hb6)
      have GX := Lib.hid (GX.out.trans hb6)
      clear hb6
      go_wp2_with fail
      go_ret
      exact ⟨rfl, HB4.out.trans G.out⟩
end Go.Proofs.Ytdjlnpiaehoofaa
