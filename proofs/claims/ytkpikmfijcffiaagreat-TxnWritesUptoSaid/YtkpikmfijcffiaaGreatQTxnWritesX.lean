import Derived.Test.YtkpikmfijcffiaaGreatQTwo2
import Derived.Test.YtkpikmfijcffiaaGreatQTxnWritesUptoP39
import Derived.Test.YtkpikmfijcffiaaGreatQR21b

/- the walk of TxnWrites. By an AI agent. -/
section
set_option linter.unusedVariables false
set_option linter.unusedSimpArgs false
namespace Go.Proofs.YtkpikmfijcffiaaGreat
open Go.RowKit
attribute [local go_sem] eOp eOper eUpon

theorem refSameVT_any (a : ValL) (w : World) (oa : a.Ok) :
    Calls Tryz.prog 12 #[.agg #[.bool a.there, .float .f64 a.x, .int .i64 a.n, .string a.s], .agg #[.bool a.there, .float .f64 a.x, .int .i64 a.n, .string a.s]] w fun e w' => e = .returned (.bool true) ∧ Bl w w' := by
  have := refSameV_any a a w oa oa
  rw [sameV_refl] at this
  exact this
theorem bookSameWT_any (a : Option Addr) (n ca : Nat) (xs : List (ByteArray × ActL)) (b : Option Addr) (m cb : Nat) (w : World) (hx : WW w a n xs) (hy : WW w b m xs) :
    Calls Tryz.prog 10 #[.slice a n ca, .slice b m cb] w fun e w' => e = .returned (.bool true) ∧ Bl w w' := by
  have := bookSameWs_any a n ca xs b m cb xs w hx hy
  rw [sameWs_refl] at this
  exact this
theorem tpartB_any (key : ByteArray) (parts : Int) (w : World) (hk : key.size ≤ 140737488351232) :
    Calls Tryz.prog 15 #[.string key, .int .i64 parts] w fun e w' => e = .returned (.int .i64 (partL key parts)) ∧ Bl w w' :=
  (tpart_any key parts w hk).mono (by rintro e w' ⟨rfl, rfl⟩; exact ⟨rfl, Bl.refl _⟩)
theorem rpartB_any (key : ByteArray) (parts : Int) (w : World) (hk : key.size ≤ 140737488351232) :
    Calls Tryz.prog 16 #[.string key, .int .i64 parts] w fun e w' => e = .returned (.int .i64 (partL key parts)) ∧ Bl w w' :=
  (rpart_any key parts w hk).mono (by rintro e w' ⟨rfl, rfl⟩; exact ⟨rfl, Bl.refl _⟩)
/-- the boxes of TxnWrites: its act and its value -/
structure TWB (w W : World) (a : ActL) (v : ValL) : Prop where
  bl : Bl w W
  a : AC W w.heap.size [.int .i64 a.k, .float .f64 a.x, .int .i64 a.n, .string a.s]
  v : AC W (w.heap.size + 1) [.bool v.there, .float .f64 v.x, .int .i64 v.n, .string v.s]
theorem TWB.keep {w W W' : World} {a : ActL} {v : ValL} (h : TWB w W a v) (k : Bl W W') : TWB w W' a v := ⟨h.bl.trans k, h.a.keep k, h.v.keep k⟩
theorem TWB.new (w : World) (a : ActL) (v : ValL) (T U : TypeId) : TWB w ((w.alloc (.cells #[.int .i64 a.k, .float .f64 a.x, .int .i64 a.n, .string a.s] T)).alloc (.cells #[.bool v.there, .float .f64 v.x, .int .i64 v.n, .string v.s] U)) a v :=
  ⟨((Bl.refl w).alloc _).alloc _, (AC.new w _ rfl [.int .i64 a.k, .float .f64 a.x, .int .i64 a.n, .string a.s] T).keep ((Bl.refl _).alloc _), AC.new _ (w.heap.size + 1) (by simp) [.bool v.there, .float .f64 v.x, .int .i64 v.n, .string v.s] U⟩
/-- the state of a round: the lent writes, the book -/
structure TWR (w1 W : World) (a : Option Addr) (n : Nat) (ws : List (ByteArray × ActL)) : Prop where
  bl : Bl w1 W
  bq : BQ bkW w1.heap.size W w1.heap.size (fun b => b < w1.heap.size)
theorem TWR.keep {w1 W W' : World} {a : Option Addr} {n : Nat} {ws : List (ByteArray × ActL)} (h : TWR w1 W a n ws) (hb : Bl W W') : TWR w1 W' a n ws := ⟨h.bl.trans hb, h.bq.keep hb⟩
set_option maxHeartbeats 6400000 in
set_option maxRecDepth 100000 in
theorem txnWrites_gen (a : Option Addr) (n c : Nat) (ws : List (ByteArray × ActL)) (key : ByteArray) (x : ActL) (v : ValL) (parts : Int) (w : World) (h : WW w a n ws) (hk : key.size ≤ 140737488351232) (ox : x.Ok) (ov : v.Ok) (hp : -9223372036854775808 ≤ parts ∧ parts ≤ 9223372036854775807) :
    Calls Tryz.prog 3 #[.slice a n c, .string key, .agg #[.int .i64 x.k, .float .f64 x.x, .int .i64 x.n, .string x.s], .agg #[.bool v.there, .float .f64 v.x, .int .i64 v.n, .string v.s], .int .i64 parts] w fun e w' => e = .returned (.bool true) ∧ Bl w w' := by
  have hsf := store_float
  have HW := Lib.hid h
  have HL := Lib.hid h.len
  have hcap := h.cap
  have OX := Lib.hid ox
  have OV := Lib.hid ov
  have hxs := ox.s
  have hvs := ov.s
  have G := TWB.new w x v 25 27
  have HPT := Lib.hid hp
  obtain ⟨ak, ax, an, az⟩ := x
  obtain ⟨vb, vx, vn, vs⟩ := v
  dsimp only at G hxs hvs ⊢
  clear h ox ov hp
  cases hl : lightB ws
  · have HLB := Lib.hid hl
    clear hl
    go_enter Tryz.func3, Tryz.ntmps3
    go_wp2_with fail
    refine (light21_any a n c ws _ (HW.out.keep G.bl)).mono ?_
    rintro e w1 ⟨rfl, hb1⟩
    rw [HLB.out]
    go_wp2_with fail
    refine (alive21_any _).mono ?_
    rintro e w2 ⟨rfl, hb2⟩
    go_wp2_with fail
    go_ret
    exact ⟨rfl, G.bl.trans (hb1.trans hb2)⟩
  have HLB := Lib.hid hl
  have hnl := lightB_len hl
  rw [HL.out] at hnl
  clear hl
  obtain ⟨S, hS⟩ : ∃ S : Nat, key.size + az.size + vs.size = S := ⟨_, rfl⟩
  have s1 : IntKind.i64.wrap ((key.size : Int) + (az.size : Int)) = ((key.size + az.size : Nat) : Int) := by rw [IntKind.wrap_i64]; omega
  have s2 : IntKind.i64.wrap (((key.size + az.size : Nat) : Int) + (vs.size : Int)) = (S : Int) := by rw [IntKind.wrap_i64]; omega
  by_cases hs6 : 9000 < S
  · have d1 : decide ((9000 : Int) < (S : Int)) = true := decide_eq_true (by omega)
    have d2 : decide (9000 < S) = true := decide_eq_true hs6
    go_enter Tryz.func3, Tryz.ntmps3
    go_wp2_with fail
    refine (light21_any a n c ws _ (HW.out.keep G.bl)).mono ?_
    rintro e w1 ⟨rfl, hb1⟩
    rw [HLB.out]
    have G1 := G.keep hb1
    obtain ⟨a0, a1, a2, a3⟩ := G1.a.act
    obtain ⟨v0, v1, v2, v3⟩ := G1.v.val
    go_wp2_with fail
    refine (alive21_any _).mono ?_
    rintro e w2 ⟨rfl, hb2⟩
    go_wp2_with fail
    go_ret
    exact ⟨rfl, G.bl.trans (hb1.trans hb2)⟩
  have d1 : decide ((9000 : Int) < (S : Int)) = false := decide_eq_false (by omega)
  have d2 : decide (9000 < S) = false := decide_eq_false hs6
  have hks : key.size ≤ 140737488351232 := hk
  obtain ⟨CC, hcc⟩ : ∃ CC, addC n key ⟨ak, ax, an, az⟩ = CC := ⟨_, rfl⟩
  have HCC := Lib.hid hcc
  clear hcc
  have hfl := foldW_len ws
  rw [HL.out] at hfl
  have HAL := Lib.hid (addLs_len ws key ⟨ak, ax, an, az⟩)
  have HAO := Lib.hid (addLs_ok (key := key) (x := ⟨ak, ax, an, az⟩) HW.out.ok ⟨hk, OX.out⟩)
  have HFO := Lib.hid (foldW_okW (ws := ws) HW.out.ok)
  go_enter Tryz.func3, Tryz.ntmps3
  go_wp2_with fail
  generalize (w.alloc _).alloc _ = W at *
  have HG := Lib.hid G
  clear G
  refine (light21_any a n c ws _ (HW.out.keep HG.out.bl)).mono ?_
  rintro e w1 ⟨rfl, hb1⟩
  rw [HLB.out]
  have G1 := Lib.hid (HG.out.keep hb1)
  clear hb1 HG
  obtain ⟨a0, a1, a2, a3⟩ := G1.out.a.act
  obtain ⟨v0, v1, v2, v3⟩ := G1.out.v.val
  have HB0 := Lib.hid (fun T => BQ.new (k := bkW) (B := w1.heap.size) (T := fun b => b < w1.heap.size) (Nat.le_refl w1.heap.size) (AC.new w1 _ rfl (hsOf (fun _ => .slice none 0 0) (fun _ => .slice none 0 0)) T) (fun b hb => ⟨by simp; omega, by omega⟩))
  go_wp2_with fail
  clear a0 a1 a2 a3 v0 v1 v2 v3 d1 d2 s1 s2
  have hsz0 : ∀ T, (w1.alloc T).heap.size = w1.heap.size + 1 := fun T => by simp
  go_loopw [12] (fun kv wr => ∃ k : Nat, k ≤ 2 ∧ kv = .int .i64 k ∧ Bl w1 wr ∧ BQ bkW w1.heap.size wr w1.heap.size (fun b => b < w1.heap.size)) (fun kv _ => 2 - (intOf kv).toNat)
  case atStart => exact ⟨0, by omega, rfl, (Bl.refl w1).alloc _, HB0.out _⟩
  case round =>
    obtain ⟨k, hk2, rfl, hb, hbq⟩ := hrel
    have HBL := Lib.hid hb
    have HBQ := Lib.hid hbq
    clear hb hbq HB0 hsz0
    by_cases hlt : k < 2
    · go_wp2_with fail
      refine (lentWrites_any a n c ws _ (HW.out.keep (G1.out.bl.trans HBL.out)) (by omega)).mono ?_
      rintro e w2 ⟨gx, cx, rfl, lx, hb⟩
      have LX := Lib.hid lx
      have B12 := Lib.hid hb
      have hbx := (G1.out.a.keep (HBL.out.trans hb)).act
      obtain ⟨a0, a1, a2, a3⟩ := hbx
      clear lx hb
      go_wp2_with fail
      refine (tadd_any (some ⟨gx, 0, none⟩) n cx ws key ⟨ak, ax, an, az⟩ _ LX.out.ww hk OX.out).mono ?_
      rintro e w3 ⟨m, rfl, hm, hb⟩
      rw [HCC.out]
      have HM := Lib.hid hm
      have B23 := Lib.hid hb
      clear hm hb a0 a1 a2 a3
      have hbx := (G1.out.a.keep (HBL.out.trans (B12.out.trans B23.out))).act
      obtain ⟨a0, a1, a2, a3⟩ := hbx
      go_wp2_with fail
      refine (radd_any a n c ws key ⟨ak, ax, an, az⟩ _ (HW.out.keep (G1.out.bl.trans (HBL.out.trans (B12.out.trans B23.out)))) hk OX.out).mono ?_
      rintro e w4 ⟨nv, rfl, hn, hb⟩
      rw [HCC.out]
      have HN := Lib.hid hn
      have B34 := Lib.hid hb
      clear hn hb a0 a1 a2 a3
      go_wp2_with fail
      refine (tfold_any (some ⟨gx, 0, none⟩) n cx ws _ (LX.out.keep (B23.out.trans B34.out)).ww).mono ?_
      rintro e w5 ⟨ov, rfl, ho, hb⟩
      have HO := Lib.hid ho
      have B45 := Lib.hid hb
      clear ho hb
      have HREF := Lib.hid (fun w hw => rfold_any a n c ws w hw (by omega))
      have HRD := Lib.hid (fun w hw => tread_any (some ⟨gx, 0, none⟩) n cx ws key ⟨vb, vx, vn, vs⟩ w hw hk OV.out)
      have HRR := Lib.hid (fun w hw => rread_any a n c ws key ⟨vb, vx, vn, vs⟩ w hw hk OV.out)
      have HRO := Lib.hid (readW_ok (key := key) OV.out ws (fun p hp => (HW.out.ok p hp).2))
      have HMO := Lib.hid HAO.out
      have HFF := Lib.hid HFO.out
      have hML : (addLs ws key ⟨ak, ax, an, az⟩).length ≤ 1000 := by have := HAL.out; have := HL.out; omega
      generalize hMM : addLs ws key ⟨ak, ax, an, az⟩ = M at *
      generalize hFM : foldW ws = F at *
      generalize hRM : readW key ⟨vb, vx, vn, vs⟩ ws = r at *
      clear hMM hFM hRM
      obtain ⟨ma, mc, rfl⟩ := HM.out.form
      obtain ⟨na, nc, rfl⟩ := HN.out.form
      obtain ⟨oa, oc, rfl⟩ := HO.out.form
      obtain ⟨rb, rx, rn, rs⟩ := r
      dsimp only at HRD HRR
      have HMw := Lib.hid ((HM.out.keep (B34.out.trans (B45.out.drew))).ww (by omega) HMO.out)
      have HNw := Lib.hid ((HN.out.keep (B45.out.drew)).ww (by omega) HMO.out)
      have HOw := Lib.hid ((HO.out.keep ((Bl.refl w5).drew)).ww (by omega) HFF.out)
      have HLX := Lib.hid (LX.out.keep (B23.out.trans (B34.out.trans B45.out.drew)))
      have HWZ := Lib.hid (HW.out.keep (G1.out.bl.trans (HBL.out.trans (B12.out.trans (B23.out.trans (B34.out.trans B45.out.drew))))))
      have HGV := Lib.hid (G1.out.v.keep (HBL.out.trans (B12.out.trans (B23.out.trans (B34.out.trans B45.out.drew)))))
      generalize hml : M.length = ml at *
      generalize hfl2 : F.length = fl at *
      have HML2 := Lib.hid hml
      have HFL2 := Lib.hid hfl2
      clear hml hfl2
      go_upto_region 11 with fail
      refine wp_region_idx [0, 1, 2, 3, 4, 5, 6, 7, 8, 9, 10, 11] 31 (Bl w5.drew) (fun _ _ h k => h.trans k) (Bl.refl _) (by kernel_rfl) rfl (by kernel_rfl) (by kernel_rfl) ?_
      have HBZ := Lib.hid ((Bl.refl w5).drew)
      generalize w5.drew = Z at *
      haveI : Nonempty (ExtC (Bl Z)) := ⟨⟨Z, Bl.refl _⟩⟩
      have HSW := Lib.hid (fun (q : ExtC (Bl Z)) => bookSameWT_any ma ml mc M na ml nc q.at (HMw.out.keep q.ok) (HNw.out.keep q.ok))
      repeat (refine wpI_step rfl (fun K hK => ?_); go_simp; first | (refine hK _ ?_; clear hK K) | (apply Exists.intro; refine ⟨fun q => ?_, hK _ ?_⟩; (with_reducible exact HSW.out q); clear hK K))
      refine wpI_nil ?_
      clear this HSW
      refine wpAnyE_one (i := 12) (by kernel_rfl) ?_
      intro Y1 hy1
      go_simp
      refine (HREF.out Y1 (HWZ.out.keep hy1)).mono ?_
      rintro e Y2 ⟨f, rfl, hf, hb2⟩
      obtain ⟨fa, fc, rfl⟩ := hf.form
      have HF2 := Lib.hid (hf.ww (by omega) HFF.out)
      have HY2 := Lib.hid (hy1.trans hb2)
      clear hy1 hb2 hf
      refine ⟨_, rfl, HY2.out, ?_⟩
      refine wpAnyE_sub (C' := Bl Y2) (fun _ h => HY2.out.trans h) ?_
      refine wpAnyE_idx (C := Bl Y2) (fun _ _ h k => h.trans k) (by kernel_rfl) 0 _ (Bl.refl _) [13, 14, 15, 16, 17, 18, 19, 20, 21, 22, 23, 24, 25, 26, 27, 28, 29, 30, 31, 32, 33, 34, 35, 36, 37, 38, 39, 40, 41, 42] _ _ (by kernel_rfl) ?_
      haveI : Nonempty (ExtC (Bl Y2)) := ⟨⟨Y2, Bl.refl _⟩⟩
      have l0 : ∀ q : ExtC (Bl Y2), _ := fun q => (AC.val (HGV.out.keep (HY2.out.trans q.ok))).1
      have l1 : ∀ q : ExtC (Bl Y2), _ := fun q => (AC.val (HGV.out.keep (HY2.out.trans q.ok))).2.1
      have l2 : ∀ q : ExtC (Bl Y2), _ := fun q => (AC.val (HGV.out.keep (HY2.out.trans q.ok))).2.2.1
      have l3 : ∀ q : ExtC (Bl Y2), _ := fun q => (AC.val (HGV.out.keep (HY2.out.trans q.ok))).2.2.2
      have HSF := Lib.hid (fun (q : ExtC (Bl Y2)) => bookSameWT_any oa fl oc F fa fl fc q.at (HOw.out.keep (HY2.out.trans q.ok)) (HF2.out.keep q.ok))
      have HX := Lib.hid (fun (q : ExtC (Bl Y2)) => HRD.out q.at (HLX.out.keep (HY2.out.trans q.ok)).ww)
      have HU := Lib.hid (fun (q : ExtC (Bl Y2)) => HRR.out q.at (HWZ.out.keep (HY2.out.trans q.ok)))
      have HS := Lib.hid (fun (q : ExtC (Bl Y2)) => refSameVT_any ⟨rb, rx, rn, rs⟩ q.at HRO.out)
      have HP1 := Lib.hid (fun (q : ExtC (Bl Y2)) => tpartB_any key parts q.at hk)
      have HP2 := Lib.hid (fun (q : ExtC (Bl Y2)) => rpartB_any key parts q.at hk)
      have HST := Lib.hid (fun (q : ExtC (Bl Y2)) => staysWrites_any _ gx n cx a c ws q.at (HLX.out.keep (HY2.out.trans q.ok)) (HWZ.out.keep (HY2.out.trans q.ok)))
      generalize partL key parts = pp at *
      repeat (refine wpI_step rfl (fun K hK => ?_); go_simp; first | (refine hK _ ?_; clear hK K) | (apply Exists.intro; refine ⟨fun q => ?_, hK _ ?_⟩; (first | with_reducible exact HSF.out q | with_reducible exact HX.out q | with_reducible exact HU.out q | with_reducible exact HS.out q | with_reducible exact HP1.out q | with_reducible exact HP2.out q | with_reducible exact HST.out q); clear hK K))
      refine wpI_nil ?_
      clear l0 l1 l2 l3 HSF HX HU HS HP1 HP2 HST this
      refine wpAnyE_done (by kernel_rfl) ?_
      intro Y3 hy3
      have hbz : Bl w5 Z := HBZ.out
      have HT := Lib.hid (TwoM.new HBL.out HBQ.out B12.out HM.out B34.out HO.out B23.out B45.out (hbz.trans (HY2.out.trans hy3)))
      clear hy3 HM HN HO HMw HNw HOw HLX HWZ HGV LX B12 B23 B34 B45 HBL HBQ HREF HRD HRR HY2 HF2
      go_wp2_with fail
      refine (two_first w1 _ w1.heap.size _ ml M _ fl F HT.out (by omega) HMO.out).mono ?_
      rintro e Y4 ⟨rfl, h1⟩
      have HT1 := Lib.hid h1
      clear h1 HT
      go_wp2_with fail
      refine (one_last w1 _ w1.heap.size _ fl F HT1.out (by omega) HFF.out).mono ?_
      rintro e Y5 ⟨rfl, h1, h2⟩
      have HE1 := Lib.hid h1
      have HE2 := Lib.hid h2
      clear h1 h2 HT1
      go_wp2_with fail
      go_roundw
      case rel => exact ⟨k + 1, by omega, by go_num, HE1.out, HE2.out⟩
      case measure => simp [intOf]; omega
    · go_wp2_with fail
      refine (alive21_any _).mono ?_
      rintro e w2 ⟨rfl, hb⟩
      have HB := Lib.hid (HBL.out.trans hb)
      have HP := Lib.hid (HBQ.out.keep hb)
      clear hb HBL HBQ
      go_wp2_with fail
      refine (bqW_apart w1.heap.size w1.heap.size _ _ HB.out.size HP.out).mono ?_
      rintro e w3 ⟨rfl, hf⟩
      go_wp2_with fail
      go_ret
      exact ⟨rfl, G1.out.bl.trans (HB.out.fr2 hf (fun b q => q.1))⟩
theorem txnWrites_walk (a : Option Addr) (n c : Nat) (ws : List (ByteArray × ActL)) (key : ByteArray) (x : ActL) (v : ValL) (parts : Int) (w : World) (h : WW w a n ws) (hk : key.size ≤ 1048576) (ox : x.Ok) (ov : v.Ok) (hp : -9223372036854775808 ≤ parts ∧ parts ≤ 9223372036854775807) :
    Calls Tryz.prog 3 #[.slice a n c, .string key, .agg #[.int .i64 x.k, .float .f64 x.x, .int .i64 x.n, .string x.s], .agg #[.bool v.there, .float .f64 v.x, .int .i64 v.n, .string v.s], .int .i64 parts] w fun e w' => e = .returned (.bool true) ∧ Bl w w' :=
  txnWrites_gen a n c ws key x v parts w h (Nat.le_trans hk (by decide)) ox ov hp
end Go.Proofs.YtkpikmfijcffiaaGreat
end
