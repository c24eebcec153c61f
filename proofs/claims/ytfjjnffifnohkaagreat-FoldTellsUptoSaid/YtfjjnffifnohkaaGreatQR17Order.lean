import Derived.Test.YtfjjnffifnohkaaGreatQFoldTellsUptoP15
import Derived.Test.YtfjjnffifnohkaaGreatQFoldTellsUptoP16
import Derived.Test.YtfjjnffifnohkaaGreatQFoldTellsUptoP11

/- bedrockref17.Order (printed by gen/r17order.py). By an AI agent. -/
section
set_option linter.unusedVariables false
set_option linter.unusedSimpArgs false
namespace Go.Proofs.YtfjjnffifnohkaaGreat
open Go.RowKit
attribute [local go_sem] eOp eOper eUpon

/-- a row of versions: its cells -/
structure SL (w : World) (a : Option Addr) (n : Nat) (cs : List Value) (vs : List VerL) : Prop where
  sg : SG w 8 a n cs
  cl : CL w cs vs
theorem SL.keep {w w' : World} {a : Option Addr} {n : Nat} {cs : List Value} {vs : List VerL} (h : SL w a n cs vs) (k : Bl w w') : SL w' a n cs vs := ⟨h.sg.keep k, h.cl.keep k⟩
theorem SL.nil (w : World) (a : Option Addr) : SL w a 0 [] [] := ⟨⟨rfl, fun _ _ j u hu => by simp at hu, fun _ => rfl, by simp⟩, .nil⟩
theorem VA.sl {w : World} {a : Option Addr} {n : Nat} {vs : List VerL} (h : VA w a n vs) : ∃ cs, SL w a n cs vs := by
  obtain ⟨cs, h1, h2⟩ := va_cl h
  exact ⟨cs, h1, h2⟩
theorem va_nil (w : World) : VA w none 0 [] := ⟨rfl, by omega, fun j hj => absurd hj (Nat.not_lt_zero _)⟩
/-- a row being made -/
structure RL (B : Nat) (w : World) (v : Value) (n : Nat) (cs : List Value) (vs : List VerL) : Prop where
  own : w.ownsRow B 59 8 v n cs
  cl : CL w cs vs
  len : vs.length = n
theorem RL.keep {B : Nat} {w w' : World} {v : Value} {n : Nat} {cs : List Value} {vs : List VerL} (h : RL B w v n cs vs) (k : Bl w w') : RL B w' v n cs vs := ⟨ownsRow_bl h.own k, h.cl.keep k, h.len⟩
theorem RL.va {B : Nat} {w : World} {v : Value} {n : Nat} {cs : List Value} {vs us : List VerL} (h : RL B w v n cs vs) (e : vs = us) (hn : n ≤ 140737488351232) : ∃ a ca, v = .slice a n ca ∧ VA w a n us ∧ n ≤ ca ∧ ((a = none ∧ ca = 0) ∨ ∃ b off, a = some ⟨b, off, none⟩) := by
  subst e
  obtain ⟨a, ca, rfl, hv⟩ := va_of h.own h.cl h.len hn
  refine ⟨a, ca, rfl, hv, ?_⟩
  obtain ⟨_, ⟨e, h0⟩ | ⟨g, cap, cur, e, _, _, hc, _⟩⟩ := h.own
  · simp only [Value.slice.injEq] at e
    obtain ⟨rfl, _, rfl⟩ := e
    exact ⟨by omega, .inl ⟨rfl, rfl⟩⟩
  · simp only [Value.slice.injEq] at e
    obtain ⟨rfl, _, rfl⟩ := e
    exact ⟨hc, .inr ⟨_, _, rfl⟩⟩
set_option maxHeartbeats 12800000 in
set_option maxRecDepth 100000 in
theorem rorder17_any (a : Option Addr) (n ca : Nat) (vs : List VerL) (w : World) (hv : VA w a n vs) (hn : n ≤ 1000) :
    Calls Tryz.prog 11 #[.slice a n ca] w fun e w' => ∃ a' m ca', e = .returned (.slice a' m ca') ∧ VA w' a' m (orderOf vs) ∧ m ≤ n ∧ Bl w w' := by
  have hsf := store_float
  have HV := Lib.hid hv
  have hcap := hv.cap
  have HL := Lib.hid hv.len
  clear hv
  rw [order_fold]
  go_enter Tryz.func11, Tryz.ntmps11
  go_wp2_with fail
  go_loopw [3, 4, 5] (fun ov iv kv wr => ∃ (i on oc : Nat) (oa : Option Addr) (os : List VerL), i ≤ n ∧ iv = .int .i64 (i : Int) ∧ ov = .slice oa on oc ∧ VA wr oa on os ∧ os = (vs.take i).foldl insV [] ∧ on ≤ oc ∧ on ≤ i ∧ ((oa = none ∧ oc = 0) ∨ ∃ b off, oa = some ⟨b, off, none⟩) ∧ Bl w wr) (fun _ iv _ _ => n - (intOf iv).toNat)
  case atStart => exact ⟨0, 0, 0, none, [], Nat.zero_le _, by go_num, rfl, va_nil _, by rw [List.take_zero]; rfl, Nat.le_refl _, Nat.le_refl _, .inl ⟨rfl, rfl⟩, Bl.refl _⟩
  case round =>
    obtain ⟨i, on, oc, oa, os, hi, rfl, rfl, hvo, hos, hoc, hon, hsh, hb⟩ := hrel
    obtain ⟨wo, rfl⟩ : ∃ x, x = wr := ⟨_, rfl⟩
    have HVO := Lib.hid hvo
    have HOS := Lib.hid hos
    have HSH := Lib.hid hsh
    have HBR := Lib.hid hb
    have HOL := Lib.hid hvo.len
    have hocap := hvo.cap
    clear hvo hos hsh hb
    by_cases hlt : i < n
    case neg =>
      obtain rfl : i = n := by omega
      have HE := Lib.hid (show os = vs.foldl insV [] by rw [HOS.out, List.take_of_length_le (by rw [HL.out]; exact Nat.le_refl _)])
      go_wp2_with fail
      go_ret
      exact ⟨oa, on, oc, rfl, HE.out ▸ HVO.out, by omega, HBR.out⟩
    obtain ⟨b, off, rfl, hc⟩ := HV.out.cells i hlt
    have EV0 := (hc i hlt).keep HBR.out
    clear hc
    obtain ⟨V, hV⟩ : ∃ V, nthR vs i = V := ⟨_, rfl⟩
    rw [hV] at EV0
    have HTK := Lib.hid (show (vs.take (i + 1)).foldl insV [] = insV os V by rw [take_nthR (by rw [HL.out]; exact hlt), List.foldl_append, ← HOS.out, hV]; rfl)
    clear hV
    obtain ⟨va, vn, vc, ev1, evi⟩ := EV0.at_
    have HV1 := Lib.hid ev1
    have HIV := Lib.hid evi
    have HEV := Lib.hid EV0
    have HOK := Lib.hid EV0.ok
    clear ev1 evi EV0
    go_wp2_with fail
    go_loopw [5] (fun kv wq => ∃ k : Nat, k ≤ on ∧ kv = .int .i64 (k : Int) ∧ Bl wo wq ∧ ∀ q, q < k → ltB V (nthR os q) = true) (fun kv _ => on - (intOf kv).toNat)
    case atStart => exact ⟨0, Nat.zero_le _, by go_num, Bl.refl _, fun q hq => absurd hq (Nat.not_lt_zero _)⟩
    case round =>
      obtain ⟨k, hk, rfl, hbq, hkb⟩ := hrel
      have HKB := Lib.hid hkb
      have HWQ := Lib.hid hbq
      clear hkb hbq
      by_cases hlt2 : k < on
      · obtain ⟨b2, off2, rfl, hc⟩ := HVO.out.cells k hlt2
        have EU0 := hc k hlt2
        clear hc
        obtain ⟨U, hU⟩ : ∃ U, nthR os k = U := ⟨_, rfl⟩
        rw [hU] at EU0
        have HU := Lib.hid hU
        clear hU
        obtain ⟨ua, un, uc, eu1, eui⟩ := EU0.at_
        have HU1 := Lib.hid eu1
        have HIU := Lib.hid eui
        have HEU := Lib.hid EU0
        clear eu1 eui EU0
        obtain ⟨rr, hrr⟩ : ∃ r, ltB V U = r := ⟨_, rfl⟩
        have HRR : Hid (decide (orderL U V < 0) = rr) := Lib.hid hrr
        clear hrr
        go_upto_region 6 with fail
        refine wp_region_allS (by kernel_rfl) (by kernel_rfl) ?_
        have HWZ := Lib.hid (HWQ.out.trans ((Bl.refl wr).drew))
        generalize World.drew wr = Z at *
        obtain ⟨p0, p1, p2, p3, p4, p5, p6, p7⟩ := (HEU.out.keep HWZ.out).all (HWZ.out.cell HU1.out)
        obtain ⟨t0, t1, t2, t3, t4, t5, t6, t7⟩ := (HEV.out.keep HWZ.out).all (HWZ.out.cell HV1.out)
        have H1 := Lib.hid (fun q : Ext Z => later_any U V ua va un vn uc vc rr q.at (HIU.out.keep (HWZ.out.trans q.bl)) (HIV.out.keep (HWZ.out.trans q.bl)) HRR)
        repeat (refine wpS_step (fun K hK => ?_); go_simp; first | (refine hK _ ?_; clear hK K) | (apply Exists.intro; refine ⟨fun q => ?_, hK _ ?_⟩; (with_reducible exact H1.out q); clear hK K))
        refine wpS_nil ?_
        intro q1
        have HW8 := Lib.hid (HWZ.out.trans q1.bl)
        clear p0 p1 p2 p3 p4 p5 p6 p7 t0 t1 t2 t3 t4 t5 t6 t7 H1 HWZ
        generalize ExtC.at q1 = W8 at *
        cases rr
        case true =>
          have HK2 : Hid (∀ q, q < k + 1 → ltB V (nthR os q) = true) := Lib.hid (fun q hq => by
            rcases Nat.lt_succ_iff_lt_or_eq.1 hq with h | rfl
            · exact HKB.out q h
            · rw [HU.out]; exact HRR.out)
          go_wp2_with fail
          go_roundw
          case rel => exact ⟨k + 1, by omega, by go_num, HW8.out, HK2.out⟩
          case measure => simp [intOf]; omega
        case false =>
        have HLT : Hid (ltB V U = false) := Lib.hid HRR.out
        clear HRR
        obtain ⟨r2, hr2⟩ : ∃ r, eqV U V = r := ⟨_, rfl⟩
        have HRR := Lib.hid hr2
        clear hr2
        go_upto_region 8 with fail
        refine wp_region_allS (by kernel_rfl) (by kernel_rfl) ?_
        have HWZ := Lib.hid (HW8.out.trans ((Bl.refl W8).drew))
        generalize World.drew W8 = Z at *
        obtain ⟨p0, p1, p2, p3, p4, p5, p6, p7⟩ := (HEU.out.keep HWZ.out).all (HWZ.out.cell HU1.out)
        obtain ⟨t0, t1, t2, t3, t4, t5, t6, t7⟩ := (HEV.out.keep HWZ.out).all (HWZ.out.cell HV1.out)
        have H1 := Lib.hid (fun q : Ext Z => alike_any U V ua va un vn uc vc r2 q.at (HIU.out.keep (HWZ.out.trans q.bl)) (HIV.out.keep (HWZ.out.trans q.bl)) HRR)
        repeat (refine wpS_step (fun K hK => ?_); go_simp; first | (refine hK _ ?_; clear hK K) | (apply Exists.intro; refine ⟨fun q => ?_, hK _ ?_⟩; (with_reducible exact H1.out q); clear hK K))
        refine wpS_nil ?_
        intro q1
        have HW9 := Lib.hid (HWZ.out.trans q1.bl)
        clear p0 p1 p2 p3 p4 p5 p6 p7 t0 t1 t2 t3 t4 t5 t6 t7 H1 HWZ
        generalize ExtC.at q1 = W9 at *
        cases r2
        case true =>
          have HIN := Lib.hid (show insV os V = os from insV_same (k := k) (by rw [HOL.out]; exact hlt2) HKB.out (by rw [HU.out]; exact HLT.out) (by rw [HU.out]; exact HRR.out))
          have HBW := Lib.hid (HBR.out.trans HW9.out)
          go_wp2_with fail
          go_roundw
          case rel => exact ⟨i + 1, on, oc, _, os, by omega, by go_num, rfl, HVO.out.keep HW9.out, by rw [HTK.out, HIN.out], hoc, by omega, HSH.out, HBW.out⟩
          case measure => simp [intOf]; omega
        case false =>
        have HAL : Hid (eqV (nthR os k) V = false) := Lib.hid (by rw [HU.out]; exact HRR.out)
        clear HRR
        have HRR : Hid (ltB V (nthR os k) = false) := Lib.hid (by rw [HU.out]; exact HLT.out)
        clear HLT HU HU1 HIU HEU HSH
        have HINS := Lib.hid (insV_new (os := os) (v := V) (k := k) (by rw [HOL.out]; omega) HKB.out (fun _ => ⟨HRR.out, HAL.out⟩))
        go_upto_region 9 with fail
        refine wp_region_idx [0, 1, 2, 4, 5, 6, 7, 10, 11, 12] 5 (Bl (World.drew W9)) (fun _ _ h k => h.trans k) (Bl.refl _) (by kernel_rfl) rfl (by kernel_rfl) (by kernel_rfl) ?_
        have HRZ := Lib.hid (HW9.out.trans ((Bl.refl W9).drew))
        generalize World.drew W9 = Z at *
        have HBZ := Lib.hid (HBR.out.trans HRZ.out)
        have HIVZ := Lib.hid (HIV.out.keep HRZ.out)
        haveI : Nonempty (ExtC (Bl Z)) := ⟨⟨Z, Bl.refl _⟩⟩
        obtain ⟨t0, t1, t2, t3, t4, t5, t6, t7⟩ := (HEV.out.keep HRZ.out).all (HRZ.out.cell HV1.out)
        have f1 : (0 : Int) ≤ (k : Int) := by omega
        have f2 : (k : Int) ≤ (on : Int) := by omega
        have f3 : (k : Int) ≤ (oc : Int) := by omega
        have f4 : k ≤ on := by omega
        have f5 : k ≤ oc := by omega
        have f6 : (oc = k) = False := by simp; omega
        repeat (refine wpI_step rfl (fun K hK => ?_); go_simp; refine hK _ ?_; clear hK K)
        refine wpI_nil ?_
        clear t0 t1 t2 t3 t4 t5 t6 t7 this f1 f2 f3 f6
        obtain ⟨cA, hSA⟩ := ((HVO.out.keep HRZ.out).takek k (by omega)).sl
        obtain ⟨cB, hSB⟩ := ((HVO.out.keep HRZ.out).dropk k (by omega)).sl
        have HNA := Lib.hid (show (os.take k).length = k by rw [List.length_take, HOL.out]; omega)
        have HNB := Lib.hid (show (os.drop k).length = on - k by rw [List.length_drop, HOL.out])
        have HSA := Lib.hid hSA
        have HSB := Lib.hid hSB
        clear hSA hSB
        have HLIT := Lib.hid (fun X : World => heap_alloc_new X (.cells #[.string V.key, .slice va vn vc, .int .i64 V.origin, .int .i64 V.tx, .int .i64 V.act.k, .float .f64 V.act.x, .int .i64 V.act.n, .string V.act.s] 59))
        refine wpAnyE_all (rs := [3, 8]) (by kernel_rfl) (by decide) ?_
        intro i0 hi Y1 hy1
        simp only [List.mem_cons, List.not_mem_nil, or_false] at hi
        rcases hi with rfl | rfl
        · refine eOp_appG (i := 3) rfl rfl _ _ _ rfl el_ver Z.heap.size (.slice none 0 0) 0 [] rfl (World.ownsRow_nil _ _ _ _) hy1.size (some ⟨b2, off2, none⟩) k oc cA rfl (HSA.out.sg.keep hy1) (by unfold maxLen; omega) (by omega) ?_
          intro v1 Y2 ho1 hg1
          have HB2 := Lib.hid (Bl.ownRow hy1 (World.ownsRow_nil _ _ 59 8) (Nat.le_refl _) hg1)
          have HR2 : Hid (RL Z.heap.size Y2 v1 k cA (os.take k)) := Lib.hid ⟨by simpa using ho1, HSA.out.cl.keep HB2.out, HNA.out⟩
          clear ho1 hg1 hy1
          refine ⟨HB2.out, ?_⟩
          simp only [Act.put, List.setIfInBounds_toArray]
          refine wpAnyE_one (i := 8) (by kernel_rfl) ?_
          intro Y3 hy3
          go_simp
          have hbl := (Bl.refl Y3).alloc (.cells #[.string V.key, .slice va vn vc, .int .i64 V.origin, .int .i64 V.tx, .int .i64 V.act.k, .float .f64 V.act.x, .int .i64 V.act.n, .string V.act.s] 59)
          have HS4 := Lib.hid (SG.lit (size := 8) (HLIT.out Y3) rfl (by simp [Value.oneCell']))
          have HB4 := Lib.hid (HB2.out.trans (hy3.trans hbl))
          have HR4 := Lib.hid (HR2.out.keep (hy3.trans hbl))
          clear hy3 hbl HR2 HB2
          generalize Y3.alloc _ = Y4 at *
          generalize Y3.heap.size = gl at *
          refine ⟨HB4.out, ?_⟩
          refine wpAnyE_one (i := 9) (by kernel_rfl) ?_
          intro Y5 hy5
          have HB5 := Lib.hid (HB4.out.trans hy5)
          have HR5 := Lib.hid (HR4.out.keep hy5)
          have HS5 := Lib.hid (HS4.out.keep hy5)
          clear hy5 HB4 HR4 HS4
          refine eOp_appG (i := 9) rfl rfl _ _ _ rfl el_ver Z.heap.size v1 k cA rfl HR5.out.own HB5.out.size (some ⟨gl, 0, none⟩) 1 1 [.string V.key, .slice va vn vc, .int .i64 V.origin, .int .i64 V.tx, .int .i64 V.act.k, .float .f64 V.act.x, .int .i64 V.act.n, .string V.act.s] rfl HS5.out (by unfold maxLen; omega) (by omega) ?_
          intro v2 Y6 ho2 hg2
          have HB6 := Lib.hid (Bl.ownRow HB5.out HR5.out.own (Nat.le_refl _) hg2)
          have HR6 : Hid (RL Z.heap.size Y6 v2 (k + 1) (cA ++ [.string V.key, .slice va vn vc, .int .i64 V.origin, .int .i64 V.tx, .int .i64 V.act.k, .float .f64 V.act.x, .int .i64 V.act.n, .string V.act.s]) (os.take k ++ [V])) := Lib.hid ⟨ho2, (HSA.out.cl.keep HB6.out).append (CL.single ⟨va, vn, vc, rfl, HIVZ.out.keep HB6.out, HOK.out⟩), by rw [List.length_append, HNA.out]; rfl⟩
          clear ho2 hg2 HB5 HR5 HS5
          refine ⟨HB6.out, ?_⟩
          simp only [Act.put, List.setIfInBounds_toArray]
          refine wpAnyE_one (i := 13) (by kernel_rfl) ?_
          intro Y7 hy7
          have HB7 := Lib.hid (HB6.out.trans hy7)
          have HR7 := Lib.hid (HR6.out.keep hy7)
          clear hy7 HB6 HR6
          refine eOp_appG (i := 13) rfl rfl _ _ _ rfl el_ver Z.heap.size v2 (k + 1) _ rfl HR7.out.own HB7.out.size (some ⟨b2, off2 + k * 8, none⟩) (on - k) (oc - k) cB rfl (HSB.out.sg.keep HB7.out) (by unfold maxLen; omega) (by omega) ?_
          intro v3 Y8 ho3 hg3
          have HB8 := Lib.hid (Bl.ownRow HB7.out HR7.out.own (Nat.le_refl _) hg3)
          have HR8 : Hid (RL Z.heap.size Y8 v3 (k + 1 + (on - k)) (cA ++ [.string V.key, .slice va vn vc, .int .i64 V.origin, .int .i64 V.tx, .int .i64 V.act.k, .float .f64 V.act.x, .int .i64 V.act.n, .string V.act.s] ++ cB) (os.take k ++ [V] ++ os.drop k)) := Lib.hid ⟨ho3, ((HSA.out.cl.keep HB8.out).append (CL.single ⟨va, vn, vc, rfl, HIVZ.out.keep HB8.out, HOK.out⟩)).append (HSB.out.cl.keep HB8.out), by rw [List.length_append, List.length_append, HNA.out, HNB.out]; rfl⟩
          clear ho3 hg3 HB7 HR7
          obtain ⟨na, nc, rfl, hvn, hnc, hsn⟩ := HR8.out.va (us := insV os V) (by rw [HINS.out]; simp) (by omega)
          have HVN := Lib.hid hvn
          have HNC := Lib.hid hnc
          have HSN := Lib.hid hsn
          clear hvn hnc hsn HR8
          refine ⟨HB8.out, ?_⟩
          simp only [Act.put, List.setIfInBounds_toArray]
          refine wpAnyE_one (i := 14) (by kernel_rfl) ?_
          intro Y9 hy9
          have HB9 := Lib.hid (HB8.out.trans hy9)
          have HV9 := Lib.hid (HVN.out.keep hy9)
          clear hy9 HB8 HVN
          go_simp
          refine ⟨HB9.out, ?_⟩
          refine wpAnyE_done (by kernel_rfl) ?_
          intro Y10 hy10
          have HB10 := Lib.hid (HBZ.out.trans (HB9.out.trans hy10))
          have HV10 := Lib.hid (HV9.out.keep hy10)
          clear hy10 HB9 HV9 HSA HSB
          go_wp2_with fail
          go_roundw
          case rel => exact ⟨i + 1, _, nc, na, insV os V, by omega, by go_num, rfl, HV10.out, by rw [HTK.out, HOS.out], HNC.out, by omega, HSN.out, HB10.out⟩
          case measure => simp [intOf]; omega
        · go_simp
          have hbl := (Bl.refl Y1).alloc (.cells #[.string V.key, .slice va vn vc, .int .i64 V.origin, .int .i64 V.tx, .int .i64 V.act.k, .float .f64 V.act.x, .int .i64 V.act.n, .string V.act.s] 59)
          have HS2 := Lib.hid (SG.lit (size := 8) (HLIT.out Y1) rfl (by simp [Value.oneCell']))
          have HB2 := Lib.hid (hy1.trans hbl)
          clear hy1 hbl
          generalize Y1.alloc _ = Y2 at *
          generalize Y1.heap.size = gl at *
          refine ⟨HB2.out, ?_⟩
          refine wpAnyE_one (i := 3) (by kernel_rfl) ?_
          intro Y3 hy3
          have HB3 := Lib.hid (HB2.out.trans hy3)
          have HS3 := Lib.hid (HS2.out.keep hy3)
          clear hy3 HB2 HS2
          refine eOp_appG (i := 3) rfl rfl _ _ _ rfl el_ver Z.heap.size (.slice none 0 0) 0 [] rfl (World.ownsRow_nil _ _ _ _) HB3.out.size (some ⟨b2, off2, none⟩) k oc cA rfl (HSA.out.sg.keep HB3.out) (by unfold maxLen; omega) (by omega) ?_
          intro v1 Y4 ho1 hg1
          have HB4 := Lib.hid (Bl.ownRow HB3.out (World.ownsRow_nil _ _ 59 8) (Nat.le_refl _) hg1)
          have HR4 : Hid (RL Z.heap.size Y4 v1 k cA (os.take k)) := Lib.hid ⟨by simpa using ho1, HSA.out.cl.keep HB4.out, HNA.out⟩
          have HS4 := Lib.hid (HS3.out.keep (Bl.ownRow (Bl.refl Y3) (World.ownsRow_nil _ _ 59 8) (Nat.le_refl _) hg1))
          clear ho1 hg1 HB3 HS3
          refine ⟨HB4.out, ?_⟩
          simp only [Act.put, List.setIfInBounds_toArray]
          refine wpAnyE_one (i := 9) (by kernel_rfl) ?_
          intro Y5 hy5
          have HB5 := Lib.hid (HB4.out.trans hy5)
          have HR5 := Lib.hid (HR4.out.keep hy5)
          have HS5 := Lib.hid (HS4.out.keep hy5)
          clear hy5 HB4 HR4 HS4
          refine eOp_appG (i := 9) rfl rfl _ _ _ rfl el_ver Z.heap.size v1 k cA rfl HR5.out.own HB5.out.size (some ⟨gl, 0, none⟩) 1 1 [.string V.key, .slice va vn vc, .int .i64 V.origin, .int .i64 V.tx, .int .i64 V.act.k, .float .f64 V.act.x, .int .i64 V.act.n, .string V.act.s] rfl HS5.out (by unfold maxLen; omega) (by omega) ?_
          intro v2 Y6 ho2 hg2
          have HB6 := Lib.hid (Bl.ownRow HB5.out HR5.out.own (Nat.le_refl _) hg2)
          have HR6 : Hid (RL Z.heap.size Y6 v2 (k + 1) (cA ++ [.string V.key, .slice va vn vc, .int .i64 V.origin, .int .i64 V.tx, .int .i64 V.act.k, .float .f64 V.act.x, .int .i64 V.act.n, .string V.act.s]) (os.take k ++ [V])) := Lib.hid ⟨ho2, (HSA.out.cl.keep HB6.out).append (CL.single ⟨va, vn, vc, rfl, HIVZ.out.keep HB6.out, HOK.out⟩), by rw [List.length_append, HNA.out]; rfl⟩
          clear ho2 hg2 HB5 HR5 HS5
          refine ⟨HB6.out, ?_⟩
          simp only [Act.put, List.setIfInBounds_toArray]
          refine wpAnyE_one (i := 13) (by kernel_rfl) ?_
          intro Y7 hy7
          have HB7 := Lib.hid (HB6.out.trans hy7)
          have HR7 := Lib.hid (HR6.out.keep hy7)
          clear hy7 HB6 HR6
          refine eOp_appG (i := 13) rfl rfl _ _ _ rfl el_ver Z.heap.size v2 (k + 1) _ rfl HR7.out.own HB7.out.size (some ⟨b2, off2 + k * 8, none⟩) (on - k) (oc - k) cB rfl (HSB.out.sg.keep HB7.out) (by unfold maxLen; omega) (by omega) ?_
          intro v3 Y8 ho3 hg3
          have HB8 := Lib.hid (Bl.ownRow HB7.out HR7.out.own (Nat.le_refl _) hg3)
          have HR8 : Hid (RL Z.heap.size Y8 v3 (k + 1 + (on - k)) (cA ++ [.string V.key, .slice va vn vc, .int .i64 V.origin, .int .i64 V.tx, .int .i64 V.act.k, .float .f64 V.act.x, .int .i64 V.act.n, .string V.act.s] ++ cB) (os.take k ++ [V] ++ os.drop k)) := Lib.hid ⟨ho3, ((HSA.out.cl.keep HB8.out).append (CL.single ⟨va, vn, vc, rfl, HIVZ.out.keep HB8.out, HOK.out⟩)).append (HSB.out.cl.keep HB8.out), by rw [List.length_append, List.length_append, HNA.out, HNB.out]; rfl⟩
          clear ho3 hg3 HB7 HR7
          obtain ⟨na, nc, rfl, hvn, hnc, hsn⟩ := HR8.out.va (us := insV os V) (by rw [HINS.out]; simp) (by omega)
          have HVN := Lib.hid hvn
          have HNC := Lib.hid hnc
          have HSN := Lib.hid hsn
          clear hvn hnc hsn HR8
          refine ⟨HB8.out, ?_⟩
          simp only [Act.put, List.setIfInBounds_toArray]
          refine wpAnyE_one (i := 14) (by kernel_rfl) ?_
          intro Y9 hy9
          have HB9 := Lib.hid (HB8.out.trans hy9)
          have HV9 := Lib.hid (HVN.out.keep hy9)
          clear hy9 HB8 HVN
          go_simp
          refine ⟨HB9.out, ?_⟩
          refine wpAnyE_done (by kernel_rfl) ?_
          intro Y10 hy10
          have HB10 := Lib.hid (HBZ.out.trans (HB9.out.trans hy10))
          have HV10 := Lib.hid (HV9.out.keep hy10)
          clear hy10 HB9 HV9 HSA HSB
          go_wp2_with fail
          go_roundw
          case rel => exact ⟨i + 1, _, nc, na, insV os V, by omega, by go_num, rfl, HV10.out, by rw [HTK.out, HOS.out], HNC.out, by omega, HSN.out, HB10.out⟩
          case measure => simp [intOf]; omega
      · obtain rfl : k = on := by omega
        go_upto_region 6 with fail
        refine wp_region_allS (by kernel_rfl) (by kernel_rfl) ?_
        have HWZ := Lib.hid (HWQ.out.trans ((Bl.refl wr).drew))
        generalize World.drew wr = Z at *
        repeat (refine wpS_step (fun K hK => ?_); go_simp; refine hK _ ?_; clear hK K)
        refine wpS_nil ?_
        intro q1
        have HW8 := Lib.hid (HWZ.out.trans q1.bl)
        clear HWZ
        generalize ExtC.at q1 = W8 at *
        go_upto_region 8 with fail
        refine wp_region_allS (by kernel_rfl) (by kernel_rfl) ?_
        have HWZ := Lib.hid (HW8.out.trans ((Bl.refl W8).drew))
        generalize World.drew W8 = Z at *
        repeat (refine wpS_step (fun K hK => ?_); go_simp; refine hK _ ?_; clear hK K)
        refine wpS_nil ?_
        intro q1
        have HW9 := Lib.hid (HWZ.out.trans q1.bl)
        clear HWZ
        generalize ExtC.at q1 = W9 at *
        rcases HSH.out with ⟨rfl, rfl⟩ | ⟨b2, off2, rfl⟩
        · obtain rfl : k = 0 := by omega
          clear HSH
          have HINS := Lib.hid (insV_new (os := os) (v := V) (k := 0) (by rw [HOL.out]; omega) HKB.out (fun h => absurd h (by rw [HOL.out]; omega)))
          go_upto_region 9 with fail
          refine wp_region_idx [0, 1, 2, 4, 5, 6, 7, 10, 11, 12] 5 (Bl (World.drew W9)) (fun _ _ h k => h.trans k) (Bl.refl _) (by kernel_rfl) rfl (by kernel_rfl) (by kernel_rfl) ?_
          have HRZ := Lib.hid (HW9.out.trans ((Bl.refl W9).drew))
          generalize World.drew W9 = Z at *
          have HBZ := Lib.hid (HBR.out.trans HRZ.out)
          have HIVZ := Lib.hid (HIV.out.keep HRZ.out)
          haveI : Nonempty (ExtC (Bl Z)) := ⟨⟨Z, Bl.refl _⟩⟩
          obtain ⟨t0, t1, t2, t3, t4, t5, t6, t7⟩ := (HEV.out.keep HRZ.out).all (HRZ.out.cell HV1.out)
          repeat (refine wpI_step rfl (fun K hK => ?_); go_simp; refine hK _ ?_; clear hK K)
          refine wpI_nil ?_
          clear t0 t1 t2 t3 t4 t5 t6 t7 this 
          obtain ⟨cA, hcA⟩ : ∃ cA : List Value, cA = [] := ⟨_, rfl⟩
          obtain ⟨cB, hcB⟩ : ∃ cB : List Value, cB = [] := ⟨_, rfl⟩
          have hSA : SL Z none 0 cA (os.take 0) := by rw [hcA, List.take_zero]; exact SL.nil _ _
          have hSB : SL Z none 0 cB (os.drop 0) := by rw [hcB, List.drop_eq_nil_of_le (by rw [HOL.out]; omega)]; exact SL.nil _ _
          have HNA := Lib.hid (show (os.take 0).length = 0 by simp)
          have HNB := Lib.hid (show (os.drop 0).length = 0 by rw [List.length_drop, HOL.out])
          have HSA := Lib.hid hSA
          have HSB := Lib.hid hSB
          clear hSA hSB hcA hcB
          have HLIT := Lib.hid (fun X : World => heap_alloc_new X (.cells #[.string V.key, .slice va vn vc, .int .i64 V.origin, .int .i64 V.tx, .int .i64 V.act.k, .float .f64 V.act.x, .int .i64 V.act.n, .string V.act.s] 59))
          refine wpAnyE_all (rs := [3, 8]) (by kernel_rfl) (by decide) ?_
          intro i0 hi Y1 hy1
          simp only [List.mem_cons, List.not_mem_nil, or_false] at hi
          rcases hi with rfl | rfl
          · refine eOp_appG (i := 3) rfl rfl _ _ _ rfl el_ver Z.heap.size (.slice none 0 0) 0 [] rfl (World.ownsRow_nil _ _ _ _) hy1.size none 0 0 cA rfl (HSA.out.sg.keep hy1) (by unfold maxLen; omega) (by omega) ?_
            intro v1 Y2 ho1 hg1
            have HB2 := Lib.hid (Bl.ownRow hy1 (World.ownsRow_nil _ _ 59 8) (Nat.le_refl _) hg1)
            have HR2 : Hid (RL Z.heap.size Y2 v1 0 cA (os.take 0)) := Lib.hid ⟨by simpa using ho1, HSA.out.cl.keep HB2.out, HNA.out⟩
            clear ho1 hg1 hy1
            refine ⟨HB2.out, ?_⟩
            simp only [Act.put, List.setIfInBounds_toArray]
            refine wpAnyE_one (i := 8) (by kernel_rfl) ?_
            intro Y3 hy3
            go_simp
            have hbl := (Bl.refl Y3).alloc (.cells #[.string V.key, .slice va vn vc, .int .i64 V.origin, .int .i64 V.tx, .int .i64 V.act.k, .float .f64 V.act.x, .int .i64 V.act.n, .string V.act.s] 59)
            have HS4 := Lib.hid (SG.lit (size := 8) (HLIT.out Y3) rfl (by simp [Value.oneCell']))
            have HB4 := Lib.hid (HB2.out.trans (hy3.trans hbl))
            have HR4 := Lib.hid (HR2.out.keep (hy3.trans hbl))
            clear hy3 hbl HR2 HB2
            generalize Y3.alloc _ = Y4 at *
            generalize Y3.heap.size = gl at *
            refine ⟨HB4.out, ?_⟩
            refine wpAnyE_one (i := 9) (by kernel_rfl) ?_
            intro Y5 hy5
            have HB5 := Lib.hid (HB4.out.trans hy5)
            have HR5 := Lib.hid (HR4.out.keep hy5)
            have HS5 := Lib.hid (HS4.out.keep hy5)
            clear hy5 HB4 HR4 HS4
            refine eOp_appG (i := 9) rfl rfl _ _ _ rfl el_ver Z.heap.size v1 0 cA rfl HR5.out.own HB5.out.size (some ⟨gl, 0, none⟩) 1 1 [.string V.key, .slice va vn vc, .int .i64 V.origin, .int .i64 V.tx, .int .i64 V.act.k, .float .f64 V.act.x, .int .i64 V.act.n, .string V.act.s] rfl HS5.out (by unfold maxLen; omega) (by omega) ?_
            intro v2 Y6 ho2 hg2
            have HB6 := Lib.hid (Bl.ownRow HB5.out HR5.out.own (Nat.le_refl _) hg2)
            have HR6 : Hid (RL Z.heap.size Y6 v2 (0 + 1) (cA ++ [.string V.key, .slice va vn vc, .int .i64 V.origin, .int .i64 V.tx, .int .i64 V.act.k, .float .f64 V.act.x, .int .i64 V.act.n, .string V.act.s]) (os.take 0 ++ [V])) := Lib.hid ⟨ho2, (HSA.out.cl.keep HB6.out).append (CL.single ⟨va, vn, vc, rfl, HIVZ.out.keep HB6.out, HOK.out⟩), by rw [List.length_append, HNA.out]; rfl⟩
            clear ho2 hg2 HB5 HR5 HS5
            refine ⟨HB6.out, ?_⟩
            simp only [Act.put, List.setIfInBounds_toArray]
            refine wpAnyE_one (i := 13) (by kernel_rfl) ?_
            intro Y7 hy7
            have HB7 := Lib.hid (HB6.out.trans hy7)
            have HR7 := Lib.hid (HR6.out.keep hy7)
            clear hy7 HB6 HR6
            refine eOp_appG (i := 13) rfl rfl _ _ _ rfl el_ver Z.heap.size v2 (0 + 1) _ rfl HR7.out.own HB7.out.size none 0 0 cB rfl (HSB.out.sg.keep HB7.out) (by unfold maxLen; omega) (by omega) ?_
            intro v3 Y8 ho3 hg3
            have HB8 := Lib.hid (Bl.ownRow HB7.out HR7.out.own (Nat.le_refl _) hg3)
            have HR8 : Hid (RL Z.heap.size Y8 v3 (0 + 1 + 0) (cA ++ [.string V.key, .slice va vn vc, .int .i64 V.origin, .int .i64 V.tx, .int .i64 V.act.k, .float .f64 V.act.x, .int .i64 V.act.n, .string V.act.s] ++ cB) (os.take 0 ++ [V] ++ os.drop 0)) := Lib.hid ⟨ho3, ((HSA.out.cl.keep HB8.out).append (CL.single ⟨va, vn, vc, rfl, HIVZ.out.keep HB8.out, HOK.out⟩)).append (HSB.out.cl.keep HB8.out), by rw [List.length_append, List.length_append, HNA.out, HNB.out]; rfl⟩
            clear ho3 hg3 HB7 HR7
            obtain ⟨na, nc, rfl, hvn, hnc, hsn⟩ := HR8.out.va (us := insV os V) (by rw [HINS.out]; simp) (by omega)
            have HVN := Lib.hid hvn
            have HNC := Lib.hid hnc
            have HSN := Lib.hid hsn
            clear hvn hnc hsn HR8
            refine ⟨HB8.out, ?_⟩
            simp only [Act.put, List.setIfInBounds_toArray]
            refine wpAnyE_one (i := 14) (by kernel_rfl) ?_
            intro Y9 hy9
            have HB9 := Lib.hid (HB8.out.trans hy9)
            have HV9 := Lib.hid (HVN.out.keep hy9)
            clear hy9 HB8 HVN
            go_simp
            refine ⟨HB9.out, ?_⟩
            refine wpAnyE_done (by kernel_rfl) ?_
            intro Y10 hy10
            have HB10 := Lib.hid (HBZ.out.trans (HB9.out.trans hy10))
            have HV10 := Lib.hid (HV9.out.keep hy10)
            clear hy10 HB9 HV9 HSA HSB
            go_wp2_with fail
            go_roundw
            case rel => exact ⟨i + 1, _, nc, na, insV os V, by omega, by go_num, rfl, HV10.out, by rw [HTK.out, HOS.out], HNC.out, by omega, HSN.out, HB10.out⟩
            case measure => simp [intOf]; omega
          · go_simp
            have hbl := (Bl.refl Y1).alloc (.cells #[.string V.key, .slice va vn vc, .int .i64 V.origin, .int .i64 V.tx, .int .i64 V.act.k, .float .f64 V.act.x, .int .i64 V.act.n, .string V.act.s] 59)
            have HS2 := Lib.hid (SG.lit (size := 8) (HLIT.out Y1) rfl (by simp [Value.oneCell']))
            have HB2 := Lib.hid (hy1.trans hbl)
            clear hy1 hbl
            generalize Y1.alloc _ = Y2 at *
            generalize Y1.heap.size = gl at *
            refine ⟨HB2.out, ?_⟩
            refine wpAnyE_one (i := 3) (by kernel_rfl) ?_
            intro Y3 hy3
            have HB3 := Lib.hid (HB2.out.trans hy3)
            have HS3 := Lib.hid (HS2.out.keep hy3)
            clear hy3 HB2 HS2
            refine eOp_appG (i := 3) rfl rfl _ _ _ rfl el_ver Z.heap.size (.slice none 0 0) 0 [] rfl (World.ownsRow_nil _ _ _ _) HB3.out.size none 0 0 cA rfl (HSA.out.sg.keep HB3.out) (by unfold maxLen; omega) (by omega) ?_
            intro v1 Y4 ho1 hg1
            have HB4 := Lib.hid (Bl.ownRow HB3.out (World.ownsRow_nil _ _ 59 8) (Nat.le_refl _) hg1)
            have HR4 : Hid (RL Z.heap.size Y4 v1 0 cA (os.take 0)) := Lib.hid ⟨by simpa using ho1, HSA.out.cl.keep HB4.out, HNA.out⟩
            have HS4 := Lib.hid (HS3.out.keep (Bl.ownRow (Bl.refl Y3) (World.ownsRow_nil _ _ 59 8) (Nat.le_refl _) hg1))
            clear ho1 hg1 HB3 HS3
            refine ⟨HB4.out, ?_⟩
            simp only [Act.put, List.setIfInBounds_toArray]
            refine wpAnyE_one (i := 9) (by kernel_rfl) ?_
            intro Y5 hy5
            have HB5 := Lib.hid (HB4.out.trans hy5)
            have HR5 := Lib.hid (HR4.out.keep hy5)
            have HS5 := Lib.hid (HS4.out.keep hy5)
            clear hy5 HB4 HR4 HS4
            refine eOp_appG (i := 9) rfl rfl _ _ _ rfl el_ver Z.heap.size v1 0 cA rfl HR5.out.own HB5.out.size (some ⟨gl, 0, none⟩) 1 1 [.string V.key, .slice va vn vc, .int .i64 V.origin, .int .i64 V.tx, .int .i64 V.act.k, .float .f64 V.act.x, .int .i64 V.act.n, .string V.act.s] rfl HS5.out (by unfold maxLen; omega) (by omega) ?_
            intro v2 Y6 ho2 hg2
            have HB6 := Lib.hid (Bl.ownRow HB5.out HR5.out.own (Nat.le_refl _) hg2)
            have HR6 : Hid (RL Z.heap.size Y6 v2 (0 + 1) (cA ++ [.string V.key, .slice va vn vc, .int .i64 V.origin, .int .i64 V.tx, .int .i64 V.act.k, .float .f64 V.act.x, .int .i64 V.act.n, .string V.act.s]) (os.take 0 ++ [V])) := Lib.hid ⟨ho2, (HSA.out.cl.keep HB6.out).append (CL.single ⟨va, vn, vc, rfl, HIVZ.out.keep HB6.out, HOK.out⟩), by rw [List.length_append, HNA.out]; rfl⟩
            clear ho2 hg2 HB5 HR5 HS5
            refine ⟨HB6.out, ?_⟩
            simp only [Act.put, List.setIfInBounds_toArray]
            refine wpAnyE_one (i := 13) (by kernel_rfl) ?_
            intro Y7 hy7
            have HB7 := Lib.hid (HB6.out.trans hy7)
            have HR7 := Lib.hid (HR6.out.keep hy7)
            clear hy7 HB6 HR6
            refine eOp_appG (i := 13) rfl rfl _ _ _ rfl el_ver Z.heap.size v2 (0 + 1) _ rfl HR7.out.own HB7.out.size none 0 0 cB rfl (HSB.out.sg.keep HB7.out) (by unfold maxLen; omega) (by omega) ?_
            intro v3 Y8 ho3 hg3
            have HB8 := Lib.hid (Bl.ownRow HB7.out HR7.out.own (Nat.le_refl _) hg3)
            have HR8 : Hid (RL Z.heap.size Y8 v3 (0 + 1 + 0) (cA ++ [.string V.key, .slice va vn vc, .int .i64 V.origin, .int .i64 V.tx, .int .i64 V.act.k, .float .f64 V.act.x, .int .i64 V.act.n, .string V.act.s] ++ cB) (os.take 0 ++ [V] ++ os.drop 0)) := Lib.hid ⟨ho3, ((HSA.out.cl.keep HB8.out).append (CL.single ⟨va, vn, vc, rfl, HIVZ.out.keep HB8.out, HOK.out⟩)).append (HSB.out.cl.keep HB8.out), by rw [List.length_append, List.length_append, HNA.out, HNB.out]; rfl⟩
            clear ho3 hg3 HB7 HR7
            obtain ⟨na, nc, rfl, hvn, hnc, hsn⟩ := HR8.out.va (us := insV os V) (by rw [HINS.out]; simp) (by omega)
            have HVN := Lib.hid hvn
            have HNC := Lib.hid hnc
            have HSN := Lib.hid hsn
            clear hvn hnc hsn HR8
            refine ⟨HB8.out, ?_⟩
            simp only [Act.put, List.setIfInBounds_toArray]
            refine wpAnyE_one (i := 14) (by kernel_rfl) ?_
            intro Y9 hy9
            have HB9 := Lib.hid (HB8.out.trans hy9)
            have HV9 := Lib.hid (HVN.out.keep hy9)
            clear hy9 HB8 HVN
            go_simp
            refine ⟨HB9.out, ?_⟩
            refine wpAnyE_done (by kernel_rfl) ?_
            intro Y10 hy10
            have HB10 := Lib.hid (HBZ.out.trans (HB9.out.trans hy10))
            have HV10 := Lib.hid (HV9.out.keep hy10)
            clear hy10 HB9 HV9 HSA HSB
            go_wp2_with fail
            go_roundw
            case rel => exact ⟨i + 1, _, nc, na, insV os V, by omega, by go_num, rfl, HV10.out, by rw [HTK.out, HOS.out], HNC.out, by omega, HSN.out, HB10.out⟩
            case measure => simp [intOf]; omega
        · clear HSH
          by_cases hlc : k < oc
          · skip
            have HINS := Lib.hid (insV_new (os := os) (v := V) (k := k) (by rw [HOL.out]; omega) HKB.out (fun h => absurd h (by rw [HOL.out]; omega)))
            go_upto_region 9 with fail
            refine wp_region_idx [0, 1, 2, 4, 5, 6, 7, 10, 11, 12] 5 (Bl (World.drew W9)) (fun _ _ h k => h.trans k) (Bl.refl _) (by kernel_rfl) rfl (by kernel_rfl) (by kernel_rfl) ?_
            have HRZ := Lib.hid (HW9.out.trans ((Bl.refl W9).drew))
            generalize World.drew W9 = Z at *
            have HBZ := Lib.hid (HBR.out.trans HRZ.out)
            have HIVZ := Lib.hid (HIV.out.keep HRZ.out)
            haveI : Nonempty (ExtC (Bl Z)) := ⟨⟨Z, Bl.refl _⟩⟩
            obtain ⟨t0, t1, t2, t3, t4, t5, t6, t7⟩ := (HEV.out.keep HRZ.out).all (HRZ.out.cell HV1.out)
            have f1 : (0 : Int) ≤ (k : Int) := by omega
            have f3 : (k : Int) ≤ (oc : Int) := by omega
            have f5 : k ≤ oc := by omega
            have f6 : (oc = k) = False := by simp; omega
            repeat (refine wpI_step rfl (fun K hK => ?_); go_simp; refine hK _ ?_; clear hK K)
            refine wpI_nil ?_
            clear t0 t1 t2 t3 t4 t5 t6 t7 this f1 f3 f6
            obtain ⟨cA, hSA⟩ := ((HVO.out.keep HRZ.out).takek k (by omega)).sl
            obtain ⟨cB, hcB⟩ : ∃ cB : List Value, cB = [] := ⟨_, rfl⟩
            have hSB : SL Z (some ⟨b2, off2 + k * 8, none⟩) 0 cB (os.drop k) := by rw [hcB, List.drop_eq_nil_of_le (by rw [HOL.out]; omega)]; exact SL.nil _ _
            have HNA := Lib.hid (show (os.take k).length = k by rw [List.length_take, HOL.out]; omega)
            have HNB := Lib.hid (show (os.drop k).length = 0 by rw [List.length_drop, HOL.out]; omega)
            have HSA := Lib.hid hSA
            have HSB := Lib.hid hSB
            clear hSA hSB hcB
            have HLIT := Lib.hid (fun X : World => heap_alloc_new X (.cells #[.string V.key, .slice va vn vc, .int .i64 V.origin, .int .i64 V.tx, .int .i64 V.act.k, .float .f64 V.act.x, .int .i64 V.act.n, .string V.act.s] 59))
            refine wpAnyE_all (rs := [3, 8]) (by kernel_rfl) (by decide) ?_
            intro i0 hi Y1 hy1
            simp only [List.mem_cons, List.not_mem_nil, or_false] at hi
            rcases hi with rfl | rfl
            · refine eOp_appG (i := 3) rfl rfl _ _ _ rfl el_ver Z.heap.size (.slice none 0 0) 0 [] rfl (World.ownsRow_nil _ _ _ _) hy1.size (some ⟨b2, off2, none⟩) k oc cA rfl (HSA.out.sg.keep hy1) (by unfold maxLen; omega) (by omega) ?_
              intro v1 Y2 ho1 hg1
              have HB2 := Lib.hid (Bl.ownRow hy1 (World.ownsRow_nil _ _ 59 8) (Nat.le_refl _) hg1)
              have HR2 : Hid (RL Z.heap.size Y2 v1 k cA (os.take k)) := Lib.hid ⟨by simpa using ho1, HSA.out.cl.keep HB2.out, HNA.out⟩
              clear ho1 hg1 hy1
              refine ⟨HB2.out, ?_⟩
              simp only [Act.put, List.setIfInBounds_toArray]
              refine wpAnyE_one (i := 8) (by kernel_rfl) ?_
              intro Y3 hy3
              go_simp
              have hbl := (Bl.refl Y3).alloc (.cells #[.string V.key, .slice va vn vc, .int .i64 V.origin, .int .i64 V.tx, .int .i64 V.act.k, .float .f64 V.act.x, .int .i64 V.act.n, .string V.act.s] 59)
              have HS4 := Lib.hid (SG.lit (size := 8) (HLIT.out Y3) rfl (by simp [Value.oneCell']))
              have HB4 := Lib.hid (HB2.out.trans (hy3.trans hbl))
              have HR4 := Lib.hid (HR2.out.keep (hy3.trans hbl))
              clear hy3 hbl HR2 HB2
              generalize Y3.alloc _ = Y4 at *
              generalize Y3.heap.size = gl at *
              refine ⟨HB4.out, ?_⟩
              refine wpAnyE_one (i := 9) (by kernel_rfl) ?_
              intro Y5 hy5
              have HB5 := Lib.hid (HB4.out.trans hy5)
              have HR5 := Lib.hid (HR4.out.keep hy5)
              have HS5 := Lib.hid (HS4.out.keep hy5)
              clear hy5 HB4 HR4 HS4
              refine eOp_appG (i := 9) rfl rfl _ _ _ rfl el_ver Z.heap.size v1 k cA rfl HR5.out.own HB5.out.size (some ⟨gl, 0, none⟩) 1 1 [.string V.key, .slice va vn vc, .int .i64 V.origin, .int .i64 V.tx, .int .i64 V.act.k, .float .f64 V.act.x, .int .i64 V.act.n, .string V.act.s] rfl HS5.out (by unfold maxLen; omega) (by omega) ?_
              intro v2 Y6 ho2 hg2
              have HB6 := Lib.hid (Bl.ownRow HB5.out HR5.out.own (Nat.le_refl _) hg2)
              have HR6 : Hid (RL Z.heap.size Y6 v2 (k + 1) (cA ++ [.string V.key, .slice va vn vc, .int .i64 V.origin, .int .i64 V.tx, .int .i64 V.act.k, .float .f64 V.act.x, .int .i64 V.act.n, .string V.act.s]) (os.take k ++ [V])) := Lib.hid ⟨ho2, (HSA.out.cl.keep HB6.out).append (CL.single ⟨va, vn, vc, rfl, HIVZ.out.keep HB6.out, HOK.out⟩), by rw [List.length_append, HNA.out]; rfl⟩
              clear ho2 hg2 HB5 HR5 HS5
              refine ⟨HB6.out, ?_⟩
              simp only [Act.put, List.setIfInBounds_toArray]
              refine wpAnyE_one (i := 13) (by kernel_rfl) ?_
              intro Y7 hy7
              have HB7 := Lib.hid (HB6.out.trans hy7)
              have HR7 := Lib.hid (HR6.out.keep hy7)
              clear hy7 HB6 HR6
              refine eOp_appG (i := 13) rfl rfl _ _ _ rfl el_ver Z.heap.size v2 (k + 1) _ rfl HR7.out.own HB7.out.size (some ⟨b2, off2 + k * 8, none⟩) 0 (oc - k) cB rfl (HSB.out.sg.keep HB7.out) (by unfold maxLen; omega) (by omega) ?_
              intro v3 Y8 ho3 hg3
              have HB8 := Lib.hid (Bl.ownRow HB7.out HR7.out.own (Nat.le_refl _) hg3)
              have HR8 : Hid (RL Z.heap.size Y8 v3 (k + 1 + 0) (cA ++ [.string V.key, .slice va vn vc, .int .i64 V.origin, .int .i64 V.tx, .int .i64 V.act.k, .float .f64 V.act.x, .int .i64 V.act.n, .string V.act.s] ++ cB) (os.take k ++ [V] ++ os.drop k)) := Lib.hid ⟨ho3, ((HSA.out.cl.keep HB8.out).append (CL.single ⟨va, vn, vc, rfl, HIVZ.out.keep HB8.out, HOK.out⟩)).append (HSB.out.cl.keep HB8.out), by rw [List.length_append, List.length_append, HNA.out, HNB.out]; rfl⟩
              clear ho3 hg3 HB7 HR7
              obtain ⟨na, nc, rfl, hvn, hnc, hsn⟩ := HR8.out.va (us := insV os V) (by rw [HINS.out]; simp) (by omega)
              have HVN := Lib.hid hvn
              have HNC := Lib.hid hnc
              have HSN := Lib.hid hsn
              clear hvn hnc hsn HR8
              refine ⟨HB8.out, ?_⟩
              simp only [Act.put, List.setIfInBounds_toArray]
              refine wpAnyE_one (i := 14) (by kernel_rfl) ?_
              intro Y9 hy9
              have HB9 := Lib.hid (HB8.out.trans hy9)
              have HV9 := Lib.hid (HVN.out.keep hy9)
              clear hy9 HB8 HVN
              go_simp
              refine ⟨HB9.out, ?_⟩
              refine wpAnyE_done (by kernel_rfl) ?_
              intro Y10 hy10
              have HB10 := Lib.hid (HBZ.out.trans (HB9.out.trans hy10))
              have HV10 := Lib.hid (HV9.out.keep hy10)
              clear hy10 HB9 HV9 HSA HSB
              go_wp2_with fail
              go_roundw
              case rel => exact ⟨i + 1, _, nc, na, insV os V, by omega, by go_num, rfl, HV10.out, by rw [HTK.out, HOS.out], HNC.out, by omega, HSN.out, HB10.out⟩
              case measure => simp [intOf]; omega
            · go_simp
              have hbl := (Bl.refl Y1).alloc (.cells #[.string V.key, .slice va vn vc, .int .i64 V.origin, .int .i64 V.tx, .int .i64 V.act.k, .float .f64 V.act.x, .int .i64 V.act.n, .string V.act.s] 59)
              have HS2 := Lib.hid (SG.lit (size := 8) (HLIT.out Y1) rfl (by simp [Value.oneCell']))
              have HB2 := Lib.hid (hy1.trans hbl)
              clear hy1 hbl
              generalize Y1.alloc _ = Y2 at *
              generalize Y1.heap.size = gl at *
              refine ⟨HB2.out, ?_⟩
              refine wpAnyE_one (i := 3) (by kernel_rfl) ?_
              intro Y3 hy3
              have HB3 := Lib.hid (HB2.out.trans hy3)
              have HS3 := Lib.hid (HS2.out.keep hy3)
              clear hy3 HB2 HS2
              refine eOp_appG (i := 3) rfl rfl _ _ _ rfl el_ver Z.heap.size (.slice none 0 0) 0 [] rfl (World.ownsRow_nil _ _ _ _) HB3.out.size (some ⟨b2, off2, none⟩) k oc cA rfl (HSA.out.sg.keep HB3.out) (by unfold maxLen; omega) (by omega) ?_
              intro v1 Y4 ho1 hg1
              have HB4 := Lib.hid (Bl.ownRow HB3.out (World.ownsRow_nil _ _ 59 8) (Nat.le_refl _) hg1)
              have HR4 : Hid (RL Z.heap.size Y4 v1 k cA (os.take k)) := Lib.hid ⟨by simpa using ho1, HSA.out.cl.keep HB4.out, HNA.out⟩
              have HS4 := Lib.hid (HS3.out.keep (Bl.ownRow (Bl.refl Y3) (World.ownsRow_nil _ _ 59 8) (Nat.le_refl _) hg1))
              clear ho1 hg1 HB3 HS3
              refine ⟨HB4.out, ?_⟩
              simp only [Act.put, List.setIfInBounds_toArray]
              refine wpAnyE_one (i := 9) (by kernel_rfl) ?_
              intro Y5 hy5
              have HB5 := Lib.hid (HB4.out.trans hy5)
              have HR5 := Lib.hid (HR4.out.keep hy5)
              have HS5 := Lib.hid (HS4.out.keep hy5)
              clear hy5 HB4 HR4 HS4
              refine eOp_appG (i := 9) rfl rfl _ _ _ rfl el_ver Z.heap.size v1 k cA rfl HR5.out.own HB5.out.size (some ⟨gl, 0, none⟩) 1 1 [.string V.key, .slice va vn vc, .int .i64 V.origin, .int .i64 V.tx, .int .i64 V.act.k, .float .f64 V.act.x, .int .i64 V.act.n, .string V.act.s] rfl HS5.out (by unfold maxLen; omega) (by omega) ?_
              intro v2 Y6 ho2 hg2
              have HB6 := Lib.hid (Bl.ownRow HB5.out HR5.out.own (Nat.le_refl _) hg2)
              have HR6 : Hid (RL Z.heap.size Y6 v2 (k + 1) (cA ++ [.string V.key, .slice va vn vc, .int .i64 V.origin, .int .i64 V.tx, .int .i64 V.act.k, .float .f64 V.act.x, .int .i64 V.act.n, .string V.act.s]) (os.take k ++ [V])) := Lib.hid ⟨ho2, (HSA.out.cl.keep HB6.out).append (CL.single ⟨va, vn, vc, rfl, HIVZ.out.keep HB6.out, HOK.out⟩), by rw [List.length_append, HNA.out]; rfl⟩
              clear ho2 hg2 HB5 HR5 HS5
              refine ⟨HB6.out, ?_⟩
              simp only [Act.put, List.setIfInBounds_toArray]
              refine wpAnyE_one (i := 13) (by kernel_rfl) ?_
              intro Y7 hy7
              have HB7 := Lib.hid (HB6.out.trans hy7)
              have HR7 := Lib.hid (HR6.out.keep hy7)
              clear hy7 HB6 HR6
              refine eOp_appG (i := 13) rfl rfl _ _ _ rfl el_ver Z.heap.size v2 (k + 1) _ rfl HR7.out.own HB7.out.size (some ⟨b2, off2 + k * 8, none⟩) 0 (oc - k) cB rfl (HSB.out.sg.keep HB7.out) (by unfold maxLen; omega) (by omega) ?_
              intro v3 Y8 ho3 hg3
              have HB8 := Lib.hid (Bl.ownRow HB7.out HR7.out.own (Nat.le_refl _) hg3)
              have HR8 : Hid (RL Z.heap.size Y8 v3 (k + 1 + 0) (cA ++ [.string V.key, .slice va vn vc, .int .i64 V.origin, .int .i64 V.tx, .int .i64 V.act.k, .float .f64 V.act.x, .int .i64 V.act.n, .string V.act.s] ++ cB) (os.take k ++ [V] ++ os.drop k)) := Lib.hid ⟨ho3, ((HSA.out.cl.keep HB8.out).append (CL.single ⟨va, vn, vc, rfl, HIVZ.out.keep HB8.out, HOK.out⟩)).append (HSB.out.cl.keep HB8.out), by rw [List.length_append, List.length_append, HNA.out, HNB.out]; rfl⟩
              clear ho3 hg3 HB7 HR7
              obtain ⟨na, nc, rfl, hvn, hnc, hsn⟩ := HR8.out.va (us := insV os V) (by rw [HINS.out]; simp) (by omega)
              have HVN := Lib.hid hvn
              have HNC := Lib.hid hnc
              have HSN := Lib.hid hsn
              clear hvn hnc hsn HR8
              refine ⟨HB8.out, ?_⟩
              simp only [Act.put, List.setIfInBounds_toArray]
              refine wpAnyE_one (i := 14) (by kernel_rfl) ?_
              intro Y9 hy9
              have HB9 := Lib.hid (HB8.out.trans hy9)
              have HV9 := Lib.hid (HVN.out.keep hy9)
              clear hy9 HB8 HVN
              go_simp
              refine ⟨HB9.out, ?_⟩
              refine wpAnyE_done (by kernel_rfl) ?_
              intro Y10 hy10
              have HB10 := Lib.hid (HBZ.out.trans (HB9.out.trans hy10))
              have HV10 := Lib.hid (HV9.out.keep hy10)
              clear hy10 HB9 HV9 HSA HSB
              go_wp2_with fail
              go_roundw
              case rel => exact ⟨i + 1, _, nc, na, insV os V, by omega, by go_num, rfl, HV10.out, by rw [HTK.out, HOS.out], HNC.out, by omega, HSN.out, HB10.out⟩
              case measure => simp [intOf]; omega
          · obtain rfl : k = oc := by omega
            have HINS := Lib.hid (insV_new (os := os) (v := V) (k := k) (by rw [HOL.out]; omega) HKB.out (fun h => absurd h (by rw [HOL.out]; omega)))
            go_upto_region 9 with fail
            refine wp_region_idx [0, 1, 2, 4, 5, 6, 7, 10, 11, 12] 5 (Bl (World.drew W9)) (fun _ _ h k => h.trans k) (Bl.refl _) (by kernel_rfl) rfl (by kernel_rfl) (by kernel_rfl) ?_
            have HRZ := Lib.hid (HW9.out.trans ((Bl.refl W9).drew))
            generalize World.drew W9 = Z at *
            have HBZ := Lib.hid (HBR.out.trans HRZ.out)
            have HIVZ := Lib.hid (HIV.out.keep HRZ.out)
            haveI : Nonempty (ExtC (Bl Z)) := ⟨⟨Z, Bl.refl _⟩⟩
            obtain ⟨t0, t1, t2, t3, t4, t5, t6, t7⟩ := (HEV.out.keep HRZ.out).all (HRZ.out.cell HV1.out)
            have f1 : (0 : Int) ≤ (k : Int) := by omega
            repeat (refine wpI_step rfl (fun K hK => ?_); go_simp; refine hK _ ?_; clear hK K)
            refine wpI_nil ?_
            clear t0 t1 t2 t3 t4 t5 t6 t7 this f1
            obtain ⟨cA, hSA⟩ := ((HVO.out.keep HRZ.out).takek k (by omega)).sl
            obtain ⟨cB, hcB⟩ : ∃ cB : List Value, cB = [] := ⟨_, rfl⟩
            have hSB : SL Z (some ⟨b2, off2, none⟩) 0 cB (os.drop k) := by rw [hcB, List.drop_eq_nil_of_le (by rw [HOL.out]; omega)]; exact SL.nil _ _
            have HNA := Lib.hid (show (os.take k).length = k by rw [List.length_take, HOL.out]; omega)
            have HNB := Lib.hid (show (os.drop k).length = 0 by rw [List.length_drop, HOL.out]; omega)
            have HSA := Lib.hid hSA
            have HSB := Lib.hid hSB
            clear hSA hSB hcB
            have HLIT := Lib.hid (fun X : World => heap_alloc_new X (.cells #[.string V.key, .slice va vn vc, .int .i64 V.origin, .int .i64 V.tx, .int .i64 V.act.k, .float .f64 V.act.x, .int .i64 V.act.n, .string V.act.s] 59))
            refine wpAnyE_all (rs := [3, 8]) (by kernel_rfl) (by decide) ?_
            intro i0 hi Y1 hy1
            simp only [List.mem_cons, List.not_mem_nil, or_false] at hi
            rcases hi with rfl | rfl
            · refine eOp_appG (i := 3) rfl rfl _ _ _ rfl el_ver Z.heap.size (.slice none 0 0) 0 [] rfl (World.ownsRow_nil _ _ _ _) hy1.size (some ⟨b2, off2, none⟩) k k cA rfl (HSA.out.sg.keep hy1) (by unfold maxLen; omega) (by omega) ?_
              intro v1 Y2 ho1 hg1
              have HB2 := Lib.hid (Bl.ownRow hy1 (World.ownsRow_nil _ _ 59 8) (Nat.le_refl _) hg1)
              have HR2 : Hid (RL Z.heap.size Y2 v1 k cA (os.take k)) := Lib.hid ⟨by simpa using ho1, HSA.out.cl.keep HB2.out, HNA.out⟩
              clear ho1 hg1 hy1
              refine ⟨HB2.out, ?_⟩
              simp only [Act.put, List.setIfInBounds_toArray]
              refine wpAnyE_one (i := 8) (by kernel_rfl) ?_
              intro Y3 hy3
              go_simp
              have hbl := (Bl.refl Y3).alloc (.cells #[.string V.key, .slice va vn vc, .int .i64 V.origin, .int .i64 V.tx, .int .i64 V.act.k, .float .f64 V.act.x, .int .i64 V.act.n, .string V.act.s] 59)
              have HS4 := Lib.hid (SG.lit (size := 8) (HLIT.out Y3) rfl (by simp [Value.oneCell']))
              have HB4 := Lib.hid (HB2.out.trans (hy3.trans hbl))
              have HR4 := Lib.hid (HR2.out.keep (hy3.trans hbl))
              clear hy3 hbl HR2 HB2
              generalize Y3.alloc _ = Y4 at *
              generalize Y3.heap.size = gl at *
              refine ⟨HB4.out, ?_⟩
              refine wpAnyE_one (i := 9) (by kernel_rfl) ?_
              intro Y5 hy5
              have HB5 := Lib.hid (HB4.out.trans hy5)
              have HR5 := Lib.hid (HR4.out.keep hy5)
              have HS5 := Lib.hid (HS4.out.keep hy5)
              clear hy5 HB4 HR4 HS4
              refine eOp_appG (i := 9) rfl rfl _ _ _ rfl el_ver Z.heap.size v1 k cA rfl HR5.out.own HB5.out.size (some ⟨gl, 0, none⟩) 1 1 [.string V.key, .slice va vn vc, .int .i64 V.origin, .int .i64 V.tx, .int .i64 V.act.k, .float .f64 V.act.x, .int .i64 V.act.n, .string V.act.s] rfl HS5.out (by unfold maxLen; omega) (by omega) ?_
              intro v2 Y6 ho2 hg2
              have HB6 := Lib.hid (Bl.ownRow HB5.out HR5.out.own (Nat.le_refl _) hg2)
              have HR6 : Hid (RL Z.heap.size Y6 v2 (k + 1) (cA ++ [.string V.key, .slice va vn vc, .int .i64 V.origin, .int .i64 V.tx, .int .i64 V.act.k, .float .f64 V.act.x, .int .i64 V.act.n, .string V.act.s]) (os.take k ++ [V])) := Lib.hid ⟨ho2, (HSA.out.cl.keep HB6.out).append (CL.single ⟨va, vn, vc, rfl, HIVZ.out.keep HB6.out, HOK.out⟩), by rw [List.length_append, HNA.out]; rfl⟩
              clear ho2 hg2 HB5 HR5 HS5
              refine ⟨HB6.out, ?_⟩
              simp only [Act.put, List.setIfInBounds_toArray]
              refine wpAnyE_one (i := 13) (by kernel_rfl) ?_
              intro Y7 hy7
              have HB7 := Lib.hid (HB6.out.trans hy7)
              have HR7 := Lib.hid (HR6.out.keep hy7)
              clear hy7 HB6 HR6
              refine eOp_appG (i := 13) rfl rfl _ _ _ rfl el_ver Z.heap.size v2 (k + 1) _ rfl HR7.out.own HB7.out.size (some ⟨b2, off2, none⟩) 0 0 cB rfl (HSB.out.sg.keep HB7.out) (by unfold maxLen; omega) (by omega) ?_
              intro v3 Y8 ho3 hg3
              have HB8 := Lib.hid (Bl.ownRow HB7.out HR7.out.own (Nat.le_refl _) hg3)
              have HR8 : Hid (RL Z.heap.size Y8 v3 (k + 1 + 0) (cA ++ [.string V.key, .slice va vn vc, .int .i64 V.origin, .int .i64 V.tx, .int .i64 V.act.k, .float .f64 V.act.x, .int .i64 V.act.n, .string V.act.s] ++ cB) (os.take k ++ [V] ++ os.drop k)) := Lib.hid ⟨ho3, ((HSA.out.cl.keep HB8.out).append (CL.single ⟨va, vn, vc, rfl, HIVZ.out.keep HB8.out, HOK.out⟩)).append (HSB.out.cl.keep HB8.out), by rw [List.length_append, List.length_append, HNA.out, HNB.out]; rfl⟩
              clear ho3 hg3 HB7 HR7
              obtain ⟨na, nc, rfl, hvn, hnc, hsn⟩ := HR8.out.va (us := insV os V) (by rw [HINS.out]; simp) (by omega)
              have HVN := Lib.hid hvn
              have HNC := Lib.hid hnc
              have HSN := Lib.hid hsn
              clear hvn hnc hsn HR8
              refine ⟨HB8.out, ?_⟩
              simp only [Act.put, List.setIfInBounds_toArray]
              refine wpAnyE_one (i := 14) (by kernel_rfl) ?_
              intro Y9 hy9
              have HB9 := Lib.hid (HB8.out.trans hy9)
              have HV9 := Lib.hid (HVN.out.keep hy9)
              clear hy9 HB8 HVN
              go_simp
              refine ⟨HB9.out, ?_⟩
              refine wpAnyE_done (by kernel_rfl) ?_
              intro Y10 hy10
              have HB10 := Lib.hid (HBZ.out.trans (HB9.out.trans hy10))
              have HV10 := Lib.hid (HV9.out.keep hy10)
              clear hy10 HB9 HV9 HSA HSB
              go_wp2_with fail
              go_roundw
              case rel => exact ⟨i + 1, _, nc, na, insV os V, by omega, by go_num, rfl, HV10.out, by rw [HTK.out, HOS.out], HNC.out, by omega, HSN.out, HB10.out⟩
              case measure => simp [intOf]; omega
            · go_simp
              have hbl := (Bl.refl Y1).alloc (.cells #[.string V.key, .slice va vn vc, .int .i64 V.origin, .int .i64 V.tx, .int .i64 V.act.k, .float .f64 V.act.x, .int .i64 V.act.n, .string V.act.s] 59)
              have HS2 := Lib.hid (SG.lit (size := 8) (HLIT.out Y1) rfl (by simp [Value.oneCell']))
              have HB2 := Lib.hid (hy1.trans hbl)
              clear hy1 hbl
              generalize Y1.alloc _ = Y2 at *
              generalize Y1.heap.size = gl at *
              refine ⟨HB2.out, ?_⟩
              refine wpAnyE_one (i := 3) (by kernel_rfl) ?_
              intro Y3 hy3
              have HB3 := Lib.hid (HB2.out.trans hy3)
              have HS3 := Lib.hid (HS2.out.keep hy3)
              clear hy3 HB2 HS2
              refine eOp_appG (i := 3) rfl rfl _ _ _ rfl el_ver Z.heap.size (.slice none 0 0) 0 [] rfl (World.ownsRow_nil _ _ _ _) HB3.out.size (some ⟨b2, off2, none⟩) k k cA rfl (HSA.out.sg.keep HB3.out) (by unfold maxLen; omega) (by omega) ?_
              intro v1 Y4 ho1 hg1
              have HB4 := Lib.hid (Bl.ownRow HB3.out (World.ownsRow_nil _ _ 59 8) (Nat.le_refl _) hg1)
              have HR4 : Hid (RL Z.heap.size Y4 v1 k cA (os.take k)) := Lib.hid ⟨by simpa using ho1, HSA.out.cl.keep HB4.out, HNA.out⟩
              have HS4 := Lib.hid (HS3.out.keep (Bl.ownRow (Bl.refl Y3) (World.ownsRow_nil _ _ 59 8) (Nat.le_refl _) hg1))
              clear ho1 hg1 HB3 HS3
              refine ⟨HB4.out, ?_⟩
              simp only [Act.put, List.setIfInBounds_toArray]
              refine wpAnyE_one (i := 9) (by kernel_rfl) ?_
              intro Y5 hy5
              have HB5 := Lib.hid (HB4.out.trans hy5)
              have HR5 := Lib.hid (HR4.out.keep hy5)
              have HS5 := Lib.hid (HS4.out.keep hy5)
              clear hy5 HB4 HR4 HS4
              refine eOp_appG (i := 9) rfl rfl _ _ _ rfl el_ver Z.heap.size v1 k cA rfl HR5.out.own HB5.out.size (some ⟨gl, 0, none⟩) 1 1 [.string V.key, .slice va vn vc, .int .i64 V.origin, .int .i64 V.tx, .int .i64 V.act.k, .float .f64 V.act.x, .int .i64 V.act.n, .string V.act.s] rfl HS5.out (by unfold maxLen; omega) (by omega) ?_
              intro v2 Y6 ho2 hg2
              have HB6 := Lib.hid (Bl.ownRow HB5.out HR5.out.own (Nat.le_refl _) hg2)
              have HR6 : Hid (RL Z.heap.size Y6 v2 (k + 1) (cA ++ [.string V.key, .slice va vn vc, .int .i64 V.origin, .int .i64 V.tx, .int .i64 V.act.k, .float .f64 V.act.x, .int .i64 V.act.n, .string V.act.s]) (os.take k ++ [V])) := Lib.hid ⟨ho2, (HSA.out.cl.keep HB6.out).append (CL.single ⟨va, vn, vc, rfl, HIVZ.out.keep HB6.out, HOK.out⟩), by rw [List.length_append, HNA.out]; rfl⟩
              clear ho2 hg2 HB5 HR5 HS5
              refine ⟨HB6.out, ?_⟩
              simp only [Act.put, List.setIfInBounds_toArray]
              refine wpAnyE_one (i := 13) (by kernel_rfl) ?_
              intro Y7 hy7
              have HB7 := Lib.hid (HB6.out.trans hy7)
              have HR7 := Lib.hid (HR6.out.keep hy7)
              clear hy7 HB6 HR6
              refine eOp_appG (i := 13) rfl rfl _ _ _ rfl el_ver Z.heap.size v2 (k + 1) _ rfl HR7.out.own HB7.out.size (some ⟨b2, off2, none⟩) 0 0 cB rfl (HSB.out.sg.keep HB7.out) (by unfold maxLen; omega) (by omega) ?_
              intro v3 Y8 ho3 hg3
              have HB8 := Lib.hid (Bl.ownRow HB7.out HR7.out.own (Nat.le_refl _) hg3)
              have HR8 : Hid (RL Z.heap.size Y8 v3 (k + 1 + 0) (cA ++ [.string V.key, .slice va vn vc, .int .i64 V.origin, .int .i64 V.tx, .int .i64 V.act.k, .float .f64 V.act.x, .int .i64 V.act.n, .string V.act.s] ++ cB) (os.take k ++ [V] ++ os.drop k)) := Lib.hid ⟨ho3, ((HSA.out.cl.keep HB8.out).append (CL.single ⟨va, vn, vc, rfl, HIVZ.out.keep HB8.out, HOK.out⟩)).append (HSB.out.cl.keep HB8.out), by rw [List.length_append, List.length_append, HNA.out, HNB.out]; rfl⟩
              clear ho3 hg3 HB7 HR7
              obtain ⟨na, nc, rfl, hvn, hnc, hsn⟩ := HR8.out.va (us := insV os V) (by rw [HINS.out]; simp) (by omega)
              have HVN := Lib.hid hvn
              have HNC := Lib.hid hnc
              have HSN := Lib.hid hsn
              clear hvn hnc hsn HR8
              refine ⟨HB8.out, ?_⟩
              simp only [Act.put, List.setIfInBounds_toArray]
              refine wpAnyE_one (i := 14) (by kernel_rfl) ?_
              intro Y9 hy9
              have HB9 := Lib.hid (HB8.out.trans hy9)
              have HV9 := Lib.hid (HVN.out.keep hy9)
              clear hy9 HB8 HVN
              go_simp
              refine ⟨HB9.out, ?_⟩
              refine wpAnyE_done (by kernel_rfl) ?_
              intro Y10 hy10
              have HB10 := Lib.hid (HBZ.out.trans (HB9.out.trans hy10))
              have HV10 := Lib.hid (HV9.out.keep hy10)
              clear hy10 HB9 HV9 HSA HSB
              go_wp2_with fail
              go_roundw
              case rel => exact ⟨i + 1, _, nc, na, insV os V, by omega, by go_num, rfl, HV10.out, by rw [HTK.out, HOS.out], HNC.out, by omega, HSN.out, HB10.out⟩
              case measure => simp [intOf]; omega
end Go.Proofs.YtfjjnffifnohkaaGreat
end
