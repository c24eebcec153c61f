import Derived.Test.YtfjjnffifnohkaaGreatQR17Drop
import Derived.Test.YtfjjnffifnohkaaGreatQFoldTellsUptoP32
import Derived.Test.YtfjjnffifnohkaaGreatQFoldTellsUptoP41
import Derived.Test.YtfjjnffifnohkaaGreatQFoldTellsUptoP16
import Derived.Test.YtfjjnffifnohkaaGreatQFoldTellsUptoP15
import Derived.Test.YtfjjnffifnohkaaGreatQFoldTellsUptoP42
import Derived.Test.YtfjjnffifnohkaaGreatQFoldTellsUptoP1

/- the walk of FoldTells (printed by gen/foldtells.py). By an AI agent. -/
section
set_option linter.unusedVariables false
set_option linter.unusedSimpArgs false
namespace Go.Proofs.YtfjjnffifnohkaaGreat
open Go.RowKit
attribute [local go_sem] eOp eOper eUpon

theorem va_oks {w : World} {a : Option Addr} {n : Nat} {vs : List VerL} (h : VA w a n vs) : ∀ v ∈ vs, v.act.Ok := fun v hv => by
  obtain ⟨j, hj, rfl⟩ := List.getElem_of_mem hv
  have hjn : j < n := by rw [← h.len]; exact hj
  obtain ⟨b, off, rfl, hc⟩ := h.cells j hjn
  have := (hc j hjn).ok
  rwa [nthR_eq hj] at this
theorem readL_ok {key : ByteArray} {vs : List VerL} {at_ : List Int} (h : ∀ v ∈ vs, v.act.Ok) : (readL key vs at_).Ok := valueL_ok (fun v hv => h v (order_mem (List.mem_filter.1 hv).1))
set_option maxHeartbeats 12800000 in
set_option maxRecDepth 100000 in
theorem foldTells_gen (key : ByteArray) (a : Option Addr) (n ca : Nat) (vs : List VerL) (fa : Option Addr) (fn fc : Nat) (floor : List Int) (ba : Option Addr) (bn bc : Nat) (at_ : List Int) (all : Bool) (w : World) (hkey : key.size ≤ 140737488351232) (hv : VA w a n vs) (hf : IA w fa fn floor) (ht : IA w ba bn at_) :
    Calls Tryz.prog 3 #[.string key, .slice a n ca, .slice fa fn fc, .slice ba bn bc, .bool all] w fun e w' => e = .returned (.bool true) ∧ Bl w w' := by
  have hsf := store_fl
  have HV := Lib.hid hv
  have HF := Lib.hid hf
  have HT := Lib.hid ht
  have HOK := Lib.hid (va_oks hv)
  have hd1 := hf.cap
  have hd2 := ht.cap
  clear hv hf ht
  go_enter Tryz.func3, Tryz.ntmps3
  go_wp2_with fail
  refine (light17s_any a n ca vs w HV.out).mono ?_
  rintro e W1 ⟨lb, rfl, hlb, rfl⟩
  cases lb
  case false =>
    go_wp2_with fail
    refine (alive17_any _).mono ?_
    rintro e w2 ⟨rfl, hb2⟩
    go_wp2_with fail
    go_ret
    exact ⟨rfl, hb2⟩
  have hn60 := (hlb rfl).1
  have HSH := Lib.hid (show ShortV 20 vs from fun v hvm => by
    obtain ⟨j, hj, rfl⟩ := List.getElem_of_mem hvm
    have := (hlb rfl).2 j (by rw [← HV.out.len]; exact hj)
    rwa [nthR_eq hj] at this)
  have HSJ := Lib.hid (hlb rfl).2
  clear hlb
  obtain ⟨S, hS⟩ : ∃ S : Nat, fn + bn = S := ⟨_, rfl⟩
  have x1 : IntKind.i64.wrap ((fn : Int) + (bn : Int)) = (S : Int) := by rw [IntKind.wrap_i64]; omega
  have x1' : (fn : Int) + (bn : Int) = (S : Int) := by omega
  by_cases h40 : 40 < S
  · have f1 : decide ((40 : Int) < (S : Int)) = true := decide_eq_true (by omega)
    have g1 : decide (40 < S) = true := decide_eq_true h40
    go_wp2_with fail
    refine (alive17_any _).mono ?_
    rintro e w2 ⟨rfl, hb2⟩
    go_wp2_with fail
    go_ret
    exact ⟨rfl, hb2⟩
  have f1 : decide ((40 : Int) < (S : Int)) = false := decide_eq_false (by omega)
  have g1 : decide (40 < S) = false := decide_eq_false h40
  by_cases h3 : 3000 < key.size
  · have f3 : decide ((3000 : Int) < (key.size : Int)) = true := decide_eq_true (by omega)
    have g3 : decide (3000 < key.size) = true := decide_eq_true h3
    go_wp2_with fail
    refine (alive17_any _).mono ?_
    rintro e w2 ⟨rfl, hb2⟩
    go_wp2_with fail
    go_ret
    exact ⟨rfl, hb2⟩
  have f3 : decide ((3000 : Int) < (key.size : Int)) = false := decide_eq_false (by omega)
  have g3 : decide (3000 < key.size) = false := decide_eq_false h3
  have hfn : fn ≤ 40 := by omega
  have hbn : bn ≤ 40 := by omega
  obtain ⟨⟨rb, rx, rn, rz⟩, hr⟩ : ∃ r, readL key vs at_ = r := ⟨_, rfl⟩
  have HRL := Lib.hid hr
  have HRO := Lib.hid (show (ValL.mk rb rx rn rz).Ok from hr ▸ readL_ok HOK.out)
  clear hr
  go_wp2_with fail
  clear f1 g1 f3 g3 x1 x1' h40 h3 hS hd1 hd2
  have HB0 := Lib.hid (fun T => BQ.new (k := bkURW) (B := w.heap.size) (T := fun b => b < w.heap.size) (Nat.le_refl w.heap.size) (AC.new w _ rfl (hsOf (fun _ => .slice none 0 0) (fun _ => .slice none 0 0)) T) (fun b hb => ⟨by simp; omega, by omega⟩))
  go_loopw [12] (fun kv wr => ∃ k : Nat, k ≤ 2 ∧ kv = .int .i64 k ∧ Bl w wr ∧ BQ bkURW w.heap.size wr w.heap.size (fun b => b < w.heap.size)) (fun kv _ => 2 - (intOf kv).toNat)
  case atStart => exact ⟨0, by omega, rfl, (Bl.refl w).alloc _, HB0.out _⟩
  case round =>
    obtain ⟨k, hk2, rfl, hb, hbq⟩ := hrel
    have HBL := Lib.hid hb
    have HBQ := Lib.hid hbq
    clear hb hbq HB0
    by_cases hlt : k < 2
    case neg =>
      go_wp2_with fail
      refine (alive17_any _).mono ?_
      rintro e w2 ⟨rfl, hb⟩
      have HB := Lib.hid (HBL.out.trans hb)
      have HP := Lib.hid (HBQ.out.keep hb)
      clear hb HBL HBQ
      go_wp2_with fail
      refine (bqURW_apart w.heap.size w.heap.size _ _ HB.out.size HP.out).mono ?_
      rintro e w3 ⟨rfl, hf⟩
      go_wp2_with fail
      go_ret
      exact ⟨rfl, HB.out.frS hf (fun b q => q.1)⟩
    go_wp2_with fail
    refine (lentVers_any a n ca vs _ (HV.out.keep HBL.out) (by omega) (fun j hj => by have := HSJ.out j hj; omega)).mono ?_
    rintro e w2 ⟨gx, cx, rfl, hgx, hmx, hb⟩
    have HMX := Lib.hid hmx
    have HB2 := Lib.hid hb
    clear hgx hmx hb
    go_wp2_with fail
    refine (lentVec_any fa fn fc floor _ (HF.out.keep (HBL.out.trans HB2.out)) (by omega)).mono ?_
    rintro e w3 ⟨gy, cy, rfl, hly, hb⟩
    have HLY := Lib.hid hly
    have HB3 := Lib.hid (HB2.out.trans hb)
    have HMX3 := Lib.hid (HMX.out.keep hb)
    clear hly hb HB2 HMX
    go_wp2_with fail
    refine (lentVec_any ba bn bc at_ _ (HT.out.keep (HBL.out.trans HB3.out)) (by omega)).mono ?_
    rintro e w4 ⟨gz, cz, rfl, hlz, hb⟩
    have HLZ := Lib.hid hlz
    have HLY4 := Lib.hid (HLY.out.keep hb)
    have HB4 := Lib.hid (HB3.out.trans hb)
    have HMX4 := Lib.hid (HMX3.out.keep hb)
    clear hlz hb HB3 HMX3 HLY
    go_wp2_with fail
    refine (fOrderO_any (some ⟨gx, 0, none⟩) n cx vs _ HMX4.out.va (by omega)).mono ?_
    rintro e w5 ⟨oa, om, oc, rfl, zs, hov, hzm, hom, hb⟩
    have HOV := Lib.hid (hov.ovl hzm (short_order HSH.out))
    have HVO := Lib.hid (show VA w5 oa om (orderOf vs) from hzm ▸ hov.va (by omega))
    have HB45 := Lib.hid hb
    have HOM := Lib.hid hom
    clear hov hzm hb hom
    go_wp2_with fail
    refine (fdropO_any key (some ⟨gx, 0, none⟩) n cx vs (some ⟨gy, 0, none⟩) fn cy floor all _ hkey (HMX4.out.va.keep HB45.out) (by omega) (HLY4.out.keep HB45.out).ia).mono ?_
    rintro e w6 ⟨da, dm, dc, rfl, ys, hdv, hdm, hdl, hb⟩
    have HDV := Lib.hid (hdv.ovl hdm (short_drop HSH.out))
    have HVD := Lib.hid (show VA w6 da dm (dropL key vs floor all) from hdm ▸ hdv.va (by omega))
    have HB56 := Lib.hid hb
    have HDL := Lib.hid hdl
    clear hdv hdm hb hdl
    have HB06 := Lib.hid (HB4.out.trans (HB45.out.trans HB56.out))
    go_wp2_with fail
    refine (rorder17_any a n ca vs _ (HV.out.keep (HBL.out.trans HB06.out)) (by omega)).mono ?_
    rintro e w7 ⟨ra, rm, rc, rfl, hrv, hrm, hb⟩
    obtain rfl : om = rm := by rw [← HVO.out.len, hrv.len]
    have HRV := Lib.hid hrv
    have HB67 := Lib.hid hb
    clear hrv hrm hb
    go_wp2_with fail
    refine (sameVers5_yes oa ra om oc rc _ _ (HVO.out.keep (HB56.out.trans HB67.out)) HRV.out).mono ?_
    rintro e w8 ⟨rfl, hb⟩
    have HB68 := Lib.hid (HB67.out.trans hb)
    clear hb HRV HB67
    go_wp2_with fail
    refine (rdrop17_any key a n ca vs fa fn fc floor all _ hkey (HV.out.keep (HBL.out.trans (HB06.out.trans HB68.out))) (by omega) (HF.out.keep (HBL.out.trans (HB06.out.trans HB68.out)))).mono ?_
    rintro e w9 ⟨sa, sm, sc, rfl, hsv, hsm, hb⟩
    obtain rfl : dm = sm := by rw [← HVD.out.len, hsv.len]
    have HSV := Lib.hid hsv
    have HB69 := Lib.hid (HB68.out.trans hb)
    clear hsv hsm hb HB68
    go_wp2_with fail
    refine (sameVers5_yes da sa dm dc sc _ _ (HVD.out.keep HB69.out) HSV.out).mono ?_
    rintro e w10 ⟨rfl, hb⟩
    have HB610 := Lib.hid (HB69.out.trans hb)
    clear hb HSV HB69
    go_wp2_with fail
    refine (fread_any key (some ⟨gx, 0, none⟩) n cx vs (some ⟨gz, 0, none⟩) bn cz at_ _ hkey (HMX4.out.va.keep (HB45.out.trans (HB56.out.trans HB610.out))) (by omega) (HLZ.out.keep (HB45.out.trans (HB56.out.trans HB610.out))).ia).mono ?_
    rintro e w11 ⟨rfl, hb⟩
    rw [HRL.out]
    unfold ValL.v
    have HB611 := Lib.hid (HB610.out.trans hb)
    clear hb HB610
    go_wp2_with fail
    refine (rread17_any key a n ca vs ba bn bc at_ _ hkey (HV.out.keep (HBL.out.trans (HB06.out.trans HB611.out))) (by omega) (HT.out.keep (HBL.out.trans (HB06.out.trans HB611.out)))).mono ?_
    rintro e w12 ⟨rfl, hb⟩
    rw [HRL.out]
    unfold ValL.v
    have HB612 := Lib.hid (HB611.out.trans hb)
    clear hb HB611
    go_wp2_with fail
    refine (refSameV_agg rb rx rn rz rb rx rn rz true _ (Lib.hid (sameV_refl _)) HRO HRO).mono ?_
    rintro e w13 ⟨rfl, hb⟩
    have HB613 := Lib.hid (HB612.out.trans hb)
    clear hb HB612
    go_wp2_with fail
    refine (staysVers_yes gx n cx a ca vs _ (HMX4.out.keep (HB45.out.trans (HB56.out.trans HB613.out))) (HV.out.keep (HBL.out.trans (HB06.out.trans HB613.out)))).mono ?_
    rintro e w14 ⟨rfl, hb⟩
    have HB614 := Lib.hid (HB613.out.trans hb)
    clear hb HB613
    go_wp2_with fail
    refine (staysVec_any _ gy fn cy fa fn fc floor _ (HLY4.out.keep (HB45.out.trans (HB56.out.trans HB614.out))) (HF.out.keep (HBL.out.trans (HB06.out.trans HB614.out))) (by omega)).mono ?_
    rintro e w15 ⟨rfl, hb⟩
    have HB615 := Lib.hid (HB614.out.trans hb)
    clear hb HB614
    go_wp2_with fail
    refine (staysVec_any _ gz bn cz ba bn bc at_ _ (HLZ.out.keep (HB45.out.trans (HB56.out.trans HB615.out))) (HT.out.keep (HBL.out.trans (HB06.out.trans HB615.out))) (by omega)).mono ?_
    rintro e w16 ⟨rfl, hb⟩
    have HD := Lib.hid (D2.new HBL.out HBQ.out HB4.out HOV.out HB45.out HDV.out HB56.out (HB615.out.trans hb))
    clear hb HB615 HOV HDV HVO HVD HB06 HMX4 HLY4 HLZ HB4 HBQ HBL HB45 HB56
    go_wp2_with fail
    refine (deep_two w _ w.heap.size _ oa om oc zs da dm dc ys HD.out (by have := HOM.out; omega) rfl).mono ?_
    rintro e w17 ⟨rfl, hd1⟩
    have HD1 := Lib.hid hd1
    clear hd1 HD
    go_wp2_with fail
    refine (deep_one w _ w.heap.size _ da dm dc ys HD1.out (by have := HDL.out; omega) rfl).mono ?_
    rintro e w18 ⟨rfl, hbD, hqD⟩
    have HBD := Lib.hid hbD
    have HQD := Lib.hid hqD
    clear hbD hqD HD1
    go_wp2_with fail
    go_roundw
    case rel => exact ⟨k + 1, by omega, by go_num, HBD.out, HQD.out⟩
    case measure => simp [intOf]; omega
theorem foldTells_walk (key : ByteArray) (a : Option Addr) (n ca : Nat) (vs : List VerL) (fa : Option Addr) (fn fc : Nat) (floor : List Int) (ba : Option Addr) (bn bc : Nat) (at_ : List Int) (all : Bool) (w : World) (hkey : key.size ≤ 1048576) (hv : VA w a n vs ∧ VOko vs) (hf : IA w fa fn floor) (ht : IA w ba bn at_) :
    Calls Tryz.prog 3 #[.string key, .slice a n ca, .slice fa fn fc, .slice ba bn bc, .bool all] w fun e w' => e = .returned (.bool true) ∧ Bl w w' := foldTells_gen key a n ca vs fa fn fc floor ba bn bc at_ all w (by omega) hv.1 hf ht
end Go.Proofs.YtfjjnffifnohkaaGreat
end

/- what the bound on bulk says of a string among the arguments. By an AI agent. -/
section
namespace Go.Proofs.YtfjjnffifnohkaaGreat

theorem bulk_part {H : Type} {d : DataW H} {l : List (DataW H)} (h : d ∈ l) : Rows.uptoBulk d ≤ Rows.uptoBulkAll l := by
  induction l with
  | nil => cases h
  | cons x r ih =>
    simp only [Rows.uptoBulkAll]
    rcases List.mem_cons.1 h with rfl | e
    · omega
    · have := ih e; omega
theorem bulk_str {H : Type} {l : List (DataW H)} {s : ByteArray} (hk : Rows.uptoSmall H l = true) (hm : DataW.lit (.string s.data.toList) ∈ l) : s.size ≤ 1048576 := by
  have h1 := bulk_part hm
  have h2 : Rows.uptoBulkAll l ≤ 1048576 := by simpa [Rows.uptoSmall] using hk
  have h3 : Rows.uptoBulk (DataW.lit (H := H) (.string s.data.toList)) = s.data.toList.length + 1 := by simp [Rows.uptoBulk]
  have h4 : s.data.toList.length = s.size := by rw [Array.length_toList]; rfl
  omega
end Go.Proofs.YtfjjnffifnohkaaGreat
end
