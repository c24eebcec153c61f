import Derived.Test.YtaokennbpgdngaaQStreamBytesP2
import Derived.Test.YtaokennbpgdngaaQStreamBytesP4
import Derived.Test.YtaokennbpgdngaaQStreamBytesP8
import Derived.Test.YtaokennbpgdngaaQStreamBytesP9
import Derived.Test.YtaokennbpgdngaaQStreamBytesP10

/- the walk of StreamBytes. By an AI agent. -/
section
set_option linter.unusedVariables false
set_option linter.unusedSimpArgs false
namespace Go.Proofs.Ytaokennbpgdngaa
open Go.RowKit

theorem msg_cases : ∀ l : List UInt8, (∃ m u, l = 84 :: m ∧ rdTx m = some u) ∨ (∃ fb m xs, l = 82 :: fb :: m ∧ rdV m = some (xs, []) ∧ fb.toNat < xs.length) ∨ noMsg l
  | [] => .inr (.inr trivial)
  | c :: m => by
    by_cases h84 : c = 84
    · subst h84
      cases h : rdTx m with
      | some u => exact .inl ⟨m, u, rfl, h⟩
      | none => exact .inr (.inr ⟨fun _ => h, fun q => absurd q (by decide)⟩)
    by_cases h82 : c = 82
    · subst h82
      cases h : rdRow m with
      | none => exact .inr (.inr ⟨fun q => absurd q (by decide), fun _ => h⟩)
      | some p =>
        refine .inr (.inl ?_)
        cases m with
        | nil => cases h
        | cons fb m =>
          unfold rdRow at h
          dsimp only at h
          split at h
          · rename_i xs hv
            split at h
            · rename_i hlt
              exact ⟨fb, m, xs, rfl, hv, hlt⟩
            · cases h
          · cases h
    · exact .inr (.inr ⟨fun q => absurd (UInt8.toNat_inj.1 q) h84, fun q => absurd (UInt8.toNat_inj.1 q) h82⟩)
theorem row_back {fb : UInt8} {m : List UInt8} {xs : List Int} (hv : rdV m = some (xs, [])) (hlt : fb.toNat < xs.length) : rowL (fb.toNat : Int) xs = 82 :: fb :: m ∧ rowC (fb.toNat : Int) xs = 0 := by
  obtain ⟨h1, h2⟩ := rdV_back hv
  have h3 : numB (fb.toNat : Int) 1 = [fb] := by
    rw [numB_succ]
    have : UInt8.ofNat ((fb.toNat : Int) % 256).toNat = fb := by
      have := UInt8.toNat_lt fb
      rw [show ((fb.toNat : Int) % 256).toNat = fb.toNat by omega]
      exact UInt8.ofNat_toNat
    rw [this]
    rfl
  have hc : validL xs = true ∧ (0 : Int) ≤ fb.toNat ∧ (fb.toNat : Int) < xs.length := ⟨h2, by omega, by omega⟩
  unfold rowL rowC
  rw [if_pos hc, if_pos hc, h3, h1, List.append_nil]
  exact ⟨rfl, rfl⟩
theorem msg_back {m : List UInt8} {u : TxnL} (h : rdTx m = some u) : msgT u = 84 :: m ∧ ptC u = 0 := by
  obtain ⟨h1, h2, h3, h4⟩ := rdTx_back h
  obtain ⟨h5, h6⟩ := ptC_put h1 (by rw [h3]; exact h4)
  unfold msgT
  rw [h5, if_pos rfl, h6, h3]
  exact ⟨rfl, rfl⟩
set_option maxHeartbeats 12800000 in
set_option maxRecDepth 100000 in
theorem streamBytes_walk (t : TxnL) (s : TxAt) (from_ : Int) (ra : Option Addr) (rn rc : Nat) (row : List Int) (b : ByteArray) (w : World) (h : TX w s t) (hfr : -9223372036854775808 ≤ from_ ∧ from_ ≤ 9223372036854775807) (hr : IA w ra rn row) (hbs : b.size ≤ 140737488351232) :
    Calls Try.prog 4 #[txV t s, .int .i64 from_, .slice ra rn rc, .string b] w fun e w' => e = .returned (.bool true) ∧ Bl w w' := by
  have hsf := store_float
  have HT := Lib.hid h
  have HR := Lib.hid hr
  have hrc := hr.cap
  have HOK := Lib.hid h.txOk
  have hg := AC.new w _ rfl (txCs t s) 29
  have hb := (Bl.refl w).alloc (.cells (txCs t s).toArray 29)
  have hts := TS.lit1 (h.keep hb) 29
  rw [show (w.alloc (.cells (txCs t s).toArray 29)).heap.size = w.heap.size + 1 by simp] at hts
  have HTS := Lib.hid hts
  clear hts
  have hbt := hb.alloc (.cells (txCs t s).toArray 29)
  have hgt := hg.keep ((Bl.refl (w.alloc (.cells (txCs t s).toArray 29))).alloc (.cells (txCs t s).toArray 29))
  have HMT := Lib.hid (fun w (h : TX w s t) => putTxn_any t s w h)
  have HPT := Lib.hid (fun w (h : TX w s t) => txPut_any t s w h)
  have HPC := Lib.hid (fun h0 : ptC t = 0 => ptC_zero h0)
  have HMZ : Hid (ptC t = 0 → msgT t = 84 :: ptL t) := Lib.hid (fun h0 => by unfold msgT; rw [if_pos h0])
  have HMN : Hid (ptC t ≠ 0 → msgT t = []) := Lib.hid (fun h0 => by unfold msgT; rw [if_neg h0])
  obtain ⟨C, hC⟩ : ∃ C, ptC t = C := ⟨_, rfl⟩
  obtain ⟨F, hF⟩ : ∃ F, ptL t = F := ⟨_, rfl⟩
  obtain ⟨M, hM⟩ : ∃ M, msgT t = M := ⟨_, rfl⟩
  obtain ⟨LT, hLT⟩ : ∃ LT, lightT [t] = LT := ⟨_, rfl⟩
  rw [hC, hM] at HMT
  rw [hC, hF] at HPT HPC
  rw [hC, hM, hF] at HMZ
  rw [hC, hM] at HMN
  have HLT := Lib.hid hLT
  have HCAN : Hid (C = 0 → rdTx F = some (canonT t) ∧ sameT (canonT t) t = true ∧ (canonT t).o = t.o ∧ F.length ≤ 65000) := Lib.hid (fun h0 => by
    obtain ⟨h1, h2, h3⟩ := HPC.out h0
    refine ⟨by rw [h2]; exact rdTx_put h1 HOK.out h3, canonT_same (validT_parts h1) HOK.out, rfl, by rw [h2]; exact h3⟩)
  clear h hr hC hF hM hLT
  unfold txV at HMT HPT ⊢
  unfold txCs at hg hb hbt hgt HTS
  obtain ⟨da, dn, dc, aa, an, ac, wa, wn, wc⟩ := s
  obtain ⟨o, num, prev, ds, xs, ws⟩ := t
  dsimp only at hg hb hbt hgt HTS HMT HPT ⊢
  have c0 := hg.cell 0 _ rfl
  have c1 := hg.cell 1 _ rfl
  have c2 := hg.cell 2 _ rfl
  have c3 := hg.cell 3 _ rfl
  have c4 := hg.cell 4 _ rfl
  have c5 := hg.cell 5 _ rfl
  have HBT := Lib.hid hbt
  have HGT := Lib.hid hgt
  clear hg hb hbt hgt
  cases LT
  · go_enter Try.func4, Try.ntmps4
    go_wp2_with fail
    refine (light22_any (some ⟨w.heap.size + 1, 0, none⟩) 1 1 _ _ _ HTS.out).mono ?_
    rintro e w1 ⟨rfl, hb1⟩
    rw [HLT.out]
    go_wp2_with fail
    refine (alive22_any _).mono ?_
    rintro e w2 ⟨rfl, hb2⟩
    go_wp2_with fail
    go_ret
    exact ⟨rfl, HBT.out.trans (hb1.trans hb2)⟩
  by_cases h20 : 20 < rn
  · have d1 : decide ((20 : Int) < (rn : Int)) = true := decide_eq_true (by omega)
    have d2 : decide (20 < rn) = true := decide_eq_true h20
    go_enter Try.func4, Try.ntmps4
    go_wp2_with fail
    refine (light22_any (some ⟨w.heap.size + 1, 0, none⟩) 1 1 _ _ _ HTS.out).mono ?_
    rintro e w1 ⟨rfl, hb1⟩
    rw [HLT.out]
    go_wp2_with fail
    refine (alive22_any _).mono ?_
    rintro e w2 ⟨rfl, hb2⟩
    go_wp2_with fail
    go_ret
    exact ⟨rfl, HBT.out.trans (hb1.trans hb2)⟩
  have d1 : decide ((20 : Int) < (rn : Int)) = false := decide_eq_false (by omega)
  have d2 : decide (20 < rn) = false := decide_eq_false h20
  by_cases h9 : 9000 < b.size
  · have d3 : decide ((9000 : Int) < (b.size : Int)) = true := decide_eq_true (by omega)
    have d4 : decide (9000 < b.size) = true := decide_eq_true h9
    go_enter Try.func4, Try.ntmps4
    go_wp2_with fail
    refine (light22_any (some ⟨w.heap.size + 1, 0, none⟩) 1 1 _ _ _ HTS.out).mono ?_
    rintro e w1 ⟨rfl, hb1⟩
    rw [HLT.out]
    go_wp2_with fail
    refine (alive22_any _).mono ?_
    rintro e w2 ⟨rfl, hb2⟩
    go_wp2_with fail
    go_ret
    exact ⟨rfl, HBT.out.trans (hb1.trans hb2)⟩
  have d3 : decide ((9000 : Int) < (b.size : Int)) = false := decide_eq_false (by omega)
  have d4 : decide (9000 < b.size) = false := decide_eq_false h9
  go_enter Try.func4, Try.ntmps4
  go_wp2_with fail
  refine (light22_any (some ⟨w.heap.size + 1, 0, none⟩) 1 1 _ _ _ HTS.out).mono ?_
  rintro e w1 ⟨rfl, hb1⟩
  rw [HLT.out]
  have HB1 := Lib.hid (HBT.out.trans hb1)
  have HG1 := Lib.hid (HGT.out.keep hb1)
  clear c0 c1 c2 c3 c4 c5 hb1 HBT HGT HTS
  have c0 := HG1.out.cell 0 _ rfl
  have c1 := HG1.out.cell 1 _ rfl
  have c2 := HG1.out.cell 2 _ rfl
  have c3 := HG1.out.cell 3 _ rfl
  have c4 := HG1.out.cell 4 _ rfl
  have c5 := HG1.out.cell 5 _ rfl
  go_wp2_with fail
  clear d1 d2 d3 d4
  refine (HMT.out _ (HT.out.keep HB1.out)).mono ?_
  rintro e w2 ⟨rfl, hb2⟩
  replace c0 := hb2.cell c0
  replace c1 := hb2.cell c1
  replace c2 := hb2.cell c2
  replace c3 := hb2.cell c3
  replace c4 := hb2.cell c4
  replace c5 := hb2.cell c5
  have HB2 := Lib.hid (HB1.out.trans hb2)
  have HG2 := Lib.hid (HG1.out.keep hb2)
  clear hb2 HB1 HG1
  go_wp2_with fail
  clear c0 c1 c2 c3 c4 c5
  refine (HPT.out _ (HT.out.keep HB2.out)).mono ?_
  rintro e w3 ⟨rfl, hb3⟩
  have HB3 := Lib.hid (HB2.out.trans hb3)
  have HG3 := Lib.hid (HG2.out.keep hb3)
  clear hb3 HB2 HG2 HMT HPT
  generalize w.heap.size = gt at *
  obtain ⟨sm, hsm⟩ : ∃ x, strL M = x := ⟨_, rfl⟩
  obtain ⟨sf, hsf2⟩ : ∃ x, strL F = x := ⟨_, rfl⟩
  rw [hsm, hsf2]
  have HSM := Lib.hid hsm
  have HSF := Lib.hid hsf2
  clear hsm hsf2
  go_upto_region 5 with fail
  go_cut [74] (fun t74 W => t74 = .bool false ∧ w3 = W)
  case first =>
    by_cases hc0 : C = 0
    · subst hc0
      have e1 : (⟨#[84]⟩ : ByteArray) ++ sf = sm := by rw [← HSF.out, ← HSM.out, HMZ.out rfl]; exact strL_app [84] F
      have z1 : sf.size ≤ 65000 := by rw [← HSF.out, strL_size]; exact (HCAN.out rfl).2.2.2
      have s_1 : (9223372036854775807 < 1 + sf.size) = False := eq_false (by omega)
      have qe : (sm.toList == sm.toList) = true := by simp
      go_wp2_with fail
      go_meet
      case rel => exact ⟨rfl, rfl⟩
    · have qz : sm.toList.isEmpty = true := by rw [← HSM.out, HMN.out hc0, ByteArray.toList_eq]; rfl
      have q0 : (C == 0) = false := by rw [beq_eq_false_iff_ne]; exact hc0
      have q1 : (C != 0) = true := by rw [bne_iff_ne]; exact hc0
      have q2 : (C != C) = false := by simp
      clear hc0
      go_wp2_with fail
      go_meet
      case rel => exact ⟨rfl, rfl⟩
  case rest =>
    obtain ⟨rfl, rfl⟩ := hcut
    go_upto_if 76 with fail
    go_cut [14] (fun _ W => Bl w W)
    case first =>
      by_cases hc0 : C = 0
      case neg =>
        have q0 : (C == 0) = false := by rw [beq_eq_false_iff_ne]; exact hc0
        clear hc0
        go_wp2_with fail
        go_meet
        case rel => exact HB3.out
      subst hc0
      obtain ⟨hca, hcs, hco, _⟩ := HCAN.out rfl
      have HGET := Lib.hid (fun w => sget_tx F _ w hca)
      rw [← HMZ.out rfl, HSM.out] at HGET
      have HCS := Lib.hid hcs
      have HCO := Lib.hid hco
      have HKO := Lib.hid (rdTx_back hca).2.1
      clear hca hcs hco
      generalize canonT ⟨o, num, prev, ds, xs, ws⟩ = u at *
      obtain ⟨uo, unum, uprev, uds, uxs, uws⟩ := u
      have huo : uo = o := HCO.out
      subst huo
      go_wp2_with fail
      refine (HGET.out _).mono ?_
      rintro e w4 ⟨s4, rfl, hx4, hb4⟩
      obtain ⟨ua, un, uc, va, vn, vc, wa', wn', wc'⟩ := s4
      unfold txV
      dsimp only
      have hgu := AC.new w4 _ rfl [.int .i64 uo, .int .i64 unum, .int .i64 uprev, .slice ua un uc, .slice va vn vc, .slice wa' wn' wc'] 29
      have hbu := (Bl.refl w4).alloc (.cells #[.int .i64 uo, .int .i64 unum, .int .i64 uprev, .slice ua un uc, .slice va vn vc, .slice wa' wn' wc'] 29)
      have HB4 := Lib.hid (HB3.out.trans (hb4.trans hbu))
      have HG4 := Lib.hid (HG3.out.keep (hb4.trans hbu))
      have HU4 := Lib.hid ((hx4.tx HKO.out).keep hbu)
      have HSA := Lib.hid (fun w (h1 : TX w ⟨ua, un, uc, va, vn, vc, wa', wn', wc'⟩ ⟨uo, unum, uprev, uds, uxs, uws⟩) (h2 : TX w ⟨da, dn, dc, aa, an, ac, wa, wn, wc⟩ ⟨uo, num, prev, ds, xs, ws⟩) => rsameT_any _ _ _ _ w h1 h2)
      rw [HCS.out] at HSA
      unfold txV at HSA
      dsimp only at HSA
      clear hb4 hbu hx4
      go_upto_region 9 with fail
      have HGU := Lib.hid hgu
      generalize w4.alloc _ = W4 at *
      generalize w4.heap.size = gu at *
      clear hgu
      have c0 := HG4.out.cell 0 _ rfl
      have c1 := HG4.out.cell 1 _ rfl
      have c2 := HG4.out.cell 2 _ rfl
      have c3 := HG4.out.cell 3 _ rfl
      have c4 := HG4.out.cell 4 _ rfl
      have c5 := HG4.out.cell 5 _ rfl
      have e0 := HGU.out.cell 0 _ rfl
      have e1 := HGU.out.cell 1 _ rfl
      have e2 := HGU.out.cell 2 _ rfl
      have e3 := HGU.out.cell 3 _ rfl
      have e4 := HGU.out.cell 4 _ rfl
      have e5 := HGU.out.cell 5 _ rfl
      have qo : (uo != uo) = false := by simp
      go_wp2_with fail
      refine (HSA.out _ HU4.out (HT.out.keep HB4.out)).mono ?_
      rintro e w5 ⟨rfl, hb5⟩
      go_wp2_with fail
      go_meet
      case rel => exact HB4.out.trans hb5
    case rest =>
      have HB4 := Lib.hid hcut
      clear hcut HB3 HG3 HMZ HMN HPC HCAN HOK HLT HT
      obtain ⟨RL, hRL⟩ : ∃ RL, strL (rowL from_ row) = RL := ⟨_, rfl⟩
      obtain ⟨RC, hRC⟩ : ∃ RC, rowC from_ row = RC := ⟨_, rfl⟩
      have HR1 := Lib.hid (fun w h => putRow_any from_ ra rn rc row w h)
      have HR2 := Lib.hid (fun w h => refRow_any from_ ra rn rc row w h)
      rw [hRL, hRC] at HR1 HR2
      clear hRL hRC
      have qr : (RL.toList == RL.toList) = true := by simp
      have qc : (RC != RC) = false := by simp
      obtain ⟨lb, hlb⟩ : ∃ lb, strL lb = b := ⟨b.data.toList, strL_data b⟩
      have hll : lb.length = b.size := by rw [← hlb, strL_size]
      have qb : (b.toList == b.toList) = true := by simp
      go_wp2_with fail
      refine (HR1.out _ (HR.out.keep HB4.out)).mono ?_
      rintro e w5 ⟨rfl, hb5⟩
      have HB5 := Lib.hid (HB4.out.trans hb5)
      clear hb5 HB4
      go_wp2_with fail
      refine (HR2.out _ (HR.out.keep HB5.out)).mono ?_
      rintro e w6 ⟨rfl, hb6⟩
      have HB6 := Lib.hid (HB5.out.trans hb6)
      clear hb6 HB5 HR1 HR2
      go_upto_region 15 with fail
      clear qr qc
      rcases msg_cases lb with ⟨m, u, hm, hu⟩ | ⟨fb, m, ys, hm, hv, hlt⟩ | hno
      · have HGET := Lib.hid (fun w => sget_tx m u w hu)
        rw [← hm, hlb] at HGET
        obtain ⟨hmb, hc0⟩ := msg_back hu
        have HOKU := Lib.hid (rdTx_back hu).2.1
        have hnum := (rdTx_num hu).1
        have HMU := Lib.hid (fun s w (h : TX w s u) => putTxn_any u s w h)
        rw [hmb, ← hm, hlb, hc0] at HMU
        clear hmb hc0 hm hlb hu
        obtain ⟨uo, unum, uprev, uds, uxs, uws⟩ := u
        dsimp only at hnum HGET HMU
        have q1 : decide ((0 : Int) < unum) = true := decide_eq_true hnum
        go_wp2_with fail
        refine (HGET.out _).mono ?_
        rintro e w7 ⟨s7, rfl, hx7, hb7⟩
        have hTU := hx7.tx HOKU.out
        obtain ⟨ua, un, uc, va, vn, vc, wa', wn', wc'⟩ := s7
        have HMU2 := Lib.hid (fun w h => HMU.out ⟨ua, un, uc, va, vn, vc, wa', wn', wc'⟩ w h)
        unfold txV at HMU2 ⊢
        dsimp only at HMU2 ⊢
        have hgu := AC.new w7 _ rfl [.int .i64 uo, .int .i64 unum, .int .i64 uprev, .slice ua un uc, .slice va vn vc, .slice wa' wn' wc'] 29
        have hbu := (Bl.refl w7).alloc (.cells #[.int .i64 uo, .int .i64 unum, .int .i64 uprev, .slice ua un uc, .slice va vn vc, .slice wa' wn' wc'] 29)
        have HB7 := Lib.hid (HB6.out.trans (hb7.trans hbu))
        have HTU := Lib.hid (hTU.keep hbu)
        clear hb7 hbu hx7 hTU HB6 HMU HGET
        go_upto_region 16 with fail
        have HGU := Lib.hid hgu
        generalize w7.alloc _ = W7 at *
        generalize w7.heap.size = gu at *
        clear hgu
        have e0 := HGU.out.cell 0 _ rfl
        have e1 := HGU.out.cell 1 _ rfl
        have e2 := HGU.out.cell 2 _ rfl
        have e3 := HGU.out.cell 3 _ rfl
        have e4 := HGU.out.cell 4 _ rfl
        have e5 := HGU.out.cell 5 _ rfl
        go_wp2_with fail
        refine (HMU2.out _ HTU.out).mono ?_
        rintro e w8 ⟨rfl, hb8⟩
        go_wp2_with fail
        refine (alive22_any _).mono ?_
        rintro e w9 ⟨rfl, hb9⟩
        replace e0 := (hb8.trans hb9).cell e0
        have qo : (uo == uo) = true := by simp
        go_wp2_with fail
        go_ret
        exact ⟨rfl, HB7.out.trans (hb8.trans hb9)⟩
      · have HGET := Lib.hid (fun w => sget_row fb fb.toNat rfl m ys w hv hlt)
        rw [← hm, hlb] at HGET
        obtain ⟨hrb, hc0⟩ := row_back hv hlt
        have HPR := Lib.hid (fun a n c w h => putRow_any (fb.toNat : Int) a n c ys w h)
        rw [hrb, ← hm, hlb, hc0] at HPR
        clear hrb hc0 hm hlb hv hlt
        generalize fb.toNat = fn at *
        unfold zTxV at HGET
        go_wp2_with fail
        refine (HGET.out _).mono ?_
        rintro e w7 ⟨v, rfl, hfi, hb7⟩
        obtain ⟨va, vn, vc, rfl, hI⟩ := hfi.si
        have hgu := AC.new w7 _ rfl [.int .i64 0, .int .i64 0, .int .i64 0, .slice none 0 0, .slice none 0 0, .slice none 0 0] 29
        have hbu := (Bl.refl w7).alloc (.cells #[.int .i64 0, .int .i64 0, .int .i64 0, .slice none 0 0, .slice none 0 0, .slice none 0 0] 29)
        have HB7 := Lib.hid (HB6.out.trans (hb7.trans hbu))
        have HI := Lib.hid (hI.keep hbu)
        clear hb7 hbu hfi hI HB6 HGET
        go_upto_region 16 with fail
        have HGU := Lib.hid hgu
        generalize w7.alloc _ = W7 at *
        generalize w7.heap.size = gu at *
        clear hgu
        have e1 := HGU.out.cell 1 _ rfl
        go_wp2_with fail
        refine (HPR.out va vn vc _ HI.out).mono ?_
        rintro e w8 ⟨rfl, hb8⟩
        go_wp2_with fail
        refine (alive22_any _).mono ?_
        rintro e w9 ⟨rfl, hb9⟩
        go_wp2_with fail
        go_ret
        exact ⟨rfl, HB7.out.trans (hb8.trans hb9)⟩
      · have HGET := Lib.hid (fun w => sget_no lb w (by omega) hno)
        rw [hlb] at HGET
        unfold zTxV at HGET
        clear hno hlb
        go_wp2_with fail
        refine (HGET.out _).mono ?_
        rintro e w7 ⟨rfl, hb7⟩
        have hgu := AC.new w7 _ rfl [.int .i64 0, .int .i64 0, .int .i64 0, .slice none 0 0, .slice none 0 0, .slice none 0 0] 29
        have hbu := (Bl.refl w7).alloc (.cells #[.int .i64 0, .int .i64 0, .int .i64 0, .slice none 0 0, .slice none 0 0, .slice none 0 0] 29)
        have HB7 := Lib.hid (HB6.out.trans (hb7.trans hbu))
        clear hb7 hbu HB6 HGET
        go_upto_region 16 with fail
        have HGU := Lib.hid hgu
        generalize w7.alloc _ = W7 at *
        generalize w7.heap.size = gu at *
        clear hgu
        go_wp2_with fail
        refine (alive22_any _).mono ?_
        rintro e w9 ⟨rfl, hb9⟩
        have e1 := (HGU.out.keep hb9).cell 1 _ rfl
        go_wp2_with fail
        go_ret
        exact ⟨rfl, HB7.out.trans hb9⟩
end Go.Proofs.Ytaokennbpgdngaa
end
