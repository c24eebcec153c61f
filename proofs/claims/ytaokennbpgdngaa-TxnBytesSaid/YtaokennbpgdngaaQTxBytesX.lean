/- the walk of TxnBytes. By an AI agent. -/
import Derived.Test.YtaokennbpgdngaaCore32
import Derived.Test.YtaokennbpgdngaaQTxLight
import Derived.Test.YtaokennbpgdngaaQRefSum
import Derived.Test.YtaokennbpgdngaaQRef1
import Derived.Test.YtaokennbpgdngaaQByteRow

set_option linter.unusedVariables false
set_option linter.unusedSimpArgs false
namespace Go.Proofs.Ytaokennbpgdngaa
open Go.RowKit
attribute [local go_sem] eOp eOper eUpon

theorem refPut4_any (v : Nat) (w : World) (hv : v < 4294967296) : Calls Try.prog 56 #[.int .i64 v, .int .i64 4] w fun e w' => e = .returned (.tuple #[.string (strL (numB v 4)), .int .i64 0]) ∧ Bl w w' := by
  have h2 : (2 : Nat) ^ (8 * 4) = 4294967296 := by decide
  have h := refPut_any v 4 w (by decide) (by decide) (by omega) (Nat.div_eq_of_lt (by rw [h2]; exact hv))
  rw [strL_nums] at h
  exact h
theorem lsum_any (l : List UInt8) (w : World) (hl : l.length ≤ 140737488351232) :
    Calls Try.prog 23 #[.string (strL l)] w fun e w' => e = .returned (.string (strL (numB (sumL l : Nat) 4))) ∧ Bl w w' := by
  have HS := Lib.hid (fun w => refSum_any (strL l) w (by rw [strL_size]; exact hl))
  rw [show (strL l).data.toList = l from rfl] at HS
  have HP := Lib.hid (fun w => refPut4_any (sumL l) w (sumL_lt l))
  generalize strL l = sl at *
  generalize sumL l = s at *
  go_enter Try.func23, Try.ntmps23
  go_wp2_with fail
  refine (HS.out _).mono ?_
  rintro e w1 ⟨rfl, rfl⟩
  go_wp2_with fail
  refine (HP.out _).mono ?_
  rintro e w2 ⟨rfl, hb⟩
  go_wp2_with fail
  go_ret
  exact ⟨rfl, hb⟩
theorem txGet_no {l : List UInt8} (h : rdTx l = none) (w : World) : Calls Try.prog 22 #[.string (strL l)] w fun e w' => e = .returned (.tuple #[.agg #[.int .i64 0, .int .i64 0, .int .i64 0, .slice none 0 0, .slice none 0 0, .slice none 0 0], .int .i64 4]) ∧ Bl w w' := by
  refine (txGet_any l w).mono ?_
  rintro e w' (⟨t, s, hr, _⟩ | ⟨_, rfl, hb⟩)
  · rw [h] at hr; cases hr
  · exact ⟨rfl, hb⟩
theorem tx_changed_no {t : TxnL} {F : List UInt8} (hF : F = putTx t) {k : Nat} (hk : k < F.length) {c : UInt8} (hc : c ≠ F[k]) : rdTx (F.set k c) = none := by
  subst hF
  cases h : rdTx ((putTx t).set k c) with
  | none => rfl
  | some u => exact absurd (tx_changed hk h) hc
/-- what is laid is longer than its sum -/
theorem putTx_len (t : TxnL) : 4 < (putTx t).length := by
  unfold putTx
  rw [sealL_len]
  unfold bodyTx headTx
  simp only [List.length_append, numB_len]
  omega
set_option maxHeartbeats 12800000 in
set_option maxRecDepth 100000 in
theorem txBytes_walk (t : TxnL) (s : TxAt) (at_ by_ : Int) (b : ByteArray) (seal_ : Bool) (w : World) (h : TX w s t) (hat : -9223372036854775808 ≤ at_ ∧ at_ ≤ 9223372036854775807) (hby : -9223372036854775808 ≤ by_ ∧ by_ ≤ 9223372036854775807) (hbs : b.size ≤ 140737488351232) :
    Calls Try.prog 5 #[txV t s, .int .i64 at_, .int .i64 by_, .string b, .bool seal_] w fun e w' => e = .returned (.bool true) ∧ Bl w w' := by
  have hsf := store_float
  have HT := Lib.hid h
  have HPC := Lib.hid (fun h0 : ptC t = 0 => ptC_zero h0)
  have HPN := Lib.hid (fun h0 : ptC t ≠ 0 => ptC_not h0)
  have HPL := Lib.hid (putTx_len t)
  have hca := h.at_.cap
  have hcd := h.deps.cap
  have hg := AC.new w _ rfl (txCs t s) 29
  have hb := (Bl.refl w).alloc (.cells (txCs t s).toArray 29)
  obtain ⟨C, hC⟩ : ∃ C, ptC t = C := ⟨_, rfl⟩
  obtain ⟨F, hF⟩ : ∃ F, ptL t = F := ⟨_, rfl⟩
  have HPUT := Lib.hid (fun w (h : TX w s t) => txPut_any t s w h)
  rw [hC, hF] at HPUT
  rw [hC] at HPC HPN
  rw [hF] at HPC HPN
  obtain ⟨P, hP⟩ : ∃ P, putTx t = P := ⟨_, rfl⟩
  rw [hP] at HPC HPL
  have HP := Lib.hid hP.symm
  clear h hC hF hP
  unfold txV at HPUT ⊢
  unfold txCs at hg hb
  obtain ⟨da, dn, dc, aa, an, ac, wa, wn, wc⟩ := s
  have hgo := HT.out.o
  have HWS := Lib.hid HT.out.ws
  obtain ⟨o, num, prev, ds, xs, ws⟩ := t
  dsimp only at hca hcd hg hb HPUT HWS ⊢
  have c0 := hg.cell 0 _ rfl
  have c1 := hg.cell 1 _ rfl
  have c2 := hg.cell 2 _ rfl
  have c3 := hg.cell 3 _ rfl
  have c4 := hg.cell 4 _ rfl
  have c5 := hg.cell 5 _ rfl
  cases hl : lightB ws
  · have HLB := Lib.hid hl
    clear hl
    go_enter Try.func5, Try.ntmps5
    go_wp2_with fail
    refine (light21_any wa wn wc ws _ (HWS.out.keep hb)).mono ?_
    rintro e w1 ⟨rfl, hb1⟩
    rw [HLB.out]
    go_wp2_with fail
    refine (alive21_any _).mono ?_
    rintro e w2 ⟨rfl, hb2⟩
    go_wp2_with fail
    go_ret
    exact ⟨rfl, hb.trans (hb1.trans hb2)⟩
  have HLB := Lib.hid hl
  clear hl
  have s1 : IntKind.i64.wrap ((an : Int) + (dn : Int)) = ((an + dn : Nat) : Int) := by rw [IntKind.wrap_i64]; omega
  by_cases h40 : 40 < an + dn
  · have d1 : decide ((40 : Int) < ((an + dn : Nat) : Int)) = true := decide_eq_true (by omega)
    have d2 : decide (40 < an + dn) = true := decide_eq_true h40
    go_enter Try.func5, Try.ntmps5
    go_wp2_with fail
    refine (light21_any wa wn wc ws _ (HWS.out.keep hb)).mono ?_
    rintro e w1 ⟨rfl, hb1⟩
    rw [HLB.out]
    replace c3 := hb1.cell c3
    replace c4 := hb1.cell c4
    go_wp2_with fail
    refine (alive21_any _).mono ?_
    rintro e w2 ⟨rfl, hb2⟩
    go_wp2_with fail
    go_ret
    exact ⟨rfl, hb.trans (hb1.trans hb2)⟩
  have d1 : decide ((40 : Int) < ((an + dn : Nat) : Int)) = false := decide_eq_false (by omega)
  have d2 : decide (40 < an + dn) = false := decide_eq_false h40
  by_cases h9 : 9000 < b.size
  · have d3 : decide ((9000 : Int) < (b.size : Int)) = true := decide_eq_true (by omega)
    have d4 : decide (9000 < b.size) = true := decide_eq_true h9
    go_enter Try.func5, Try.ntmps5
    go_wp2_with fail
    refine (light21_any wa wn wc ws _ (HWS.out.keep hb)).mono ?_
    rintro e w1 ⟨rfl, hb1⟩
    rw [HLB.out]
    replace c3 := hb1.cell c3
    replace c4 := hb1.cell c4
    go_wp2_with fail
    refine (alive21_any _).mono ?_
    rintro e w2 ⟨rfl, hb2⟩
    go_wp2_with fail
    go_ret
    exact ⟨rfl, hb.trans (hb1.trans hb2)⟩
  have d3 : decide ((9000 : Int) < (b.size : Int)) = false := decide_eq_false (by omega)
  have d4 : decide (9000 < b.size) = false := decide_eq_false h9
  go_enter Try.func5, Try.ntmps5
  go_wp2_with fail
  generalize w.alloc _ = W at *
  have HG := Lib.hid hg
  have HB := Lib.hid hb
  clear hg hb
  refine (light21_any wa wn wc ws _ (HWS.out.keep HB.out)).mono ?_
  rintro e w1 ⟨rfl, hb1⟩
  rw [HLB.out]
  have HB1 := Lib.hid (HB.out.trans hb1)
  replace c0 := hb1.cell c0
  replace c1 := hb1.cell c1
  replace c2 := hb1.cell c2
  replace c3 := hb1.cell c3
  replace c4 := hb1.cell c4
  replace c5 := hb1.cell c5
  clear hb1 HG HB
  go_wp2_with fail
  clear c0 c1 c2 c3 c4 c5 d1 d2 d3 d4 s1
  refine (HPUT.out _ (HT.out.keep HB1.out)).mono ?_
  rintro e w2 ⟨rfl, hb2⟩
  have HB2 := Lib.hid (HB1.out.trans hb2)
  clear hb2 HB1 HPUT HT HWS
  obtain ⟨sf, hsf2⟩ : ∃ sf, strL F = sf := ⟨_, rfl⟩
  have HSF := Lib.hid hsf2
  have hsz : sf.size = F.length := by rw [← hsf2, strL_size]
  rw [hsf2]
  clear hsf2
  obtain ⟨B, hB⟩ : ∃ B : Nat, by_ % 256 = (B : Int) := ⟨(by_ % 256).toNat, by omega⟩
  have hB8 : B < 256 := by omega
  go_upto_region 4 with fail
  go_cut [57] (fun t57 W => ∃ x : Bool, t57 = .bool x ∧ w2 = W ∧ (x = true → C = 0 ∧ B ≠ 0))
  case first =>
    by_cases hc0 : C = 0
    case neg =>
      have q0 : (C == 0) = false := by rw [beq_eq_false_iff_ne]; exact hc0
      go_wp2_with fail
      go_meet
      case rel => exact ⟨false, rfl, rfl, fun h => (by cases h)⟩
    subst hc0
    by_cases hB0 : B = 0
    · have q5 : (by_ % 256 != 0) = false := by rw [hB, hB0]; rfl
      go_wp2_with fail
      go_meet
      case rel => exact ⟨false, rfl, rfl, fun h => (by cases h)⟩
    have q5 : (by_ % 256 != 0) = true := by rw [bne_iff_ne]; omega
    have hFP : F = P := (HPC.out rfl).2.1
    have hlen := HPL.out
    rw [← hFP] at hlen
    rw [hB] at q5
    have q8 : ((B : Int) != 0) = true := q5
    have q6 : decide ((4 : Int) < (F.length : Int)) = true := decide_eq_true (by omega)
    have q7 : decide (4 < F.length) = true := decide_eq_true hlen
    clear hFP hlen
    go_wp2_with fail
    go_meet
    case rel => exact ⟨true, by first | rfl | trivial, by first | rfl | trivial, fun _ => ⟨by first | rfl | trivial, hB0⟩⟩
  case rest =>
    obtain ⟨x, rfl, rfl, hx⟩ := hcut
    have HX := Lib.hid hx
    clear hx
    go_upto_if 57 with fail
    go_cut [13] (fun _ W => Bl w2 W)
    case first =>
      cases x
      · go_wp2_with fail
        go_meet
        case rel => exact Bl.refl _
      · obtain ⟨hc0, hB0⟩ := HX.out rfl
        subst hc0
        have hFP : F = P := (HPC.out rfl).2.1
        have hF65 : F.length ≤ 65000 := by rw [hFP]; exact (HPC.out rfl).2.2
        have hlen := HPL.out
        rw [← hFP] at hlen
        have HFT := Lib.hid (hFP.trans HP.out)
        obtain ⟨M, hM⟩ : ∃ M : Int, at_.tmod (F.length : Int) = M := ⟨_, rfl⟩
        have hM1 : M < (F.length : Int) := by rw [← hM]; exact Int.tmod_lt_of_pos _ (by omega)
        have hM0 : -(F.length : Int) < M := by rw [← hM]; exact Int.lt_tmod_of_pos _ (by omega)
        have qz : ((F.length : Int) == 0) = false := by rw [beq_eq_false_iff_ne]; omega
        obtain ⟨K, hK⟩ : ∃ K : Nat, (if M < 0 then M + (F.length : Int) else M) = (K : Int) := ⟨(if M < 0 then M + (F.length : Int) else M).toNat, by split <;> omega⟩
        have hKF : K < F.length := by split at hK <;> omega
        have hc8 : F[K].toNat < 256 := UInt8.toNat_lt _
        have hx8 : F[K].toNat ^^^ B < 256 := Nat.xor_lt_two_pow (n := 8) hc8 hB8
        obtain ⟨c, hc⟩ : ∃ c : UInt8, c = UInt8.ofNat (F[K].toNat ^^^ B) := ⟨_, rfl⟩
        have hcn : c.toNat = F[K].toNat ^^^ B := by rw [hc, UInt8.toNat_ofNat']; exact Nat.mod_eq_of_lt hx8
        have hxor : bits .xor .u8 (F[K].toNat : Int) (by_ % 256) = (c.toNat : Int) := by
          rw [hB, hcn]
          exact u8_xor_nat _ _ hc8 hB8
        have hne : c ≠ F[K] := by
          intro e
          have h1 := congrArg UInt8.toNat e
          rw [hcn] at h1
          exact bxor_ne hB0 h1
        have HRC := Lib.hid (fun w => txGet_no (tx_changed_no HFT.out hKF hne) w)
        have hSl : (F.set K c).length = F.length := List.length_set
        clear hne hB hB0 hB8 hx8 hc hcn hc8 hFP HFT
        have hw1 : IntKind.i64.wrap M = M := by rw [IntKind.wrap_i64]; omega
        have hw2 : M < 0 → IntKind.i64.wrap (M + (F.length : Int)) = M + (F.length : Int) := fun _ => by rw [IntKind.wrap_i64]; omega
        go_upto_if 63 with fail
        go_cut [13] (fun t13 W => t13 = .int .i64 K ∧ w2 = W)
        case first =>
          by_cases hMn : M < 0
          · have q2 : decide (M < 0) = true := decide_eq_true hMn
            have eK : M + (F.length : Int) = (K : Int) := by rw [if_pos hMn] at hK; exact hK
            clear hMn hK
            go_wp2_with fail
            go_meet
            case rel => exact ⟨rfl, rfl⟩
          · have q2 : decide (M < 0) = false := decide_eq_false hMn
            have eK : M = (K : Int) := by rw [if_neg hMn] at hK; exact hK
            subst eK
            clear hMn hK
            go_wp2_with fail
            go_meet
            case rel => exact ⟨rfl, rfl⟩
        case rest =>
          obtain ⟨rfl, rfl⟩ := hcut
          clear hM hM1 hM0 qz hK hw1 hw2
          have HSS : Hid (SB sf F) := Lib.hid (by rw [← HSF.out]; exact strL_SB F)
          go_upto_region 8 with fail
          have hconv := run_bytes_of_string (P := Try.prog) w2 9 43 5 sf Try.underlying9 Try.underlying43 Try.underlying5
          have BR0 := BR.new w2 sf (grownCap w2 sf.size 0 5) 5 F HSS.out
          have hbD : Bl w2 (w2.drew.alloc (.cells (bytesRow sf (grownCap w2 sf.size 0 5)) 5 ((bytesRow sf (grownCap w2 sf.size 0 5)).size, (bytesRow sf (grownCap w2 sf.size 0 5)).size + 1))) := ((Bl.refl w2).drew).alloc _
          obtain ⟨cap, hcap⟩ : ∃ cap, grownCap w2 sf.size 0 5 = cap := ⟨_, rfl⟩
          rw [hcap] at hconv BR0 hbD
          clear hcap
          generalize w2.drew.alloc (.cells (bytesRow sf cap) 5 ((bytesRow sf cap).size, (bytesRow sf cap).size + 1)) = BW at *
          have hgl : w2.heap.size ≤ w2.heap.size := Nat.le_refl _
          obtain ⟨g, hgw⟩ : ∃ g, w2.heap.size = g := ⟨_, rfl⟩
          rw [hgw] at hconv BR0 hgl
          have BS := BR0.set K hKF c
          have ck := BR0.cells K hKF
          have cf := BR0.free K hKF
          have B6 : Bl w2 (BW.setCell ⟨g, K, none⟩ (.int .u8 (c.toNat : Int))) := hbD.setCell (p := ⟨g, K, none⟩) (by rw [hgw]; exact Nat.le_refl g) _
          have hst := run_convert_bytes_back (P := Try.prog) (BW.setCell ⟨g, K, none⟩ (.int .u8 (c.toNat : Int))) 43 9 5 ⟨g, 0, none⟩ cap (F.set K c) Try.underlying43 Try.underlying5 Try.underlying9 (fun j hj => by
            have := BS j hj
            by_cases h : j = 0
            · subst h; simpa [Addr.add] using this
            · simpa [Addr.add, h] using this)
          rw [hSl] at hst
          clear BS hSl BR0 hbD hgl hgw
          change (convert _ _ _).run _ _ = .ok (.string (strL (F.set K c))) _ at hst
          have HB8 := Lib.hid B6
          clear B6
          have hKs2 : K < sf.size := by rw [hsz]; exact hKF
          have hKd : decide ((K : Int) < (F.length : Int)) = true := decide_eq_true (by omega)
          have hKd2 : decide (K < F.length) = true := decide_eq_true hKF
          generalize F[K].toNat = xk at *
          generalize c.toNat = cn at *
          generalize strL (F.set K c) = sch at *
          go_wp2_with fail
          refine (HRC.out _).mono ?_
          rintro e V6 ⟨rfl, hb6⟩
          have HB9 := Lib.hid ((HB8.out.trans hb6).alloc (.cells #[.int .i64 0, .int .i64 0, .int .i64 0, .slice none 0 0, .slice none 0 0, .slice none 0 0] 29))
          clear hconv hst cf ck hxor hb6
          go_wp2_with fail
          go_meet
          case rel => exact HB9.out
    case rest =>
      have HB3 := Lib.hid (HB2.out.trans hcut)
      clear hcut HB2 HX
      go_upto_region 13 with fail
      go_cut [106] (fun t106 W => t106 = .bool false ∧ Bl w W)
      case first =>
        by_cases hc0 : C = 0
        case neg =>
          have q0 : (C == 0) = false := by rw [beq_eq_false_iff_ne]; exact hc0
          clear hc0
          refine wp_region_allS (by kernel_rfl) (by kernel_rfl) ?_
          repeat (refine wpS_step (fun K hK => ?_); go_simp; first | (refine hK _ ?_; clear hK K) | (apply Exists.intro; refine ⟨fun q => ?_, hK _ ?_⟩; (fail); clear hK K))
          refine wpS_nil ?_
          intro q1
          have HBN := Lib.hid (HB3.out.trans (((Bl.refl wc).drew).trans q1.bl))
          go_step
          go_step
          go_meet
          case rel => exact ⟨rfl, HBN.out⟩
        subst hc0
        have hFT : F = sealL (bodyTx ⟨o, num, prev, ds, xs, ws⟩) := (HPC.out rfl).2.1.trans HP.out
        obtain ⟨bd, hbd⟩ : ∃ bd, bodyTx ⟨o, num, prev, ds, xs, ws⟩ = bd := ⟨_, rfl⟩
        rw [hbd] at hFT
        obtain ⟨m, hm⟩ : ∃ m, bd.length = m := ⟨_, rfl⟩
        have hFm : F.length = m + 4 := by rw [hFT, sealL_len, hm]
        have hF65 : F.length ≤ 65000 := by rw [(HPC.out rfl).2.1]; exact (HPC.out rfl).2.2
        have ht1 : F.take m = bd := by
          have := sealL_take bd
          rw [← hFT, hFm, Nat.add_sub_cancel] at this
          exact this
        have ht2 : F.drop m = numB (sumL bd : Nat) 4 := by
          have := sealL_drop bd
          rw [← hFT, hFm, Nat.add_sub_cancel] at this
          exact this
        have e1 : sf.extract 0 m = strL bd := by rw [← HSF.out, strL_take, ht1]
        have e2 : sf.extract m (m + 4) = strL (numB (sumL bd : Nat) 4) := by
          have := strL_drop F m
          rw [strL_size, hFm, ht2] at this
          rw [← HSF.out]
          exact this
        have HSU := Lib.hid (fun w => lsum_any bd w (by omega))
        have hsub : ((m + 4 : Nat) : Int) - 4 = (m : Int) := by omega
        have hwr : IntKind.i64.wrap (m : Int) = (m : Int) := by rw [IntKind.wrap_i64]; omega
        have hmN : m ≤ m + 4 := Nat.le_add_right _ _
        have q4 : decide (((m + 4 : Nat) : Int) < 4) = false := decide_eq_false (by omega)
        have q4b : decide ((m + 4 : Nat) < 4) = false := decide_eq_false (by omega)
        rw [hFm] at hsz
        clear hFT ht1 ht2 hbd hm hFm hF65
        generalize strL bd = sb at *
        generalize strL (numB (sumL bd : Nat) 4) = st at *
        have qe : (st.toList == st.toList) = true := by simp
        generalize hN : m + 4 = N at *
        clear hN
        refine wp_region_allS (by kernel_rfl) (by kernel_rfl) ?_
        repeat (refine wpS_step (fun K hK => ?_); go_simp; first | (refine hK _ ?_; clear hK K) | (apply Exists.intro; refine ⟨fun q => ?_, hK _ ?_⟩; (with_reducible exact HSU.out _); clear hK K))
        refine wpS_nil ?_
        intro q1
        have HBN := Lib.hid (HB3.out.trans (((Bl.refl wc).drew).trans q1.bl))
        go_step
        go_step
        go_meet
        case rel => exact ⟨rfl, HBN.out⟩
      case rest =>
        obtain ⟨rfl, hb4⟩ := hcut
        have HB4 := Lib.hid hb4
        clear hb4 HB3 hsz hB hB8
        go_upto_if 107 with fail
        go_cut [3] (fun t3 W => ∃ b2 : ByteArray, t3 = .string b2 ∧ Bl w W ∧ b2.size ≤ 10000)
        case first =>
          cases seal_
          · go_wp2_with fail
            go_meet
            case rel => exact ⟨b, rfl, HB4.out, by omega⟩
          · obtain ⟨lb, hlb⟩ : ∃ lb, strL lb = b := ⟨b.data.toList, strL_data b⟩
            have hll : b.size = lb.length := by rw [← hlb, strL_size]
            have HSU := Lib.hid (fun w => lsum_any lb w (by omega))
            have hn4 : (strL (numB (sumL lb : Nat) 4)).size = 4 := by rw [strL_size, numB_len]
            rw [hlb] at HSU
            have e1 : b ++ strL (numB (sumL lb : Nat) 4) = strL (lb ++ numB (sumL lb : Nat) 4) := by rw [← hlb]; exact strL_app _ _
            have hsz2 : (strL (lb ++ numB (sumL lb : Nat) 4)).size ≤ 10000 := by rw [strL_size, List.length_append, numB_len]; omega
            have sapp : (9223372036854775807 < b.size + 4) = False := eq_false (by omega)
            have HZ2 := Lib.hid hsz2
            clear hlb hll hsz2
            generalize strL (lb ++ numB (sumL lb : Nat) 4) = sr at *
            generalize strL (numB (sumL lb : Nat) 4) = s4 at *
            go_wp2_with fail
            refine (HSU.out _).mono ?_
            rintro e V1 ⟨rfl, hb5⟩
            go_wp2_with fail
            go_meet
            case rel => exact ⟨sr, rfl, HB4.out.trans hb5, HZ2.out⟩
        case rest =>
          obtain ⟨b2, rfl, hb5, hz2⟩ := hcut
          have HB5 := Lib.hid hb5
          clear hb5 HB4 h9 hbs
          obtain ⟨lb, hlb⟩ : ∃ lb, strL lb = b2 := ⟨b2.data.toList, strL_data b2⟩
          have HGET := Lib.hid (fun w => txGet_any lb w)
          rw [hlb] at HGET
          have HLB2 := Lib.hid hlb
          clear hlb
          go_wp2_with fail
          refine (HGET.out _).mono ?_
          rintro e V2 (⟨u, s7, hu, rfl, hx7, hb6⟩ | ⟨hu, rfl, hb6⟩)
          · obtain ⟨hv, hok, hpu, hlu⟩ := rdTx_back hu
            have hTU : TX V2 s7 u := hx7.tx hok
            obtain ⟨hc0, hpl⟩ := ptC_put hv (by rw [hpu]; exact hlu)
            rw [hpu] at hpl
            have HPU := Lib.hid (fun w (h : TX w s7 u) => txPut_any u s7 w h)
            have HVA := Lib.hid (fun w (h : TX w s7 u) => txValid_any u s7 w h)
            rw [hc0, hpl, HLB2.out] at HPU
            rw [hv] at HVA
            have HTU := Lib.hid hTU
            clear hu hv hok hpu hlu hx7 hTU hc0 hpl
            unfold txV at HPU HVA ⊢
            obtain ⟨ua, un, uc, va, vn, vc, wa', wn', wc'⟩ := s7
            obtain ⟨uo, unum, uprev, uds, uxs, uws⟩ := u
            dsimp only at HPU HVA ⊢
            have hgu := AC.new V2 _ rfl [.int .i64 uo, .int .i64 unum, .int .i64 uprev, .slice ua un uc, .slice va vn vc, .slice wa' wn' wc'] 29
            have hbu := (Bl.refl V2).alloc (.cells #[.int .i64 uo, .int .i64 unum, .int .i64 uprev, .slice ua un uc, .slice va vn vc, .slice wa' wn' wc'] 29)
            have HTU2 := Lib.hid (HTU.out.keep hbu)
            have HB6 := Lib.hid (HB5.out.trans (hb6.trans hbu))
            clear hb6 hbu HB5 HTU
            go_upto_region 18 with fail
            have HGU := Lib.hid hgu
            generalize V2.alloc _ = V3 at *
            generalize V2.heap.size = gu at *
            clear hgu
            have e0 := HGU.out.cell 0 _ rfl
            have e1 := HGU.out.cell 1 _ rfl
            have e2 := HGU.out.cell 2 _ rfl
            have e3 := HGU.out.cell 3 _ rfl
            have e4 := HGU.out.cell 4 _ rfl
            have e5 := HGU.out.cell 5 _ rfl
            go_wp2_with fail
            refine (HPU.out _ HTU2.out).mono ?_
            rintro e V4 ⟨rfl, hb7⟩
            go_wp2_with fail
            refine (alive21_any _).mono ?_
            rintro e V5 ⟨rfl, hb8⟩
            have hb78 := hb7.trans hb8
            replace e0 := hb78.cell e0
            replace e1 := hb78.cell e1
            replace e2 := hb78.cell e2
            replace e3 := hb78.cell e3
            replace e4 := hb78.cell e4
            replace e5 := hb78.cell e5
            have HB7 := Lib.hid (HB6.out.trans hb78)
            have HTU3 := Lib.hid (HTU2.out.keep hb78)
            clear hb7 hb8 hb78 HB6 HTU2
            have qe : (b2.toList == b2.toList) = true := by simp
            go_wp2_with fail
            refine (HVA.out _ HTU3.out).mono ?_
            rintro e V6 ⟨rfl, hb9⟩
            go_wp2_with fail
            go_ret
            exact ⟨rfl, HB7.out.trans hb9⟩
          · unfold txV nilTx nilAt
            dsimp only
            have hgu := AC.new V2 _ rfl [.int .i64 0, .int .i64 0, .int .i64 0, .slice none 0 0, .slice none 0 0, .slice none 0 0] 29
            have hbu := (Bl.refl V2).alloc (.cells #[.int .i64 0, .int .i64 0, .int .i64 0, .slice none 0 0, .slice none 0 0, .slice none 0 0] 29)
            have HB6 := Lib.hid (HB5.out.trans (hb6.trans hbu))
            clear hb6 hbu HB5 hu
            go_upto_region 18 with fail
            have HGU := Lib.hid hgu
            generalize V2.alloc _ = V3 at *
            generalize V2.heap.size = gu at *
            clear hgu
            go_wp2_with fail
            refine (alive21_any _).mono ?_
            rintro e V5 ⟨rfl, hb8⟩
            have e1 := (HGU.out.keep hb8).cell 1 _ rfl
            have e5 := (HGU.out.keep hb8).cell 5 _ rfl
            go_wp2_with fail
            go_ret
            exact ⟨rfl, HB6.out.trans hb8⟩
end Go.Proofs.Ytaokennbpgdngaa
