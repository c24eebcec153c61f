import Derived.Test.YtaokennbpgdngaaQStreamUnsentP6
import Derived.Test.YtaokennbpgdngaaQStreamUnsentP10
import Derived.Test.YtaokennbpgdngaaQStreamUnsentP11
import Derived.Test.YtaokennbpgdngaaQRSameT

/- the walk of StreamUnsent (printed by wip/gen/unsentx.py). By an AI agent. -/
section
set_option linter.unusedVariables false
set_option linter.unusedSimpArgs false
namespace Go.Proofs.Ytaokennbpgdngaa
open Go.RowKit
attribute [local go_sem] eOp eOper eUpon

theorem unsWs_refl (a : List (ByteArray × ActL)) : sameWs a a = true := sameWs_iff.2 ⟨rfl, fun i _ => ⟨rfl, by simp [sameA]⟩⟩
theorem unsT_refl (t : TxnL) : sameT t t = true := by
  unfold sameT
  rw [unsWs_refl]
  simp
set_option maxHeartbeats 6400000 in
set_option maxRecDepth 100000 in
theorem uns_no (ta : Option Addr) (tn tc : Nat) (own : List TxnL) (f : Nat → TxAt) (ra : Option Addr) (rn rc : Nat) (row : List Int) (most : Int) (w : World) (h : TS w ta tn own f) (hp : IA w ra rn row)
    (hno : ¬ (lightT own = true ∧ 0 < tn ∧ chainL own 0 = true ∧ row.length = (nthT own 0).at_.length)) :
    Calls Try.prog 3 #[.slice ta tn tc, .slice ra rn rc, .int .i64 most] w fun e w' => e = .returned (.bool true) ∧ Bl w w' := by
  have HT := Lib.hid h
  have HP := Lib.hid hp
  have hcap := h.cap
  have hpc := hp.cap
  have hpl := hp.len
  clear h hp
  cases hl : lightT own
  · have HL := Lib.hid hl
    clear hl hno
    go_enter Try.func3, Try.ntmps3
    go_wp2_with fail
    refine (light22_any ta tn tc own f _ HT.out).mono ?_
    rintro e w1 ⟨rfl, hb1⟩
    rw [HL.out]
    go_wp2_with fail
    refine (alive22_any _).mono ?_
    rintro e w2 ⟨rfl, hb2⟩
    go_wp2_with fail
    go_ret
    exact ⟨rfl, hb1.trans hb2⟩
  have HL := Lib.hid hl
  by_cases h3 : 0 < tn
  case neg =>
    obtain rfl : tn = 0 := by omega
    clear hl hno
    go_enter Try.func3, Try.ntmps3
    go_wp2_with fail
    refine (light22_any ta 0 tc own f _ HT.out).mono ?_
    rintro e w1 ⟨rfl, hb1⟩
    rw [HL.out]
    go_wp2_with fail
    refine (alive22_any _).mono ?_
    rintro e w2 ⟨rfl, hb2⟩
    go_wp2_with fail
    go_ret
    exact ⟨rfl, hb1.trans hb2⟩
  have q3 : ((tn : Int) == 0) = false := by rw [beq_eq_false_iff_ne]; omega
  cases hc : chainL own 0
  · have HC := Lib.hid hc
    clear hl hno hc
    go_enter Try.func3, Try.ntmps3
    go_wp2_with fail
    refine (light22_any ta tn tc own f _ HT.out).mono ?_
    rintro e w1 ⟨rfl, hb1⟩
    rw [HL.out]
    go_wp2_with fail
    refine (rchain_any ta tn tc own f 0 _ (HT.out.keep hb1)).mono ?_
    rintro e w2 ⟨rfl, hb2⟩
    rw [HC.out]
    go_wp2_with fail
    refine (alive22_any _).mono ?_
    rintro e w3 ⟨rfl, hb3⟩
    go_wp2_with fail
    go_ret
    exact ⟨rfl, hb1.trans (hb2.trans hb3)⟩
  have HC := Lib.hid hc
  obtain ⟨tb, toff, rfl, _⟩ := HT.out.cells 0 h3
  have hA0 := (HT.out.tx 0 h3).at_.len
  have HC0 := Lib.hid (fun W (hb : Bl w W) => (HT.out.get hb h3).c4)
  obtain ⟨s0, hs0⟩ : ∃ s, f 0 = s := ⟨_, rfl⟩
  rw [hs0] at hA0 HC0
  rw [Nat.zero_mul, Nat.add_zero] at HC0
  obtain ⟨da0, dn0, dc0, aa0, an0, ac0, wa0, wn0, wc0⟩ := s0
  dsimp only at HC0 hA0
  have hne : rn ≠ an0 := fun e => hno ⟨hl, h3, hc, by omega⟩
  have q4 : ((rn : Int) != (an0 : Int)) = true := by rw [bne_iff_ne]; omega
  clear hl hno hc hs0 hA0 hne hpl
  go_enter Try.func3, Try.ntmps3
  go_wp2_with fail
  refine (light22_any _ tn tc own f _ HT.out).mono ?_
  rintro e w1 ⟨rfl, hb1⟩
  rw [HL.out]
  go_wp2_with fail
  refine (rchain_any _ tn tc own f 0 _ (HT.out.keep hb1)).mono ?_
  rintro e w2 ⟨rfl, hb2⟩
  rw [HC.out]
  have HB2 := Lib.hid (hb1.trans hb2)
  have c4 := HC0.out _ HB2.out
  clear hb1 hb2
  go_wp2_with fail
  refine (alive22_any _).mono ?_
  rintro e w3 ⟨rfl, hb3⟩
  go_wp2_with fail
  go_ret
  exact ⟨rfl, HB2.out.trans hb3⟩
/-- all that the great walk needs of the lists -/
structure UN (w : World) (tb toff tn : Nat) (own : List TxnL) (f : Nat → TxAt) (ra : Option Addr) (rn : Nat) (row : List Int) : Prop where
  ts : TS w (some ⟨tb, toff, none⟩) tn own f
  row : IA w ra rn row
  c : ChainOf own rn
  pos : 0 < tn
  n1 : 1 ≤ rn
  ws : ∀ j, j < tn → (f j).wn ≤ 1000000
/-- what is left is as long as said, and each is the place's own -/
theorem uns_len {own : List TxnL} {k : Nat} (hk : k ≤ own.length) (most : Int) : (if 0 ≤ most then (own.drop k).take most.toNat else own.drop k).length = if 0 ≤ most then min most.toNat (own.length - k) else own.length - k := by
  split
  · rw [List.length_take, List.length_drop]
  · rw [List.length_drop]
theorem uns_at {own : List TxnL} {k : Nat} (most : Int) {i : Nat} (hi : i < (if 0 ≤ most then (own.drop k).take most.toNat else own.drop k).length) :
    nthT (if 0 ≤ most then (own.drop k).take most.toNat else own.drop k) i = nthT own (k + i) ∧ nthT (own.drop k) i = nthT own (k + i) := by
  have key : ∀ {i}, i < (own.drop k).length → nthT (own.drop k) i = nthT own (k + i) := fun {i} h => by
    rw [List.length_drop] at h
    rw [nthT_eq (by rw [List.length_drop]; omega), nthT_eq (by omega), List.getElem_drop]
  split at hi
  · rw [List.length_take] at hi
    rw [if_pos (by assumption)]
    have h2 : i < (own.drop k).length := by omega
    refine ⟨?_, key h2⟩
    rw [← key h2, nthT_eq (by rw [List.length_take]; omega), nthT_eq h2, List.getElem_take]
  · rw [if_neg (by assumption)]
    exact ⟨key hi, key hi⟩

set_option maxHeartbeats 12800000 in
set_option maxRecDepth 100000 in
theorem uns_yes (tb toff tn tc : Nat) (own : List TxnL) (f : Nat → TxAt) (ra : Option Addr) (rn rc : Nat) (row : List Int) (most : Int) (hm : -9223372036854775808 ≤ most ∧ most ≤ 9223372036854775807) (w : World) (h : UN w tb toff tn own f ra rn row)
    (hl : lightT own = true) (hc : chainL own 0 = true) :
    Calls Try.prog 3 #[.slice (some ⟨tb, toff, none⟩) tn tc, .slice ra rn rc, .int .i64 most] w fun e w' => e = .returned (.bool true) ∧ Bl w w' := by
  have hcap := h.ts.cap
  have hrc := h.row.cap
  have hpos := h.pos
  have hn1 := h.n1
  have HH := Lib.hid h
  have HLE := Lib.hid h.ts.len
  have HRL := Lib.hid h.row.len
  have HL := Lib.hid hl
  have HC := Lib.hid hc
  have HCN := Lib.hid h.c
  have q3 : ((tn : Int) == 0) = false := by rw [beq_eq_false_iff_ne]; omega
  have HA0 := Lib.hid (h.ts.tx 0 hpos).at_.len
  have hl0 := h.c.len 0 (by rw [h.ts.len]; exact hpos)
  have HC0 := Lib.hid (fun W (hb : Bl w W) => (h.ts.get hb hpos).c4)
  obtain ⟨s0, hs0⟩ : ∃ s, f 0 = s := ⟨_, rfl⟩
  rw [hs0] at HA0 HC0
  rw [Nat.zero_mul, Nat.add_zero] at HC0
  obtain ⟨da0, dn0, dc0, aa0, an0, ac0, wa0, wn0, wc0⟩ := s0
  have ha0 : an0 = rn := by have := HA0.out; dsimp only at this; omega
  subst ha0
  have q4 : ((an0 : Int) != (an0 : Int)) = false := by simp
  have ia0 : decide ((0 : Int) < (an0 : Int)) = true := decide_eq_true (by omega)
  have ia1 : decide (0 < an0) = true := decide_eq_true (by omega)
  have ip0 : 0 < an0 := by omega
  obtain ⟨rb, roff, rfl, hrow⟩ := h.row.cells 0 hn1
  have HR0 := Lib.hid (hrow 0 hn1)
  rw [Nat.add_zero] at HR0
  dsimp only at HC0
  clear h hl hc hs0 hl0 HA0 hrow
  go_enter Try.func3, Try.ntmps3
  go_wp2_with fail
  refine (light22_any _ tn tc own f _ HH.out.ts).mono ?_
  rintro e w1 ⟨rfl, hb1⟩
  rw [HL.out]
  go_wp2_with fail
  refine (rchain_any _ tn tc own f 0 _ (HH.out.ts.keep hb1)).mono ?_
  rintro e w2 ⟨rfl, hb2⟩
  rw [HC.out]
  have HB2 := Lib.hid (hb1.trans hb2)
  have c4 := HC0.out _ HB2.out
  clear hb1 hb2
  go_wp2_with fail
  refine (unsent_any _ tn tc own f 0 _ an0 rc row (-1) _ (HH.out.ts.keep HB2.out) (HH.out.row.keep HB2.out) HH.out.ws).mono ?_
  rintro e w3 ⟨v3, g3, rfl, hot3, hb3⟩
  have HOT3 := Lib.hid hot3
  have HB3 := Lib.hid (HB2.out.trans hb3)
  clear hot3 hb3 c4 q3 q4
  go_wp2_with fail
  refine (unsent_any _ tn tc own f 0 _ an0 rc row most _ (HH.out.ts.keep HB3.out) (HH.out.row.keep HB3.out) HH.out.ws).mono ?_
  rintro e w4 ⟨v4, g4, rfl, hot4, hb4⟩
  have HOT4 := Lib.hid hot4
  have HOT3 := Lib.hid (HOT3.out.keep hb4)
  have HB4 := Lib.hid (HB3.out.trans hb4)
  clear hot4 hb4
  go_wp2_with fail
  go_loopw [9] (fun i wr => ∃ k : Nat, k ≤ tn ∧ i = .int .i64 k ∧ Bl w4 wr ∧ ∀ j, j < k → nth (nthT own j).at_ 0 ≤ nth row 0) (fun i _ => tn - (intOf i).toNat)
  case atStart => exact ⟨0, Nat.zero_le _, rfl, Bl.refl _, fun j hj => absurd hj (Nat.not_lt_zero _)⟩
  case round =>
    obtain ⟨k, hk, rfl, hbl, hle⟩ := hrel
    have HBL := Lib.hid hbl
    have HLE2 := Lib.hid hle
    have HBW := Lib.hid (HB4.out.trans hbl)
    clear hbl hle
    have hr0 : ∀ q : Ext wr.drew, q.at.cell? ⟨rb, roff, none⟩ = some (.int .i64 (nth row 0)) := fun q => (HBW.out.drew.trans q.bl).cell HR0.out
    have HWD := Lib.hid HBW.out.drew
    go_upto_region 5 with fail
    go_cut [58] (fun t58 W => ∃ b : Bool, t58 = .bool b ∧ Bl wr W ∧ (b = true → k < tn ∧ ∀ j, j < k + 1 → nth (nthT own j).at_ 0 ≤ nth row 0) ∧ (b = false → unsentL own 0 row (-1) = own.drop k ∧ unsentL own 0 row most = if 0 ≤ most then (own.drop k).take most.toNat else own.drop k))
    case first =>
      by_cases hlt : k < tn
      · have hlk := HCN.out.len k (by rw [HLE.out]; exact hlt)
        have hak := (HH.out.ts.tx k hlt).at_.len
        have HAK := Lib.hid ((HH.out.ts.tx k hlt).at_)
        have h4 : ∀ q : Ext wr.drew, _ := fun q => (HH.out.ts.get (HWD.out.trans q.bl) hlt).c4
        obtain ⟨sk, hsk⟩ : ∃ s, f k = s := ⟨_, rfl⟩
        rw [hsk] at h4 hak HAK
        obtain ⟨da, dn, dc, aa, an, ac, wa, wn, wc⟩ := sk
        dsimp only at h4 hak HAK
        have han : an0 = an := by omega
        subst han
        obtain ⟨ba, oa, rfl, hcx⟩ := HAK.out.cells 0 hn1
        have hc0 := hcx 0 hn1
        rw [Nat.add_zero] at hc0
        have hx0 : ∀ q : Ext wr.drew, q.at.cell? ⟨ba, oa, none⟩ = some (.int .i64 (nth (nthT own k).at_ 0)) := fun q => (HWD.out.trans q.bl).cell hc0
        have HST : Hid (nth (nthT own k).at_ 0 ≤ nth row 0 → ∀ j, j < k + 1 → nth (nthT own j).at_ 0 ≤ nth row 0) := Lib.hid (fun h j hj => by
          rcases Nat.lt_succ_iff_lt_or_eq.1 hj with h1 | rfl
          · exact HLE2.out j h1
          · exact h)
        have HSTOP : Hid (¬ nth (nthT own k).at_ 0 ≤ nth row 0 → unsentL own 0 row (-1) = own.drop k ∧ unsentL own 0 row most = if 0 ≤ most then (own.drop k).take most.toNat else own.drop k) := Lib.hid (fun h => by
          have h5 := unsent_all HCN.out HRL.out hn1 (by rw [HLE.out]; exact hk) HLE2.out (fun _ => by omega)
          exact ⟨by rw [h5 (-1)]; rfl, h5 most⟩)
        clear hsk hlk hak hcx hc0
        generalize nth (nthT own k).at_ 0 = x0 at *
        generalize hy0 : nth row 0 = y0 at *
        have HY0 := Lib.hid hy0
        clear hy0
        by_cases hxy : x0 ≤ y0
        · have d0 : decide (x0 ≤ y0) = true := decide_eq_true hxy
          have HF := Lib.hid (HST.out hxy)
          refine wp_region_allS (by kernel_rfl) (by kernel_rfl) ?_
          repeat (refine wpS_step (fun K hK => ?_); go_simp; first | (refine hK _ ?_; clear hK K) | (apply Exists.intro; refine ⟨fun q => ?_, hK _ ?_⟩; (fail); clear hK K))
          refine wpS_nil ?_
          intro q1
          go_step
          go_step
          go_meet
          case rel => exact ⟨true, rfl, ((Bl.refl wr).drew).trans q1.bl, fun _ => ⟨hlt, by first | exact HF.out | (rw [HY0.out]; exact HF.out)⟩, fun h => (by cases h)⟩
        · have d0 : decide (x0 ≤ y0) = false := decide_eq_false hxy
          have HF := Lib.hid (HSTOP.out hxy)
          refine wp_region_allS (by kernel_rfl) (by kernel_rfl) ?_
          repeat (refine wpS_step (fun K hK => ?_); go_simp; first | (refine hK _ ?_; clear hK K) | (apply Exists.intro; refine ⟨fun q => ?_, hK _ ?_⟩; (fail); clear hK K))
          refine wpS_nil ?_
          intro q1
          go_step
          go_step
          go_meet
          case rel => exact ⟨false, rfl, ((Bl.refl wr).drew).trans q1.bl, fun h => (by cases h), fun _ => HF.out⟩
      · have HF : Hid (unsentL own 0 row (-1) = own.drop k ∧ unsentL own 0 row most = if 0 ≤ most then (own.drop k).take most.toNat else own.drop k) := Lib.hid (by
          have h5 := unsent_all HCN.out HRL.out hn1 (by rw [HLE.out]; exact hk) HLE2.out (fun h => absurd h (by rw [HLE.out]; exact hlt))
          exact ⟨by rw [h5 (-1)]; rfl, h5 most⟩)
        have dk1 : decide ((k : Int) < (tn : Int)) = false := decide_eq_false (by omega)
        have dk2 : decide (k < tn) = false := decide_eq_false hlt
        refine wp_region_allS (by kernel_rfl) (by kernel_rfl) ?_
        repeat (refine wpS_step (fun K hK => ?_); go_simp; first | (refine hK _ ?_; clear hK K) | (apply Exists.intro; refine ⟨fun q => ?_, hK _ ?_⟩; (fail); clear hK K))
        refine wpS_nil ?_
        intro q1
        go_step
        go_step
        go_meet
        case rel => exact ⟨false, rfl, ((Bl.refl wr).drew).trans q1.bl, fun h => (by cases h), fun _ => HF.out⟩
    case rest =>
      obtain ⟨b, rfl, hbc, ht, hf⟩ := hcut
      clear hr0 HWD
      have HBN := Lib.hid (HBL.out.trans hbc)
      have HTT := Lib.hid ht
      have HFF := Lib.hid hf
      clear hbc ht hf HBL HLE2
      cases b
      case true =>
        clear HFF
        obtain ⟨hlt, hst⟩ := HTT.out rfl
        have HF := Lib.hid hst
        clear hst HTT
        go_wp2_with fail
        go_roundw
        case rel => exact ⟨k + 1, by omega, by go_num, HBN.out, HF.out⟩
        case measure => simp [intOf]; omega
      case false =>
        have HF := Lib.hid (HFF.out rfl)
        have HBQ := Lib.hid HBN.out
        replace HBN := Lib.hid (HB4.out.trans HBN.out)
        clear HTT HFF HBW
        generalize wc = Y at *
        have HLEN := Lib.hid (uns_len (own := own) (k := k) (by rw [HLE.out]; exact hk) most)
        have HAT := Lib.hid (fun i hi => uns_at (own := own) (k := k) most (i := i) hi)
        have hot3 := HOT3.out.keep HBQ.out
        have hot4 := HOT4.out.keep HBQ.out
        rw [HF.out.1] at hot3
        rw [HF.out.2] at hot4
        obtain ⟨M, hM⟩ : ∃ M, (if 0 ≤ most then (own.drop k).take most.toNat else own.drop k) = M := ⟨_, rfl⟩
        rw [hM] at hot4 HLEN HAT
        have hdk : (own.drop k).length = tn - k := by rw [List.length_drop, HLE.out]
        have hml2 : M.length ≤ tn - k := by have := HLEN.out; rw [HLE.out] at this; split at this <;> omega
        obtain ⟨la, lc, rfl, hts3⟩ := hot3.ts (by omega)
        obtain ⟨ma, mc, rfl, hts4⟩ := hot4.ts (by omega)
        obtain ⟨dl, hdl⟩ : ∃ d, (own.drop k).length = d := ⟨_, rfl⟩
        obtain ⟨ml, hml⟩ : ∃ d, M.length = d := ⟨_, rfl⟩
        rw [hdl] at hts3 hdk ⊢
        rw [hml] at hts4 hml2 HLEN HAT ⊢
        rw [HLE.out, ← hdk] at HLEN
        have HT3 := Lib.hid hts3
        have HT4 := Lib.hid hts4
        have hdk2 : dl + k = tn := by omega
        have p1 : ((dl : Int) != (tn : Int) - (k : Int)) = false := by rw [bne_eq_false_iff_eq]; omega
        have hmd : ml ≤ dl := by omega
        clear hot3 hot4 hM hdl hml hdk hml2 hts3 hts4 HF HOT3 HOT4
        go_upto_region 7 with fail
        go_cut [91] (fun t91 W => t91 = .bool false ∧ Y = W)
        case first =>
          by_cases hm0 : 0 ≤ most
          · obtain ⟨mo, rfl⟩ := Int.eq_ofNat_of_zero_le hm0
            have p2 : ((ml : Int) != min (mo : Int) (dl : Int)) = false := by
              have := HLEN.out
              rw [if_pos hm0, Int.toNat_natCast] at this
              rw [bne_eq_false_iff_eq]; omega
            clear HLEN
            go_wp2_with fail
            go_meet
            case rel => exact ⟨rfl, rfl⟩
          · have d1 : decide (0 ≤ most) = false := decide_eq_false hm0
            have d2 : decide (most < 0) = true := decide_eq_true (by omega)
            have p2 : ((ml : Int) != (dl : Int)) = false := by
              have := HLEN.out
              rw [if_neg hm0] at this
              rw [bne_eq_false_iff_eq]; omega
            clear HLEN
            go_wp2_with fail
            go_meet
            case rel => exact ⟨rfl, rfl⟩
        case rest =>
          obtain ⟨rfl, rfl⟩ := hcut
          clear HLEN p1
          go_wp2_with fail
          go_loopw [10] (fun i wz => ∃ j : Nat, j ≤ ml ∧ i = .int .i64 j ∧ Bl Y wz) (fun i _ => ml - (intOf i).toNat)
          case atStart => exact ⟨0, Nat.zero_le _, rfl, Bl.refl _⟩
          case round =>
            obtain ⟨j, hj, rfl, hbl2⟩ := hrel
            have HB5 := Lib.hid (HBN.out.trans hbl2)
            have HB6 := Lib.hid hbl2
            clear hbl2
            by_cases hjl : j < ml
            · have hat := HAT.out j hjl
              have hkj : k + j < tn := by omega
              have hjd : j < dl := by omega
              obtain ⟨bm, om, rfl, _⟩ := HT4.out.cells j hjl
              obtain ⟨bl, ol, rfl, _⟩ := HT3.out.cells j hjd
              have HTM := Lib.hid ((HT4.out.tx j hjl).keep HB6.out.drew)
              have HTL := Lib.hid ((HT3.out.tx j hjd).keep HB6.out.drew)
              have HTO := Lib.hid ((HH.out.ts.tx (k + j) hkj).keep HB5.out.drew)
              have HCM := Lib.hid (HT4.out.get HB6.out.drew hjl)
              have HCL := Lib.hid (HT3.out.get HB6.out.drew hjd)
              have HCO := Lib.hid (HH.out.ts.get HB5.out.drew hkj)
              rw [hat.1] at HTM HCM
              rw [hat.2] at HTL HCL
              clear hat
              obtain ⟨z, hz⟩ : ∃ z, k + j = z := ⟨_, rfl⟩
              rw [hz] at HTM HTL HTO HCM HCL HCO hkj
              have hzw : IntKind.i64.wrap ((k : Int) + (j : Int)) = (z : Int) := by rw [IntKind.wrap_i64]; omega
              obtain ⟨t, ht⟩ : ∃ t, nthT own z = t := ⟨_, rfl⟩
              obtain ⟨sm, hsm⟩ : ∃ s, g4 j = s := ⟨_, rfl⟩
              obtain ⟨sl, hsl⟩ : ∃ s, g3 j = s := ⟨_, rfl⟩
              obtain ⟨so, hso⟩ : ∃ s, f z = s := ⟨_, rfl⟩
              rw [ht] at HTM HTL HTO HCM HCL HCO
              rw [hsm] at HTM HCM
              rw [hsl] at HTL HCL
              rw [hso] at HTO HCO
              have HAa := Lib.hid (fun (q : Ext wr.drew) => by
                have := rsameT_any t t sm so q.at (HTM.out.keep q.bl) (HTO.out.keep q.bl)
                rw [unsT_refl] at this
                exact this)
              have HAb := Lib.hid (fun (q : Ext wr.drew) => by
                have := rsameT_any t t sl sm q.at (HTL.out.keep q.bl) (HTM.out.keep q.bl)
                rw [unsT_refl] at this
                exact this)
              clear ht hsm hsl hso hz
              obtain ⟨o, num, prev, ds, xs, ws⟩ := t
              obtain ⟨da1, dn1, dc1, aa1, an1, ac1, wa1, wn1, wc1⟩ := sm
              obtain ⟨da2, dn2, dc2, aa2, an2, ac2, wa2, wn2, wc2⟩ := sl
              obtain ⟨da3, dn3, dc3, aa3, an3, ac3, wa3, wn3, wc3⟩ := so
              unfold txV at HAa HAb
              dsimp only at HAa HAb
              have cm0 : ∀ q : Ext wr.drew, _ := fun q => (HCM.out.keep q.bl).c0
              have cm1 : ∀ q : Ext wr.drew, _ := fun q => (HCM.out.keep q.bl).c1
              have cm2 : ∀ q : Ext wr.drew, _ := fun q => (HCM.out.keep q.bl).c2
              have cm3 : ∀ q : Ext wr.drew, _ := fun q => (HCM.out.keep q.bl).c3
              have cm4 : ∀ q : Ext wr.drew, _ := fun q => (HCM.out.keep q.bl).c4
              have cm5 : ∀ q : Ext wr.drew, _ := fun q => (HCM.out.keep q.bl).c5
              have cl0 : ∀ q : Ext wr.drew, _ := fun q => (HCL.out.keep q.bl).c0
              have cl1 : ∀ q : Ext wr.drew, _ := fun q => (HCL.out.keep q.bl).c1
              have cl2 : ∀ q : Ext wr.drew, _ := fun q => (HCL.out.keep q.bl).c2
              have cl3 : ∀ q : Ext wr.drew, _ := fun q => (HCL.out.keep q.bl).c3
              have cl4 : ∀ q : Ext wr.drew, _ := fun q => (HCL.out.keep q.bl).c4
              have cl5 : ∀ q : Ext wr.drew, _ := fun q => (HCL.out.keep q.bl).c5
              have co0 : ∀ q : Ext wr.drew, _ := fun q => (HCO.out.keep q.bl).c0
              have co1 : ∀ q : Ext wr.drew, _ := fun q => (HCO.out.keep q.bl).c1
              have co2 : ∀ q : Ext wr.drew, _ := fun q => (HCO.out.keep q.bl).c2
              have co3 : ∀ q : Ext wr.drew, _ := fun q => (HCO.out.keep q.bl).c3
              have co4 : ∀ q : Ext wr.drew, _ := fun q => (HCO.out.keep q.bl).c4
              have co5 : ∀ q : Ext wr.drew, _ := fun q => (HCO.out.keep q.bl).c5
              dsimp only at cm0 cm1 cm2 cm3 cm4 cm5 cl0 cl1 cl2 cl3 cl4 cl5 co0 co1 co2 co3 co4 co5
              go_upto_region 12 with fail
              refine wp_region_allS (by kernel_rfl) (by kernel_rfl) ?_
              repeat (refine wpS_step (fun K hK => ?_); go_simp; first | (refine hK _ ?_; clear hK K) | (apply Exists.intro; refine ⟨fun q => ?_, hK _ ?_⟩; (first | (with_reducible exact HAa.out q) | (with_reducible exact HAb.out q)); clear hK K))
              refine wpS_nil ?_
              intro q2
              have HBN2 := Lib.hid (HB6.out.trans (((Bl.refl wr).drew).trans q2.bl))
              clear cm0 cm1 cm2 cm3 cm4 cm5 cl0 cl1 cl2 cl3 cl4 cl5 co0 co1 co2 co3 co4 co5
              generalize ExtC.at q2 = V at *
              go_wp2_with fail
              go_roundw
              case rel => exact ⟨j + 1, by omega, by go_num, HBN2.out⟩
              case measure => simp [intOf]; omega
            · obtain ⟨z, hz⟩ : ∃ z, tn = z + 1 := ⟨tn - 1, by omega⟩
              have hzt : z < tn := by omega
              have hz1 : (tn : Int) - 1 = (z : Int) := by omega
              have HJN : Hid (unsentL own 0 (joinL row (nthT own z).at_) (-1) = []) := Lib.hid (by
                have := unsent_join HCN.out HRL.out hn1 (by rw [HLE.out]; exact hpos)
                rw [HLE.out, hz, Nat.add_sub_cancel] at this
                exact this)
              have HTZ := Lib.hid (HH.out.ts.tx z hzt).at_
              have HCZ := Lib.hid (fun W (hb : Bl w W) => (HH.out.ts.get hb hzt).c4)
              obtain ⟨sz, hsz⟩ : ∃ s, f z = s := ⟨_, rfl⟩
              rw [hsz] at HTZ HCZ
              obtain ⟨da, dn, dc, aa, an, ac, wa, wn, wc⟩ := sz
              dsimp only at HTZ HCZ
              have hje : j = ml := by omega
              subst hje
              clear hz hsz
              go_wp2_with fail
              refine (alive22_any _).mono ?_
              rintro e w5 ⟨rfl, hb5⟩
              have HB7 := Lib.hid (HB5.out.trans hb5)
              have c4 := HCZ.out _ HB7.out
              clear hb5
              go_wp2_with fail
              refine (rjoin3_any (some ⟨rb, roff, none⟩) aa an0 an rc ac row (nthT own z).at_ _ (HH.out.row.keep HB7.out) (HTZ.out.keep HB7.out)).mono ?_
              rintro e w6 ⟨v6, rfl, hf6, hb6⟩
              obtain ⟨va, vn, vc, rfl, hI⟩ := hf6.si
              have HI := Lib.hid (show IA w6 va vn (joinL row (nthT own z).at_) from hI)
              have HB8 := Lib.hid (HB7.out.trans hb6)
              clear hf6 hI hb6 c4
              go_wp2_with fail
              refine (unsent_any _ tn tc own f 0 va vn vc _ (-1) _ (HH.out.ts.keep HB8.out) HI.out HH.out.ws).mono ?_
              rintro e w7 ⟨v7, g7, rfl, hot7, hb7⟩
              rw [HJN.out] at hot7
              obtain ⟨ua, uc, rfl, _⟩ := hot7.ts (by decide)
              have HB9 := Lib.hid (HB8.out.trans hb7)
              clear hot7 hb7
              go_wp2_with fail
              go_ret
              exact ⟨rfl, HB9.out⟩
theorem streamUnsent_walk (ta : Option Addr) (tn tc : Nat) (own : List TxnL) (f : Nat → TxAt) (ra : Option Addr) (rn rc : Nat) (row : List Int) (most : Int) (w : World) (h : TS w ta tn own f) (hp : IA w ra rn row) (hm : -9223372036854775808 ≤ most ∧ most ≤ 9223372036854775807) :
    Calls Try.prog 3 #[.slice ta tn tc, .slice ra rn rc, .int .i64 most] w fun e w' => e = .returned (.bool true) ∧ Bl w w' := by
  by_cases hno : lightT own = true ∧ 0 < tn ∧ chainL own 0 = true ∧ row.length = (nthT own 0).at_.length
  · obtain ⟨h1, h3, h4, h5⟩ := hno
    have hc := chain_of h4
    have hol : 0 < own.length := by rw [h.len]; exact h3
    have h6 : 1 ≤ (nthT own 0).at_.length := (valid_parts (hc.parts 0 hol).at_).1
    have hls := (lightT_parts h1).2
    have hws : ∀ j, j < tn → (f j).wn ≤ 1000000 := fun j hj => by
      have h5 := hls j (by rw [h.len]; exact hj)
      simp only [smallT, Bool.and_eq_true, decide_eq_true_eq] at h5
      have h6 := (h.tx j hj).ws.len
      omega
    have hrl := hp.len
    rw [h5] at hrl
    obtain ⟨tb, toff, rfl, _⟩ := h.cells 0 h3
    rw [hrl] at hc
    exact uns_yes tb toff tn tc own f ra rn rc row most hm w ⟨h, hp, hc, h3, by omega, hws⟩ h1 h4
  · exact uns_no ta tn tc own f ra rn rc row most w h hp hno
end Go.Proofs.Ytaokennbpgdngaa
end
