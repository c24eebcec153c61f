import Derived.Test.YtaokennbpgdngaaCore25
import Derived.Test.YtaokennbpgdngaaCore20
import Derived.Deep.DeepCutAuto

/- links of a chain. By an AI agent. -/
section
set_option linter.unusedVariables false
set_option linter.unusedSimpArgs false
namespace Go.Proofs.Ytaokennbpgdngaa
open Go.RowKit

theorem chainL_no {own : List TxnL} {self : Int} {k : Nat} (hk : k < own.length) (h : chainAt own self k = false) : chainL own self = false := by
  unfold chainL
  rw [List.all_eq_false]
  exact ⟨k, List.mem_range.2 hk, by rw [h]; simp⟩
theorem chainL_yes {own : List TxnL} {self : Int} (h : ∀ j, j < own.length → chainAt own self j = true) : chainL own self = true := by
  unfold chainL
  exact List.all_eq_true.2 (fun j hj => h j (List.mem_range.1 hj))
theorem chain_step {own : List TxnL} {self : Int} {k : Nat} (h : ∀ j, j < k → chainAt own self j = true) (hk : chainAt own self k = true) : ∀ j, j < k + 1 → chainAt own self j = true := fun j hj => by
  rcases Nat.lt_or_ge j k with h' | h'
  · exact h j h'
  · obtain rfl : j = k := by omega
    exact hk
/-- an earlier link has this place -/
theorem chain_place {own : List TxnL} {self : Int} {k : Nat} (h : chainAt own self k = true) : 0 ≤ self ∧ self < (nthT own k).at_.length ∧ (nthT own k).num ≤ 281474976710655 ∧ 1 ≤ (nthT own k).num := by
  simp only [chainAt, Bool.and_eq_true, decide_eq_true_eq] at h
  have hp := validT_parts h.1
  have h2 := h.2.1
  exact ⟨by have := hp.o0; omega, by have := hp.o1; omega, hp.num.2, hp.num.1⟩
end Go.Proofs.Ytaokennbpgdngaa
end

/- stream.Chain. By an AI agent. -/
section
set_option linter.unusedVariables false
set_option linter.unusedSimpArgs false
namespace Go.Proofs.Ytaokennbpgdngaa
open Go.RowKit
attribute [local go_sem] eOp eOper eUpon

/-- what a link tells, part by part -/
theorem chainAt_zero (own : List TxnL) (self : Int) : chainAt own self 0 = (validT (nthT own 0) && (decide ((nthT own 0).o = self) && decide ((nthT own 0).prev = 0))) := by
  unfold chainAt
  rw [if_pos rfl, decide_eq_true (rfl : (nthT own 0).at_.length = (nthT own 0).at_.length), Bool.true_and]
theorem chainAt_succ (own : List TxnL) (self : Int) {k : Nat} (hk : 0 < k) : chainAt own self k = (validT (nthT own k) && (decide ((nthT own k).o = self) && (decide ((nthT own k).at_.length = (nthT own 0).at_.length) && (decide ((nthT own k).prev = nth (nthT own (k - 1)).at_ self.toNat) && decide ((nthT own k).num = (nthT own (k - 1)).num + 1))))) := by
  unfold chainAt
  rw [if_neg (by omega)]
set_option maxHeartbeats 12800000 in
set_option maxRecDepth 100000 in
theorem chain_any (ta : Option Addr) (tn tc : Nat) (own : List TxnL) (f : Nat → TxAt) (self : Int) (w : World) (h : TS w ta tn own f) :
    Calls Try.prog 35 #[.slice ta tn tc, .int .i64 self] w fun e w' => e = .returned (.bool (chainL own self)) ∧ Bl w w' := by
  have hcap := h.cap
  have HP := Lib.hid h
  have HL := Lib.hid h.len
  have hsf := store_float
  clear h
  go_enter Try.func35, Try.ntmps35
  go_wp2_with fail
  go_loopw [9] (fun i wr => ∃ k : Nat, k ≤ tn ∧ i = .int .i64 k ∧ Bl w wr ∧ ∀ j, j < k → chainAt own self j = true) (fun i _ => tn - (intOf i).toNat)
  case atStart => exact ⟨0, Nat.zero_le _, rfl, Bl.refl _, fun j hj => absurd hj (Nat.not_lt_zero _)⟩
  case round =>
    obtain ⟨k, hk, rfl, hbl, hok⟩ := hrel
    have HBL := Lib.hid hbl
    have HOK := Lib.hid hok
    clear hbl hok
    by_cases hlt : k < tn
    · have hkl : k < own.length := by rw [HL.out]; exact hlt
      obtain ⟨ba, oa, rfl, _⟩ := HP.out.cells k hlt
      have h0n : 0 < tn := by omega
      obtain ⟨c0, c1, c2, c3, c4, c5⟩ := HP.out.get HBL.out hlt
      have HT := Lib.hid ((HP.out.tx k hlt).keep HBL.out)
      have HNO := Lib.hid (fun h => chainL_no (self := self) hkl h)
      have HYES := Lib.hid (fun h => chain_step HOK.out h)
      have HC0 := Lib.hid (chainAt_zero own self)
      have HCS := Lib.hid (fun hk => chainAt_succ own self (k := k) hk)
      have HZ := Lib.hid (fun W (hb : Bl w W) => HP.out.get hb h0n)
      have HZX := Lib.hid (HP.out.tx 0 h0n).at_.len
      have HTK := Lib.hid (show nthT own k = nthT own k from rfl)
      obtain ⟨tk, htk⟩ : ∃ t, nthT own k = t := ⟨_, rfl⟩
      obtain ⟨sk, hsk⟩ : ∃ s, f k = s := ⟨_, rfl⟩
      rw [htk] at c0 c1 c2 HT HCS
      rw [hsk] at c3 c4 c5 HT
      have HTKK := Lib.hid htk
      clear htk hsk hkl HTK
      obtain ⟨o, num, prev, ds, xs, ws⟩ := tk
      obtain ⟨da, dn, dc, aa, an, ac, wa, wn, wc⟩ := sk
      have hxl := HT.out.at_.len
      have hxc := HT.out.at_.cap
      dsimp only at c0 c1 c2 c3 c4 c5 HCS hxl hxc
      have HV := Lib.hid (fun W (h : Bl wr W) (R : Bool) HR => txValid_hid o num prev da dn dc ds aa an ac xs wa wn wc ws W (HT.out.deps.keep h) (HT.out.at_.keep h) (HT.out.ws.keep h) R HR)
      have hgp := AC.new wr _ rfl [.int .i64 o, .int .i64 num, .int .i64 prev, .slice da dn dc, .slice aa an ac, .slice wa wn wc] 29
      have hbp := (Bl.refl wr).alloc (.cells [Value.int .i64 o, .int .i64 num, .int .i64 prev, .slice da dn dc, .slice aa an ac, .slice wa wn wc].toArray 29)
      go_upto_region 4 with fail
      clear c0 c1 c2 c3 c4 c5
      generalize wr.alloc _ = V at *
      have HGP := Lib.hid (hgp.keep ((Bl.refl V).drew))
      have HBP := Lib.hid (hbp.drew)
      clear hgp hbp
      generalize wr.heap.size = gp at *
      have HVD := Lib.hid (fun (q : Ext V.drew) R HR => HV.out q.at (HBP.out.trans q.bl) R HR)
      obtain ⟨ln, hln⟩ : ∃ l, (nthT own 0).at_.length = l := ⟨_, rfl⟩
      have hz4 : ∀ q : Ext V.drew, _ := fun q => (HZ.out q.at (HBL.out.trans (HBP.out.trans q.bl))).c4
      obtain ⟨s0, hs0⟩ : ∃ s, f 0 = s := ⟨_, rfl⟩
      rw [hs0] at hz4 HZX
      obtain ⟨da0, dn0, dc0, aa0, an0, ac0, wa0, wn0, wc0⟩ := s0
      dsimp only at hz4 HZX
      rw [Nat.zero_mul, Nat.add_zero] at hz4
      have HA0 : Hid (an0 = ln) := Lib.hid (by rw [← HZX.out, hln])
      have k0 : ∀ q : Ext V.drew, _ := fun q => (HGP.out.keep q.bl).cell 0 _ rfl
      have k1 : ∀ q : Ext V.drew, _ := fun q => (HGP.out.keep q.bl).cell 1 _ rfl
      have k2 : ∀ q : Ext V.drew, _ := fun q => (HGP.out.keep q.bl).cell 2 _ rfl
      have k3 : ∀ q : Ext V.drew, _ := fun q => (HGP.out.keep q.bl).cell 3 _ rfl
      have k4 : ∀ q : Ext V.drew, _ := fun q => (HGP.out.keep q.bl).cell 4 _ rfl
      have k5 : ∀ q : Ext V.drew, _ := fun q => (HGP.out.keep q.bl).cell 5 _ rfl
      have HLN := Lib.hid hln
      clear hs0 hln
      cases hv : validT ⟨o, num, prev, ds, xs, ws⟩
      case false =>
        have HF : Hid (chainL own self = false) := Lib.hid (HNO.out (by
          rcases Nat.eq_zero_or_pos k with h | h
          · subst h; rw [HC0.out, HTKK.out, hv]; rfl
          · rw [HCS.out h, hv]; rfl))
        have HVF := Lib.hid (fun q => HVD.out q false (Lib.hid hv))
        clear hv
        refine wp_region_allS (by kernel_rfl) (by kernel_rfl) ?_
        repeat (refine wpS_step (fun K hK => ?_); go_simp; first | (refine hK _ ?_; clear hK K) | (apply Exists.intro; refine ⟨fun q => ?_, hK _ ?_⟩; (with_reducible exact HVF.out q); clear hK K))
        refine wpS_nil ?_
        intro q1
        have HBN := Lib.hid (HBP.out.trans q1.bl)
        clear k0 k1 k2 k3 k4 k5 hz4
        generalize ExtC.at q1 = Y at *
        go_wp2_with fail
        go_ret
        exact ⟨ret_bool HF.out.symm, HBL.out.trans HBN.out⟩
      have HVT := Lib.hid hv
      have HVF := Lib.hid (fun q => HVD.out q true HVT)
      clear hv HVD
      by_cases ho : o = self
      case neg =>
        have HF : Hid (chainL own self = false) := Lib.hid (HNO.out (by
          rcases Nat.eq_zero_or_pos k with h | h
          · subst h; rw [HC0.out, HTKK.out]; simp [ho]
          · rw [HCS.out h, decide_eq_false ho, Bool.false_and, Bool.and_false]))
        have q2 : (o != self) = true := by rw [bne_iff_ne]; exact ho
        clear ho
        refine wp_region_allS (by kernel_rfl) (by kernel_rfl) ?_
        repeat (refine wpS_step (fun K hK => ?_); go_simp; first | (refine hK _ ?_; clear hK K) | (apply Exists.intro; refine ⟨fun q => ?_, hK _ ?_⟩; (with_reducible exact HVF.out q); clear hK K))
        refine wpS_nil ?_
        intro q1
        have HBN := Lib.hid (HBP.out.trans q1.bl)
        clear k0 k1 k2 k3 k4 k5 hz4
        generalize ExtC.at q1 = Y at *
        go_wp2_with fail
        go_ret
        exact ⟨ret_bool HF.out.symm, HBL.out.trans HBN.out⟩
      have HO := Lib.hid ho
      have q2 : (o != self) = false := by rw [ho]; simp
      clear ho
      by_cases hal : an = an0
      case neg =>
        have hkp : 0 < k := by
          rcases Nat.eq_zero_or_pos k with h | h
          · subst h
            have e := HLN.out
            rw [HTKK.out] at e
            have := HA0.out
            dsimp only at e
            omega
          · exact h
        have HF : Hid (chainL own self = false) := Lib.hid (HNO.out (by rw [HCS.out hkp, decide_eq_false (show ¬ xs.length = (nthT own 0).at_.length by rw [HLN.out]; have := HA0.out; omega), Bool.false_and, Bool.and_false, Bool.and_false]))
        have q3 : ((an : Int) != (an0 : Int)) = true := by rw [bne_iff_ne]; omega
        clear hal
        refine wp_region_allS (by kernel_rfl) (by kernel_rfl) ?_
        repeat (refine wpS_step (fun K hK => ?_); go_simp; first | (refine hK _ ?_; clear hK K) | (apply Exists.intro; refine ⟨fun q => ?_, hK _ ?_⟩; (with_reducible exact HVF.out q); clear hK K))
        refine wpS_nil ?_
        intro q1
        have HBN := Lib.hid (HBP.out.trans q1.bl)
        clear k0 k1 k2 k3 k4 k5 hz4
        generalize ExtC.at q1 = Y at *
        go_wp2_with fail
        go_ret
        exact ⟨ret_bool HF.out.symm, HBL.out.trans HBN.out⟩
      have HAL : Hid (xs.length = (nthT own 0).at_.length) := Lib.hid (by rw [HLN.out]; have := HA0.out; omega)
      have q3 : ((an : Int) != (an0 : Int)) = false := by rw [hal]; simp
      clear hal
      refine wp_region_allS (by kernel_rfl) (by kernel_rfl) ?_
      repeat (refine wpS_step (fun K hK => ?_); go_simp; first | (refine hK _ ?_; clear hK K) | (apply Exists.intro; refine ⟨fun q => ?_, hK _ ?_⟩; (with_reducible exact HVF.out q); clear hK K))
      refine wpS_nil ?_
      intro q1
      have HBN := Lib.hid (HBP.out.trans q1.bl)
      have HGN := Lib.hid (HGP.out.keep q1.bl)
      clear k0 k1 k2 k3 k4 k5 hz4 q2 q3 HBP HGP HVF
      generalize ExtC.at q1 = Y at *
      have c2 := HGN.out.cell 2 _ rfl
      rcases Nat.eq_zero_or_pos k with hk0 | hk0
      · subst hk0
        by_cases hp0 : prev = 0
        case neg =>
          have HF : Hid (chainL own self = false) := Lib.hid (HNO.out (by rw [HC0.out, HTKK.out]; simp [hp0]))
          have q4 : (prev != 0) = true := by rw [bne_iff_ne]; exact hp0
          clear hp0
          go_wp2_with fail
          go_ret
          exact ⟨ret_bool HF.out.symm, HBL.out.trans HBN.out⟩
        have HY := Lib.hid (HYES.out (by rw [HC0.out, HTKK.out, HVT.out]; simp [HO.out, hp0]))
        have q4 : (prev != 0) = false := by rw [hp0]; simp
        clear hp0
        go_upto_region 7 with fail
        clear c2 q4
        refine wp_region_allS (by kernel_rfl) (by kernel_rfl) ?_
        repeat (refine wpS_step (fun K hK => ?_); go_simp; first | (refine hK _ ?_; clear hK K) | (apply Exists.intro; refine ⟨fun q => ?_, hK _ ?_⟩; (fail); clear hK K))
        refine wpS_nil ?_
        intro q2
        have HBN2 := Lib.hid (HBN.out.trans ((Bl.refl Y).drew.trans q2.bl))
        generalize ExtC.at q2 = Y2 at *
        go_wp2_with fail
        go_roundw
        case rel => exact ⟨0 + 1, by omega, by go_num, HBL.out.trans HBN2.out, HY.out⟩
        case measure => simp [intOf]; omega
      · obtain ⟨kp, rfl⟩ : ∃ kp, k = kp + 1 := ⟨k - 1, by omega⟩
        have hkp : kp < tn := by omega
        have HPL := Lib.hid (chain_place (HOK.out kp (by omega)))
        have HB2 := Lib.hid (HBL.out.trans HBN.out)
        have HPC := Lib.hid (HP.out.get (HB2.out.drew) hkp)
        have HPX := Lib.hid ((HP.out.tx kp hkp).at_.keep (HB2.out.drew))
        have HCK : Hid (chainAt own self (kp + 1) = (validT ⟨o, num, prev, ds, xs, ws⟩ && (decide (o = self) && (decide (xs.length = (nthT own 0).at_.length) && (decide (prev = nth (nthT own kp).at_ self.toNat) && decide (num = (nthT own kp).num + 1)))))) := Lib.hid (HCS.out hk0)
        obtain ⟨tp, htp⟩ : ∃ t, nthT own kp = t := ⟨_, rfl⟩
        obtain ⟨sp, hsp⟩ : ∃ s, f kp = s := ⟨_, rfl⟩
        rw [htp] at HPL HPC HPX HCK
        rw [hsp] at HPC HPX
        clear htp hsp
        obtain ⟨po, pnum, pprev, pds, pxs, pws⟩ := tp
        obtain ⟨pda, pdn, pdc, paa, pan, pac, pwa, pwn, pwc⟩ := sp
        dsimp only at HPL HPX HCK
        obtain ⟨hs0, hs1, hn0, hn1⟩ := HPL.out
        obtain ⟨si, rfl⟩ := Int.eq_ofNat_of_zero_le hs0
        have hsl : si < pan := by have := HPX.out.len; omega
        obtain ⟨bp, op, rfl, hcp⟩ := HPX.out.cells si hsl
        have HCP := Lib.hid (hcp si hsl)
        rw [Int.toNat_natCast] at HCK
        generalize nth pxs si = pm at *
        clear hcp hs0 hs1
        have hdec : decide (0 < kp + 1) = true := decide_eq_true (by omega)
        have hsub : IntKind.i64.wrap (((kp + 1 : Nat) : Int) - 1) = (kp : Int) := by rw [IntKind.wrap_i64]; omega
        have hwk : IntKind.i64.wrap (kp : Int) = (kp : Int) := by rw [IntKind.wrap_i64]; omega
        obtain ⟨pn1, hpn1⟩ : ∃ x, pnum + 1 = x := ⟨_, rfl⟩
        have hnw : IntKind.i64.wrap (pnum + 1) = pn1 := by rw [IntKind.wrap_i64]; omega
        rw [hpn1] at HCK
        have hq5 : (((kp + 1 : Nat) : Int) == 0) = false := by rw [beq_eq_false_iff_ne]; omega
        have hidx : decide (kp < tn) = true := decide_eq_true hkp
        have hids : decide (si < pan) = true := decide_eq_true hsl
        clear hpn1 hn0 hn1
        go_upto_region 7 with fail
        clear c2
        have HGQ := Lib.hid (HGN.out.keep ((Bl.refl Y).drew))
        have HBQ := Lib.hid (HB2.out.drew)
        have k1 : ∀ q : Ext Y.drew, _ := fun q => (HGQ.out.keep q.bl).cell 1 _ rfl
        have k2 : ∀ q : Ext Y.drew, _ := fun q => (HGQ.out.keep q.bl).cell 2 _ rfl
        have p1 : ∀ q : Ext Y.drew, _ := fun q => (HPC.out.keep q.bl).c1
        have p4 : ∀ q : Ext Y.drew, _ := fun q => (HPC.out.keep q.bl).c4
        have pp : ∀ q : Ext Y.drew, _ := fun q => q.bl.cell HCP.out
        dsimp only at p1 p4
        by_cases hp1 : prev = pm
        case neg =>
          have HF : Hid (chainL own (si : Int) = false) := Lib.hid (HNO.out (by rw [HCK.out, decide_eq_false hp1, Bool.false_and, Bool.and_false, Bool.and_false, Bool.and_false]))
          have q6 : (prev != pm) = true := by rw [bne_iff_ne]; exact hp1
          clear hp1
          refine wp_region_allS (by kernel_rfl) (by kernel_rfl) ?_
          repeat (refine wpS_step (fun K hK => ?_); go_simp; first | (refine hK _ ?_; clear hK K) | (apply Exists.intro; refine ⟨fun q => ?_, hK _ ?_⟩; (fail); clear hK K))
          refine wpS_nil ?_
          intro q2
          have HBN2 := Lib.hid (HBQ.out.trans q2.bl)
          clear k1 k2 p1 p4 pp
          generalize ExtC.at q2 = Y2 at *
          go_wp2_with fail
          go_ret
          exact ⟨ret_bool HF.out.symm, HBN2.out⟩
        have q6 : (prev != pm) = false := by rw [hp1]; simp
        by_cases hp2 : num = pn1
        case neg =>
          have HF : Hid (chainL own (si : Int) = false) := Lib.hid (HNO.out (by rw [HCK.out, decide_eq_false hp2, Bool.and_false, Bool.and_false, Bool.and_false, Bool.and_false]))
          have q7 : (num != pn1) = true := by rw [bne_iff_ne]; exact hp2
          clear hp1 hp2
          refine wp_region_allS (by kernel_rfl) (by kernel_rfl) ?_
          repeat (refine wpS_step (fun K hK => ?_); go_simp; first | (refine hK _ ?_; clear hK K) | (apply Exists.intro; refine ⟨fun q => ?_, hK _ ?_⟩; (fail); clear hK K))
          refine wpS_nil ?_
          intro q2
          have HBN2 := Lib.hid (HBQ.out.trans q2.bl)
          clear k1 k2 p1 p4 pp
          generalize ExtC.at q2 = Y2 at *
          go_wp2_with fail
          go_ret
          exact ⟨ret_bool HF.out.symm, HBN2.out⟩
        have q7 : (num != pn1) = false := by rw [hp2]; simp
        have HY := Lib.hid (HYES.out (by rw [HCK.out, HVT.out, decide_eq_true HO.out, decide_eq_true HAL.out, decide_eq_true hp1, decide_eq_true hp2]; rfl))
        clear hp1 hp2
        refine wp_region_allS (by kernel_rfl) (by kernel_rfl) ?_
        repeat (refine wpS_step (fun K hK => ?_); go_simp; first | (refine hK _ ?_; clear hK K) | (apply Exists.intro; refine ⟨fun q => ?_, hK _ ?_⟩; (fail); clear hK K))
        refine wpS_nil ?_
        intro q2
        have HBN2 := Lib.hid (HBQ.out.trans q2.bl)
        clear k1 k2 p1 p4 pp
        generalize ExtC.at q2 = Y2 at *
        go_wp2_with fail
        go_roundw
        case rel => exact ⟨kp + 1 + 1, by omega, by go_num, HBN2.out, HY.out⟩
        case measure => simp [intOf]; omega
    · have hkn : k = tn := by omega
      subst hkn
      have HT := Lib.hid (chainL_yes (own := own) (self := self) (fun j hj => HOK.out j (by rw [← HL.out]; exact hj)))
      go_wp2_with fail
      go_ret
      exact ⟨ret_bool HT.out.symm, HBL.out⟩
end Go.Proofs.Ytaokennbpgdngaa
end
