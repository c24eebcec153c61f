import Derived.Test.YtaokennbpgdngaaQStreamUnsentP9
import Derived.Test.YtaokennbpgdngaaCore25
import Derived.Test.YtaokennbpgdngaaQStreamUnsentP4
import Derived.Deep.DeepCutAuto
import Derived.Test.YtaokennbpgdngaaCore16
import Derived.Test.YtaokennbpgdngaaCore19

/- bedrockref21.Chain (printed by wip/gen/rchain.py). By an AI agent. -/
section
set_option linter.unusedVariables false
set_option linter.unusedSimpArgs false
namespace Go.Proofs.Ytaokennbpgdngaa
open Go.RowKit
attribute [local go_sem] eOp eOper eUpon

def lastC (own : List TxnL) (self : Int) (k : Nat) : Int := if k = 0 then 0 else nth (nthT own (k - 1)).at_ self.toNat
def numC (own : List TxnL) (k : Nat) : Int := if k = 0 then 0 else (nthT own (k - 1)).num
theorem chainAt_eq (own : List TxnL) (self : Int) (k : Nat) : chainAt own self k = (validT (nthT own k) && (decide ((nthT own k).o = self) && (decide ((nthT own k).at_.length = (nthT own 0).at_.length) && (decide ((nthT own k).prev = lastC own self k) && (decide (k = 0) || decide ((nthT own k).num = numC own k + 1)))))) := by
  unfold chainAt lastC numC
  by_cases h : k = 0
  · subst h; simp
  · simp [h]
theorem numC_bd {own : List TxnL} {self : Int} {k : Nat} (h : ∀ j, j < k → chainAt own self j = true) : 0 ≤ numC own k ∧ numC own k ≤ 281474976710655 := by
  unfold numC
  split
  · omega
  · have := chain_place (h (k - 1) (by omega))
    omega
set_option maxHeartbeats 12800000 in
set_option maxRecDepth 100000 in
theorem rchain_any (ta : Option Addr) (tn tc : Nat) (own : List TxnL) (f : Nat → TxAt) (self : Int) (w : World) (h : TS w ta tn own f) :
    Calls Try.prog 10 #[.slice ta tn tc, .int .i64 self] w fun e w' => e = .returned (.bool (chainL own self)) ∧ Bl w w' := by
  have hcap := h.cap
  have HP := Lib.hid h
  have HL := Lib.hid h.len
  have hsf := store_float
  clear h
  go_enter Try.func10, Try.ntmps10
  go_wp2_with fail
  go_loopw [5, 6, 7] (fun lv nv i wr => ∃ (k : Nat) (la nu : Int), k ≤ tn ∧ i = .int .i64 k ∧ lv = .int .i64 la ∧ nv = .int .i64 nu ∧ la = lastC own self k ∧ nu = numC own k ∧ Bl w wr ∧ ∀ j, j < k → chainAt own self j = true) (fun _ _ i _ => tn - (intOf i).toNat)
  case atStart => exact ⟨0, 0, 0, Nat.zero_le _, rfl, rfl, rfl, rfl, rfl, Bl.refl _, fun j hj => absurd hj (Nat.not_lt_zero _)⟩
  case round =>
    obtain ⟨k, la, nu, hk, rfl, rfl, rfl, hla, hnu, hbl, hok⟩ := hrel
    have HBL := Lib.hid hbl
    have HOK := Lib.hid hok
    have HLA := Lib.hid hla
    have HNU := Lib.hid hnu
    have hnb := numC_bd hok
    rw [← hnu] at hnb
    clear hbl hok hla hnu
    by_cases hlt : k < tn
    · have hkl : k < own.length := by rw [HL.out]; exact hlt
      obtain ⟨ba, oa, rfl, _⟩ := HP.out.cells k hlt
      have h0n : 0 < tn := by omega
      obtain ⟨c0, c1, c2, c3, c4, c5⟩ := HP.out.get HBL.out hlt
      have HT := Lib.hid ((HP.out.tx k hlt).keep HBL.out)
      have HNO := Lib.hid (fun h => chainL_no (self := self) hkl h)
      have HYES := Lib.hid (fun h => chain_step HOK.out h)
      have HCS := Lib.hid (chainAt_eq own self k)
      rw [← HLA.out, ← HNU.out] at HCS
      have HZ := Lib.hid (fun W (hb : Bl w W) => HP.out.get hb h0n)
      have HZX := Lib.hid (HP.out.tx 0 h0n).at_.len
      have HN1 : Hid (lastC own self (k + 1) = nth (nthT own k).at_ self.toNat ∧ numC own (k + 1) = (nthT own k).num) := Lib.hid ⟨by unfold lastC; rw [if_neg (Nat.succ_ne_zero k)]; rfl, by unfold numC; rw [if_neg (Nat.succ_ne_zero k)]; rfl⟩
      obtain ⟨tk, htk⟩ : ∃ t, nthT own k = t := ⟨_, rfl⟩
      obtain ⟨sk, hsk⟩ : ∃ s, f k = s := ⟨_, rfl⟩
      rw [htk] at c0 c1 c2 HT HCS HN1
      rw [hsk] at c3 c4 c5 HT
      clear htk hsk hkl
      obtain ⟨o, num, prev, ds, xs, ws⟩ := tk
      obtain ⟨da, dn, dc, aa, an, ac, wa, wn, wc⟩ := sk
      have hxl := HT.out.at_.len
      have hxc := HT.out.at_.cap
      dsimp only at c0 c1 c2 c3 c4 c5 HCS hxl hxc HN1
      have HV := Lib.hid (fun W (h : Bl wr W) (R : Bool) HR => rtxValid_hid o num prev da dn dc ds aa an ac xs wa wn wc ws W (HT.out.deps.keep h) (HT.out.at_.keep h) (HT.out.ws.keep h) R HR)
      have hgp := AC.new wr _ rfl [.int .i64 o, .int .i64 num, .int .i64 prev, .slice da dn dc, .slice aa an ac, .slice wa wn wc] 29
      have hbp := (Bl.refl wr).alloc (.cells [Value.int .i64 o, .int .i64 num, .int .i64 prev, .slice da dn dc, .slice aa an ac, .slice wa wn wc].toArray 29)
      go_upto_region 6 with fail
      clear c0 c1 c2 c3 c4 c5
      generalize wr.alloc _ = V at *
      have HGP := Lib.hid (hgp.keep ((Bl.refl V).drew))
      have HBP := Lib.hid (hbp.drew)
      clear hgp hbp
      generalize wr.heap.size = gp at *
      have HVD := Lib.hid (fun (q : Ext V.drew) R HR => HV.out q.at (HBP.out.trans q.bl) R HR)
      obtain ⟨ln, hln⟩ : ∃ l, (nthT own 0).at_.length = l := ⟨_, rfl⟩
      rw [hln] at HCS
      have hz4 : ∀ q : Ext V.drew, _ := fun q => (HZ.out q.at (HBL.out.trans (HBP.out.trans q.bl))).c4
      obtain ⟨s0, hs0⟩ : ∃ s, f 0 = s := ⟨_, rfl⟩
      rw [hs0] at hz4 HZX
      obtain ⟨da0, dn0, dc0, aa0, an0, ac0, wa0, wn0, wc0⟩ := s0
      dsimp only at hz4 HZX
      rw [Nat.zero_mul, Nat.add_zero] at hz4
      have hA0 : an0 = ln := by rw [← HZX.out, hln]
      subst hA0
      rw [hxl] at HCS
      have k0 : ∀ q : Ext V.drew, _ := fun q => (HGP.out.keep q.bl).cell 0 _ rfl
      have k1 : ∀ q : Ext V.drew, _ := fun q => (HGP.out.keep q.bl).cell 1 _ rfl
      have k2 : ∀ q : Ext V.drew, _ := fun q => (HGP.out.keep q.bl).cell 2 _ rfl
      have k3 : ∀ q : Ext V.drew, _ := fun q => (HGP.out.keep q.bl).cell 3 _ rfl
      have k4 : ∀ q : Ext V.drew, _ := fun q => (HGP.out.keep q.bl).cell 4 _ rfl
      have k5 : ∀ q : Ext V.drew, _ := fun q => (HGP.out.keep q.bl).cell 5 _ rfl
      have hn1 : IntKind.i64.wrap (nu + 1) = nu + 1 := by rw [IntKind.wrap_i64]; omega
      obtain ⟨nu1, hnu1⟩ : ∃ x, nu + 1 = x := ⟨_, rfl⟩
      rw [hnu1] at HCS
      have hnw : IntKind.i64.wrap (nu + 1) = nu1 := by rw [hn1, hnu1]
      clear hs0 hln hn1 hnu1 hnb
      cases hv : validT ⟨o, num, prev, ds, xs, ws⟩
      case false =>
        have HF : Hid (chainL own self = false) := Lib.hid (HNO.out (by rw [HCS.out, hv]; rfl))
        have HVF := Lib.hid (fun q => HVD.out q false (Lib.hid hv))
        clear hv
        refine wp_region_allS (by kernel_rfl) (by kernel_rfl) ?_
        repeat (refine wpS_step (fun K hK => ?_); go_simp; first | (refine hK _ ?_; clear hK K) | (apply Exists.intro; refine ⟨fun q => ?_, hK _ ?_⟩; (with_reducible exact HVF.out q); clear hK K))
        refine wpS_nil ?_
        intro q1
        have HBN := Lib.hid (HBP.out.trans q1.bl)
        clear k0 k1 k2 k3 k4 k5 hz4
        generalize ExtC.at q1 = Y at *
        go_wp2_with fail
        go_ret
        exact ⟨ret_bool HF.out.symm, HBL.out.trans HBN.out⟩
      have HVT := Lib.hid hv
      have HVF := Lib.hid (fun q => HVD.out q true HVT)
      have hpp := validT_parts hv
      have HOB := Lib.hid (And.intro hpp.o0 hpp.o1)
      clear hv HVD hpp
      by_cases ho : o = self
      case neg =>
        have HF : Hid (chainL own self = false) := Lib.hid (HNO.out (by rw [HCS.out]; simp [ho]))
        have q2 : (o != self) = true := by rw [bne_iff_ne]; exact ho
        clear ho
        refine wp_region_allS (by kernel_rfl) (by kernel_rfl) ?_
        repeat (refine wpS_step (fun K hK => ?_); go_simp; first | (refine hK _ ?_; clear hK K) | (apply Exists.intro; refine ⟨fun q => ?_, hK _ ?_⟩; (with_reducible exact HVF.out q); clear hK K))
        refine wpS_nil ?_
        intro q1
        have HBN := Lib.hid (HBP.out.trans q1.bl)
        clear k0 k1 k2 k3 k4 k5 hz4
        generalize ExtC.at q1 = Y at *
        go_wp2_with fail
        go_ret
        exact ⟨ret_bool HF.out.symm, HBL.out.trans HBN.out⟩
      have HO := Lib.hid ho
      have q2 : (o != self) = false := by rw [ho]; simp
      clear ho
      by_cases hal : an = an0
      case neg =>
        have HF : Hid (chainL own self = false) := Lib.hid (HNO.out (by rw [HCS.out]; simp [hal]))
        have q3 : ((an : Int) != (an0 : Int)) = true := by rw [bne_iff_ne]; omega
        clear hal
        refine wp_region_allS (by kernel_rfl) (by kernel_rfl) ?_
        repeat (refine wpS_step (fun K hK => ?_); go_simp; first | (refine hK _ ?_; clear hK K) | (apply Exists.intro; refine ⟨fun q => ?_, hK _ ?_⟩; (with_reducible exact HVF.out q); clear hK K))
        refine wpS_nil ?_
        intro q1
        have HBN := Lib.hid (HBP.out.trans q1.bl)
        clear k0 k1 k2 k3 k4 k5 hz4
        generalize ExtC.at q1 = Y at *
        go_wp2_with fail
        go_ret
        exact ⟨ret_bool HF.out.symm, HBL.out.trans HBN.out⟩
      have HAL := Lib.hid hal
      have q3 : ((an : Int) != (an0 : Int)) = false := by rw [hal]; simp
      clear hal
      by_cases hpr : prev = la
      case neg =>
        have HF : Hid (chainL own self = false) := Lib.hid (HNO.out (by rw [HCS.out]; simp [hpr]))
        have q4 : (prev != la) = true := by rw [bne_iff_ne]; exact hpr
        clear hpr
        refine wp_region_allS (by kernel_rfl) (by kernel_rfl) ?_
        repeat (refine wpS_step (fun K hK => ?_); go_simp; first | (refine hK _ ?_; clear hK K) | (apply Exists.intro; refine ⟨fun q => ?_, hK _ ?_⟩; (with_reducible exact HVF.out q); clear hK K))
        refine wpS_nil ?_
        intro q1
        have HBN := Lib.hid (HBP.out.trans q1.bl)
        clear k0 k1 k2 k3 k4 k5 hz4
        generalize ExtC.at q1 = Y at *
        go_wp2_with fail
        go_ret
        exact ⟨ret_bool HF.out.symm, HBL.out.trans HBN.out⟩
      have HPR := Lib.hid hpr
      have q4 : (prev != la) = false := by rw [hpr]; simp
      clear hpr
      have HOK2 : Hid (chainAt own self k = true → ∀ j, j < k + 1 → chainAt own self j = true) := Lib.hid HYES.out
      have hs0 : 0 ≤ self := by have := HOB.out.1; have := HO.out; dsimp only at *; omega
      have hs1 : self < an := by have := HOB.out.2; have := HO.out; dsimp only at *; omega
      obtain ⟨si, rfl⟩ := Int.eq_ofNat_of_zero_le hs0
      have hsl : si < an := by omega
      obtain ⟨bx, ox, hax, hcx⟩ := HT.out.at_.cells si hsl
      dsimp only at hax
      subst hax
      have HCC := Lib.hid (hcx si hsl)
      dsimp only at HCC
      have HNX : Hid (lastC own (si : Int) (k + 1) = nth xs si ∧ numC own (k + 1) = num) := Lib.hid (by rw [HN1.out.1, HN1.out.2]; exact ⟨rfl, rfl⟩)
      generalize nth xs si = lx at *
      have hidx : decide (si < an) = true := decide_eq_true hsl
      clear hcx hs0 hs1
      rcases Nat.eq_zero_or_pos k with hk0 | hk0
      · have HY := Lib.hid (HOK2.out (by rw [HCS.out, HVT.out]; simp [HO.out, HAL.out, HPR.out, hk0]))
        have hd0 : decide ((0 : Int) < (k : Int)) = false := decide_eq_false (by omega)
        have hd1 : decide (0 < k) = false := decide_eq_false (by omega)
        refine wp_region_allS (by kernel_rfl) (by kernel_rfl) ?_
        repeat (refine wpS_step (fun K hK => ?_); go_simp; first | (refine hK _ ?_; clear hK K) | (apply Exists.intro; refine ⟨fun q => ?_, hK _ ?_⟩; (with_reducible exact HVF.out q); clear hK K))
        refine wpS_nil ?_
        intro q1
        have HBN := Lib.hid (HBP.out.trans q1.bl)
        have HGN := Lib.hid (HGP.out.keep q1.bl)
        clear k0 k1 k2 k3 k4 k5 hz4 q2 q3 q4 hnw
        generalize ExtC.at q1 = Y at *
        go_upto_region 8 with fail
        refine wp_region_extall (by kernel_rfl) (by kernel_rfl) ?_
        have HGZ := Lib.hid (HGN.out.keep ((Bl.refl Y).drew))
        have HBZ := Lib.hid (HBN.out.drew)
        clear HGN HBN HGP HBP
        generalize Y.drew = Z at *
        have k1 : ∀ q : Ext Z, _ := fun q => (HGZ.out.keep q.bl).cell 1 _ rfl
        have k4 : ∀ q : Ext Z, _ := fun q => (HGZ.out.keep q.bl).cell 4 _ rfl
        have kx : ∀ q : Ext Z, _ := fun q => (HBZ.out.trans q.bl).cell HCC.out
        repeat (refine wpE_step (fun K hK => ?_); go_simp; first | (refine hK _ ?_; clear hK K) | (apply Exists.intro; refine ⟨fun m => ?_, hK _ ?_⟩; (fail); clear hK K))
        refine wpE_nil ?_
        intro q3
        have HBF := Lib.hid (HBL.out.trans (HBZ.out.trans q3.bl))
        clear k1 k4 kx HGZ HBZ
        generalize ExtC.at q3 = Y3 at *
        go_wp2_with fail
        go_roundw
        case rel => exact ⟨k + 1, lx, num, by omega, by go_num, rfl, rfl, HNX.out.1.symm, HNX.out.2.symm, HBF.out, HY.out⟩
        case measure => simp [intOf]; omega
      · have hd0 : decide ((0 : Int) < (k : Int)) = true := decide_eq_true (by omega)
        have hd1 : decide (0 < k) = true := decide_eq_true (by omega)
        by_cases hnm : num = nu1
        case neg =>
          have HF : Hid (chainL own (si : Int) = false) := Lib.hid (HNO.out (by rw [HCS.out]; simp [hnm, show ¬ k = 0 by omega]))
          have q5 : (num != nu1) = true := by rw [bne_iff_ne]; exact hnm
          clear hnm
          refine wp_region_allS (by kernel_rfl) (by kernel_rfl) ?_
          repeat (refine wpS_step (fun K hK => ?_); go_simp; first | (refine hK _ ?_; clear hK K) | (apply Exists.intro; refine ⟨fun q => ?_, hK _ ?_⟩; (with_reducible exact HVF.out q); clear hK K))
          refine wpS_nil ?_
          intro q1
          have HBN := Lib.hid (HBP.out.trans q1.bl)
          clear k0 k1 k2 k3 k4 k5 hz4
          generalize ExtC.at q1 = Y at *
          go_wp2_with fail
          go_ret
          exact ⟨ret_bool HF.out.symm, HBL.out.trans HBN.out⟩
        have HY := Lib.hid (HOK2.out (by rw [HCS.out, HVT.out]; simp [HO.out, HAL.out, HPR.out, hnm]))
        have q5 : (num != nu1) = false := by rw [hnm]; simp
        clear hnm
        refine wp_region_allS (by kernel_rfl) (by kernel_rfl) ?_
        repeat (refine wpS_step (fun K hK => ?_); go_simp; first | (refine hK _ ?_; clear hK K) | (apply Exists.intro; refine ⟨fun q => ?_, hK _ ?_⟩; (with_reducible exact HVF.out q); clear hK K))
        refine wpS_nil ?_
        intro q1
        have HBN := Lib.hid (HBP.out.trans q1.bl)
        have HGN := Lib.hid (HGP.out.keep q1.bl)
        clear k0 k1 k2 k3 k4 k5 hz4 q2 q3 q4 hnw
        generalize ExtC.at q1 = Y at *
        go_upto_region 8 with fail
        refine wp_region_extall (by kernel_rfl) (by kernel_rfl) ?_
        have HGZ := Lib.hid (HGN.out.keep ((Bl.refl Y).drew))
        have HBZ := Lib.hid (HBN.out.drew)
        clear HGN HBN HGP HBP
        generalize Y.drew = Z at *
        have k1 : ∀ q : Ext Z, _ := fun q => (HGZ.out.keep q.bl).cell 1 _ rfl
        have k4 : ∀ q : Ext Z, _ := fun q => (HGZ.out.keep q.bl).cell 4 _ rfl
        have kx : ∀ q : Ext Z, _ := fun q => (HBZ.out.trans q.bl).cell HCC.out
        repeat (refine wpE_step (fun K hK => ?_); go_simp; first | (refine hK _ ?_; clear hK K) | (apply Exists.intro; refine ⟨fun m => ?_, hK _ ?_⟩; (fail); clear hK K))
        refine wpE_nil ?_
        intro q3
        have HBF := Lib.hid (HBL.out.trans (HBZ.out.trans q3.bl))
        clear k1 k4 kx HGZ HBZ
        generalize ExtC.at q3 = Y3 at *
        go_wp2_with fail
        go_roundw
        case rel => exact ⟨k + 1, lx, num, by omega, by go_num, rfl, rfl, HNX.out.1.symm, HNX.out.2.symm, HBF.out, HY.out⟩
        case measure => simp [intOf]; omega
    · have hkn : k = tn := by omega
      subst hkn
      have HT := Lib.hid (chainL_yes (own := own) (self := self) (fun j hj => HOK.out j (by rw [← HL.out]; exact hj)))
      go_wp2_with fail
      go_ret
      exact ⟨ret_bool HT.out.symm, HBL.out⟩
end Go.Proofs.Ytaokennbpgdngaa
end

/- bedrocklaw21.Light: are writes few and short enough? By an AI agent. -/
section
set_option linter.unusedVariables false
set_option linter.unusedSimpArgs false
namespace Go.Proofs.Ytaokennbpgdngaa
open Go.RowKit
attribute [local go_sem] eOp eOper eUpon

def weightW (p : ByteArray × ActL) : Nat := 20 + p.1.size + p.2.s.size
def sumW (ps : List (ByteArray × ActL)) (k : Nat) : Nat := ((ps.take k).map weightW).sum
theorem sumW_succ {ps : List (ByteArray × ActL)} {k : Nat} (hk : k < ps.length) : sumW ps (k + 1) = sumW ps k + weightW (nthW ps k) := by
  unfold sumW
  rw [List.take_succ_eq_append_getElem hk, List.map_append, List.sum_append, nthW_eq hk]
  simp
theorem sumW_le (ps : List (ByteArray × ActL)) (k : Nat) : sumW ps k ≤ sumW ps ps.length := by
  unfold sumW
  rw [List.take_length]
  conv => rhs; rw [← List.take_append_drop k ps]
  rw [List.map_append, List.sum_append]; omega
theorem sumW_ge (ps : List (ByteArray × ActL)) : 20 * ps.length ≤ sumW ps ps.length := by
  unfold sumW
  rw [List.take_length]
  induction ps with
  | nil => simp
  | cons p ps ih =>
    rw [List.map_cons, List.sum_cons, List.length_cons]
    have : 20 ≤ weightW p := by unfold weightW; omega
    omega
def lightB (ps : List (ByteArray × ActL)) : Bool := decide (sumW ps ps.length < 20000)
theorem lightB_len {ps : List (ByteArray × ActL)} (h : lightB ps = true) : ps.length < 1000 := by
  have := sumW_ge ps
  simp only [lightB, decide_eq_true_eq] at h
  omega
set_option maxHeartbeats 3200000 in
set_option maxRecDepth 100000 in
theorem light21_any (pd : Option Addr) (pn pc : Nat) (ps : List (ByteArray × ActL)) (w : World) (hp : WW w pd pn ps) :
    Calls Try.prog 20 #[.slice pd pn pc] w fun e w' => e = .returned (.bool (lightB ps)) ∧ Bl w w' := by
  have hcap := hp.cap
  have HP := Lib.hid hp
  have HL := Lib.hid hp.len
  clear hp
  go_enter Try.func20, Try.ntmps20
  go_wp2_with fail
  go_loopw [3, 4] (fun sv i wr => ∃ (k s : Nat), k ≤ pn ∧ i = .int .i64 k ∧ sv = .int .i64 s ∧ s = sumW ps k ∧ Bl w wr) (fun _ i _ => pn - (intOf i).toNat)
  case atStart => exact ⟨0, 0, Nat.zero_le _, rfl, rfl, rfl, Bl.refl _⟩
  case round =>
    obtain ⟨k, s, hk, rfl, rfl, hs, hbl⟩ := hrel
    have HS := Lib.hid hs
    have HBL := Lib.hid hbl
    clear hs hbl
    by_cases hlt : k < pn
    · by_cases hs6 : s < 20000
      · have hkl : k < ps.length := by rw [HL.out]; exact hlt
        obtain ⟨ba, oa, rfl, _⟩ := HP.out.cells k hlt
        have HOK := Lib.hid (HP.out.ok _ (nthW_mem hkl))
        have HSU := Lib.hid (sumW_succ hkl)
        have HPC := Lib.hid (HP.out.get HBL.out hlt)
        clear hkl
        generalize nthW ps k = p at *
        obtain ⟨key, ⟨pk, px, pm, pz⟩⟩ := p
        have hks : key.size ≤ 140737488351232 := HOK.out.1
        have hzs : pz.size ≤ 140737488351232 := HOK.out.2.s
        have q1 : decide ((s : Int) < 20000) = true := decide_eq_true (by omega)
        have q2 : decide (s < 20000) = true := decide_eq_true hs6
        have HS6 := Lib.hid hs6
        have HKS := Lib.hid (And.intro hks hzs)
        clear hs6 hks hzs
        go_upto_region 5 with fail
        have hs6 := HS6.out
        obtain ⟨hks, hzs⟩ := HKS.out
        refine wp_region_extall (by kernel_rfl) (by kernel_rfl) ?_
        have HPZ := Lib.hid (HPC.out.keep ((Bl.refl wr).drew))
        have HBZ := Lib.hid (HBL.out.drew)
        generalize wr.drew = Z at *
        have e0 : ∀ q : Ext Z, _ := fun q => (HPZ.out.keep q.bl).c0
        have e4 : ∀ q : Ext Z, _ := fun q => (HPZ.out.keep q.bl).c4
        dsimp only at e0 e4
        have w1 : IntKind.i64.wrap ((s : Int) + 20) = ((s + 20 : Nat) : Int) := by rw [IntKind.wrap_i64]; omega
        have w2 : IntKind.i64.wrap (((s + 20 : Nat) : Int) + (key.size : Int)) = ((s + 20 + key.size : Nat) : Int) := by rw [IntKind.wrap_i64]; omega
        have w3 : IntKind.i64.wrap (((s + 20 + key.size : Nat) : Int) + (pz.size : Int)) = ((s + 20 + key.size + pz.size : Nat) : Int) := by rw [IntKind.wrap_i64]; omega
        have HT : Hid (s + 20 + key.size + pz.size = sumW ps (k + 1)) := Lib.hid (by rw [HSU.out, ← HS.out]; unfold weightW; dsimp only; omega)
        generalize s + 20 + key.size + pz.size = s3 at *
        generalize s + 20 + key.size = s2 at *
        generalize s + 20 = s1 at *
        repeat (refine wpE_step (fun K hK => ?_); go_simp; first | (refine hK _ ?_; clear hK K) | (apply Exists.intro; refine ⟨fun m => ?_, hK _ ?_⟩; (fail); clear hK K))
        refine wpE_nil ?_
        intro q1
        have HBN := Lib.hid (HBZ.out.trans q1.bl)
        clear e0 e4 w1 w2 w3
        generalize ExtC.at q1 = Y at *
        go_wp2_with fail
        go_roundw
        case rel => exact ⟨k + 1, s3, by omega, by go_num, rfl, HT.out, HBN.out⟩
        case measure => simp [intOf]; omega
      · have q1 : decide ((s : Int) < 20000) = false := decide_eq_false (by omega)
        have q2 : decide (s < 20000) = false := decide_eq_false hs6
        have HF : Hid (lightB ps = false) := Lib.hid (by
          have := sumW_le ps k
          have := HS.out
          simp only [lightB, decide_eq_false_iff_not]; omega)
        go_wp2_with fail
        go_ret
        exact ⟨ret_bool HF.out.symm, HBL.out⟩
    · have hkp : k = pn := by omega
      subst hkp
      by_cases hs6 : s < 20000
      · have q1 : decide ((s : Int) < 20000) = true := decide_eq_true (by omega)
        have HF : Hid (lightB ps = true) := Lib.hid (by have := HS.out; simp only [lightB, decide_eq_true_eq, HL.out]; omega)
        go_wp2_with fail
        go_ret
        exact ⟨ret_bool HF.out.symm, HBL.out⟩
      · have q1 : decide ((s : Int) < 20000) = false := decide_eq_false (by omega)
        have q2 : decide (s < 20000) = false := decide_eq_false hs6
        have HF : Hid (lightB ps = false) := Lib.hid (by have := HS.out; simp only [lightB, decide_eq_false_iff_not, HL.out]; omega)
        go_wp2_with fail
        go_ret
        exact ⟨ret_bool HF.out.symm, HBL.out⟩
end Go.Proofs.Ytaokennbpgdngaa
end
