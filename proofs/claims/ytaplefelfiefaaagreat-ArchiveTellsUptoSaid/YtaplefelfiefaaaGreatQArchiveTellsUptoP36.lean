import Derived.Test.YtaplefelfiefaaaGreatQArchiveTellsUptoP35
import Derived.Test.YtaplefelfiefaaaGreatQArchiveTellsUptoP31
import Derived.Deep.DeepCutAuto

/- bedrockbook over Pairs that are kept: stillPairs, markedPairs. By an AI agent. -/
section
namespace Go.Proofs.YtaplefelfiefaaaGreat
open Go.RowKit
attribute [local go_sem] eOp eOper eUpon

/-- a list and its copy read alike -/
def TwoP (v u : Value) (W : World) (D : Nat → Prop) : Prop := ∃ (ps : List (ByteArray × ValL)) (a b : Option Addr) (n c d : Nat), v = .slice a n c ∧ u = .slice b n d ∧ PP W a n ps ∧ PP W b n ps ∧ (∀ x off, a = some ⟨x, off, none⟩ → 0 < n → D x) ∧ (∀ x off, b = some ⟨x, off, none⟩ → 0 < n → D x)
theorem TwoP.st {v u : Value} {W W' : World} {S D : Nat → Prop} (hf : Fr S W W') (hd : ∀ b, D b → ¬ S b) (h : TwoP v u W D) : TwoP v u W' D := by
  obtain ⟨ps, a, b, n, c, d, e1, e2, r1, r2, d1, d2⟩ := h
  exact ⟨ps, a, b, n, c, d, e1, e2, r1.fr hf (fun x off e hn => hd x (d1 x off e hn)), r2.fr hf (fun x off e hn => hd x (d2 x off e hn)), d1, d2⟩
theorem stillPairs_any (g : Nat) (va ua : Option Addr) (n cv cu : Nat) (vs us : Nat → Value) (D : Nat → Nat → Prop) (w : World) (hn : n ≤ 250) (hc4 : w.cell? ⟨g, 8, none⟩ = some (.slice va n cv)) (hc5 : w.cell? ⟨g, 9, none⟩ = some (.slice ua n cu))
    (hv : LA w va n vs) (hu : LA w ua n us) (h : ∀ j, j < n → TwoP (vs j) (us j) w (D j)) :
    Calls Tryz.prog 63 #[.pointer (some ⟨g, 0, none⟩)] w fun e w' => e = .returned (.bool true) ∧ Bl w w' := by
  have HC4 := Lib.hid hc4
  have HC5 := Lib.hid hc5
  have HH := Lib.hid h
  clear hc4 hc5 h
  go_enter Tryz.func63, Tryz.ntmps63
  go_wp2_with fail
  go_loopw [3] (fun i w' => ∃ k : Nat, k ≤ n ∧ i = .int .i64 k ∧ Bl w w') (fun i _ => n - (intOf i).toNat)
  case atStart => exact ⟨0, Nat.zero_le _, rfl, Bl.refl _⟩
  case round =>
    obtain ⟨k, hk, rfl, hbl⟩ := hrel
    have c4 := hbl.cell HC4.out
    by_cases hlt : k < n
    · obtain ⟨b, off, rfl, hcv⟩ := hv k hlt
      obtain ⟨b2, off2, rfl, hcu⟩ := hu k hlt
      obtain ⟨ps, a1, a2, n1, c1, c2, e1, e2, I1, I2, -, -⟩ := HH.out k hlt
      have HV := Lib.hid (hcv k hlt)
      have HU := Lib.hid (hcu k hlt)
      rw [e1] at HV
      rw [e2] at HU
      have HS := Lib.hid (fun (W : World) (hb : Bl w W) => bookSamePs_anyY a1 n1 c1 ps a2 c2 W (I1.keep hb) (I2.keep hb))
      clear e1 e2 I1 I2 hcv hcu
      go_upto_region 4 with fail
      refine wp_region_extall (by kernel_rfl) (by kernel_rfl) ?_
      have HBZ := Lib.hid hbl.drew
      generalize World.drew _ = Z at *
      clear c4
      have p0 : ∀ q : Ext Z, _ := fun q => (HBZ.out.trans q.bl).cell HC4.out
      have p1 : ∀ q : Ext Z, _ := fun q => (HBZ.out.trans q.bl).cell HC5.out
      have p2 : ∀ q : Ext Z, _ := fun q => (HBZ.out.trans q.bl).cell HV.out
      have p3 : ∀ q : Ext Z, _ := fun q => (HBZ.out.trans q.bl).cell HU.out
      repeat (refine wpE_step (fun K hK => ?_); go_simp; first | (refine hK _ ?_; clear hK K) | (apply Exists.intro; refine ⟨fun q => ?_, hK _ ?_⟩; (with_reducible exact HS.out _ (HBZ.out.trans q.bl)); clear hK K))
      refine wpE_nil ?_
      intro q9
      have HBX := Lib.hid (HBZ.out.trans q9.bl)
      clear p0 p1 p2 p3 HBZ
      generalize ExtC.at q9 = X at *
      go_wp2_with fail
      go_roundw
      case rel => exact ⟨k + 1, by omega, by go_num, HBX.out⟩
      case measure => simp [intOf]; omega
    · go_wp2_with fail
      go_ret
      exact ⟨rfl, hbl⟩

theorem markedPairs_any (la : Option Addr) (n lc : Nat) (vs : Nat → Value) (ms : Nat → Nat) (B : Nat) (w : World) (hn : n ≤ 250) (hv : LA w la n vs) (h : ∀ j, j < n → w.ownsRow B 58 5 (vs j) (ms j) (mkP.row j 0 (ms j)) ∧ ms j ≤ 100000) :
    Calls Tryz.prog 108 #[.slice la n lc] w fun e w' => e = .returned (.bool true) ∧ Bl w w' := by
  have HH := Lib.hid h
  clear h
  go_enter Tryz.func108, Tryz.ntmps108
  go_wp2_with fail
  go_loopw [3] (fun i w' => ∃ k : Nat, k ≤ n ∧ i = .int .i64 k ∧ Bl w w') (fun i _ => n - (intOf i).toNat)
  case atStart => exact ⟨0, Nat.zero_le _, rfl, Bl.refl _⟩
  case round =>
    obtain ⟨k, hk, rfl, hbl⟩ := hrel
    by_cases hlt : k < n
    · obtain ⟨b, off, rfl, hcv⟩ := hv k hlt
      obtain ⟨ho, hm⟩ := HH.out k hlt
      obtain ⟨a1, c1, e1⟩ := row_shape' ho
      have HV := Lib.hid (hcv k hlt)
      rw [e1] at HV ho
      obtain ⟨n1, hn1⟩ : ∃ n1, ms k = n1 := ⟨_, rfl⟩
      rw [hn1] at HV ho hm
      have HI := Lib.hid (PP.own (by rw [markP_cells]; exact ho) (markP_len k 0 n1) (by omega) (markP_ok k 0 n1))
      clear e1 ho hcv hn1
      go_upto_region 4 with fail
      refine wp_region_idx [0, 1, 2, 3, 4, 5, 6, 7, 8, 9] 3 (Bl w) (fun _ _ h k => h.trans k) hbl.drew (by kernel_rfl) rfl (by kernel_rfl) (by kernel_rfl) ?_
      have HBZ := Lib.hid hbl.drew
      generalize World.drew _ = Z at *
      clear hbl
      haveI : Nonempty (ExtC (Bl w)) := ⟨⟨Z, HBZ.out⟩⟩
      have p2 : ∀ q : ExtC (Bl w), _ := fun q => q.ok.cell HV.out
      repeat (refine wpI_step rfl (fun K hK => ?_); go_simp; first | (refine hK _ ?_; clear hK K) | (apply Exists.intro; refine ⟨fun q => ?_, hK _ ?_⟩; fail; clear hK K))
      refine wpI_nil ?_
      clear p2 this
      refine wpAnyE_one (i := 10) (by kernel_rfl) ?_
      intro X1 hx1
      have HB1 := Lib.hid (HBZ.out.trans hx1)
      clear HBZ hx1
      go_simp
      refine (markPairs_any k 0 n1 X1 (by omega) (by omega)).mono ?_
      rintro e X2 ⟨v, rfl, hf, hb2⟩
      have HB2 := Lib.hid (HB1.out.trans hb2)
      obtain ⟨a2, c2, rfl⟩ := row_shape' hf
      have HI2 := Lib.hid (PP.own (by rw [markP_cells]; exact hf) (markP_len k 0 n1) (by omega) (markP_ok k 0 n1))
      clear HB1 hb2 hf
      go_simp
      refine ⟨HB2.out, ?_⟩
      refine wpAnyE_one (i := 11) (by kernel_rfl) ?_
      intro X3 hx3
      have HB3 := Lib.hid (HB2.out.trans hx3)
      go_simp
      refine (bookSamePs_anyY a1 n1 c1 (markP k 0 n1) a2 c2 X3 (HI.out.keep HB3.out) (HI2.out.keep hx3)).mono ?_
      rintro e X4 ⟨rfl, hb4⟩
      have HB4 := Lib.hid (HB3.out.trans hb4)
      clear HB3 HB2 hx3 hb4 HI2
      go_simp
      refine ⟨HB4.out, ?_⟩
      refine wpAnyE_one (i := 12) (by kernel_rfl) ?_
      intro X5 hx5
      have HB5 := Lib.hid (HB4.out.trans hx5)
      clear HB4 hx5
      go_simp
      refine ⟨HB5.out, ?_⟩
      refine wpAnyE_done (by kernel_rfl) ?_
      intro X6 hx6
      have HB6 := Lib.hid (HB5.out.trans hx6)
      clear HB5 hx6
      go_wp2_with fail
      go_roundw
      case rel => exact ⟨k + 1, by omega, by go_num, HB6.out⟩
      case measure => simp [intOf]; omega
    · go_wp2_with fail
      go_ret
      exact ⟨rfl, hbl⟩
end Go.Proofs.YtaplefelfiefaaaGreat
end

/- bedrockbook over Pairs that are kept: putPairs. By an AI agent. -/
section
namespace Go.Proofs.YtaplefelfiefaaaGreat
open Go.RowKit
attribute [local go_sem] eOp eOper eUpon

set_option maxHeartbeats 2000000 in
set_option maxRecDepth 100000 in
theorem putPairs_any (B g : Nat) (va : Option Addr) (n cv : Nat) (vs : Nat → Value) (ln : Nat → Nat) (cs : Nat → List Value) (w : World) (hn : n ≤ 250) (hc4 : w.cell? ⟨g, 8, none⟩ = some (.slice va n cv)) (hv : LA w va n vs)
    (h : ∀ j, j < n → w.ownsRow B 58 5 (vs j) (ln j) (cs j) ∧ ln j ≤ 100000) (hap : ∀ i j, i < n → j < n → i ≠ j → (vs i).ownBlock = none ∨ (vs i).ownBlock ≠ (vs j).ownBlock)
    (hg : ¬ SBk n vs g) (hva : ∀ b off, va = some ⟨b, off, none⟩ → ¬ SBk n vs b) :
    Calls Tryz.prog 83 #[.pointer (some ⟨g, 0, none⟩)] w fun e w' => e = .returned (.tuple #[]) ∧ Fr (SBk n vs) w w' ∧ ∀ j, j < n → w'.ownsRow B 58 5 (vs j) (ln j) (mkP.row j 0 (ln j)) := by
  have hsf := store_fl
  have HC4 := Lib.hid hc4
  have HH := Lib.hid h
  have HAP := Lib.hid hap
  have HG := Lib.hid hg
  have HVA := Lib.hid hva
  have HLT := Lib.hid (show ∀ b, SBk n vs b → b < w.heap.size from fun b ⟨j, hj, e⟩ => (World.ownsRow.lt (h j hj).1 b e).2)
  have HLEN := Lib.hid (show ∀ j, j < n → (cs j).length = ln j * mkP.z from fun j hj => (h j hj).1.1)
  clear hc4 h hap hg hva
  go_enter Tryz.func83, Tryz.ntmps83
  go_wp2_with fail
  go_loopw [2] (fun i w' => ∃ k : Nat, k ≤ n ∧ i = .int .i64 k ∧ Fr (SBk n vs) w w' ∧ ∀ j, j < n → w'.ownsRow B 58 5 (vs j) (ln j) (curC mkP cs ln k 0 j)) (fun i _ => n - (intOf i).toNat)
  case atStart => exact ⟨0, Nat.zero_le _, rfl, Fr.refl _ _, fun j hj => by rw [curC_zero]; exact (HH.out j hj).1⟩
  case round =>
    obtain ⟨k, hk, rfl, hfr, hoi⟩ := hrel
    have HFR := Lib.hid hfr
    have HOI := Lib.hid hoi
    clear hfr hoi
    have c4 := HFR.out.cell HC4.out HG.out
    by_cases hlt : k < n
    · obtain ⟨b, off, rfl, hcv⟩ := hv k hlt
      have hcv' := HFR.out.cell (hcv k hlt) (HVA.out b off rfl)
      obtain ⟨a1, c1, e1⟩ := row_shape' (HOI.out k hlt)
      have hmx := (HH.out k hlt).2
      have hgi : 0 < ln k → ∃ gi, a1 = some ⟨gi, 0, none⟩ := fun hp => by
        have := HOI.out k hlt
        rw [e1] at this
        obtain ⟨_, ⟨e, h2⟩ | ⟨gi, cap, cur, e, _⟩⟩ := this
        · omega
        · simp only [Value.slice.injEq] at e; exact ⟨gi, e.1⟩
      obtain ⟨m, hm⟩ : ∃ m, ln k = m := ⟨_, rfl⟩
      rw [hm] at e1 hmx hgi
      have HM := Lib.hid hm
      have HE1 := Lib.hid e1
      rw [e1] at hcv'
      have HCV := Lib.hid (hcv k hlt)
      rw [e1] at HCV
      clear hm e1 hcv
      go_wp2_with fail
      refine (markPairs_any k 0 m wr (by omega) (by omega)).mono ?_
      rintro e W1 ⟨v, rfl, hf, hb1⟩
      obtain ⟨a2, c2, rfl⟩ := row_shape' hf
      have hna : ∀ b off, a2 = some ⟨b, off, none⟩ → 0 < m → ¬ SBk n vs b := fun b off e hp hs => by
        have hob : (Value.slice a2 m c2).ownBlock = some b := by
          obtain ⟨_, ⟨e3, h2⟩ | ⟨gi, cap, cur, e3, _⟩⟩ := hf
          · cases e3; omega
          · simp only [Value.slice.injEq] at e3; rw [e3.1] at e; cases e; rw [e3.1]; rfl
        have h1 := (World.ownsRow.lt hf b hob).1
        have h2 := HLT.out b hs
        have h3 := HFR.out.size
        omega
      have HNA := Lib.hid hna
      have HF1 := Lib.hid (HFR.out.bl hb1)
      have HO1 := Lib.hid (fun j (hj : j < n) => ownsRow_bl (HOI.out j hj) hb1)
      have HI2 := Lib.hid (PP.own (by rw [markP_cells]; exact hf) (markP_len k 0 m) (by omega) (markP_ok k 0 m))
      clear HFR HOI hf hb1 hna c4 hcv'
      go_wp2_with fail
      go_loopw [4] (fun t Y => ∃ q : Nat, q ≤ m ∧ t = .int .i64 q ∧ Fr (SBk n vs) W1 Y ∧ ∀ j, j < n → Y.ownsRow B 58 5 (vs j) (ln j) (curC mkP cs ln k q j)) (fun t _ => m - (intOf t).toNat)
      case atStart => exact ⟨0, Nat.zero_le _, rfl, Fr.refl _ _, HO1.out⟩
      case round =>
        obtain ⟨q, hq, rfl, hfy, hoy⟩ := hrel
        have HFY := Lib.hid hfy
        have HOY := Lib.hid hoy
        clear hfy hoy
        by_cases hql : q < m
        · obtain ⟨gi, rfl⟩ := hgi (by omega)
          obtain ⟨b2, off2, rfl, hmc⟩ := HI2.out.cells q hql
          have HMC := Lib.hid (HI2.out.fr HFY.out (fun b off e hp => HNA.out b off e hp))
          have HCY := Lib.hid ((HF1.out.trans HFY.out).cell HC4.out HG.out)
          have HRY := Lib.hid ((HF1.out.trans HFY.out).cell HCV.out (HVA.out b off rfl))
          have HOK := Lib.hid (show wr.ownsRow B 58 5 (.slice (some ⟨gi, 0, none⟩) m c1) m (curC mkP cs ln k q k) from by have h := HOY.out k hlt; rw [HE1.out, HM.out] at h; exact h)
          have HMK := Lib.hid (show nthQ (markP k 0 m) q = (nameB k q, ⟨false, 0, 0, ⟨#[]⟩⟩) by
            rw [nthQ_eq (by rw [markP_len]; exact hql)]
            simp [markP])
          obtain ⟨nm, hnm⟩ : ∃ x, nameB k q = x := ⟨_, rfl⟩
          have HNM := Lib.hid hnm
          rw [hnm] at HMK
          clear hnm hmc
          go_upto_region 7 with fail
          refine wp_region_idx [0, 1, 2, 3, 4, 5, 6, 7, 8, 9, 10, 11, 12] 1 (Fr (SBk n vs) wr) (fun _ _ h k => h.bl k) ((Fr.refl _ wr).bl (Bl.refl wr).drew) (by kernel_rfl) rfl (by kernel_rfl) (by kernel_rfl) ?_
          have HBZ := Lib.hid (Bl.refl wr).drew
          generalize hz : World.drew _ = Z at *
          clear hz
          haveI : Nonempty (ExtC (Fr (SBk n vs) wr)) := ⟨⟨Z, (Fr.refl _ wr).bl HBZ.out⟩⟩
          have p0 : ∀ q : ExtC (Fr (SBk n vs) wr), _ := fun q => q.ok.cell HCY.out HG.out
          have p1 : ∀ q : ExtC (Fr (SBk n vs) wr), _ := fun q => q.ok.cell HRY.out (HVA.out b off rfl)
          have PC : ∀ x : ExtC (Fr (SBk n vs) wr), PC x.at b2 (off2 + q * 5) (nm, ⟨false, 0, 0, ⟨#[]⟩⟩) := fun x => by
            have h1 := (HMC.out.fr x.ok (fun b off e hp => HNA.out b off e hp)).get (Bl.refl _) hql
            rwa [HMK.out] at h1
          have p2 : ∀ q : ExtC (Fr (SBk n vs) wr), _ := fun q => (PC q).c0
          have p3 : ∀ q : ExtC (Fr (SBk n vs) wr), _ := fun q => (PC q).c1
          have p4 : ∀ q : ExtC (Fr (SBk n vs) wr), _ := fun q => (PC q).c2
          have p5 : ∀ q : ExtC (Fr (SBk n vs) wr), _ := fun q => (PC q).c3
          have p6 : ∀ q : ExtC (Fr (SBk n vs) wr), _ := fun q => (PC q).c4
          dsimp only at p2 p3 p4 p5 p6
          repeat (refine wpI_step rfl (fun K hK => ?_); go_simp; first | (refine hK _ ?_; clear hK K) | (apply Exists.intro; refine ⟨fun q => ?_, hK _ ?_⟩; fail; clear hK K))
          refine wpI_nil ?_
          clear p0 p1 p2 p3 p4 p5 p6 PC this
          refine wpAnyE_one (i := 13) (by kernel_rfl) ?_
          intro X hx
          have HX := Lib.hid (HBZ.out.trans hx)
          have hok := ownsRow_bl HOK.out HX.out
          have hcl : (curC mkP cs ln k q k).length = m * 5 := hok.1
          obtain ⟨y0, y1, y2, y3, y4, x0, x1, x2, x3, x4, f0, f1, f2, f3, f4⟩ := own_fives hok (o := q * 5) (by omega)
          have hst := own_setCs [.string nm, .bool false, .float .f64 0, .int .i64 0, .string ⟨#[]⟩] X _ (q * 5) hok
          clear hx hok hcl
          go_simp
          clear x0 x1 x2 x3 x4 f0 f1 f2 f3 f4
          obtain ⟨X2, hX2⟩ : ∃ x, (((((X.setCell ⟨gi, q * 5, none⟩ (.string nm)).setCell ⟨gi, q * 5 + 1, none⟩ (.bool false)).setCell ⟨gi, q * 5 + 2, none⟩ (.float .f64 0)).setCell ⟨gi, q * 5 + 3, none⟩ (.int .i64 0)).setCell ⟨gi, q * 5 + 4, none⟩ (.string ⟨#[]⟩)) = x := ⟨_, rfl⟩
          rw [hX2]
          have HST := Lib.hid (show X2.ownsRow B 58 5 (.slice (some ⟨gi, 0, none⟩) m c1) m (setL (curC mkP cs ln k q k) (q * 5) [.string nm, .bool false, .float .f64 0, .int .i64 0, .string ⟨#[]⟩]) ∧ X.grownBy X2 (some gi) from by rw [← hX2]; exact hst)
          clear hst hX2
          have hown : (vs k).ownBlock = some gi := by rw [HE1.out]; rfl
          have hfrS : Fr (SBk n vs) wr X2 := ((Fr.refl _ wr).bl HX.out).grown HST.out.2 (fun i e => by cases e; exact ⟨k, hlt, hown⟩)
          have hoi5 : ∀ j, j < n → X2.ownsRow B 58 5 (vs j) (ln j) (curC mkP cs ln k (q + 1) j) := fun j hj => by
            by_cases e : j = k
            · subst e
              have h1 := HST.out.1
              have hcs := curC_step (m := mkP) (cs := cs) (ln := ln) (k := j) (q := q) (HLEN.out j hj) (by rw [HM.out]; exact hql)
              have hel : mkP.el j q = [.string nm, .bool false, .float .f64 0, .int .i64 0, .string ⟨#[]⟩] := by
                show pairCs (nameB j q, ⟨false, 0, 0, ⟨#[]⟩⟩) = _
                rw [HNM.out]; rfl
              rw [hel] at hcs
              have hcs' : setL (curC mkP cs ln j q j) (q * 5) [.string nm, .bool false, .float .f64 0, .int .i64 0, .string ⟨#[]⟩] = curC mkP cs ln j (q + 1) j := hcs
              rw [hcs'] at h1
              rw [HE1.out, HM.out]
              exact h1
            · rw [curC_ne e]
              exact World.ownsRow.kept (ownsRow_bl (HOY.out j hj) HX.out) HST.out.2 (by rw [← hown]; exact HAP.out j k hj hlt e)
          have HFX := Lib.hid (HFY.out.trans hfrS)
          have HOX := Lib.hid hoi5
          refine ⟨hfrS, ?_⟩
          clear HST hown hfrS hoi5 HX HFY HOY HOK HCY HRY HMC HMK HNM
          refine wpAnyE_done (by kernel_rfl) ?_
          intro X3 hx3
          have HFX3 := Lib.hid (HFX.out.bl hx3)
          have HOX3 := Lib.hid (fun j (hj : j < n) => ownsRow_bl (HOX.out j hj) hx3)
          clear HFX HOX hx3
          go_wp2_with fail
          go_roundw
          case rel => exact ⟨q + 1, by omega, by go_num, HFX3.out, HOX3.out⟩
          case measure => simp [intOf]; omega
        · have hqe : q = m := by omega
          have HFN := Lib.hid (HF1.out.trans HFY.out)
          have HON := Lib.hid (fun j (hj : j < n) => (show wr.ownsRow B 58 5 (vs j) (ln j) (curC mkP cs ln (k + 1) 0 j) from by rw [← curC_next (HLEN.out k hlt), HM.out, ← hqe]; exact HOY.out j hj))
          clear hqe HFY HOY
          go_wp2_with fail
          go_roundw
          case rel => exact ⟨k + 1, by omega, by go_num, HFN.out, HON.out⟩
          case measure => simp [intOf]; omega
    · go_wp2_with fail
      go_end0
      have e1 : k = n := by omega
      subst e1
      exact ⟨rfl, HFR.out, fun j hj => by rw [← curC_end hj 0]; exact HOI.out j hj⟩
end Go.Proofs.YtaplefelfiefaaaGreat
end

/- bedrockbook over Pairs that are kept: growPairs. By an AI agent. -/
section
namespace Go.Proofs.YtaplefelfiefaaaGreat
open Go.RowKit
attribute [local go_sem] eOp eOper eUpon

theorem el_rowsP : EL 36 24 1 24 := el_of Tryz.underlying36 (by kernel_rfl) (by decide)
theorem mkP_one (i f n : Nat) : ∀ u ∈ mkP.row i f n, u.oneCell' = true := by
  intro u hu
  simp only [MK.row, List.mem_flatMap, List.mem_range] at hu
  obtain ⟨k, _, hk⟩ := hu
  simp only [mkP, pairCs, List.mem_cons, List.mem_nil_iff, or_false] at hk
  rcases hk with rfl | rfl | rfl | rfl | rfl <;> rfl
set_option maxHeartbeats 2000000 in
set_option maxRecDepth 100000 in
theorem growPairs_any (B g : Nat) (va : Option Addr) (n cv : Nat) (vs : Nat → Value) (ms : Nat → Nat) (w : World) (hn : n ≤ 250) (hB : B ≤ w.heap.size) (hc4 : w.cell? ⟨g, 8, none⟩ = some (.slice va n cv)) (hv : LA w va n vs)
    (h : ∀ j, j < n → w.ownsRow B 58 5 (vs j) (ms j) (mkP.row j 0 (ms j)) ∧ ms j ≤ 50000) (hap : ∀ i j, i < n → j < n → i ≠ j → (vs i).ownBlock = none ∨ (vs i).ownBlock ≠ (vs j).ownBlock)
    (hg : ¬ SBk n vs g) (hva : ∀ b off, va = some ⟨b, off, none⟩ → ¬ SBk n vs b) :
    Calls Tryz.prog 93 #[.pointer (some ⟨g, 0, none⟩)] w fun e w' => ∃ out gs, e = .returned out ∧ GRk 58 24 mkP B n vs ms w w' n out gs := by
  have HC4 := Lib.hid hc4
  have HH := Lib.hid h
  have HAP := Lib.hid hap
  have HG := Lib.hid hg
  have HVA := Lib.hid hva
  have HLT := Lib.hid (show ∀ b, SBk n vs b → b < w.heap.size from fun b ⟨j, hj, e⟩ => (World.ownsRow.lt (h j hj).1 b e).2)
  clear hc4 h hap hg hva
  go_enter Tryz.func93, Tryz.ntmps93
  go_wp2_with fail
  go_loopw [3, 4] (fun out i w' => ∃ (k : Nat) (gs : Nat → Value), k ≤ n ∧ i = .int .i64 k ∧ GRk 58 24 mkP B n vs ms w w' k out gs) (fun _ i _ => n - (intOf i).toNat)
  case atStart => exact ⟨0, fun _ => undef, Nat.zero_le _, rfl, ⟨Fr.refl _ _, World.ownsRow_nil _ _ _ _, fun j hj => absurd hj (Nat.not_lt_zero _), fun j hj => (HH.out j hj).1, fun j hj => absurd hj (Nat.not_lt_zero _)⟩⟩
  case round =>
    obtain ⟨k, gs, hk, rfl, hgr⟩ := hrel
    have HGR := Lib.hid hgr
    clear hgr
    have c4 := HGR.out.fr.cell HC4.out HG.out
    by_cases hlt : k < n
    · obtain ⟨b, off, rfl, hcv⟩ := hv k hlt
      have hcv' := HGR.out.fr.cell (hcv k hlt) (HVA.out b off rfl)
      have hmx := (HH.out k hlt).2
      obtain ⟨m, hm⟩ : ∃ m, ms k = m := ⟨_, rfl⟩
      rw [hm] at hmx
      have hov := HGR.out.ovs k hlt
      rw [hm] at hov
      have HM := Lib.hid hm
      clear hm hcv
      obtain ⟨V, hV⟩ : ∃ V, vs k = V := ⟨_, rfl⟩
      rw [hV] at hcv' hov
      have HV := Lib.hid hV
      clear hV
      have HGL0 : Hid (GLk 58 5 (fun b => V.ownBlock = some b) B wr wr V V m 0 (mkP.row k 0 m) (mkP.row k m 0)) := Lib.hid ⟨Fr.refl _ _, by rw [MK.row_zero, List.append_nil]; exact hov, hov, fun b e => .inl e⟩
      clear hov
      go_wp2_with fail
      have hsz1 : w.heap.size ≤ wr.heap.size := HGR.out.fr.size
      obtain ⟨Wo, hWo⟩ : ∃ Wo, Wo = wr := ⟨_, rfl⟩
      subst hWo
      go_loopw [5, 6] (fun l t Y => ∃ q : Nat, q ≤ 12 ∧ t = .int .i64 q ∧ GLk 58 5 (fun b => V.ownBlock = some b) B Wo Y V l m q (mkP.row k 0 m) (mkP.row k m q)) (fun _ t _ => 12 - (intOf t).toNat)
      case atStart => exact ⟨0, by omega, rfl, HGL0.out⟩
      case round =>
        obtain ⟨q, hq, rfl, hgl⟩ := hrel
        have HGL := Lib.hid hgl
        clear hgl
        obtain ⟨la, lc, hl⟩ := row_shape' HGL.out.ol
        subst hl
        obtain ⟨L, hL⟩ : ∃ L, m + q = L := ⟨_, rfl⟩
        rw [hL] at HGL ⊢
        have hLb : L ≤ 50012 := by omega
        have HL := Lib.hid hL
        have hszY : w.heap.size ≤ wr.heap.size := Nat.le_trans hsz1 HGL.out.fr.size
        by_cases hql : q < 12
        · clear hL
          go_wp2_with fail
          refine (markPairs_any k L 1 wr (by omega) (by omega)).mono ?_
          rintro e W2 ⟨mv, rfl, hf, hb2⟩
          obtain ⟨a2, c2, rfl⟩ := row_shape' hf
          have HI2 := Lib.hid (sg_own hf (mkP_one k L 1))
          have HG2 := Lib.hid (HGL.out.keep hb2)
          have hsz2 := hb2.size
          clear hf hb2 HGL
          go_wp2_with (at_builtin; refine wpList_appK rfl _ _ _ rfl el_pair B _ L _ rfl (by have := HG2.out.ol; rwa [HL.out] at this) ?cB a2 1 c2 _ rfl HI2.out ?cM ?cN ?_)
          case cB => omega
          case cM => unfold maxLen; omega
          case cN => omega
          intro l' W3 ho3 hg3 hol3 hb3
          have hstep := HG2.out.step (p := 1) (zs := mkP.row k L 1) (fun b e => e) (by rw [HL.out]; rw [List.append_assoc]; exact ho3) hg3 (by rw [HL.out]; exact hol3) hb3
          rw [← HL.out] at hstep
          rw [MK.row_add] at hstep
          have HG3 := Lib.hid hstep
          clear hstep ho3 hg3 hol3 hb3 HG2 HI2 hsz2
          go_wp2_with fail
          go_roundw
          case rel => exact ⟨q + 1, by omega, by go_num, HG3.out⟩
          case measure => simp [intOf]; omega
        · have hq12 : q = 12 := by omega
          subst hq12
          clear hL
          go_wp2_with fail
          refine (markPairs_any k L 60 wr (by omega) (by omega)).mono ?_
          rintro e W2 ⟨mv, rfl, hf, hb2⟩
          obtain ⟨a2, c2, rfl⟩ := row_shape' hf
          have HI2 := Lib.hid (sg_own hf (mkP_one k L 60))
          have HG2 := Lib.hid (HGL.out.keep hb2)
          have hsz2 := hb2.size
          clear hf hb2 HGL
          go_wp2_with (at_builtin; refine wpList_appK rfl _ _ _ rfl el_pair B _ L _ rfl (by have := HG2.out.ol; rwa [HL.out] at this) ?cB a2 60 c2 _ rfl HI2.out ?cM ?cN ?_)
          case cB => omega
          case cM => unfold maxLen; omega
          case cN => omega
          intro l' W3 ho3 hg3 hol3 hb3
          have hstep := HG2.out.step (p := 60) (zs := mkP.row k L 60) (fun b e => e) (by rw [HL.out]; rw [List.append_assoc]; exact ho3) hg3 (by rw [HL.out]; exact hol3) hb3
          rw [← HL.out] at hstep
          rw [MK.row_add] at hstep
          have hstep' : GLk 58 mkP.z (fun b => V.ownBlock = some b) B Wo W3 V l' m 72 (mkP.row k 0 m) (mkP.row k m 72) := hstep
          rw [← HV.out, ← HM.out] at hstep'
          have hgm := HGR.out.grown hlt HAP.out HLT.out hstep' hk
          have HGM := Lib.hid hgm
          obtain ⟨a3, c3, hl3⟩ := row_shape' hgm.ol
          obtain ⟨n3, hn3⟩ : ∃ n3, ms k + 72 = n3 := ⟨_, rfl⟩
          rw [hn3] at hl3
          subst hl3
          have hsz3 := hg3.size
          clear hstep hstep' hgm ho3 hg3 hol3 hb3 HG2 HI2 hn3
          have hbA := (Bl.refl W3).alloc (.cells #[.slice a3 n3 c3] 24)
          have HGA := Lib.hid (HGM.out.keep hbA)
          have hlit : (W3.alloc (.cells #[.slice a3 n3 c3] 24)).heap[W3.heap.size]? = some (.cells [.slice a3 n3 c3].toArray 24 (0, 0)) := heap_alloc_new W3 _
          have HLT0 := Lib.hid (SG.lit (size := 1) hlit rfl (by intro u hu; simp at hu; subst hu; rfl))
          have hsz4 := hbA.size
          clear hlit hbA
          go_wp2_with (at_builtin; refine wpList_appK rfl _ _ _ rfl el_rowsP w.heap.size _ _ _ rfl HGA.out.r.row ?cB2 (some ⟨W3.heap.size, 0, none⟩) 1 1 _ rfl HLT0.out ?cM2 ?cN2 ?_)
          case cB2 => omega
          case cM2 => unfold maxLen; omega
          case cN2 => omega
          intro out' W4 ho4 hg4 _ hb4
          have HR4 := Lib.hid (HGA.out.step hlt HLT.out ho4 hg4 (fun b e => (hb4 b e).imp_right (fun h => by simpa using h)))
          clear ho4 hg4 hb4 HGA HGM HLT0 HGR
          go_wp2_with fail
          go_roundw
          case rel => exact ⟨k + 1, _, by omega, by go_num, HR4.out⟩
          case measure => simp [intOf]; omega
    · go_wp2_with fail
      go_ret
      have e1 : k = n := by omega
      subst e1
      exact ⟨_, gs, rfl, HGR.out⟩
end Go.Proofs.YtaplefelfiefaaaGreat
end
