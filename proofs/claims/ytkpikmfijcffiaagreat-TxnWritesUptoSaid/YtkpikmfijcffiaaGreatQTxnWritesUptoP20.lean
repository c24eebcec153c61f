import Derived.Test.YtkpikmfijcffiaaGreatQTxnWritesUptoP19
import Derived.Test.YtkpikmfijcffiaaGreatQTxnWritesUptoP3
import Derived.Test.YtkpikmfijcffiaaGreatQTxnWritesUptoP16

/- bedrockbook over Writes that are kept: putWrites. By an AI agent. -/
section
namespace Go.Proofs.YtkpikmfijcffiaaGreat
open Go.RowKit
attribute [local go_sem] eOp eOper eUpon

set_option maxHeartbeats 2000000 in
set_option maxRecDepth 100000 in
theorem putWrites_any (B g : Nat) (va : Option Addr) (n cv : Nat) (vs : Nat → Value) (ln : Nat → Nat) (cs : Nat → List Value) (w : World) (hn : n ≤ 250) (hc4 : w.cell? ⟨g, 12, none⟩ = some (.slice va n cv)) (hv : LA w va n vs)
    (h : ∀ j, j < n → w.ownsRow B 58 5 (vs j) (ln j) (cs j) ∧ ln j ≤ 100000) (hap : ∀ i j, i < n → j < n → i ≠ j → (vs i).ownBlock = none ∨ (vs i).ownBlock ≠ (vs j).ownBlock)
    (hg : ¬ SBk n vs g) (hva : ∀ b off, va = some ⟨b, off, none⟩ → ¬ SBk n vs b) :
    Calls Tryz.prog 62 #[.pointer (some ⟨g, 0, none⟩)] w fun e w' => e = .returned (.tuple #[]) ∧ Fr (SBk n vs) w w' ∧ ∀ j, j < n → w'.ownsRow B 58 5 (vs j) (ln j) (mkW.row j 0 (ln j)) := by
  have hsf := store_fl
  have HC4 := Lib.hid hc4
  have HH := Lib.hid h
  have HAP := Lib.hid hap
  have HG := Lib.hid hg
  have HVA := Lib.hid hva
  have HLT := Lib.hid (show ∀ b, SBk n vs b → b < w.heap.size from fun b ⟨j, hj, e⟩ => (World.ownsRow.lt (h j hj).1 b e).2)
  have HLEN := Lib.hid (show ∀ j, j < n → (cs j).length = ln j * mkW.z from fun j hj => (h j hj).1.1)
  clear hc4 h hap hg hva
  go_enter Tryz.func62, Tryz.ntmps62
  go_wp2_with fail
  go_loopw [2] (fun i w' => ∃ k : Nat, k ≤ n ∧ i = .int .i64 k ∧ Fr (SBk n vs) w w' ∧ ∀ j, j < n → w'.ownsRow B 58 5 (vs j) (ln j) (curC mkW cs ln k 0 j)) (fun i _ => n - (intOf i).toNat)
  case atStart => exact ⟨0, Nat.zero_le _, rfl, Fr.refl _ _, fun j hj => by rw [curC_zero]; exact (HH.out j hj).1⟩
  case round =>
    obtain ⟨k, hk, rfl, hfr, hoi⟩ := hrel
    have HFR := Lib.hid hfr
    have HOI := Lib.hid hoi
    clear hfr hoi
    have c4 := HFR.out.cell HC4.out HG.out
    by_cases hlt : k < n
    · obtain ⟨b, off, rfl, hcv⟩ := hv k hlt
      have hcv' := HFR.out.cell (hcv k hlt) (HVA.out b off rfl)
      obtain ⟨a1, c1, e1⟩ := row_shape' (HOI.out k hlt)
      have hmx := (HH.out k hlt).2
      have hgi : 0 < ln k → ∃ gi, a1 = some ⟨gi, 0, none⟩ := fun hp => by
        have := HOI.out k hlt
        rw [e1] at this
        obtain ⟨_, ⟨e, h2⟩ | ⟨gi, cap, cur, e, _⟩⟩ := this
        · omega
        · simp only [Value.slice.injEq] at e; exact ⟨gi, e.1⟩
      obtain ⟨m, hm⟩ : ∃ m, ln k = m := ⟨_, rfl⟩
      rw [hm] at e1 hmx hgi
      have HM := Lib.hid hm
      have HE1 := Lib.hid e1
      rw [e1] at hcv'
      have HCV := Lib.hid (hcv k hlt)
      rw [e1] at HCV
      clear hm e1 hcv
      go_wp2_with fail
      refine (markWrites_any k 0 m wr (by omega) (by omega)).mono ?_
      rintro e W1 ⟨v, rfl, hf, hb1⟩
      obtain ⟨a2, c2, rfl⟩ := row_shape' hf
      have hna : ∀ b off, a2 = some ⟨b, off, none⟩ → 0 < m → ¬ SBk n vs b := fun b off e hp hs => by
        have hob : (Value.slice a2 m c2).ownBlock = some b := by
          obtain ⟨_, ⟨e3, h2⟩ | ⟨gi, cap, cur, e3, _⟩⟩ := hf
          · cases e3; omega
          · simp only [Value.slice.injEq] at e3; rw [e3.1] at e; cases e; rw [e3.1]; rfl
        have h1 := (World.ownsRow.lt hf b hob).1
        have h2 := HLT.out b hs
        have h3 := HFR.out.size
        omega
      have HNA := Lib.hid hna
      have HF1 := Lib.hid (HFR.out.bl hb1)
      have HO1 := Lib.hid (fun j (hj : j < n) => ownsRow_bl (HOI.out j hj) hb1)
      have HI2 := Lib.hid (WW.own (by rw [markW_cells]; exact hf) (markW_len k 0 m) (by omega) (markW_ok k 0 m))
      clear HFR HOI hf hb1 hna c4 hcv'
      go_wp2_with fail
      go_loopw [4] (fun t Y => ∃ q : Nat, q ≤ m ∧ t = .int .i64 q ∧ Fr (SBk n vs) W1 Y ∧ ∀ j, j < n → Y.ownsRow B 58 5 (vs j) (ln j) (curC mkW cs ln k q j)) (fun t _ => m - (intOf t).toNat)
      case atStart => exact ⟨0, Nat.zero_le _, rfl, Fr.refl _ _, HO1.out⟩
      case round =>
        obtain ⟨q, hq, rfl, hfy, hoy⟩ := hrel
        have HFY := Lib.hid hfy
        have HOY := Lib.hid hoy
        clear hfy hoy
        by_cases hql : q < m
        · obtain ⟨gi, rfl⟩ := hgi (by omega)
          obtain ⟨b2, off2, rfl, hmc⟩ := HI2.out.cells q hql
          have HMC := Lib.hid (HI2.out.fr HFY.out (fun b off e hp => HNA.out b off e hp))
          have HCY := Lib.hid ((HF1.out.trans HFY.out).cell HC4.out HG.out)
          have HRY := Lib.hid ((HF1.out.trans HFY.out).cell HCV.out (HVA.out b off rfl))
          have HOK := Lib.hid (show wr.ownsRow B 58 5 (.slice (some ⟨gi, 0, none⟩) m c1) m (curC mkW cs ln k q k) from by have h := HOY.out k hlt; rw [HE1.out, HM.out] at h; exact h)
          have HMK := Lib.hid (show nthW (markW k 0 m) q = (nameB k q, ⟨0, 0, 0, ⟨#[]⟩⟩) by
            rw [nthW_eq (by rw [markW_len]; exact hql)]
            simp [markW])
          obtain ⟨nm, hnm⟩ : ∃ x, nameB k q = x := ⟨_, rfl⟩
          have HNM := Lib.hid hnm
          rw [hnm] at HMK
          clear hnm hmc
          go_upto_region 7 with fail
          refine wp_region_idx [0, 1, 2, 3, 4, 5, 6, 7, 8, 9, 10, 11, 12] 1 (Fr (SBk n vs) wr) (fun _ _ h k => h.bl k) ((Fr.refl _ wr).bl (Bl.refl wr).drew) (by kernel_rfl) rfl (by kernel_rfl) (by kernel_rfl) ?_
          have HBZ := Lib.hid (Bl.refl wr).drew
          generalize hz : World.drew _ = Z at *
          clear hz
          haveI : Nonempty (ExtC (Fr (SBk n vs) wr)) := ⟨⟨Z, (Fr.refl _ wr).bl HBZ.out⟩⟩
          have p0 : ∀ q : ExtC (Fr (SBk n vs) wr), _ := fun q => q.ok.cell HCY.out HG.out
          have p1 : ∀ q : ExtC (Fr (SBk n vs) wr), _ := fun q => q.ok.cell HRY.out (HVA.out b off rfl)
          have PC : ∀ x : ExtC (Fr (SBk n vs) wr), WC x.at b2 (off2 + q * 5) (nm, ⟨0, 0, 0, ⟨#[]⟩⟩) := fun x => by
            have h1 := (HMC.out.fr x.ok (fun b off e hp => HNA.out b off e hp)).get (Bl.refl _) hql
            rwa [HMK.out] at h1
          have p2 : ∀ q : ExtC (Fr (SBk n vs) wr), _ := fun q => (PC q).c0
          have p3 : ∀ q : ExtC (Fr (SBk n vs) wr), _ := fun q => (PC q).c1
          have p4 : ∀ q : ExtC (Fr (SBk n vs) wr), _ := fun q => (PC q).c2
          have p5 : ∀ q : ExtC (Fr (SBk n vs) wr), _ := fun q => (PC q).c3
          have p6 : ∀ q : ExtC (Fr (SBk n vs) wr), _ := fun q => (PC q).c4
          dsimp only at p2 p3 p4 p5 p6
          repeat (refine wpI_step rfl (fun K hK => ?_); go_simp; first | (refine hK _ ?_; clear hK K) | (apply Exists.intro; refine ⟨fun q => ?_, hK _ ?_⟩; fail; clear hK K))
          refine wpI_nil ?_
          clear p0 p1 p2 p3 p4 p5 p6 PC this
          refine wpAnyE_one (i := 13) (by kernel_rfl) ?_
          intro X hx
          have HX := Lib.hid (HBZ.out.trans hx)
          have hok := ownsRow_bl HOK.out HX.out
          have hcl : (curC mkW cs ln k q k).length = m * 5 := hok.1
          obtain ⟨y0, y1, y2, y3, y4, x0, x1, x2, x3, x4, f0, f1, f2, f3, f4⟩ := own_fives hok (o := q * 5) (by omega)
          have hst := own_setCs [.string nm, .int .i64 0, .float .f64 0, .int .i64 0, .string ⟨#[]⟩] X _ (q * 5) hok
          clear hx hok hcl
          go_simp
          clear x0 x1 x2 x3 x4 f0 f1 f2 f3 f4
          obtain ⟨X2, hX2⟩ : ∃ x, (((((X.setCell ⟨gi, q * 5, none⟩ (.string nm)).setCell ⟨gi, q * 5 + 1, none⟩ (.int .i64 0)).setCell ⟨gi, q * 5 + 2, none⟩ (.float .f64 0)).setCell ⟨gi, q * 5 + 3, none⟩ (.int .i64 0)).setCell ⟨gi, q * 5 + 4, none⟩ (.string ⟨#[]⟩)) = x := ⟨_, rfl⟩
          rw [hX2]
          have HST := Lib.hid (show X2.ownsRow B 58 5 (.slice (some ⟨gi, 0, none⟩) m c1) m (setL (curC mkW cs ln k q k) (q * 5) [.string nm, .int .i64 0, .float .f64 0, .int .i64 0, .string ⟨#[]⟩]) ∧ X.grownBy X2 (some gi) from by rw [← hX2]; exact hst)
          clear hst hX2
          have hown : (vs k).ownBlock = some gi := by rw [HE1.out]; rfl
          have hfrS : Fr (SBk n vs) wr X2 := ((Fr.refl _ wr).bl HX.out).grown HST.out.2 (fun i e => by cases e; exact ⟨k, hlt, hown⟩)
          have hoi5 : ∀ j, j < n → X2.ownsRow B 58 5 (vs j) (ln j) (curC mkW cs ln k (q + 1) j) := fun j hj => by
            by_cases e : j = k
            · subst e
              have h1 := HST.out.1
              have hcs := curC_step (m := mkW) (cs := cs) (ln := ln) (k := j) (q := q) (HLEN.out j hj) (by rw [HM.out]; exact hql)
              have hel : mkW.el j q = [.string nm, .int .i64 0, .float .f64 0, .int .i64 0, .string ⟨#[]⟩] := by
                show writeCs (nameB j q, ⟨0, 0, 0, ⟨#[]⟩⟩) = _
                rw [HNM.out]; rfl
              rw [hel] at hcs
              have hcs' : setL (curC mkW cs ln j q j) (q * 5) [.string nm, .int .i64 0, .float .f64 0, .int .i64 0, .string ⟨#[]⟩] = curC mkW cs ln j (q + 1) j := hcs
              rw [hcs'] at h1
              rw [HE1.out, HM.out]
              exact h1
            · rw [curC_ne e]
              exact World.ownsRow.kept (ownsRow_bl (HOY.out j hj) HX.out) HST.out.2 (by rw [← hown]; exact HAP.out j k hj hlt e)
          have HFX := Lib.hid (HFY.out.trans hfrS)
          have HOX := Lib.hid hoi5
          refine ⟨hfrS, ?_⟩
          clear HST hown hfrS hoi5 HX HFY HOY HOK HCY HRY HMC HMK HNM
          refine wpAnyE_done (by kernel_rfl) ?_
          intro X3 hx3
          have HFX3 := Lib.hid (HFX.out.bl hx3)
          have HOX3 := Lib.hid (fun j (hj : j < n) => ownsRow_bl (HOX.out j hj) hx3)
          clear HFX HOX hx3
          go_wp2_with fail
          go_roundw
          case rel => exact ⟨q + 1, by omega, by go_num, HFX3.out, HOX3.out⟩
          case measure => simp [intOf]; omega
        · have hqe : q = m := by omega
          have HFN := Lib.hid (HF1.out.trans HFY.out)
          have HON := Lib.hid (fun j (hj : j < n) => (show wr.ownsRow B 58 5 (vs j) (ln j) (curC mkW cs ln (k + 1) 0 j) from by rw [← curC_next (HLEN.out k hlt), HM.out, ← hqe]; exact HOY.out j hj))
          clear hqe HFY HOY
          go_wp2_with fail
          go_roundw
          case rel => exact ⟨k + 1, by omega, by go_num, HFN.out, HON.out⟩
          case measure => simp [intOf]; omega
    · go_wp2_with fail
      go_end0
      have e1 : k = n := by omega
      subst e1
      exact ⟨rfl, HFR.out, fun j hj => by rw [← curC_end hj 0]; exact HOI.out j hj⟩
end Go.Proofs.YtkpikmfijcffiaaGreat
end

/- bedrockbook over Writes that are kept: growWrites. By an AI agent. -/
section
namespace Go.Proofs.YtkpikmfijcffiaaGreat
open Go.RowKit
attribute [local go_sem] eOp eOper eUpon

theorem el_rowsW : EL 36 22 1 24 := el_of Tryz.underlying36 (by kernel_rfl) (by decide)
theorem mkW_one (i f n : Nat) : ∀ u ∈ mkW.row i f n, u.oneCell' = true := by
  intro u hu
  simp only [MK.row, List.mem_flatMap, List.mem_range] at hu
  obtain ⟨k, _, hk⟩ := hu
  simp only [mkW, writeCs, List.mem_cons, List.mem_nil_iff, or_false] at hk
  rcases hk with rfl | rfl | rfl | rfl | rfl <;> rfl
set_option maxHeartbeats 2000000 in
set_option maxRecDepth 100000 in
theorem growWrites_any (B g : Nat) (va : Option Addr) (n cv : Nat) (vs : Nat → Value) (ms : Nat → Nat) (w : World) (hn : n ≤ 250) (hB : B ≤ w.heap.size) (hc4 : w.cell? ⟨g, 12, none⟩ = some (.slice va n cv)) (hv : LA w va n vs)
    (h : ∀ j, j < n → w.ownsRow B 58 5 (vs j) (ms j) (mkW.row j 0 (ms j)) ∧ ms j ≤ 50000) (hap : ∀ i j, i < n → j < n → i ≠ j → (vs i).ownBlock = none ∨ (vs i).ownBlock ≠ (vs j).ownBlock)
    (hg : ¬ SBk n vs g) (hva : ∀ b off, va = some ⟨b, off, none⟩ → ¬ SBk n vs b) :
    Calls Tryz.prog 73 #[.pointer (some ⟨g, 0, none⟩)] w fun e w' => ∃ out gs, e = .returned out ∧ GRk 58 22 mkW B n vs ms w w' n out gs := by
  have HC4 := Lib.hid hc4
  have HH := Lib.hid h
  have HAP := Lib.hid hap
  have HG := Lib.hid hg
  have HVA := Lib.hid hva
  have HLT := Lib.hid (show ∀ b, SBk n vs b → b < w.heap.size from fun b ⟨j, hj, e⟩ => (World.ownsRow.lt (h j hj).1 b e).2)
  clear hc4 h hap hg hva
  go_enter Tryz.func73, Tryz.ntmps73
  go_wp2_with fail
  go_loopw [3, 4] (fun out i w' => ∃ (k : Nat) (gs : Nat → Value), k ≤ n ∧ i = .int .i64 k ∧ GRk 58 22 mkW B n vs ms w w' k out gs) (fun _ i _ => n - (intOf i).toNat)
  case atStart => exact ⟨0, fun _ => undef, Nat.zero_le _, rfl, ⟨Fr.refl _ _, World.ownsRow_nil _ _ _ _, fun j hj => absurd hj (Nat.not_lt_zero _), fun j hj => (HH.out j hj).1, fun j hj => absurd hj (Nat.not_lt_zero _)⟩⟩
  case round =>
    obtain ⟨k, gs, hk, rfl, hgr⟩ := hrel
    have HGR := Lib.hid hgr
    clear hgr
    have c4 := HGR.out.fr.cell HC4.out HG.out
    by_cases hlt : k < n
    · obtain ⟨b, off, rfl, hcv⟩ := hv k hlt
      have hcv' := HGR.out.fr.cell (hcv k hlt) (HVA.out b off rfl)
      have hmx := (HH.out k hlt).2
      obtain ⟨m, hm⟩ : ∃ m, ms k = m := ⟨_, rfl⟩
      rw [hm] at hmx
      have hov := HGR.out.ovs k hlt
      rw [hm] at hov
      have HM := Lib.hid hm
      clear hm hcv
      obtain ⟨V, hV⟩ : ∃ V, vs k = V := ⟨_, rfl⟩
      rw [hV] at hcv' hov
      have HV := Lib.hid hV
      clear hV
      have HGL0 : Hid (GLk 58 5 (fun b => V.ownBlock = some b) B wr wr V V m 0 (mkW.row k 0 m) (mkW.row k m 0)) := Lib.hid ⟨Fr.refl _ _, by rw [MK.row_zero, List.append_nil]; exact hov, hov, fun b e => .inl e⟩
      clear hov
      go_wp2_with fail
      have hsz1 : w.heap.size ≤ wr.heap.size := HGR.out.fr.size
      obtain ⟨Wo, hWo⟩ : ∃ Wo, Wo = wr := ⟨_, rfl⟩
      subst hWo
      go_loopw [5, 6] (fun l t Y => ∃ q : Nat, q ≤ 12 ∧ t = .int .i64 q ∧ GLk 58 5 (fun b => V.ownBlock = some b) B Wo Y V l m q (mkW.row k 0 m) (mkW.row k m q)) (fun _ t _ => 12 - (intOf t).toNat)
      case atStart => exact ⟨0, by omega, rfl, HGL0.out⟩
      case round =>
        obtain ⟨q, hq, rfl, hgl⟩ := hrel
        have HGL := Lib.hid hgl
        clear hgl
        obtain ⟨la, lc, hl⟩ := row_shape' HGL.out.ol
        subst hl
        obtain ⟨L, hL⟩ : ∃ L, m + q = L := ⟨_, rfl⟩
        rw [hL] at HGL ⊢
        have hLb : L ≤ 50012 := by omega
        have HL := Lib.hid hL
        have hszY : w.heap.size ≤ wr.heap.size := Nat.le_trans hsz1 HGL.out.fr.size
        by_cases hql : q < 12
        · clear hL
          go_wp2_with fail
          refine (markWrites_any k L 1 wr (by omega) (by omega)).mono ?_
          rintro e W2 ⟨mv, rfl, hf, hb2⟩
          obtain ⟨a2, c2, rfl⟩ := row_shape' hf
          have HI2 := Lib.hid (sg_own hf (mkW_one k L 1))
          have HG2 := Lib.hid (HGL.out.keep hb2)
          have hsz2 := hb2.size
          clear hf hb2 HGL
          go_wp2_with (at_builtin; refine wpList_appK rfl _ _ _ rfl el_wr B _ L _ rfl (by have := HG2.out.ol; rwa [HL.out] at this) ?cB a2 1 c2 _ rfl HI2.out ?cM ?cN ?_)
          case cB => omega
          case cM => unfold maxLen; omega
          case cN => omega
          intro l' W3 ho3 hg3 hol3 hb3
          have hstep := HG2.out.step (p := 1) (zs := mkW.row k L 1) (fun b e => e) (by rw [HL.out]; rw [List.append_assoc]; exact ho3) hg3 (by rw [HL.out]; exact hol3) hb3
          rw [← HL.out] at hstep
          rw [MK.row_add] at hstep
          have HG3 := Lib.hid hstep
          clear hstep ho3 hg3 hol3 hb3 HG2 HI2 hsz2
          go_wp2_with fail
          go_roundw
          case rel => exact ⟨q + 1, by omega, by go_num, HG3.out⟩
          case measure => simp [intOf]; omega
        · have hq12 : q = 12 := by omega
          subst hq12
          clear hL
          go_wp2_with fail
          refine (markWrites_any k L 60 wr (by omega) (by omega)).mono ?_
          rintro e W2 ⟨mv, rfl, hf, hb2⟩
          obtain ⟨a2, c2, rfl⟩ := row_shape' hf
          have HI2 := Lib.hid (sg_own hf (mkW_one k L 60))
          have HG2 := Lib.hid (HGL.out.keep hb2)
          have hsz2 := hb2.size
          clear hf hb2 HGL
          go_wp2_with (at_builtin; refine wpList_appK rfl _ _ _ rfl el_wr B _ L _ rfl (by have := HG2.out.ol; rwa [HL.out] at this) ?cB a2 60 c2 _ rfl HI2.out ?cM ?cN ?_)
          case cB => omega
          case cM => unfold maxLen; omega
          case cN => omega
          intro l' W3 ho3 hg3 hol3 hb3
          have hstep := HG2.out.step (p := 60) (zs := mkW.row k L 60) (fun b e => e) (by rw [HL.out]; rw [List.append_assoc]; exact ho3) hg3 (by rw [HL.out]; exact hol3) hb3
          rw [← HL.out] at hstep
          rw [MK.row_add] at hstep
          have hstep' : GLk 58 mkW.z (fun b => V.ownBlock = some b) B Wo W3 V l' m 72 (mkW.row k 0 m) (mkW.row k m 72) := hstep
          rw [← HV.out, ← HM.out] at hstep'
          have hgm := HGR.out.grown hlt HAP.out HLT.out hstep' hk
          have HGM := Lib.hid hgm
          obtain ⟨a3, c3, hl3⟩ := row_shape' hgm.ol
          obtain ⟨n3, hn3⟩ : ∃ n3, ms k + 72 = n3 := ⟨_, rfl⟩
          rw [hn3] at hl3
          subst hl3
          have hsz3 := hg3.size
          clear hstep hstep' hgm ho3 hg3 hol3 hb3 HG2 HI2 hn3
          have hbA := (Bl.refl W3).alloc (.cells #[.slice a3 n3 c3] 22)
          have HGA := Lib.hid (HGM.out.keep hbA)
          have hlit : (W3.alloc (.cells #[.slice a3 n3 c3] 22)).heap[W3.heap.size]? = some (.cells [.slice a3 n3 c3].toArray 22 (0, 0)) := heap_alloc_new W3 _
          have HLT0 := Lib.hid (SG.lit (size := 1) hlit rfl (by intro u hu; simp at hu; subst hu; rfl))
          have hsz4 := hbA.size
          clear hlit hbA
          go_wp2_with (at_builtin; refine wpList_appK rfl _ _ _ rfl el_rowsW w.heap.size _ _ _ rfl HGA.out.r.row ?cB2 (some ⟨W3.heap.size, 0, none⟩) 1 1 _ rfl HLT0.out ?cM2 ?cN2 ?_)
          case cB2 => omega
          case cM2 => unfold maxLen; omega
          case cN2 => omega
          intro out' W4 ho4 hg4 _ hb4
          have HR4 := Lib.hid (HGA.out.step hlt HLT.out ho4 hg4 (fun b e => (hb4 b e).imp_right (fun h => by simpa using h)))
          clear ho4 hg4 hb4 HGA HGM HLT0 HGR
          go_wp2_with fail
          go_roundw
          case rel => exact ⟨k + 1, _, by omega, by go_num, HR4.out⟩
          case measure => simp [intOf]; omega
    · go_wp2_with fail
      go_ret
      have e1 : k = n := by omega
      subst e1
      exact ⟨_, gs, rfl, HGR.out⟩
end Go.Proofs.YtkpikmfijcffiaaGreat
end

/- a list more in a book: what the call leaves, in plain words. By an AI agent. -/
section
set_option linter.unusedVariables false
namespace Go.Proofs.YtkpikmfijcffiaaGreat
open Go.RowKit

theorem grown_set' (w : World) (g j : Nat) (u : Value) : w.grownBy (w.setCell ⟨g, j, none⟩ u) (some g) := ⟨rfl, rfl, rfl, by simp, fun k hk hne => Below.heap_setCell _ _ _ _ (fun e => hne (by rw [e]))⟩
theorem AC.setc {w : World} {g : Nat} {cs : List Value} (h : AC w g cs) (j : Nat) (v : Value) : AC (w.setCell ⟨g, j, none⟩ v) g (cs.set j v) := by
  obtain ⟨t, h⟩ := h
  exact ⟨t, by rw [heap_setCell_same w g j _ t v h]; simp⟩
theorem AC.at_ {w : World} {g : Nat} {cs : List Value} (h : AC w g cs) {j : Nat} {v : Value} (hj : cs[j]? = some v) : w.cell? ⟨g, j, none⟩ = some v := h.cell j v hj
theorem pOp_appk {ops : Array Oper} {R : List PanicEntry → World → Prop} {i : Nat} {o : Oper} {a : Act} {w : World} {K : Act → World → Prop} (ho' : ops[i]? = some o) (hgd : o.guard = none) (s x : Operand) (T : TypeId)
    (ho : o.op = .call { callee := .builtin .append, args := #[s, x], argTypes := #[T, T] }) {E : TypeId} {size bytes : Nat} (hT : EL T E size bytes) (B : Nat) (v : Value) (n : Nat) (xs : List Value) (hs : a.eval s = v) (hown : w.ownsRow B E size v n xs) (hB : B ≤ w.heap.size)
    (ad : Option Addr) (m c : Nat) (news : List Value) (hx : a.eval x = .slice ad m c) (hsc : SG w size ad m news) (h63 : n + m ≤ maxLen) (hbytes : (n + m) * bytes ≤ 140737488355328)
    (h : ∀ v' w', w'.ownsRow B E size v' (n + m) (xs ++ news) → w.grownBy w' v.ownBlock → (∀ b, v'.ownBlock = some b → v.ownBlock = some b ∨ w.heap.size ≤ b) → K (a.put o.dst v') w') : pOp Tryz.prog R ops i K a w := by
  obtain ⟨v', w', hr, h2, h3, h4, h5⟩ := run_appK hT o.type v n xs hown ad m c news hsc h63 hbytes hB
  unfold pOp
  simp only [ho']
  rw [if_pos (by simp [Region.wanted, hgd])]
  unfold pOper execOp
  simp only [ho, resolve, invoke, builtin, Sem.run_bind, Sem.run_pure, Result.andThen_ok, List.map_toArray, List.map_cons, List.map_nil, hs, hx, hr, pUpon]
  exact h v' w' h2 h3 h5
/-- what a call that keeps one more list leaves -/
structure RPk (L p B : Nat) (R : Value → World → (Nat → Prop) → Prop) (w W : World) (g n : Nat) (hs : List Value) (vv wv : Value) (vcs ucs : List Value) (v vv' wv' u : Value) (Dn : Nat → Prop) : Prop where
  box : AC W g ((hs.set p vv').set (p + 1) wv')
  rv : W.ownsRow B L 1 vv' (n + 1) (vcs ++ [v])
  ru : W.ownsRow B L 1 wv' (n + 1) (ucs ++ [u])
  rd : R u W Dn
  dn : ∀ b, Dn b → b < W.heap.size ∧ w.heap.size ≤ b ∧ vv'.ownBlock ≠ some b ∧ wv'.ownBlock ≠ some b
  fr : Fr (fun b => b = g ∨ vv.ownBlock = some b ∨ wv.ownBlock = some b) w W
  bv : ∀ b, vv'.ownBlock = some b → vv.ownBlock = some b ∨ w.heap.size ≤ b
  bu : ∀ b, wv'.ownBlock = some b → wv.ownBlock = some b ∨ w.heap.size ≤ b
  avu : wv'.ownBlock = none ∨ wv'.ownBlock ≠ vv'.ownBlock
end Go.Proofs.YtkpikmfijcffiaaGreat
end
