import Derived.Test.YtfjjnffifnohkaaGreatQFoldTellsUptoP35
import Derived.Test.YtfjjnffifnohkaaGreatQFoldTellsUptoP34
import Derived.Deep.DeepCutAuto
import Derived.Test.YtfjjnffifnohkaaGreatQFoldTellsUptoP15

/- bedrockbook over versions that are kept: stillVersions, markedVersions (printed by gen/bookr.py). By an AI agent. -/
section
namespace Go.Proofs.YtfjjnffifnohkaaGreat
open Go.RowKit
attribute [local go_sem] eOp eOper eUpon

/-- a list and its copy read alike -/
def TwoR (v u : Value) (W : World) (D : Nat → Prop) : Prop := ∃ (xs ys : List VC) (a b : Option Addr) (n c d : Nat), v = .slice a n c ∧ u = .slice b n d ∧ RV W a n xs ∧ RV W b n ys ∧ xs.map VC.ver = ys.map VC.ver ∧ (∀ x off, a = some ⟨x, off, none⟩ → 0 < n → D x) ∧ (∀ x off, b = some ⟨x, off, none⟩ → 0 < n → D x) ∧
  (∀ x ∈ xs, ∀ b off, x.ad = some ⟨b, off, none⟩ → 0 < x.n → D b) ∧ (∀ x ∈ ys, ∀ b off, x.ad = some ⟨b, off, none⟩ → 0 < x.n → D b)
theorem TwoR.st {v u : Value} {W W' : World} {S D : Nat → Prop} (hf : Fr S W W') (hd : ∀ b, D b → ¬ S b) (h : TwoR v u W D) : TwoR v u W' D := by
  obtain ⟨xs, ys, a, b, n, c, d, e1, e2, r1, r2, ev, d1, d2, d3, d4⟩ := h
  exact ⟨xs, ys, a, b, n, c, d, e1, e2, r1.fr hf (fun x off e hn => hd x (d1 x off e hn)) (fun x hx b off e h0 => hd b (d3 x hx b off e h0)), r2.fr hf (fun x off e hn => hd x (d2 x off e hn)) (fun x hx b off e h0 => hd b (d4 x hx b off e h0)), ev, d1, d2, d3, d4⟩
theorem stillVersions_any (g : Nat) (va ua : Option Addr) (n cv cu : Nat) (vs us : Nat → Value) (D : Nat → Nat → Prop) (w : World) (hn : n ≤ 250) (hc4 : w.cell? ⟨g, 10, none⟩ = some (.slice va n cv)) (hc5 : w.cell? ⟨g, 11, none⟩ = some (.slice ua n cu))
    (hv : LA w va n vs) (hu : LA w ua n us) (h : ∀ j, j < n → TwoR (vs j) (us j) w (D j)) :
    Calls Tryz.prog 58 #[.pointer (some ⟨g, 0, none⟩)] w fun e w' => e = .returned (.bool true) ∧ Bl w w' := by
  have HC4 := Lib.hid hc4
  have HC5 := Lib.hid hc5
  have HH := Lib.hid h
  clear hc4 hc5 h
  go_enter Tryz.func58, Tryz.ntmps58
  go_wp2_with fail
  go_loopw [3] (fun i w' => ∃ k : Nat, k ≤ n ∧ i = .int .i64 k ∧ Bl w w') (fun i _ => n - (intOf i).toNat)
  case atStart => exact ⟨0, Nat.zero_le _, rfl, Bl.refl _⟩
  case round =>
    obtain ⟨k, hk, rfl, hbl⟩ := hrel
    have c4 := hbl.cell HC4.out
    by_cases hlt : k < n
    · obtain ⟨b, off, rfl, hcv⟩ := hv k hlt
      obtain ⟨b2, off2, rfl, hcu⟩ := hu k hlt
      obtain ⟨xs1, ys1, a1, a2, n1, c1, c2, e1, e2, I1, I2, hvv, -, -, -, -⟩ := HH.out k hlt
      have HV := Lib.hid (hcv k hlt)
      have HU := Lib.hid (hcu k hlt)
      rw [e1] at HV
      rw [e2] at HU
      have I1v := I1.va
      have I2v := I2.va
      rw [← hvv] at I2v
      have HS := Lib.hid (fun (W : World) (hb : Bl w W) => sameVers_yes a1 a2 n1 c1 c2 (xs1.map VC.ver) W (I1v.keep hb) (I2v.keep hb))
      clear e1 e2 I1 I2 I1v I2v hvv hcv hcu
      go_upto_region 4 with fail
      refine wp_region_extall (by kernel_rfl) (by kernel_rfl) ?_
      have HBZ := Lib.hid hbl.drew
      generalize World.drew _ = Z at *
      clear c4
      have p0 : ∀ q : Ext Z, _ := fun q => (HBZ.out.trans q.bl).cell HC4.out
      have p1 : ∀ q : Ext Z, _ := fun q => (HBZ.out.trans q.bl).cell HC5.out
      have p2 : ∀ q : Ext Z, _ := fun q => (HBZ.out.trans q.bl).cell HV.out
      have p3 : ∀ q : Ext Z, _ := fun q => (HBZ.out.trans q.bl).cell HU.out
      repeat (refine wpE_step (fun K hK => ?_); go_simp; first | (refine hK _ ?_; clear hK K) | (apply Exists.intro; refine ⟨fun q => ?_, hK _ ?_⟩; (with_reducible exact HS.out _ (HBZ.out.trans q.bl)); clear hK K))
      refine wpE_nil ?_
      intro q9
      have HBX := Lib.hid (HBZ.out.trans q9.bl)
      clear p0 p1 p2 p3 HBZ
      generalize ExtC.at q9 = X at *
      go_wp2_with fail
      go_roundw
      case rel => exact ⟨k + 1, by omega, by go_num, HBX.out⟩
      case measure => simp [intOf]; omega
    · go_wp2_with fail
      go_ret
      exact ⟨rfl, hbl⟩

theorem markedVersions_any (la : Option Addr) (n lc : Nat) (vs : Nat → Value) (ms : Nat → Nat) (B : Nat) (w : World) (hn : n ≤ 250) (hv : LA w la n vs) (h : ∀ j, j < n → w.ownsRow B 59 8 (vs j) (ms j) (mkR.row j 0 (ms j)) ∧ ms j ≤ 100000) :
    Calls Tryz.prog 103 #[.slice la n lc] w fun e w' => e = .returned (.bool true) ∧ Bl w w' := by
  have HH := Lib.hid h
  clear h
  go_enter Tryz.func103, Tryz.ntmps103
  go_wp2_with fail
  go_loopw [3] (fun i w' => ∃ k : Nat, k ≤ n ∧ i = .int .i64 k ∧ Bl w w') (fun i _ => n - (intOf i).toNat)
  case atStart => exact ⟨0, Nat.zero_le _, rfl, Bl.refl _⟩
  case round =>
    obtain ⟨k, hk, rfl, hbl⟩ := hrel
    by_cases hlt : k < n
    · obtain ⟨b, off, rfl, hcv⟩ := hv k hlt
      obtain ⟨ho, hm⟩ := HH.out k hlt
      obtain ⟨a1, c1, e1⟩ := row_shape' ho
      have HV := Lib.hid (hcv k hlt)
      rw [e1] at HV ho
      obtain ⟨n1, hn1⟩ : ∃ n1, ms k = n1 := ⟨_, rfl⟩
      rw [hn1] at HV ho hm
      have HI := Lib.hid (markR_rv ho (by omega)).va
      clear e1 ho hcv hn1
      go_upto_region 4 with fail
      refine wp_region_idx [0, 1, 2, 3, 4, 5, 6, 7, 8, 9] 3 (Bl w) (fun _ _ h k => h.trans k) hbl.drew (by kernel_rfl) rfl (by kernel_rfl) (by kernel_rfl) ?_
      have HBZ := Lib.hid hbl.drew
      generalize World.drew _ = Z at *
      clear hbl
      haveI : Nonempty (ExtC (Bl w)) := ⟨⟨Z, HBZ.out⟩⟩
      have p2 : ∀ q : ExtC (Bl w), _ := fun q => q.ok.cell HV.out
      repeat (refine wpI_step rfl (fun K hK => ?_); go_simp; first | (refine hK _ ?_; clear hK K) | (apply Exists.intro; refine ⟨fun q => ?_, hK _ ?_⟩; fail; clear hK K))
      refine wpI_nil ?_
      clear p2 this
      refine wpAnyE_one (i := 10) (by kernel_rfl) ?_
      intro X1 hx1
      have HB1 := Lib.hid (HBZ.out.trans hx1)
      clear HBZ hx1
      go_simp
      refine (markVersions_any k 0 n1 X1 (by omega) (by omega)).mono ?_
      rintro e X2 ⟨v, rfl, hf, hb2⟩
      have HB2 := Lib.hid (HB1.out.trans hb2)
      obtain ⟨a2, c2, rfl⟩ := row_shape' hf
      have HI2 := Lib.hid (markR_rv hf (by omega)).va
      clear HB1 hb2 hf
      go_simp
      refine ⟨HB2.out, ?_⟩
      refine wpAnyE_one (i := 11) (by kernel_rfl) ?_
      intro X3 hx3
      have HB3 := Lib.hid (HB2.out.trans hx3)
      go_simp
      refine (sameVers_yes a1 a2 n1 c1 c2 ((markR k 0 n1).map VC.ver) X3 (HI.out.keep HB3.out) (HI2.out.keep hx3)).mono ?_
      rintro e X4 ⟨rfl, hb4⟩
      have HB4 := Lib.hid (HB3.out.trans hb4)
      clear HB3 HB2 hx3 hb4 HI2
      go_simp
      refine ⟨HB4.out, ?_⟩
      refine wpAnyE_one (i := 12) (by kernel_rfl) ?_
      intro X5 hx5
      have HB5 := Lib.hid (HB4.out.trans hx5)
      clear HB4 hx5
      go_simp
      refine ⟨HB5.out, ?_⟩
      refine wpAnyE_done (by kernel_rfl) ?_
      intro X6 hx6
      have HB6 := Lib.hid (HB5.out.trans hx6)
      clear HB5 hx6
      go_wp2_with fail
      go_roundw
      case rel => exact ⟨k + 1, by omega, by go_num, HB6.out⟩
      case measure => simp [intOf]; omega
    · go_wp2_with fail
      go_ret
      exact ⟨rfl, hbl⟩
end Go.Proofs.YtfjjnffifnohkaaGreat
end

/- bedrockbook over Versions that are kept: putVersions. By an AI agent. -/
section
namespace Go.Proofs.YtfjjnffifnohkaaGreat
open Go.RowKit
attribute [local go_sem] eOp eOper eUpon

set_option maxHeartbeats 2000000 in
set_option maxRecDepth 100000 in
theorem putVersions_any (B g : Nat) (va : Option Addr) (n cv : Nat) (vs : Nat → Value) (ln : Nat → Nat) (cs : Nat → List Value) (w : World) (hn : n ≤ 250) (hc4 : w.cell? ⟨g, 10, none⟩ = some (.slice va n cv)) (hv : LA w va n vs)
    (h : ∀ j, j < n → w.ownsRow B 59 8 (vs j) (ln j) (cs j) ∧ ln j ≤ 100000) (hap : ∀ i j, i < n → j < n → i ≠ j → (vs i).ownBlock = none ∨ (vs i).ownBlock ≠ (vs j).ownBlock)
    (hg : ¬ SBk n vs g) (hva : ∀ b off, va = some ⟨b, off, none⟩ → ¬ SBk n vs b) :
    Calls Tryz.prog 68 #[.pointer (some ⟨g, 0, none⟩)] w fun e w' => e = .returned (.tuple #[]) ∧ Fr (SBk n vs) w w' ∧ ∀ j, j < n → w'.ownsRow B 59 8 (vs j) (ln j) (mkR.row j 0 (ln j)) := by
  have hsf := store_fl
  have HC4 := Lib.hid hc4
  have HH := Lib.hid h
  have HAP := Lib.hid hap
  have HG := Lib.hid hg
  have HVA := Lib.hid hva
  have HLT := Lib.hid (show ∀ b, SBk n vs b → b < w.heap.size from fun b ⟨j, hj, e⟩ => (World.ownsRow.lt (h j hj).1 b e).2)
  have HLEN := Lib.hid (show ∀ j, j < n → (cs j).length = ln j * mkR.z from fun j hj => (h j hj).1.1)
  clear hc4 h hap hg hva
  go_enter Tryz.func68, Tryz.ntmps68
  go_wp2_with fail
  go_loopw [2] (fun i w' => ∃ k : Nat, k ≤ n ∧ i = .int .i64 k ∧ Fr (SBk n vs) w w' ∧ ∀ j, j < n → w'.ownsRow B 59 8 (vs j) (ln j) (curC mkR cs ln k 0 j)) (fun i _ => n - (intOf i).toNat)
  case atStart => exact ⟨0, Nat.zero_le _, rfl, Fr.refl _ _, fun j hj => by rw [curC_zero]; exact (HH.out j hj).1⟩
  case round =>
    obtain ⟨k, hk, rfl, hfr, hoi⟩ := hrel
    have HFR := Lib.hid hfr
    have HOI := Lib.hid hoi
    clear hfr hoi
    have c4 := HFR.out.cell HC4.out HG.out
    by_cases hlt : k < n
    · obtain ⟨b, off, rfl, hcv⟩ := hv k hlt
      have hcv' := HFR.out.cell (hcv k hlt) (HVA.out b off rfl)
      obtain ⟨a1, c1, e1⟩ := row_shape' (HOI.out k hlt)
      have hmx := (HH.out k hlt).2
      have hgi : 0 < ln k → ∃ gi, a1 = some ⟨gi, 0, none⟩ := fun hp => by
        have := HOI.out k hlt
        rw [e1] at this
        obtain ⟨_, ⟨e, h2⟩ | ⟨gi, cap, cur, e, _⟩⟩ := this
        · omega
        · simp only [Value.slice.injEq] at e; exact ⟨gi, e.1⟩
      obtain ⟨m, hm⟩ : ∃ m, ln k = m := ⟨_, rfl⟩
      rw [hm] at e1 hmx hgi
      have HM := Lib.hid hm
      have HE1 := Lib.hid e1
      rw [e1] at hcv'
      have HCV := Lib.hid (hcv k hlt)
      rw [e1] at HCV
      clear hm e1 hcv
      go_wp2_with fail
      refine (markVersions_any k 0 m wr (by omega) (by omega)).mono ?_
      rintro e W1 ⟨v, rfl, hf, hb1⟩
      obtain ⟨a2, c2, rfl⟩ := row_shape' hf
      have hna : ∀ b off, a2 = some ⟨b, off, none⟩ → 0 < m → ¬ SBk n vs b := fun b off e hp hs => by
        have hob : (Value.slice a2 m c2).ownBlock = some b := by
          obtain ⟨_, ⟨e3, h2⟩ | ⟨gi, cap, cur, e3, _⟩⟩ := hf
          · cases e3; omega
          · simp only [Value.slice.injEq] at e3; rw [e3.1] at e; cases e; rw [e3.1]; rfl
        have h1 := (World.ownsRow.lt hf b hob).1
        have h2 := HLT.out b hs
        have h3 := HFR.out.size
        omega
      have HNA := Lib.hid hna
      have HF1 := Lib.hid (HFR.out.bl hb1)
      have HO1 := Lib.hid (fun j (hj : j < n) => ownsRow_bl (HOI.out j hj) hb1)
      have HI2 := Lib.hid (markR_rv hf (by omega))
      clear HFR HOI hf hb1 hna c4 hcv'
      go_wp2_with fail
      go_loopw [4] (fun t Y => ∃ q : Nat, q ≤ m ∧ t = .int .i64 q ∧ Fr (SBk n vs) W1 Y ∧ ∀ j, j < n → Y.ownsRow B 59 8 (vs j) (ln j) (curC mkR cs ln k q j)) (fun t _ => m - (intOf t).toNat)
      case atStart => exact ⟨0, Nat.zero_le _, rfl, Fr.refl _ _, HO1.out⟩
      case round =>
        obtain ⟨q, hq, rfl, hfy, hoy⟩ := hrel
        have HFY := Lib.hid hfy
        have HOY := Lib.hid hoy
        clear hfy hoy
        by_cases hql : q < m
        · obtain ⟨gi, rfl⟩ := hgi (by omega)
          obtain ⟨b2, off2, rfl, hmc⟩ := HI2.out.cells q hql
          have HMC := Lib.hid (markR_fr HFY.out HI2.out (fun b off e hp => HNA.out b off e hp))
          have HCY := Lib.hid ((HF1.out.trans HFY.out).cell HC4.out HG.out)
          have HRY := Lib.hid ((HF1.out.trans HFY.out).cell HCV.out (HVA.out b off rfl))
          have HOK := Lib.hid (show wr.ownsRow B 59 8 (.slice (some ⟨gi, 0, none⟩) m c1) m (curC mkR cs ln k q k) from by have h := HOY.out k hlt; rw [HE1.out, HM.out] at h; exact h)
          have HMK := Lib.hid (show el (markR k 0 m) q = vcN (nameB k q) by
            rw [el_eq (by rw [markR_len]; exact hql)]
            simp [markR])
          obtain ⟨nm, hnm⟩ : ∃ x, nameB k q = x := ⟨_, rfl⟩
          have HNM := Lib.hid hnm
          rw [hnm] at HMK
          clear hnm hmc
          go_upto_region 7 with fail
          refine wp_region_idx [0, 1, 2, 3, 4, 5, 6, 7, 8, 9, 10, 11, 12] 1 (Fr (SBk n vs) wr) (fun _ _ h k => h.bl k) ((Fr.refl _ wr).bl (Bl.refl wr).drew) (by kernel_rfl) rfl (by kernel_rfl) (by kernel_rfl) ?_
          have HBZ := Lib.hid (Bl.refl wr).drew
          generalize hz : World.drew _ = Z at *
          clear hz
          haveI : Nonempty (ExtC (Fr (SBk n vs) wr)) := ⟨⟨Z, (Fr.refl _ wr).bl HBZ.out⟩⟩
          have p0 : ∀ q : ExtC (Fr (SBk n vs) wr), _ := fun q => q.ok.cell HCY.out HG.out
          have p1 : ∀ q : ExtC (Fr (SBk n vs) wr), _ := fun q => q.ok.cell HRY.out (HVA.out b off rfl)
          have RC : ∀ (x : ExtC (Fr (SBk n vs) wr)) (r : Nat), r < 8 → x.at.cell? ⟨b2, off2 + q * 8 + r, none⟩ = (vcN nm).cs[r]? := fun x r hr => by
            have h1 := (markR_fr x.ok HMC.out (fun b off e hp => HNA.out b off e hp)).get hql r hr
            rwa [HMK.out] at h1
          have p2 : ∀ x : ExtC (Fr (SBk n vs) wr), x.at.cell? ⟨b2, off2 + q * 8, none⟩ = some (.string nm) := fun x => RC x 0 (by omega)
          have p3 : ∀ x : ExtC (Fr (SBk n vs) wr), x.at.cell? ⟨b2, off2 + q * 8 + 1, none⟩ = some (.slice none 0 0) := fun x => RC x 1 (by omega)
          have p4 : ∀ x : ExtC (Fr (SBk n vs) wr), x.at.cell? ⟨b2, off2 + q * 8 + 2, none⟩ = some (.int .i64 0) := fun x => RC x 2 (by omega)
          have p5 : ∀ x : ExtC (Fr (SBk n vs) wr), x.at.cell? ⟨b2, off2 + q * 8 + 3, none⟩ = some (.int .i64 0) := fun x => RC x 3 (by omega)
          have p6 : ∀ x : ExtC (Fr (SBk n vs) wr), x.at.cell? ⟨b2, off2 + q * 8 + 4, none⟩ = some (.int .i64 0) := fun x => RC x 4 (by omega)
          have p7 : ∀ x : ExtC (Fr (SBk n vs) wr), x.at.cell? ⟨b2, off2 + q * 8 + 5, none⟩ = some (.float .f64 0) := fun x => RC x 5 (by omega)
          have p8 : ∀ x : ExtC (Fr (SBk n vs) wr), x.at.cell? ⟨b2, off2 + q * 8 + 6, none⟩ = some (.int .i64 0) := fun x => RC x 6 (by omega)
          have p9 : ∀ x : ExtC (Fr (SBk n vs) wr), x.at.cell? ⟨b2, off2 + q * 8 + 7, none⟩ = some (.string ⟨#[]⟩) := fun x => RC x 7 (by omega)
          clear RC
          repeat (refine wpI_step rfl (fun K hK => ?_); go_simp; first | (refine hK _ ?_; clear hK K) | (apply Exists.intro; refine ⟨fun q => ?_, hK _ ?_⟩; fail; clear hK K))
          refine wpI_nil ?_
          clear p0 p1 p2 p3 p4 p5 p6 p7 p8 p9 this
          refine wpAnyE_one (i := 13) (by kernel_rfl) ?_
          intro X hx
          have HX := Lib.hid (HBZ.out.trans hx)
          have hok := ownsRow_bl HOK.out HX.out
          have hcl : (curC mkR cs ln k q k).length = m * 8 := hok.1
          obtain ⟨y0, y1, y2, y3, y4, y5, y6, y7, x0, x1, x2, x3, x4, x5, x6, x7, f0, f1, f2, f3, f4, f5, f6, f7⟩ := own_eights hok (o := q * 8) (by omega)
          have hst := own_setCs [.string nm, .slice none 0 0, .int .i64 0, .int .i64 0, .int .i64 0, .float .f64 0, .int .i64 0, .string ⟨#[]⟩] X _ (q * 8) hok
          clear hx hok hcl
          go_simp
          clear x0 x1 x2 x3 x4 x5 x6 x7 f0 f1 f2 f3 f4 f5 f6 f7
          obtain ⟨X2, hX2⟩ : ∃ x, ((((((((X.setCell ⟨gi, q * 8, none⟩ (.string nm)).setCell ⟨gi, q * 8 + 1, none⟩ (.slice none 0 0)).setCell ⟨gi, q * 8 + 2, none⟩ (.int .i64 0)).setCell ⟨gi, q * 8 + 3, none⟩ (.int .i64 0)).setCell ⟨gi, q * 8 + 4, none⟩ (.int .i64 0)).setCell ⟨gi, q * 8 + 5, none⟩ (.float .f64 0)).setCell ⟨gi, q * 8 + 6, none⟩ (.int .i64 0)).setCell ⟨gi, q * 8 + 7, none⟩ (.string ⟨#[]⟩)) = x := ⟨_, rfl⟩
          rw [hX2]
          have HST := Lib.hid (show X2.ownsRow B 59 8 (.slice (some ⟨gi, 0, none⟩) m c1) m (setL (curC mkR cs ln k q k) (q * 8) [.string nm, .slice none 0 0, .int .i64 0, .int .i64 0, .int .i64 0, .float .f64 0, .int .i64 0, .string ⟨#[]⟩]) ∧ X.grownBy X2 (some gi) from by rw [← hX2]; exact hst)
          clear hst hX2
          have hown : (vs k).ownBlock = some gi := by rw [HE1.out]; rfl
          have hfrS : Fr (SBk n vs) wr X2 := ((Fr.refl _ wr).bl HX.out).grown HST.out.2 (fun i e => by cases e; exact ⟨k, hlt, hown⟩)
          have hoi5 : ∀ j, j < n → X2.ownsRow B 59 8 (vs j) (ln j) (curC mkR cs ln k (q + 1) j) := fun j hj => by
            by_cases e : j = k
            · subst e
              have h1 := HST.out.1
              have hcs := curC_step (m := mkR) (cs := cs) (ln := ln) (k := j) (q := q) (HLEN.out j hj) (by rw [HM.out]; exact hql)
              have hel : mkR.el j q = [.string nm, .slice none 0 0, .int .i64 0, .int .i64 0, .int .i64 0, .float .f64 0, .int .i64 0, .string ⟨#[]⟩] := by
                show (vcN (nameB j q)).cs = _
                rw [HNM.out]; rfl
              rw [hel] at hcs
              have hcs' : setL (curC mkR cs ln j q j) (q * 8) [.string nm, .slice none 0 0, .int .i64 0, .int .i64 0, .int .i64 0, .float .f64 0, .int .i64 0, .string ⟨#[]⟩] = curC mkR cs ln j (q + 1) j := hcs
              rw [hcs'] at h1
              rw [HE1.out, HM.out]
              exact h1
            · rw [curC_ne e]
              exact World.ownsRow.kept (ownsRow_bl (HOY.out j hj) HX.out) HST.out.2 (by rw [← hown]; exact HAP.out j k hj hlt e)
          have HFX := Lib.hid (HFY.out.trans hfrS)
          have HOX := Lib.hid hoi5
          refine ⟨hfrS, ?_⟩
          clear HST hown hfrS hoi5 HX HFY HOY HOK HCY HRY HMC HMK HNM
          refine wpAnyE_done (by kernel_rfl) ?_
          intro X3 hx3
          have HFX3 := Lib.hid (HFX.out.bl hx3)
          have HOX3 := Lib.hid (fun j (hj : j < n) => ownsRow_bl (HOX.out j hj) hx3)
          clear HFX HOX hx3
          go_wp2_with fail
          go_roundw
          case rel => exact ⟨q + 1, by omega, by go_num, HFX3.out, HOX3.out⟩
          case measure => simp [intOf]; omega
        · have hqe : q = m := by omega
          have HFN := Lib.hid (HF1.out.trans HFY.out)
          have HON := Lib.hid (fun j (hj : j < n) => (show wr.ownsRow B 59 8 (vs j) (ln j) (curC mkR cs ln (k + 1) 0 j) from by rw [← curC_next (HLEN.out k hlt), HM.out, ← hqe]; exact HOY.out j hj))
          clear hqe HFY HOY
          go_wp2_with fail
          go_roundw
          case rel => exact ⟨k + 1, by omega, by go_num, HFN.out, HON.out⟩
          case measure => simp [intOf]; omega
    · go_wp2_with fail
      go_end0
      have e1 : k = n := by omega
      subst e1
      exact ⟨rfl, HFR.out, fun j hj => by rw [← curC_end hj 0]; exact HOI.out j hj⟩
end Go.Proofs.YtfjjnffifnohkaaGreat
end

/- bedrockbook over Versions that are kept: growVersions. By an AI agent. -/
section
namespace Go.Proofs.YtfjjnffifnohkaaGreat
open Go.RowKit
attribute [local go_sem] eOp eOper eUpon

theorem el_rowsR : EL 32 22 1 24 := el_of Tryz.underlying32 (by kernel_rfl) (by decide)
theorem mkR_one (i f n : Nat) : ∀ u ∈ mkR.row i f n, u.oneCell' = true := by
  intro u hu
  simp only [MK.row, List.mem_flatMap, List.mem_range] at hu
  obtain ⟨k, _, hk⟩ := hu
  simp only [mkR, vcN, VC.cs, verC, List.mem_cons, List.mem_nil_iff, or_false] at hk
  rcases hk with rfl | rfl | rfl | rfl | rfl | rfl | rfl | rfl <;> rfl
set_option maxHeartbeats 2000000 in
set_option maxRecDepth 100000 in
theorem growVersions_any (B g : Nat) (va : Option Addr) (n cv : Nat) (vs : Nat → Value) (ms : Nat → Nat) (w : World) (hn : n ≤ 250) (hB : B ≤ w.heap.size) (hc4 : w.cell? ⟨g, 10, none⟩ = some (.slice va n cv)) (hv : LA w va n vs)
    (h : ∀ j, j < n → w.ownsRow B 59 8 (vs j) (ms j) (mkR.row j 0 (ms j)) ∧ ms j ≤ 50000) (hap : ∀ i j, i < n → j < n → i ≠ j → (vs i).ownBlock = none ∨ (vs i).ownBlock ≠ (vs j).ownBlock)
    (hg : ¬ SBk n vs g) (hva : ∀ b off, va = some ⟨b, off, none⟩ → ¬ SBk n vs b) :
    Calls Tryz.prog 88 #[.pointer (some ⟨g, 0, none⟩)] w fun e w' => ∃ out gs, e = .returned out ∧ GRk 59 22 mkR B n vs ms w w' n out gs := by
  have HC4 := Lib.hid hc4
  have HH := Lib.hid h
  have HAP := Lib.hid hap
  have HG := Lib.hid hg
  have HVA := Lib.hid hva
  have HLT := Lib.hid (show ∀ b, SBk n vs b → b < w.heap.size from fun b ⟨j, hj, e⟩ => (World.ownsRow.lt (h j hj).1 b e).2)
  clear hc4 h hap hg hva
  go_enter Tryz.func88, Tryz.ntmps88
  go_wp2_with fail
  go_loopw [3, 4] (fun out i w' => ∃ (k : Nat) (gs : Nat → Value), k ≤ n ∧ i = .int .i64 k ∧ GRk 59 22 mkR B n vs ms w w' k out gs) (fun _ i _ => n - (intOf i).toNat)
  case atStart => exact ⟨0, fun _ => undef, Nat.zero_le _, rfl, ⟨Fr.refl _ _, World.ownsRow_nil _ _ _ _, fun j hj => absurd hj (Nat.not_lt_zero _), fun j hj => (HH.out j hj).1, fun j hj => absurd hj (Nat.not_lt_zero _)⟩⟩
  case round =>
    obtain ⟨k, gs, hk, rfl, hgr⟩ := hrel
    have HGR := Lib.hid hgr
    clear hgr
    have c4 := HGR.out.fr.cell HC4.out HG.out
    by_cases hlt : k < n
    · obtain ⟨b, off, rfl, hcv⟩ := hv k hlt
      have hcv' := HGR.out.fr.cell (hcv k hlt) (HVA.out b off rfl)
      have hmx := (HH.out k hlt).2
      obtain ⟨m, hm⟩ : ∃ m, ms k = m := ⟨_, rfl⟩
      rw [hm] at hmx
      have hov := HGR.out.ovs k hlt
      rw [hm] at hov
      have HM := Lib.hid hm
      clear hm hcv
      obtain ⟨V, hV⟩ : ∃ V, vs k = V := ⟨_, rfl⟩
      rw [hV] at hcv' hov
      have HV := Lib.hid hV
      clear hV
      have HGL0 : Hid (GLk 59 8 (fun b => V.ownBlock = some b) B wr wr V V m 0 (mkR.row k 0 m) (mkR.row k m 0)) := Lib.hid ⟨Fr.refl _ _, by rw [MK.row_zero, List.append_nil]; exact hov, hov, fun b e => .inl e⟩
      clear hov
      go_wp2_with fail
      have hsz1 : w.heap.size ≤ wr.heap.size := HGR.out.fr.size
      obtain ⟨Wo, hWo⟩ : ∃ Wo, Wo = wr := ⟨_, rfl⟩
      subst hWo
      go_loopw [5, 6] (fun l t Y => ∃ q : Nat, q ≤ 12 ∧ t = .int .i64 q ∧ GLk 59 8 (fun b => V.ownBlock = some b) B Wo Y V l m q (mkR.row k 0 m) (mkR.row k m q)) (fun _ t _ => 12 - (intOf t).toNat)
      case atStart => exact ⟨0, by omega, rfl, HGL0.out⟩
      case round =>
        obtain ⟨q, hq, rfl, hgl⟩ := hrel
        have HGL := Lib.hid hgl
        clear hgl
        obtain ⟨la, lc, hl⟩ := row_shape' HGL.out.ol
        subst hl
        obtain ⟨L, hL⟩ : ∃ L, m + q = L := ⟨_, rfl⟩
        rw [hL] at HGL ⊢
        have hLb : L ≤ 50012 := by omega
        have HL := Lib.hid hL
        have hszY : w.heap.size ≤ wr.heap.size := Nat.le_trans hsz1 HGL.out.fr.size
        by_cases hql : q < 12
        · clear hL
          go_wp2_with fail
          refine (markVersions_any k L 1 wr (by omega) (by omega)).mono ?_
          rintro e W2 ⟨mv, rfl, hf, hb2⟩
          obtain ⟨a2, c2, rfl⟩ := row_shape' hf
          have HI2 := Lib.hid (sg_own hf (mkR_one k L 1))
          have HG2 := Lib.hid (HGL.out.keep hb2)
          have hsz2 := hb2.size
          clear hf hb2 HGL
          go_wp2_with (at_builtin; refine wpList_appK rfl _ _ _ rfl el_vers B _ L _ rfl (by have := HG2.out.ol; rwa [HL.out] at this) ?cB a2 1 c2 _ rfl HI2.out ?cM ?cN ?_)
          case cB => omega
          case cM => unfold maxLen; omega
          case cN => omega
          intro l' W3 ho3 hg3 hol3 hb3
          have hstep := HG2.out.step (p := 1) (zs := mkR.row k L 1) (fun b e => e) (by rw [HL.out]; rw [List.append_assoc]; exact ho3) hg3 (by rw [HL.out]; exact hol3) hb3
          rw [← HL.out] at hstep
          rw [MK.row_add] at hstep
          have HG3 := Lib.hid hstep
          clear hstep ho3 hg3 hol3 hb3 HG2 HI2 hsz2
          go_wp2_with fail
          go_roundw
          case rel => exact ⟨q + 1, by omega, by go_num, HG3.out⟩
          case measure => simp [intOf]; omega
        · have hq12 : q = 12 := by omega
          subst hq12
          clear hL
          go_wp2_with fail
          refine (markVersions_any k L 60 wr (by omega) (by omega)).mono ?_
          rintro e W2 ⟨mv, rfl, hf, hb2⟩
          obtain ⟨a2, c2, rfl⟩ := row_shape' hf
          have HI2 := Lib.hid (sg_own hf (mkR_one k L 60))
          have HG2 := Lib.hid (HGL.out.keep hb2)
          have hsz2 := hb2.size
          clear hf hb2 HGL
          go_wp2_with (at_builtin; refine wpList_appK rfl _ _ _ rfl el_vers B _ L _ rfl (by have := HG2.out.ol; rwa [HL.out] at this) ?cB a2 60 c2 _ rfl HI2.out ?cM ?cN ?_)
          case cB => omega
          case cM => unfold maxLen; omega
          case cN => omega
          intro l' W3 ho3 hg3 hol3 hb3
          have hstep := HG2.out.step (p := 60) (zs := mkR.row k L 60) (fun b e => e) (by rw [HL.out]; rw [List.append_assoc]; exact ho3) hg3 (by rw [HL.out]; exact hol3) hb3
          rw [← HL.out] at hstep
          rw [MK.row_add] at hstep
          have hstep' : GLk 59 mkR.z (fun b => V.ownBlock = some b) B Wo W3 V l' m 72 (mkR.row k 0 m) (mkR.row k m 72) := hstep
          rw [← HV.out, ← HM.out] at hstep'
          have hgm := HGR.out.grown hlt HAP.out HLT.out hstep' hk
          have HGM := Lib.hid hgm
          obtain ⟨a3, c3, hl3⟩ := row_shape' hgm.ol
          obtain ⟨n3, hn3⟩ : ∃ n3, ms k + 72 = n3 := ⟨_, rfl⟩
          rw [hn3] at hl3
          subst hl3
          have hsz3 := hg3.size
          clear hstep hstep' hgm ho3 hg3 hol3 hb3 HG2 HI2 hn3
          have hbA := (Bl.refl W3).alloc (.cells #[.slice a3 n3 c3] 22)
          have HGA := Lib.hid (HGM.out.keep hbA)
          have hlit : (W3.alloc (.cells #[.slice a3 n3 c3] 22)).heap[W3.heap.size]? = some (.cells [.slice a3 n3 c3].toArray 22 (0, 0)) := heap_alloc_new W3 _
          have HLT0 := Lib.hid (SG.lit (size := 1) hlit rfl (by intro u hu; simp at hu; subst hu; rfl))
          have hsz4 := hbA.size
          clear hlit hbA
          go_wp2_with (at_builtin; refine wpList_appK rfl _ _ _ rfl el_rowsR w.heap.size _ _ _ rfl HGA.out.r.row ?cB2 (some ⟨W3.heap.size, 0, none⟩) 1 1 _ rfl HLT0.out ?cM2 ?cN2 ?_)
          case cB2 => omega
          case cM2 => unfold maxLen; omega
          case cN2 => omega
          intro out' W4 ho4 hg4 _ hb4
          have HR4 := Lib.hid (HGA.out.step hlt HLT.out ho4 hg4 (fun b e => (hb4 b e).imp_right (fun h => by simpa using h)))
          clear ho4 hg4 hb4 HGA HGM HLT0 HGR
          go_wp2_with fail
          go_roundw
          case rel => exact ⟨k + 1, _, by omega, by go_num, HR4.out⟩
          case measure => simp [intOf]; omega
    · go_wp2_with fail
      go_ret
      have e1 : k = n := by omega
      subst e1
      exact ⟨_, gs, rfl, HGR.out⟩
end Go.Proofs.YtfjjnffifnohkaaGreat
end

/- bedrockbook.copyVersions, Book.Versions (printed by gen/bookr5.py). By an AI agent. -/
section
set_option linter.unusedVariables false
set_option linter.unusedSimpArgs false
namespace Go.Proofs.YtfjjnffifnohkaaGreat
open Go.RowKit
attribute [local go_sem] eOp eOper eUpon pOp pOper pUpon

theorem copyVec_any (a : Option Addr) (n c : Nat) (xs : List Int) (w : World) (hx : IA w a n xs) :
    Calls Tryz.prog 188 #[.slice a n c] w fun e w' => ∃ v, e = .returned v ∧ FI w.heap.size w' v xs ∧ Bl w w' := by
  have hcap := hx.cap
  have HL := Lib.hid hx.len
  have HX := Lib.hid (sg_ints hx)
  have HW := Lib.hid hx.wf
  clear hx
  go_enter Tryz.func188, Tryz.ntmps188
  go_wp2_with (at_builtin; refine wpList_appG rfl _ _ _ rfl el_vec w.heap.size (.slice none 0 0) 0 [] rfl (World.ownsRow_nil _ _ _ _) (Nat.le_refl _) a n c _ rfl HX.out ?cM ?cN ?_)
  case cM => unfold maxLen; omega
  case cN => omega
  intro v w1 ho hg
  have hb : Bl w w1 := (Bl.refl w).ownRow (World.ownsRow_nil w w.heap.size 3 1) (Nat.le_refl _) hg
  have hoi : FI w.heap.size w1 v xs := ⟨by unfold OI; rw [HL.out]; simpa using ho, by rw [HL.out]; omega, HW.out⟩
  have HB := Lib.hid hb
  have HO := Lib.hid hoi
  clear ho hg hb hoi
  go_wp2_with fail
  go_ret
  exact ⟨_, rfl, HO.out, HB.out⟩
/-- a version whose list lies elsewhere -/
def VC.at' (x : VC) (a : Option Addr) (c : Nat) : VC := ⟨x.key, a, x.n, c, x.at_, x.origin, x.tx, x.act⟩
theorem flat_at : ∀ (zs : List VC) (k : Nat) (a : Option Addr) (c : Nat), k < zs.length → (flat zs).set (k * 8 + 1) (.slice a (el zs k).n c) = flat (zs.set k ((el zs k).at' a c))
  | x :: zs, 0, a, c, _ => by rw [List.set_cons_zero, flat_cons, flat_cons]; rfl
  | x :: zs, k + 1, a, c, h => by
    rw [List.set_cons_succ, flat_cons, flat_cons, List.set_append_right _ _ (by rw [VC.cs_len]; omega), VC.cs_len, show (k + 1) * 8 + 1 - 8 = k * 8 + 1 by omega]
    have ih := flat_at zs k a c (by simpa using h)
    show x.cs ++ (flat zs).set (k * 8 + 1) (.slice a (el zs k).n c) = x.cs ++ flat (zs.set k ((el zs k).at' a c))
    rw [ih]
/-- in the midst of the copying: the first k vectors are copied -/
structure CpSt (w W : World) (G0 : Nat) (v : Value) (n : Nat) (xs zs : List VC) (k : Nat) : Prop where
  bl : Bl w W
  own : W.ownsRow w.heap.size 59 8 v n (flat zs)
  len : zs.length = n
  ver : zs.map VC.ver = xs.map VC.ver
  new : ∀ j, j < k → IA W (el zs j).ad (el zs j).n (el zs j).at_ ∧ ∀ b off, (el zs j).ad = some ⟨b, off, none⟩ → 0 < (el zs j).n → G0 ≤ b ∧ b < W.heap.size
  old : ∀ j, k ≤ j → el zs j = el xs j
  gz : G0 ≤ W.heap.size
theorem CpSt.keep {w W W' : World} {G0 : Nat} {v : Value} {n : Nat} {xs zs : List VC} {k : Nat} (h : CpSt w W G0 v n xs zs k) (b : Bl W W') : CpSt w W' G0 v n xs zs k :=
  ⟨h.bl.trans b, ownsRow_bl h.own b, h.len, h.ver, fun j hj => ⟨(h.new j hj).1.keep b, fun c off e h0 => ⟨((h.new j hj).2 c off e h0).1, Nat.lt_of_lt_of_le ((h.new j hj).2 c off e h0).2 b.size⟩⟩, h.old, Nat.le_trans h.gz b.size⟩
theorem el_setR {xs : List VC} {j : Nat} (hj : j < xs.length) (v : VC) (i : Nat) : el (xs.set j v) i = if i = j then v else el xs i := el_set hj v i
theorem CpSt.step {w W : World} {G0 g c : Nat} {n : Nat} {xs zs : List VC} {k : Nat} (h : CpSt w W G0 (.slice (some ⟨g, 0, none⟩) n c) n xs zs k) (hk : k < n) (hg : g < G0) (hwg : w.heap.size ≤ g) {a : Option Addr} {ca : Nat} (hi : IA W a (el zs k).n (el zs k).at_) (hb : ∀ b off, a = some ⟨b, off, none⟩ → 0 < (el zs k).n → G0 ≤ b ∧ b < W.heap.size) :
    CpSt w (W.setCell ⟨g, k * 8 + 1, none⟩ (.slice a (el zs k).n ca)) G0 (.slice (some ⟨g, 0, none⟩) n c) n xs (zs.set k ((el zs k).at' a ca)) (k + 1) := by
  have hkl : k < zs.length := by rw [h.len]; exact hk
  have hst := World.ownsRow.stored h.own (k * 8 + 1) (.slice a (el zs k).n ca)
  rw [flat_at zs k a ca hkl] at hst
  have hfr : Fr (fun b => b = g) W (W.setCell ⟨g, k * 8 + 1, none⟩ (.slice a (el zs k).n ca)) := (Fr.refl _ W).grown (grown_set' W g (k * 8 + 1) _) (fun i e => (Option.some.inj e).symm)
  refine ⟨h.bl.setCell (p := ⟨g, k * 8 + 1, none⟩) hwg _, hst.1, by rw [List.length_set]; exact h.len, ?_, fun j hj => ?_, fun j hj => ?_, by simpa using h.gz⟩
  · rw [← h.ver, List.map_set]
    have e : ((el zs k).at' a ca).ver = (zs.map VC.ver)[k]'(by rw [List.length_map]; exact hkl) := by rw [List.getElem_map, ← el_eq hkl]; rfl
    rw [e, List.set_getElem_self]
  · rw [el_setR hkl]
    by_cases e : j = k
    · subst e
      rw [if_pos rfl]
      refine ⟨IA.fr hfr hi (fun b off e0 h0 s => by have := hb b off e0 h0; have s' : b = g := s; omega), fun b off e0 h0 => ?_⟩
      have := hb b off e0 h0
      simpa using this
    · rw [if_neg e]
      have hj' : j < k := by omega
      obtain ⟨n1, n2⟩ := h.new j hj'
      refine ⟨IA.fr hfr n1 (fun b off e0 h0 s => by have := n2 b off e0 h0; have s' : b = g := s; omega), fun b off e0 h0 => ?_⟩
      have := n2 b off e0 h0
      simpa using this
  · rw [el_setR hkl, if_neg (by omega)]
    exact h.old j (by omega)
/-- what the copy is -/
def CpOf (w W : World) (v : Value) (n : Nat) (xs ys : List VC) : Prop :=
  W.ownsRow w.heap.size 59 8 v n (flat ys) ∧ ys.length = n ∧ ys.map VC.ver = xs.map VC.ver ∧ (∀ y ∈ ys, IA W y.ad y.n y.at_ ∧ ∀ b off, y.ad = some ⟨b, off, none⟩ → 0 < y.n → w.heap.size ≤ b ∧ b < W.heap.size) ∧ Bl w W
set_option maxHeartbeats 2000000 in
set_option maxRecDepth 100000 in
theorem copyVersions_any (a : Option Addr) (n c : Nat) (xs : List VC) (w : World) (hx : RV w a n xs) :
    Calls Tryz.prog 140 #[.slice a n c] w fun e w' => ∃ v ys, e = .returned v ∧ CpOf w w' v n xs ys := by
  have hcap := hx.cap
  have HX := Lib.hid hx.sg8
  have HI := Lib.hid hx.ia
  have HL := Lib.hid hx.len
  clear hx
  have hsf := store_fl
  go_enter Tryz.func140, Tryz.ntmps140
  go_wp2_with (at_builtin; refine wpList_appG rfl _ _ _ rfl el_vers w.heap.size (.slice none 0 0) 0 [] rfl (World.ownsRow_nil _ _ _ _) (Nat.le_refl _) a n c _ rfl HX.out ?cM ?cN ?_)
  case cM => unfold maxLen; omega
  case cN => omega
  intro v w1 ho hg
  have hb : Bl w w1 := (Bl.refl w).ownRow (World.ownsRow_nil w w.heap.size 59 8) (Nat.le_refl _) hg
  have hoi : w1.ownsRow w.heap.size 59 8 v n (flat xs) := by simpa using ho
  have HS0 := Lib.hid (show CpSt w w1 w1.heap.size v n xs xs 0 from ⟨hb, hoi, HL.out, rfl, fun j hj => absurd hj (Nat.not_lt_zero _), fun j hj => rfl, Nat.le_refl _⟩)
  have HLT := Lib.hid (fun b (e : v.ownBlock = some b) => World.ownsRow.lt hoi b e)
  obtain ⟨av, cv, hv⟩ := row_shape' hoi
  subst hv
  have hwz := hb.size
  clear ho hg hb hoi
  generalize hG0 : w1.heap.size = G0 at *
  have HG0 := Lib.hid hG0
  clear hG0
  go_wp2_with fail
  go_loopw [3] (fun t wr => ∃ (k : Nat) (zs : List VC), k ≤ n ∧ t = .int .i64 k ∧ CpSt w wr G0 (.slice av n cv) n xs zs k) (fun t _ => n - (intOf t).toNat)
  case atStart => exact ⟨0, xs, Nat.zero_le _, rfl, HS0.out⟩
  case round =>
    obtain ⟨k, zs, hk, rfl, hst⟩ := hrel
    have HS := Lib.hid hst
    clear hst
    by_cases hlt : k < n
    · obtain ⟨g, rfl⟩ : ∃ g, av = some ⟨g, 0, none⟩ := by
        obtain ⟨_, ⟨e, h0⟩ | ⟨g, cap, cur, e, _⟩⟩ := HS.out.own
        · omega
        · simp only [Value.slice.injEq] at e; exact ⟨g, e.1⟩
      have hgl := HLT.out g rfl
      have hkz : k < zs.length := by rw [HS.out.len]; exact hlt
      have hkx : k < xs.length := by rw [HL.out]; exact hlt
      have hex := HS.out.old k (Nat.le_refl _)
      have hia := HI.out _ (el_memR hkx)
      rw [← hex] at hia
      have h1 := HS.out.own.cellAt (k * 8 + 1) (by omega)
      rw [flat_get zs k 1 hkz (by omega)] at h1
      have c1 := h1.trans (vcs_get (el zs k)).2.1
      have HIA := Lib.hid hia
      obtain ⟨x, hxe⟩ : ∃ x, el zs k = x := ⟨_, rfl⟩
      have HXE := Lib.hid hxe
      rw [hxe] at c1 HIA
      clear hxe hex h1 hia hkx
      have hg1 := hgl.1
      have hg2 := hgl.2
      clear hgl
      go_wp2_with fail
      refine (copyVec_any x.ad x.n x.ca x.at_ _ (HIA.out.keep HS.out.bl)).mono ?_
      rintro e W2 ⟨v2, rfl, hf, hb⟩
      obtain ⟨a2, c2, hv2⟩ := row_shape' hf.own
      have hxn : x.at_.length = x.n := HIA.out.len
      rw [hxn] at hv2
      subst hv2
      obtain ⟨a3, n3, c3, e3, hI⟩ := FI.si hf
      cases e3
      have hbk : ∀ b off, a2 = some ⟨b, off, none⟩ → 0 < x.n → G0 ≤ b ∧ b < W2.heap.size := fun b off e h0 => by
        have := World.ownsRow.lt hf.own b (by subst e; rfl)
        have hz := HS.out.gz
        omega
      have HS2 := Lib.hid (HS.out.keep hb)
      have c1' := hb.cell c1
      have f1 := World.ownsRow.frozenAt HS2.out.own (k * 8 + 1)
      have HST := Lib.hid (HS2.out.step hlt hg2 hg1 (a := a2) (ca := c2) (by rw [HXE.out]; exact hI) (by rw [HXE.out]; exact hbk))
      rw [HXE.out] at HST
      clear hbk hI hf hb c1 HS HS2
      go_wp2_with fail
      clear c1' f1
      go_roundw
      case rel => exact ⟨k + 1, _, by omega, by go_num, HST.out⟩
      case measure => simp [intOf]; omega
    · have hkn : k = n := by omega
      subst hkn
      go_wp2_with fail
      go_ret
      refine ⟨_, zs, rfl, HS.out.own, HS.out.len, HS.out.ver, fun y hy => ?_, HS.out.bl⟩
      obtain ⟨j, hj, rfl⟩ := List.getElem_of_mem hy
      have h1 := HS.out.new j (by rw [← HS.out.len]; exact hj)
      rw [el_eq hj] at h1
      exact ⟨h1.1, fun b off e h0 => ⟨by have := (h1.2 b off e h0).1; omega, (h1.2 b off e h0).2⟩⟩
/-- the copy reads as the list -/
def CpR (ps : List VC) (u : Value) (W : World) (D : Nat → Prop) : Prop := ∃ ys a n c, u = .slice a n c ∧ RV W a n ys ∧ ps.map VC.ver = ys.map VC.ver ∧ (∀ x off, a = some ⟨x, off, none⟩ → 0 < n → D x) ∧ ∀ y ∈ ys, ∀ b off, y.ad = some ⟨b, off, none⟩ → 0 < y.n → D b
set_option maxHeartbeats 2000000 in
set_option maxRecDepth 100000 in
theorem regVersions_any (B g n : Nat) (hs : List Value) (vv wv : Value) (vcs ucs : List Value) (a : Option Addr) (nv c : Nat) (ps : List VC) (w : World) (hn : n < 250) (hB : B ≤ w.heap.size) (hbox : AC w g hs) (hhl : hs.length = 30) (h4 : hs[10]? = some vv) (h5 : hs[11]? = some wv)
    (hv : w.ownsRow B 22 1 vv n vcs) (hu : w.ownsRow B 22 1 wv n ucs) (hgv : vv.ownBlock ≠ some g) (hgu : wv.ownBlock ≠ some g) (hvu : wv.ownBlock = none ∨ wv.ownBlock ≠ vv.ownBlock) (hx : RV w a nv ps) (hnv : nv ≤ 1000000)
    (hxg : ∀ b off, a = some ⟨b, off, none⟩ → 0 < nv → ¬ (b = g ∨ vv.ownBlock = some b ∨ wv.ownBlock = some b)) (hxv : ∀ x ∈ ps, ∀ b off, x.ad = some ⟨b, off, none⟩ → 0 < x.n → ¬ (b = g ∨ vv.ownBlock = some b ∨ wv.ownBlock = some b)) :
    Calls Tryz.prog 52 #[.pointer (some ⟨g, 0, none⟩), .slice a nv c] w fun e w' => e = .returned (.tuple #[]) ∧ ∃ vv' wv' u Dn, RPk 22 10 B (CpR ps) w w' g n hs vv wv vcs ucs (.slice a nv c) vv' wv' u Dn := by
  obtain ⟨va, cv, rfl⟩ := row_shape' hv
  have HBX := Lib.hid hbox
  have HU := Lib.hid hu
  have HV := Lib.hid hv
  have HX := Lib.hid hx
  have HXG := Lib.hid hxg
  have HXV := Lib.hid hxv
  have HGV := Lib.hid hgv
  have HGU := Lib.hid hgu
  have HVU := Lib.hid hvu
  have HH4 := Lib.hid h4
  have HH5 := Lib.hid h5
  have HHL := Lib.hid hhl
  have hgl := hbox.lt
  clear hu hv hx hxg hxv hgv hgu hvu hbox h4 h5 hhl
  have c4 := HBX.out.at_ HH4.out
  have hn1 : decide ((n : Int) < 250) = true := decide_eq_true (by omega)
  have hn2 : decide (n < 250) = true := decide_eq_true hn
  go_enter Tryz.func52, Tryz.ntmps52
  have hbA := (Bl.refl w).alloc (.cells #[.slice a nv c] 22)
  have hlit : (w.alloc (.cells #[.slice a nv c] 22)).heap[w.heap.size]? = some (.cells [.slice a nv c].toArray 22 (0, 0)) := heap_alloc_new w _
  have HLT := Lib.hid (SG.lit (size := 1) hlit rfl (by intro u hu; simp at hu; subst hu; rfl))
  have hva := ownsRow_bl HV.out hbA
  have HBA := Lib.hid hbA
  clear hlit hbA
  go_wp2_with (at_builtin; refine wpList_appK rfl _ _ _ rfl el_rowsR B _ _ _ rfl hva ?cB (some ⟨w.heap.size, 0, none⟩) 1 1 _ rfl HLT.out ?cM ?cN ?_)
  case cB => simp; omega
  case cM => unfold maxLen; omega
  case cN => omega
  intro vv' w1 ho hg _ hb
  obtain ⟨va', cv', rfl⟩ := row_shape' ho
  have hfr : Fr (fun b => b = g ∨ (Value.slice va n cv).ownBlock = some b ∨ wv.ownBlock = some b) w w1 := ((Fr.refl _ w).bl HBA.out).grown hg (fun i e => .inr (.inl e))
  have hbx : AC w1 g hs := by
    have h1 := HBX.out.keep HBA.out
    obtain ⟨t, h2⟩ := h1
    exact ⟨t, by rw [hg.block g (lt_of_heap h2) (fun e => HGV.out e.symm)]; exact h2⟩
  have hu1 : w1.ownsRow B 22 1 wv n ucs := World.ownsRow.kept (ownsRow_bl HU.out HBA.out) hg HVU.out
  have c4' := hbx.at_ HH4.out
  have f4 := hbx.frozen 10
  have HFR := Lib.hid hfr
  have HB1 := Lib.hid hbx
  have HU1 := Lib.hid hu1
  have HO := Lib.hid ho
  have HBV := Lib.hid hb
  have HSZ := Lib.hid (show w.heap.size < w1.heap.size from by have := hg.size; simp at this; omega)
  clear c4 ho hg hb hfr hbx hu1 hva hn1 hn2 hgl
  go_upto_region 2 with fail
  have HFR2 := Lib.hid (HFR.out.grown (grown_set' w1 g 10 (.slice va' (n + 1) cv')) (fun i e => .inl (Option.some.inj e).symm))
  have HB2 := Lib.hid (HB1.out.setc 10 (.slice va' (n + 1) cv'))
  have hvg : (Value.slice va' (n + 1) cv').ownBlock ≠ some g := fun e => by
    rcases HBV.out g e with q | q
    · exact HGV.out q
    · have := HBX.out.lt; have := HBA.out.size; omega
  have HVG := Lib.hid hvg
  have HO2 := Lib.hid (World.ownsRow.kept HO.out (grown_set' w1 g 10 (.slice va' (n + 1) cv')) (.inr hvg))
  have HU2 := Lib.hid (World.ownsRow.kept HU1.out (grown_set' w1 g 10 (.slice va' (n + 1) cv')) (.inr HGU.out))
  have HX2 := Lib.hid (HX.out.fr HFR2.out HXG.out HXV.out)
  have hsz2 : w.heap.size < (w1.setCell ⟨g, 10, none⟩ (.slice va' (n + 1) cv')).heap.size := by simp; exact HSZ.out
  have HSZ2 := Lib.hid hsz2
  obtain ⟨hs2, hhs2⟩ : ∃ x, hs.set 10 (.slice va' (n + 1) cv') = x := ⟨_, rfl⟩
  rw [hhs2] at HB2
  obtain ⟨ua, cu, hwv⟩ := row_shape' HU2.out
  subst hwv
  have H25 := Lib.hid (show hs2[11]? = some (.slice ua n cu) by rw [← hhs2, List.getElem?_set_ne (by decide)]; exact HH5.out)
  have HHS2 := Lib.hid hhs2
  clear hvg hsz2 f4 c4' HFR HB1 HO HU1 HLT hhs2
  generalize w1.setCell _ _ = w2 at *
  refine wp_region_panicsT [0, 1, 2, 3, 4, 5] 6 (HasBox g hs2) HasBox.keep (HB2.out.keep ((Bl.refl w2).drew)) [11] (fun c W' => False) ?hR (by kernel_rfl) rfl (by kernel_rfl) (by kernel_rfl) (by kernel_rfl) ?_
  case hR => intro c tt W' h; exact h.elim
  have HBZ := Lib.hid ((Bl.refl w2).drew)
  generalize w2.drew = Z at *
  have HBXZ := Lib.hid (HB2.out.keep HBZ.out)
  haveI : Nonempty (ExtC (HasBox g hs2)) := ⟨⟨Z, HBXZ.out⟩⟩
  have d5 : ∀ q : ExtC (HasBox g hs2), _ := fun q => AC.at_ q.ok H25.out
  repeat (refine wpI_step rfl (fun K hK => ?_); go_simp; first | (refine hK _ ?_; clear hK K) | (apply Exists.intro; refine ⟨fun q => ?_, hK _ ?_⟩; fail; clear hK K))
  refine wpI_nil ?_
  clear d5 this
  refine wpAnyP_one (i := 6) (by kernel_rfl) ?_
  intro Y1 hy1
  have HY1 := Lib.hid (HBZ.out.trans hy1)
  clear hy1
  go_simp
  refine (copyVersions_any a nv c ps Y1 (HX2.out.keep HY1.out)).mono ?_
  rintro e Y2 ⟨u, ys, rfl, hfi, hyl, hyv, hys, hb2⟩
  have HYL := Lib.hid hyl
  have HYV := Lib.hid hyv
  have HYS := Lib.hid hys
  have HR22 := Lib.hid (Bl.refl Y2)
  have HY2 := Lib.hid (HY1.out.trans hb2)
  have HFI := Lib.hid hfi
  have hszA := HY1.out.size
  obtain ⟨a5, c5, hu5⟩ := row_shape' hfi
  subst hu5
  clear hb2 hfi hyl hyv hys
  go_simp
  refine ⟨HB2.out.keep HY2.out, ?_⟩
  refine wpAnyP_one (i := 7) (by kernel_rfl) ?_
  intro Y3 hy3
  go_simp
  have hbl := hy3.alloc (.cells #[.slice a5 nv c5] 22)
  have hlit : (Y3.alloc (.cells #[.slice a5 nv c5] 22)).heap[Y3.heap.size]? = some (.cells [.slice a5 nv c5].toArray 22 (0, 0)) := heap_alloc_new Y3 _
  have HLT := Lib.hid (SG.lit (size := 1) hlit rfl (by intro u hu; simp at hu; subst hu; rfl))
  have HY3 := Lib.hid (HY2.out.trans hbl)
  replace HR22 := Lib.hid (HR22.out.trans hbl)
  have HFI3 := Lib.hid (ownsRow_bl HFI.out hbl)
  refine ⟨HB2.out.keep HY3.out, ?_⟩
  clear hlit hbl hy3 HFI HY2
  generalize Y3.alloc _ = Y4 at *
  generalize Y3.heap.size = gl at *
  refine wpAnyP_one (i := 8) (by kernel_rfl) ?_
  intro Y5 hy5
  have HY5 := Lib.hid (HY3.out.trans hy5)
  replace HR22 := Lib.hid (HR22.out.trans hy5)
  have HFI5 := Lib.hid (ownsRow_bl HFI3.out hy5)
  have HL5 := Lib.hid (HLT.out.keep hy5)
  have HU5 := Lib.hid (ownsRow_bl HU2.out HY5.out)
  have HB5 := Lib.hid (HB2.out.keep HY5.out)
  have HO5 := Lib.hid (ownsRow_bl HO2.out HY5.out)
  have hsz5 := HY5.out.size
  clear hy5 HFI3 HLT HY3
  refine pOp_appk rfl rfl _ _ _ rfl el_rowsR B (.slice ua n cu) n ucs rfl HU5.out (by have := HSZ2.out; omega) (some ⟨gl, 0, none⟩) 1 1 _ rfl HL5.out (by unfold maxLen; omega) (by omega) ?_
  intro wv' Y6 ho6 hg6 hb6
  have HF26 := Lib.hid (((Fr.refl (fun b => b = g ∨ (Value.slice ua n cu).ownBlock = some b) Y2).bl HR22.out).grown hg6 (fun i e => .inr e))
  have hszR := HR22.out.size
  have hul : ∀ b, (Value.slice ua n cu).ownBlock = some b → b < w.heap.size := fun b e => (World.ownsRow.lt HU.out b e).2
  have hvu' : (Value.slice va' (n + 1) cv').ownBlock = none ∨ (Value.slice va' (n + 1) cv').ownBlock ≠ (Value.slice ua n cu).ownBlock := by
    cases e : (Value.slice va' (n + 1) cv').ownBlock with
    | none => exact .inl rfl
    | some b =>
      refine .inr (fun e2 => ?_)
      rcases HBV.out b e with q | q
      · rcases HVU.out with r | r
        · rw [r] at e2; cases e2
        · exact r (e2.symm.trans q.symm)
      · have := hul b e2.symm; omega
  have hbx6 : AC Y6 g hs2 := by
    obtain ⟨t, h2⟩ := HB5.out
    exact ⟨t, by rw [hg6.block g (lt_of_heap h2) (fun e => HGU.out e.symm)]; exact h2⟩
  have hfo6 : Y6.ownsRow Y1.heap.size 59 8 (.slice a5 nv c5) nv (flat ys) := World.ownsRow.kept HFI5.out hg6 (by
    cases e : (Value.slice a5 nv c5).ownBlock with
    | none => exact .inl rfl
    | some b => exact .inr (fun e2 => by have := hul b e2.symm; have := (World.ownsRow.lt HFI5.out b e).1; have := HSZ2.out; omega))
  have HFI6 := Lib.hid hfo6
  have HO6 := Lib.hid (World.ownsRow.kept HO5.out hg6 hvu')
  have HB6 := Lib.hid hbx6
  have HW6 := Lib.hid ho6
  have HFR6 := Lib.hid ((HFR2.out.bl HY5.out).grown hg6 (fun i e => .inr (.inr e)))
  have HBU := Lib.hid (fun b (e : wv'.ownBlock = some b) => (hb6 b e).imp_right (fun q => Nat.le_trans (Nat.le_of_lt HSZ2.out) (Nat.le_trans hsz5 q)))
  have hau : ∀ b, (Value.slice a5 nv c5).ownBlock = some b → w2.heap.size ≤ b ∧ b < Y5.heap.size := fun b e => by
    have h1 := World.ownsRow.lt HFI5.out b e
    exact ⟨Nat.le_trans hszA h1.1, h1.2⟩
  have HAU : Hid (∀ b, (Value.slice a5 nv c5).ownBlock = some b → wv'.ownBlock ≠ some b) := Lib.hid (fun b e e2 => by
    have h1 := hau b e
    rcases hb6 b e2 with q | q
    · have := hul b q; have := HSZ2.out; omega
    · omega)
  have hau2 : ∀ y ∈ ys, ∀ b off, y.ad = some ⟨b, off, none⟩ → 0 < y.n → w2.heap.size ≤ b ∧ b < Y5.heap.size := fun y hy b off e h0 => by
    have h1 := (HYS.out y hy).2 b off e h0
    exact ⟨Nat.le_trans hszA h1.1, by omega⟩
  have HAU2 : Hid (∀ y ∈ ys, ∀ b off, y.ad = some ⟨b, off, none⟩ → 0 < y.n → wv'.ownBlock ≠ some b) := Lib.hid (fun y hy b off e h0 e2 => by
    have h1 := hau2 y hy b off e h0
    rcases hb6 b e2 with q | q
    · have := hul b q; have := HSZ2.out; omega
    · omega)
  have HAV2 : Hid (∀ y ∈ ys, ∀ b off, y.ad = some ⟨b, off, none⟩ → 0 < y.n → (Value.slice va' (n + 1) cv').ownBlock ≠ some b) := Lib.hid (fun y hy b off e h0 e2 => by
    have h1 := hau2 y hy b off e h0
    have := (World.ownsRow.lt HO2.out b e2).2
    omega)
  have HGU2 : Hid (∀ y ∈ ys, ∀ b off, y.ad = some ⟨b, off, none⟩ → 0 < y.n → ¬ (b = g ∨ (Value.slice ua n cu).ownBlock = some b)) := Lib.hid (fun y hy b off e h0 q => by
    have h1 := hau2 y hy b off e h0
    rcases q with q | q
    · have := HBX.out.lt; have := HSZ2.out; omega
    · have := hul b q; have := HSZ2.out; omega)
  have HAG2 : Hid (∀ y ∈ ys, ∀ b off, y.ad = some ⟨b, off, none⟩ → 0 < y.n → w.heap.size ≤ b) := Lib.hid (fun y hy b off e h0 => by
    have h1 := hau2 y hy b off e h0
    have := HSZ2.out
    omega)
  have HAV : Hid (∀ b, (Value.slice a5 nv c5).ownBlock = some b → (Value.slice va' (n + 1) cv').ownBlock ≠ some b) := Lib.hid (fun b e e2 => by
    have h1 := hau b e
    have := (World.ownsRow.lt HO2.out b e2).2
    omega)
  have HAVU : Hid (wv'.ownBlock = none ∨ wv'.ownBlock ≠ (Value.slice va' (n + 1) cv').ownBlock) := Lib.hid (by
    cases e : wv'.ownBlock with
    | none => exact .inl rfl
    | some b =>
      refine .inr (fun e2 => ?_)
      rcases hb6 b e with q | q
      · rcases hvu' with r | r
        · rw [r] at e2; cases e2
        · exact r (e2.symm.trans q.symm)
      · have := (World.ownsRow.lt HO2.out b e2.symm).2; omega)
  have hwg : wv'.ownBlock ≠ some g := fun e => by
    rcases hb6 g e with q | q
    · exact HGU.out q
    · have := HBX.out.lt; have := HSZ2.out; omega
  have HWG := Lib.hid hwg
  refine ⟨fun _ => hbx6, ?_⟩
  simp only [Act.put, List.setIfInBounds_toArray]
  obtain ⟨wa, wc, hws⟩ := row_shape' ho6
  subst hws
  clear hau2 hszR ho6 hg6 hb6 hul hvu' hbx6 hfo6 hau hwg HB5 HO5 HU5 HFI5 HL5 HY5 hsz5 HFR2 HO2 HU2 HX2 HB2
  refine wpAnyP_one (i := 9) (by kernel_rfl) ?_
  intro Y7 hy7
  go_simp
  refine ⟨HB6.out.keep hy7, ?_⟩
  refine wpAnyP_one (i := 10) (by kernel_rfl) ?_
  intro Y8 hy8
  go_simp
  refine ⟨HB6.out.keep (hy7.trans hy8), ?_⟩
  refine wpAnyP_one (i := 11) (by kernel_rfl) ?_
  intro Y9 hy9
  have HY9 := Lib.hid ((hy7.trans hy8).trans hy9)
  clear hy7 hy8 hy9
  have HB9 := Lib.hid (HB6.out.keep HY9.out)
  have c5' := HB9.out.at_ H25.out
  have f5' := HB9.out.frozen 11
  have HB10 := Lib.hid (HB9.out.setc 11 (.slice wa (n + 1) wc))
  have hgs := grown_set' Y9 g 11 (.slice wa (n + 1) wc)
  have HO10 := Lib.hid (World.ownsRow.kept (ownsRow_bl HO6.out HY9.out) hgs (.inr HVG.out))
  have HW10 := Lib.hid (World.ownsRow.kept (ownsRow_bl HW6.out HY9.out) hgs (.inr HWG.out))
  have hug : (Value.slice a5 nv c5).ownBlock ≠ some g := fun e => by
    have h1 := (World.ownsRow.lt HFI6.out g e).1
    have h2 := HBX.out.lt
    have h3 := HSZ2.out
    omega
  have HF10 := Lib.hid (World.ownsRow.kept (ownsRow_bl HFI6.out HY9.out) hgs (.inr hug))
  have HFR10 := Lib.hid ((HFR6.out.bl HY9.out).grown hgs (fun i e => .inl (Option.some.inj e).symm))
  have HF210 := Lib.hid ((HF26.out.bl HY9.out).grown hgs (fun i e => .inl (Option.some.inj e).symm))
  clear hgs hug HO6 HW6 HFI6 HFR6 HB6 HB9 HY9
  go_simp
  clear c5' f5'
  generalize World.setCell _ _ _ = Y10 at *
  refine wpAnyP_done (by kernel_rfl) ?_
  intro Y11 hy11
  have HY := Lib.hid hy11
  clear hy11
  go_wp2_with fail
  go_end0
  have ho11 := ownsRow_bl HF10.out HY.out
  have hf11 := HF210.out.bl HY.out
  have hia : ∀ y ∈ ys, IA Y11 y.ad y.n y.at_ := fun y hy => IA.fr hf11 (HYS.out y hy).1 (fun b off e h0 => HGU2.out y hy b off e h0)
  have hlt11 : ∀ y ∈ ys, ∀ b off, y.ad = some ⟨b, off, none⟩ → 0 < y.n → b < Y11.heap.size := fun y hy b off e h0 => Nat.lt_of_lt_of_le ((HYS.out y hy).2 b off e h0).2 hf11.size
  have hoky : ∀ y ∈ ys, y.act.Ok := fun y hy => by
    have h1 : y.ver ∈ ps.map VC.ver := by rw [← HYV.out]; exact List.mem_map_of_mem hy
    obtain ⟨x, hx, e⟩ := List.mem_map.1 h1
    have h2 : x.act = y.act := congrArg VerL.act e
    rw [← h2]
    exact HX.out.ok x hx
  refine ⟨rfl, _, _, _, fun b => (Value.slice a5 nv c5).ownBlock = some b ∨ ∃ y, y ∈ ys ∧ 0 < y.n ∧ ∃ off, y.ad = some ⟨b, off, none⟩, ?_, ownsRow_bl HO10.out HY.out, ownsRow_bl HW10.out HY.out, ⟨ys, a5, nv, c5, rfl, RV.own ho11 HYL.out hnv hia hoky, HYV.out.symm, fun x off e hp => .inl ?_, fun y hy b off e h0 => .inr ⟨y, hy, h0, off, e⟩⟩, fun b e => ?_, HFR10.out.bl HY.out, fun b e => (HBV.out b e).imp_right (fun q => by have := HBA.out.size; omega), HBU.out, HAVU.out⟩
  · rw [HHS2.out]; exact HB10.out.keep HY.out
  · obtain ⟨_, ⟨e3, h2⟩ | ⟨gi, cap, cur, e3, _⟩⟩ := ho11
    · cases e3; omega
    · simp only [Value.slice.injEq] at e3; rw [e3.1] at e ⊢; cases e; rfl
  · rcases e with e | ⟨y, hy, h0, off, e⟩
    · refine ⟨(World.ownsRow.lt ho11 b e).2, ?_, HAV.out b e, HAU.out b e⟩
      have h1 := (World.ownsRow.lt ho11 b e).1
      have h3 := HSZ2.out
      omega
    · exact ⟨hlt11 y hy b off e h0, HAG2.out y hy b off e h0, HAV2.out y hy b off e h0, HAU2.out y hy b off e h0⟩
theorem fullVersions_any (g : Nat) (hs : List Value) (va : Option Addr) (cv : Nat) (v : Value) (w : World) (hbox : AC w g hs) (h4 : hs[10]? = some (.slice va 250 cv)) :
    Calls Tryz.prog 52 #[.pointer (some ⟨g, 0, none⟩), v] w fun e w' => e = .returned (.tuple #[]) ∧ w = w' := by
  have c4 := hbox.at_ h4
  clear hbox h4
  go_enter Tryz.func52, Tryz.ntmps52
  go_wp2_with fail
  go_end0
  exact ⟨rfl, rfl⟩
end Go.Proofs.YtfjjnffifnohkaaGreat
end
