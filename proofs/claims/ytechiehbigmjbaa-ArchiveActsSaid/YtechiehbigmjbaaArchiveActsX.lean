/- the walk of ArchiveActs. By an AI agent. -/
import Derived.Test.YtechiehbigmjbaaOpenArc
set_option linter.unusedVariables false
set_option linter.unusedSimpArgs false
namespace Go.Proofs.Ytechiehbigmjbaa
open Go.RowKit
attribute [local go_sem] eOp eOper eUpon

theorem lightArc_few {ps : List (ByteArray × ValL)} {pn : Nat} (hl : ps.length = pn) (h : wSum ps pn < 60000) : pn ≤ 2000 := by
  have := wSum_ge ps
  rw [hl] at this
  omega
set_option maxHeartbeats 6400000 in
set_option maxRecDepth 100000 in
theorem archiveActs_hid (n parts : Int) (ad : Option Addr) (an ac : Nat) (xs : List Int) (pd : Option Addr) (pn pc : Nat) (ps : List (ByteArray × ValL)) (w : World) (hx : Hid (IA w ad an xs)) (hp : Hid (PW w pd pn ps)) :
    Calls Try.prog 9 #[.agg #[.int .i64 n, .int .i64 parts, .slice ad an ac, .slice pd pn pc]] w fun e w' => e = .returned (.bool true) ∧ Bl w w' := by
  have hsf := store_float
  have hcap := hp.out.cap
  have hb := (Bl.refl w).alloc (.cells (arcCs n parts ad an ac pd pn pc).toArray 75)
  have hg := AC.new w _ rfl (arcCs n parts ad an ac pd pn pc) 75
  obtain ⟨c0, c1, c2, c3⟩ := AC.arc hg
  unfold arcCs at hg hb c0 c1 c2 c3
  go_enter Try.func9, Try.ntmps9
  go_wp2_with fail
  generalize w.alloc _ = W at *
  refine (light_any n parts ad an ac xs pd pn pc ps _ (hx.out.keep hb) (hp.out.keep hb)).mono ?_
  rintro e W1 ⟨b, rfl, hbt, hb1⟩
  have HB := Lib.hid (hb.trans hb1)
  have HG := Lib.hid (hg.keep hb1)
  clear hb hb1 hg c0 c1 c2 c3
  cases b
  · clear hbt
    go_wp2_with fail
    refine (alive24_any _).mono ?_
    rintro e W2 ⟨rfl, hb2⟩
    go_wp2_with fail
    go_ret
    exact ⟨rfl, HB.out.trans hb2⟩
  obtain ⟨hsum, han⟩ := hbt rfl
  have hfew := lightArc_few hp.out.len hsum
  clear hbt hsum
  have HPA := Lib.hid (hp.out.pa (by omega))
  obtain ⟨c0, c1, c2, c3⟩ := AC.arc HG.out
  obtain ⟨vb, hvb⟩ : ∃ vb, validArc ⟨n, parts, xs, ps⟩ = vb := ⟨_, rfl⟩
  have HV := Lib.hid hvb
  clear hvb
  go_wp2_with fail
  refine (arcValid_hid n parts ad an ac xs pd pn pc ps _ (hx.out.keep HB.out) (HPA.out.keep HB.out) vb HV (Lib.hid hp.out.ok)).mono ?_
  rintro e W2 ⟨rfl, hb2⟩
  have HB2 := Lib.hid (HB.out.trans hb2)
  have HG2 := Lib.hid (HG.out.keep hb2)
  clear hb2 HB HG c0 c1 c2 c3
  cases vb
  · go_wp2_with fail
    refine (alive24_any _).mono ?_
    rintro e W3 ⟨rfl, hb3⟩
    go_wp2_with fail
    go_ret
    exact ⟨rfl, HB2.out.trans hb3⟩
  have HPP := Lib.hid (fun p hp => (validArc_parts HV.out).pair (p := p) hp)
  go_wp2_with fail
  go_loopw [3] (fun i wr => ∃ k : Nat, k ≤ pn ∧ i = .int .i64 k ∧ Bl W2 wr) (fun i _ => pn - (intOf i).toNat)
  case atStart => exact ⟨0, Nat.zero_le _, rfl, Bl.refl _⟩
  case round =>
    obtain ⟨k, hk, rfl, hbl⟩ := hrel
    have HBL := Lib.hid hbl
    clear hbl
    have c3 := (AC.arc (HG2.out.keep HBL.out)).2.2.2
    by_cases hlt : k < pn
    · have hkl : k < ps.length := by rw [hp.out.len]; exact hlt
      obtain ⟨ba, oa, rfl, _⟩ := hp.out.cells k hlt
      have HPC := Lib.hid (hp.out.get (HB2.out.trans HBL.out) hlt)
      have HOK := Lib.hid (hp.out.ok _ (nthQ_mem hkl))
      have HPB := Lib.hid (HPP.out _ (nthQ_mem hkl))
      clear hkl
      generalize nthQ ps k = p at *
      obtain ⟨key, ⟨pt, px, pm, pz⟩⟩ := p
      obtain ⟨⟨ak, ax, an2, az⟩, hA⟩ : ∃ A : ActL, actOf key ⟨pt, px, pm, pz⟩ = A := ⟨_, rfl⟩
      obtain ⟨⟨rb, rx, rn, rs⟩, hV⟩ : ∃ V : ValL, afterL key noVal ⟨ak, ax, an2, az⟩ = V := ⟨_, rfl⟩
      have HA := Lib.hid hA
      have HV2 := Lib.hid hV
      have hpb := HPB.out
      unfold pairB at hpb
      rw [Bool.and_eq_true] at hpb
      dsimp only at hpb
      rw [hA, hV] at hpb
      have HFI := Lib.hid hpb.1
      have HS := Lib.hid hpb.2
      have HAO := Lib.hid (show (⟨ak, ax, an2, az⟩ : ActL).Ok from hA ▸ actOf_ok key HOK.out.2)
      have HVO := Lib.hid (show (⟨rb, rx, rn, rs⟩ : ValL).Ok from hV ▸ after_ok noVal_ok HAO.out)
      have HKZ := Lib.hid HOK.out.1
      have HPO := Lib.hid HOK.out.2
      clear hA hV hpb
      dsimp only at HKZ
      go_upto_region 6 with fail
      refine wp_region_idx [0, 1, 2, 3, 4, 5, 6, 7, 8, 9, 10, 11] 3 (Bl wr) (fun _ _ h k => h.trans k) ((Bl.refl wr).drew) (by kernel_rfl) rfl (by kernel_rfl) (by kernel_rfl) ?_
      have HD := Lib.hid ((Bl.refl wr).drew)
      generalize wr.drew = Z at *
      have d3 : ∀ q : ExtC (Bl wr), _ := fun q => (AC.arc ((HG2.out.keep HBL.out).keep q.ok)).2.2.2
      have e0 : ∀ q : ExtC (Bl wr), _ := fun q => (HPC.out.keep q.ok).c0
      have e1 : ∀ q : ExtC (Bl wr), _ := fun q => (HPC.out.keep q.ok).c1
      have e2 : ∀ q : ExtC (Bl wr), _ := fun q => (HPC.out.keep q.ok).c2
      have e3 : ∀ q : ExtC (Bl wr), _ := fun q => (HPC.out.keep q.ok).c3
      have e4 : ∀ q : ExtC (Bl wr), _ := fun q => (HPC.out.keep q.ok).c4
      dsimp only at e0 e1 e2 e3 e4
      clear c3
      repeat (refine wpI_step rfl (fun K hK => ?_); go_simp; first | (refine hK _ ?_; clear hK K) | (apply Exists.intro; refine ⟨fun q => ?_, hK _ ?_⟩; fail; clear hK K))
      refine wpI_nil ?_
      clear d3 e0 e1 e2 e3 e4
      refine wpAnyE_one (i := 12) (by kernel_rfl) ?_
      intro X1 hx1
      go_simp
      have hgv := AC.new X1 _ rfl [.bool false, .float .f64 0, .int .i64 0, .string ⟨#[]⟩] 85
      have hbv := (HD.out.trans hx1).alloc (.cells #[.bool false, .float .f64 0, .int .i64 0, .string ⟨#[]⟩] 85)
      refine ⟨hbv, ?_⟩
      have HGV := Lib.hid hgv
      have HBV := Lib.hid hbv
      have hsz : wr.heap.size ≤ X1.heap.size := (HD.out.trans hx1).size
      clear hgv hbv hx1 HD
      generalize X1.alloc _ = X2 at *
      generalize X1.heap.size = gv at *
      refine wpAnyE_one (i := 13) (by kernel_rfl) ?_
      intro X2b hx2
      go_simp
      refine ⟨HBV.out.trans hx2, ?_⟩
      refine wpAnyE_one (i := 14) (by kernel_rfl) ?_
      intro X3 hx3
      have hg3 := (HGV.out.keep hx2).keep hx3
      have HB3 := Lib.hid ((HBV.out.trans hx2).trans hx3)
      obtain ⟨r0, r1, r2, r3⟩ := hg3.val
      have fr := hg3.frozen
      go_simp
      have HG3 := Lib.hid (hg3.set4 (.bool pt) (.float .f64 px) (.int .i64 pm) (.string pz))
      have HB4 := Lib.hid (HB3.out.store4 hsz (.bool pt) (.float .f64 px) (.int .i64 pm) (.string pz))
      refine ⟨HB4.out, ?_⟩
      clear r0 r1 r2 r3 fr hg3 HGV HBV HB3 hx3 hx2
      generalize World.setCell _ _ (.string pz) = X4 at *
      refine wpAnyE_done (by kernel_rfl) ?_
      intro X5 hx5
      have HG5 := Lib.hid (HG3.out.keep hx5)
      have HB5 := Lib.hid (HB4.out.trans hx5)
      clear HG3 HB4 hx5
      go_upto_region 7 with fail
      refine wp_region_extall (by kernel_rfl) (by kernel_rfl) ?_
      have HG6 := Lib.hid (HG5.out.keep ((Bl.refl X5).drew))
      have HB6 := Lib.hid (HB5.out.drew)
      clear HG5 HB5
      generalize X5.drew = Z2 at *
      have v0 : ∀ q : Ext Z2, _ := fun q => (HG6.out.keep q.bl).val.1
      have v1 : ∀ q : Ext Z2, _ := fun q => (HG6.out.keep q.bl).val.2.1
      have v2 : ∀ q : Ext Z2, _ := fun q => (HG6.out.keep q.bl).val.2.2.1
      have v3 : ∀ q : Ext Z2, _ := fun q => (HG6.out.keep q.bl).val.2.2.2
      have H1 := Lib.hid (fun w => arcAct_agg key pt px pm pz ak ax an2 az w HKZ.out HA)
      have H2 := Lib.hid (fun w => fits_agg key ak ax an2 az true w HFI HKZ.out HAO)
      have H3 := Lib.hid (fun w => after_agg key false 0 0 ⟨#[]⟩ ak ax an2 az rb rx rn rs w HV2 HKZ.out (Lib.hid noVal_ok) HAO)
      have H4 := Lib.hid (fun w => same_agg rb rx rn rs pt px pm pz true w HS HVO HPO)
      repeat (refine wpE_step (fun K hK => ?_); go_simp; first | (refine hK _ ?_; clear hK K) | (apply Exists.intro; refine ⟨fun m => ?_, hK _ ?_⟩; (first | with_reducible exact H1.out _ | with_reducible exact H2.out _ | with_reducible exact H3.out _ | with_reducible exact H4.out _); clear hK K))
      refine wpE_nil ?_
      intro q1
      have HBN := Lib.hid (HBL.out.trans (HB6.out.trans q1.bl))
      clear v0 v1 v2 v3 H1 H2 H3 H4
      generalize ExtC.at q1 = Y at *
      go_wp2_with fail
      go_roundw
      case rel => exact ⟨k + 1, by omega, by go_num, HBN.out⟩
      case measure => simp [intOf]; omega
    · have hkp : k = pn := by omega
      go_wp2_with fail
      refine (alive24_any _).mono ?_
      rintro e W3 ⟨rfl, hb3⟩
      go_wp2_with fail
      go_ret
      exact ⟨rfl, HB2.out.trans (HBL.out.trans hb3)⟩
theorem archiveActs_walk (a : ArcL) (ad : Option Addr) (an ac : Nat) (pd : Option Addr) (pn pc : Nat) (w : World) (hx : IA w ad an a.at_) (hp : PW w pd pn a.pairs) :
    Calls Try.prog 9 #[arcV a.n a.parts ad an ac pd pn pc] w fun e w' => e = .returned (.bool true) ∧ Bl w w' :=
  archiveActs_hid a.n a.parts ad an ac a.at_ pd pn pc a.pairs w (Lib.hid hx) (Lib.hid hp)
end Go.Proofs.Ytechiehbigmjbaa
