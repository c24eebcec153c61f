/- archive.Write. By an AI agent. -/
import Derived.Test.YtechiehbigmjbaaArc2
import Derived.Test.YtechiehbigmjbaaBuildF
import Derived.Test.YtechiehbigmjbaaOpSame
import Derived.Test.YtechiehbigmjbaaSum
set_option linter.unusedVariables false
set_option linter.unusedSimpArgs false
namespace Go.Proofs.Ytechiehbigmjbaa
open Go.RowKit
attribute [local go_sem] eOp eOper eUpon

/-- the texts of an archive's head, one behind the other -/
structure ArcTexts (q1 q2 q3 q4 p1 p2 p3 p4 : ByteArray) : Prop where
  e1 : (⟨#[66, 69, 68, 82, 79, 67, 75, 49]⟩ : ByteArray) ++ q1 = p1
  y1 : q1.size ≤ 100
  e2 : p1 ++ q2 = p2
  z1 : p1.size ≤ 100
  y2 : q2.size ≤ 100
  e3 : p2 ++ q3 = p3
  z2 : p2.size ≤ 100
  y3 : q3.size ≤ 100
  e4 : p3 ++ q4 = p4
  z3 : p3.size ≤ 100
  y4 : q4.size ≤ 100
/-- .. of a pair -/
structure PairTexts (key b q1 q2 p1 p2 p3 : ByteArray) : Prop where
  e1 : q1 ++ key = p1
  e2 : p1 ++ q2 = p2
  e3 : p2 ++ b = p3
  y1 : q1.size ≤ 2000
  y2 : q2.size ≤ 2000
  yk : key.size ≤ 2000
  yb : b.size ≤ 2000
  z1 : p1.size ≤ 2000
  z2 : p2.size ≤ 2000
/-- worlds that go on from W1 and hold a box -/
def HoldB (W1 : World) (g : Nat) (cs : List Value) (W' : World) : Prop := Bl W1 W' ∧ AC W' g cs
theorem HoldB.keep {W1 : World} {g : Nat} {cs : List Value} (w w' : World) (h : HoldB W1 g cs w) (k : Bl w w') : HoldB W1 g cs w' := ⟨h.1.trans k, h.2.keep k⟩
theorem bcells_len (l : List UInt8) : (Lib.byteCells l).length = l.length := by simp [Lib.byteCells]
theorem flatC_take_len (ps : List (ByteArray × ValL)) (k : Nat) : ((ps.take k).flatMap putPairC).length ≤ (ps.flatMap putPairC).length := by
  have h : (ps.flatMap putPairC) = (ps.take k).flatMap putPairC ++ (ps.drop k).flatMap putPairC := by rw [← List.flatMap_append, List.take_append_drop]
  rw [h, List.length_append]; omega
theorem flatC_take_succ (ps : List (ByteArray × ValL)) {k : Nat} (hk : k < ps.length) : (ps.take (k + 1)).flatMap putPairC = (ps.take k).flatMap putPairC ++ putPairC (nthQ ps k) := by
  rw [List.take_succ_eq_append_getElem hk, List.flatMap_append, nthQ_eq hk]
  simp
theorem strL_data (s : ByteArray) : strL s.data.toList = s := by unfold strL; simp
theorem putS_right {a : ActL} (h : rightB a = true) : putS a = putA a ∧ putC a = 0 := by unfold putS putC; rw [if_pos h, if_pos h]; exact ⟨rfl, rfl⟩
theorem pair_texts {key : ByteArray} {v : ValL} {a : ActL} (ha : actOf key v = a) (h : pairB (key, v) = true) :
    PairTexts key (strL (putA a)) (strL (numB (key.size : Int) 1)) (strL (numB ((putA a).length : Int) 2)) (strL (numB (key.size : Int) 1 ++ key.data.toList)) (strL ((numB (key.size : Int) 1 ++ key.data.toList) ++ numB ((putA a).length : Int) 2)) (strL (putPairC (key, v))) := by
  have hf := (pairB_parts h).1
  have h1 := key_size (fits_key hf).1
  have h2 := putA_len (fits_key hf).2
  dsimp only at hf h1 h2
  rw [ha] at h2
  have h3 := size_nil key
  refine ⟨?_, strL_app _ _, ?_, ?_, ?_, by omega, ?_, ?_, ?_⟩
  · conv => lhs; rw [← strL_data key]
    exact strL_app _ _
  · rw [strL_app]
    unfold putPairC
    dsimp only
    rw [ha]
    simp only [List.append_assoc]
  all_goals (rw [strL_size]; (try simp only [List.length_append, numB_len]); omega)
def outL (L : List UInt8) : List UInt8 := if L.length + 4 ≤ 524288 then sealL L else []
def outC (L : List UInt8) : Int := if L.length + 4 ≤ 524288 then 0 else 2

set_option maxHeartbeats 6400000 in
set_option maxRecDepth 100000 in
theorem arcWrite_hid (n parts : Int) (ad : Option Addr) (an ac : Nat) (xs : List Int) (pd : Option Addr) (pn pc : Nat) (ps : List (ByteArray × ValL)) (w : World) (hx : Hid (IA w ad an xs)) (hp : Hid (PA w pd pn ps))
    (hok : Hid (∀ p ∈ ps, p.1.size ≤ 140737488351232 ∧ p.2.Ok)) (hpb : Hid (∀ p ∈ ps, pairB p = true)) (hv : Hid (validArc ⟨n, parts, xs, ps⟩ = true)) (hvx : Hid (validL xs = true))
    (q1 q2 q3 q4 p1 p2 p3 p4 : ByteArray) (N : Hid (ArcTexts q1 q2 q3 q4 p1 p2 p3 p4)) (lf : List UInt8) (hlf : Hid (p4.data.toList = lf)) (hq3 : Hid (strL (putL xs) = q3))
    (C1 : Hid (∀ w, Calls Try.prog 105 #[.int .i64 n, .int .i64 1] w fun e w' => e = .returned (.string q1) ∧ Bl w w'))
    (C2 : Hid (∀ w, Calls Try.prog 105 #[.int .i64 parts, .int .i64 1] w fun e w' => e = .returned (.string q2) ∧ Bl w w'))
    (C4 : Hid (∀ w, Calls Try.prog 105 #[.int .i64 (pn : Int), .int .i64 4] w fun e w' => e = .returned (.string q4) ∧ Bl w w'))
    (L : List UInt8) (hL : Hid (lf ++ ps.flatMap putPairC = L)) (hLl : L.length ≤ 20000000) :
    Calls Try.prog 41 #[.agg #[.int .i64 n, .int .i64 parts, .slice ad an ac, .slice pd pn pc]] w fun e w' => e = .returned (.tuple #[.string (strL (outL L)), .int .i64 (outC L)]) ∧ Bl w w' := by
  have hpn := hp.out.cap
  have hsf := store_float
  have hb := (Bl.refl w).alloc (.cells (arcCs n parts ad an ac pd pn pc).toArray 75)
  have hg := AC.new w _ rfl (arcCs n parts ad an ac pd pn pc) 75
  obtain ⟨c0, c1, c2, c3⟩ := AC.arc hg
  unfold arcCs at hg hb c0 c1 c2 c3
  go_enter Try.func41, Try.ntmps41
  go_wp2_with fail
  generalize w.alloc _ = W at *
  refine (arcValid_hid n parts ad an ac xs pd pn pc ps _ (hx.out.keep hb) (hp.out.keep hb) true hv hok).mono ?_
  rintro e W1 ⟨rfl, hb1⟩
  have HB := Lib.hid (hb.trans hb1)
  have HG := Lib.hid (hg.keep hb1)
  clear hb hb1 hg c0 c1 c2 c3
  have hbi := BI.new W1
  have hbl0 : Bl W1 (W1.alloc (.cells #[.pointer none, .slice none 0 0] 156)) := (Bl.refl W1).alloc _
  have c2 := (AC.arc (HG.out.keep hbl0)).2.2.1
  go_wp2_with fail
  refine (vput_yes ad an ac xs _ (hx.out.keep (HB.out.trans hbl0)) hvx.out).mono ?_
  rintro e W2 ⟨rfl, hb2⟩
  rw [show (⟨(putL xs).toArray⟩ : ByteArray) = q3 from hq3.out]
  clear c2
  go_upto_region 5 with fail
  have hbl2 : Bl W1 W2.drew := (hbl0.trans hb2).drew
  have HI := Lib.hid ((hbi.keep hb2).keep ((Bl.refl _).drew))
  clear hbi hbl0 hb2
  refine wp_region_extC (Bl W1) (fun _ _ h k => h.trans k) hbl2 15 1 (by kernel_rfl) rfl (by kernel_rfl) (by kernel_rfl) ?_
  generalize W2.drew = WD at *
  have HBD := Lib.hid hbl2
  clear hbl2
  generalize hgb : W1.heap.size = gb at *
  have HGB := Lib.hid hgb
  clear hgb
  simp only [List.take_succ_cons, List.take_zero]
  have c0 : ∀ q : ExtC (Bl W1), _ := fun q => (AC.arc (HG.out.keep q.ok)).1
  have c1 : ∀ q : ExtC (Bl W1), _ := fun q => (AC.arc (HG.out.keep q.ok)).2.1
  have c3 : ∀ q : ExtC (Bl W1), _ := fun q => (AC.arc (HG.out.keep q.ok)).2.2.2
  have e1 := N.out.e1
  have e2 := N.out.e2
  have e3 := N.out.e3
  have e4 := N.out.e4
  have s1_ : (9223372036854775807 < 8 + q1.size) = False := eq_false (by have := N.out.y1; omega)
  have s2_ : (9223372036854775807 < p1.size + q2.size) = False := eq_false (by have := N.out.z1; have := N.out.y2; omega)
  have s3_ : (9223372036854775807 < p2.size + q3.size) = False := eq_false (by have := N.out.z2; have := N.out.y3; omega)
  have s4_ : (9223372036854775807 < p3.size + q4.size) = False := eq_false (by have := N.out.z3; have := N.out.y4; omega)
  repeat (refine wpE_step (fun K hK => ?_); go_simp; first | (refine hK _ ?_; clear hK K) | (apply Exists.intro; refine ⟨fun q => ?_, hK _ ?_⟩; (first | with_reducible exact C1.out _ | with_reducible exact C2.out _ | with_reducible exact C4.out _); clear hK K))
  refine wpE_nil ?_
  clear c0 c1 c3 e1 e2 e3 e4 s1_ s2_ s3_ s4_
  refine wpAnyE_one (i := 15) (by kernel_rfl) ?_
  intro W3 hb3
  go_simp
  have hll0 : lf.length ≤ 20000000 := by have := congrArg List.length hL.out; rw [List.length_append] at this; omega
  have hbD := HBD.out.trans hb3
  refine (bi_writeString gb gb [] p4 lf hlf.out W3 (HI.out.keep hb3) (by simp; omega) (by rw [← HGB.out]; exact hbD.size)).mono ?_
  rintro e W4 ⟨rfl, hbi4, hb4⟩
  have hb14 : Bl W1 W4 := by
    rw [← HGB.out] at hb4
    exact Below.trans hbD hb4
  refine ⟨_, rfl, hb14, ?_⟩
  refine wpAnyE_done (by kernel_rfl) ?_
  intro W5 hb5
  have HBI := Lib.hid (hbi4.keep hb5)
  have HB15 := Lib.hid (hb14.trans hb5)
  clear hb14 hbi4 hb5 hb4 hbD HI HBD hb3
  have c3 := (AC.arc (HG.out.keep HB15.out)).2.2.2
  go_wp2_with fail
  clear c3
  go_loopw [39] (fun i wr => ∃ (k : Nat) (l : List UInt8), k ≤ pn ∧ i = .int .i64 k ∧ BI gb gb l wr ∧ Bl W1 wr ∧ l = lf ++ (ps.take k).flatMap putPairC) (fun i _ => pn - (intOf i).toNat)
  case atStart => exact ⟨0, _, Nat.zero_le _, rfl, HBI.out, HB15.out, by simp⟩
  case round =>
    clear HBI HB15
    obtain ⟨k, l, hk, rfl, hbi, hbl, hl⟩ := hrel
    have hll : l.length ≤ 20000000 := by
      have h1 := flatC_take_len ps k
      have h2 := congrArg List.length hL.out
      rw [List.length_append] at h2
      rw [hl, List.length_append]; omega
    have HLN := Lib.hid hl
    have HI := Lib.hid hbi
    have HBL := Lib.hid hbl
    clear hl hbi hbl
    by_cases hlt : k < pn
    · have hkl : k < ps.length := by rw [hp.out.len]; exact hlt
      obtain ⟨ba, oa, rfl, _⟩ := hp.out.cells k hlt
      obtain ⟨c0, c1, c2, c3, c4⟩ := hp.out.get (HB.out.trans HBL.out) hlt
      have HOK := Lib.hid (hok.out _ (nthQ_mem hkl))
      have HPB := Lib.hid (hpb.out _ (nthQ_mem hkl))
      have HTK := Lib.hid (flatC_take_succ ps hkl)
      have hl2 : (l ++ putPairC (nthQ ps k)).length ≤ 20000000 := by
        have h1 := flatC_take_len ps (k + 1)
        have h2 := congrArg List.length hL.out
        rw [List.length_append] at h2
        rw [HLN.out, List.append_assoc, ← HTK.out, List.length_append]; omega
      have HL2 := Lib.hid hl2
      clear hl2 hkl
      generalize nthQ ps k = p at *
      obtain ⟨key, ⟨pt, px, pm, pz⟩⟩ := p
      obtain ⟨⟨ak, ax, an2, az⟩, hA⟩ : ∃ A : ActL, actOf key ⟨pt, px, pm, pz⟩ = A := ⟨_, rfl⟩
      have HA := Lib.hid hA
      have HT := Lib.hid (pair_texts hA HPB.out)
      have hr : rightB ⟨ak, ax, an2, az⟩ = true := by rw [← hA]; exact (fits_key (pairB_parts HPB.out).1).2
      have HPT : Hid (SB (strL (putA ⟨ak, ax, an2, az⟩)) (putS ⟨ak, ax, an2, az⟩) ∧ putC ⟨ak, ax, an2, az⟩ = 0) := Lib.hid (by
        rw [(putS_right hr).1]
        exact ⟨rfl, (putS_right hr).2⟩)
      have HAO := Lib.hid (show (⟨ak, ax, an2, az⟩ : ActL).Ok from hA ▸ actOf_ok key HOK.out.2)
      have hk64 : key.size ≤ 64 := key_size (fits_key (pairB_parts HPB.out).1).1
      have ha26 := putA_len hr
      have HK1 := Lib.hid (fun w => arnum1 (key.size : Int) w (by omega) (by omega))
      have hbz := strL_size (putA ⟨ak, ax, an2, az⟩)
      have HK2 : Hid (∀ w, Calls Try.prog 105 #[.int .i64 ((strL (putA ⟨ak, ax, an2, az⟩)).size : Int), .int .i64 2] w fun e w' => e = .returned (.string (strL (numB ((putA ⟨ak, ax, an2, az⟩).length : Int) 2))) ∧ Bl w w') := Lib.hid (fun w => by
        rw [hbz]
        exact arnum2 ((putA ⟨ak, ax, an2, az⟩).length : Int) w (by omega) (by omega))
      dsimp only at c0 c1 c2 c3 c4
      clear hA hr ha26 hbz
      generalize strL (numB (key.size : Int) 1) = t1 at *
      generalize strL (numB ((putA ⟨ak, ax, an2, az⟩).length : Int) 2) = t2 at *
      generalize strL (numB (key.size : Int) 1 ++ key.data.toList) = u1 at *
      generalize strL ((numB (key.size : Int) 1 ++ key.data.toList) ++ numB ((putA ⟨ak, ax, an2, az⟩).length : Int) 2) = u2 at *
      generalize hu3 : strL (putPairC (key, ⟨pt, px, pm, pz⟩)) = u3 at *
      have HU3 : Hid (u3.data.toList = putPairC (key, ⟨pt, px, pm, pz⟩)) := Lib.hid (by rw [← hu3]; rfl)
      clear hu3
      generalize strL (putA ⟨ak, ax, an2, az⟩) = tb at *
      have hFar := Far.new HI.out (.cells #[.string key, .bool pt, .float .f64 px, .int .i64 pm, .string pz] 87)
      have hbw := (Bl.refl wr).alloc (.cells #[.string key, .bool pt, .float .f64 px, .int .i64 pm, .string pz] 87)
      have hgp := AC.new wr _ rfl [.string key, .bool pt, .float .f64 px, .int .i64 pm, .string pz] 87
      have hne : wr.heap.size ≠ gb := Nat.ne_of_gt HI.out.lt
      obtain ⟨g0, g1, g2, g3, g4⟩ := AC.pair hgp
      go_wp2_with fail
      clear g0 g1 g2 g3 g4 c0 c1 c2 c3 c4
      refine (arcAct_agg key pt px pm pz ak ax an2 az _ HOK.out.1 HA).mono ?_
      rintro e w1 ⟨rfl, hb1⟩
      go_wp2_with fail
      refine (put_agg ak ax an2 az tb 0 _ HAO HPT).mono ?_
      rintro e w2 ⟨rfl, hb2⟩
      go_upto_region 10 with fail
      have hi1 := HI.out.keep hbw
      have HFR := Lib.hid (hFar.keep hi1 ((hb1.trans hb2).drew))
      have HI1 := Lib.hid (hi1.keep ((hb1.trans hb2).drew))
      have HBD := Lib.hid (HBL.out.trans (hbw.trans ((hb1.trans hb2).drew)))
      have HGP := Lib.hid (hgp.keep ((hb1.trans hb2).drew))
      clear hi1 hFar hbw hgp hb1 hb2
      generalize hgpe : wr.heap.size = gp at *
      clear hgpe
      refine wp_region_extC (HoldB W1 gp [.string key, .bool pt, .float .f64 px, .int .i64 pm, .string pz]) HoldB.keep ⟨HBD.out, HGP.out⟩ 13 1 (by kernel_rfl) rfl (by kernel_rfl) (by kernel_rfl) ?_
      generalize w2.drew = WD at *
      simp only [List.take_succ_cons, List.take_zero]
      haveI : Nonempty (ExtC (HoldB W1 gp [.string key, .bool pt, .float .f64 px, .int .i64 pm, .string pz])) := ⟨⟨WD, HBD.out, HGP.out⟩⟩
      have d0 : ∀ q : ExtC (HoldB W1 gp [.string key, .bool pt, .float .f64 px, .int .i64 pm, .string pz]), _ := fun q => q.ok.2.cell 0 _ rfl
      have e1 := HT.out.e1
      have e2 := HT.out.e2
      have e3 := HT.out.e3
      have s1_ : (9223372036854775807 < t1.size + key.size) = False := eq_false (by have := HT.out.y1; omega)
      have s2_ : (9223372036854775807 < u1.size + t2.size) = False := eq_false (by have := HT.out.y2; have := HT.out.z1; omega)
      have s3_ : (9223372036854775807 < u2.size + tb.size) = False := eq_false (by have := HT.out.yb; have := HT.out.z2; omega)
      repeat (refine wpE_step (fun K hK => ?_); go_simp; first | (refine hK _ ?_; clear hK K) | (apply Exists.intro; refine ⟨fun q => ?_, hK _ ?_⟩; (first | with_reducible exact HK1.out _ | with_reducible exact HK2.out _); clear hK K))
      refine wpE_nil ?_
      clear d0 e1 e2 e3 s1_ s2_ s3_
      refine wpAnyE_one (i := 13) (by kernel_rfl) ?_
      intro W5 hb5
      go_simp
      refine (bi_writeFar gb gb l u3 (putPairC (key, ⟨pt, px, pm, pz⟩)) HU3.out W5 (HI1.out.keep hb5) (by have := HL2.out; rw [List.length_append] at this; omega) (by rw [← HGB.out]; exact (HBD.out.trans hb5).size) gp _ (HGP.out.keep hb5) hne (HFR.out.keep HI1.out hb5)).mono ?_
      rintro e W6 ⟨rfl, hbi6, hb6, hgp6⟩
      have hb16 : Bl W1 W6 := by
        rw [← HGB.out] at hb6
        exact Below.trans (HBD.out.trans hb5) hb6
      refine ⟨_, rfl, ⟨hb16, hgp6⟩, ?_⟩
      refine wpAnyE_done (by kernel_rfl) ?_
      intro W7 hb7
      have HBI := Lib.hid (hbi6.keep hb7)
      have HB17 := Lib.hid (hb16.trans hb7)
      clear hb16 hbi6 hb6 hb7 hgp6 hb5 HI1 HGP HBD HFR
      go_wp2_with fail
      go_roundw
      case rel => exact ⟨k + 1, _, by omega, by go_num, HBI.out, HB17.out, by rw [HTK.out, HLN.out, List.append_assoc]⟩
      case measure => simp [intOf]; omega
    · have hkp : k = pn := by omega
      subst hkp
      have hfin : l = L := by rw [HLN.out, List.take_of_length_le (by rw [hp.out.len]; exact Nat.le_refl _)]; exact hL.out
      subst hfin
      have HSM := Lib.hid (fun w => sum_any (strL l) w (by rw [strL_size]; omega))
      rw [show (strL l).data.toList = l from rfl] at HSM
      have hsl := sumL_lt l
      have HN4 := Lib.hid (fun w => arnum4 (sumL l : Int) w (by omega) (by omega))
      have HSE : Hid (l ++ numB (sumL l : Int) 4 = sealL l) := Lib.hid rfl
      have HLS := Lib.hid (sealL_len l)
      have HOUT : Hid ((l.length + 4 ≤ 524288 → outL l = sealL l ∧ outC l = 0) ∧ (¬ l.length + 4 ≤ 524288 → outL l = [] ∧ outC l = 2)) := Lib.hid (by
        unfold outL outC
        exact ⟨fun h => by rw [if_pos h, if_pos h]; exact ⟨rfl, rfl⟩, fun h => by rw [if_neg h, if_neg h]; exact ⟨rfl, rfl⟩⟩)
      have HBF := Lib.hid (BF.of HI.out)
      have hq : (strL (numB (sumL l : Int) 4)).data.toList = numB (sumL l : Int) 4 := rfl
      have HQ := Lib.hid hq
      clear hq
      generalize strL (numB (sumL l : Int) 4) = q5 at *
      go_wp2_with fail
      refine (bf_string gb gb l _ HBF.out (by rw [← HGB.out]; exact HBL.out.size)).mono ?_
      rintro e w3 ⟨rfl, hf3, hb3⟩
      rw [show (⟨l.toArray⟩ : ByteArray) = strL l from rfl]
      have hb13 : Bl W1 w3 := by
        rw [← HGB.out] at hb3
        exact Below.trans HBL.out hb3
      generalize strL l = sl at *
      go_wp2_with fail
      refine (HSM.out _).mono ?_
      rintro e w4 ⟨rfl, rfl⟩
      generalize sumL l = sm at *
      go_wp2_with fail
      refine (HN4.out _).mono ?_
      rintro e w4 ⟨rfl, hb4⟩
      have hb14 := hb13.trans hb4
      go_wp2_with fail
      refine (bf_write gb gb l q5 _ HQ.out _ (hf3.keep hb4) (by rw [numB_len]; omega) (by rw [← HGB.out]; exact hb14.size)).mono ?_
      rintro e w5 ⟨rfl, hf5, hb5⟩
      have hb15 : Bl W1 w5 := by
        rw [← HGB.out] at hb5
        exact Below.trans hb14 hb5
      rw [HSE.out] at hf5
      clear hf3 hb3 hb13 hb4 hb14 hb5
      go_wp2_with fail
      refine (bf_len gb gb _ _ hf5).mono ?_
      rintro e w6 ⟨rfl, rfl⟩
      have hzs : ∃ z, (sealL l).length = z ∧ l.length + 4 = z := ⟨_, rfl, HLS.out.symm⟩
      obtain ⟨z, hz1, hz2⟩ := hzs
      rw [hz1]
      rw [hz2] at HOUT
      have HZ1 := Lib.hid hz1
      clear hz1 hz2 HLS
      by_cases hz : z ≤ 524288
      · have q1_ : decide ((524288 : Int) < (z : Int)) = false := decide_eq_false (by omega)
        have q2_ : decide (524288 < z) = false := decide_eq_false (by omega)
        have HO := Lib.hid (HOUT.out.1 hz)
        clear hz
        go_wp2_with fail
        refine (bf_string gb gb _ _ hf5 (by rw [← HGB.out]; exact hb15.size)).mono ?_
        rintro e w7 ⟨rfl, hf7, hb7⟩
        have hb17 : Bl W1 w7 := by
          rw [← HGB.out] at hb7
          exact Below.trans hb15 hb7
        go_wp2_with fail
        go_ret2
        rw [HO.out.1, HO.out.2]
        exact ⟨rfl, HB.out.trans hb17⟩
      · have q1_ : decide ((524288 : Int) < (z : Int)) = true := decide_eq_true (by omega)
        have q2_ : decide (524288 < z) = true := decide_eq_true (by omega)
        have HO := Lib.hid (HOUT.out.2 hz)
        clear hz
        go_wp2_with fail
        go_ret2
        rw [HO.out.1, HO.out.2]
        exact ⟨rfl, HB.out.trans hb15⟩
def wrL (a : ArcL) : List UInt8 := if validArc a then outL (bodyArc a) else []
def wrC (a : ArcL) : Int := if validArc a then outC (bodyArc a) else 1
theorem flatC_len (ps : List (ByteArray × ValL)) (h : ∀ p ∈ ps, pairB p = true) : (ps.flatMap putPairC).length ≤ 1093 * ps.length := by
  induction ps with
  | nil => simp
  | cons p ps ih =>
    have h1 := putPairC_len (h p (by simp))
    have h2 := ih fun q hq => h q (by simp [hq])
    rw [List.flatMap_cons, List.length_append, List.length_cons]; omega
theorem strL_small1 {l : List UInt8} (h : l.length ≤ 100) : (strL l).size ≤ 100 := by rw [strL_size]; exact h
set_option maxRecDepth 100000 in
theorem arcWrite_any (a : ArcL) (ad : Option Addr) (an ac : Nat) (pd : Option Addr) (pn pc : Nat) (w : World) (hx : IA w ad an a.at_) (hp : PA w pd pn a.pairs) (ok : ArcOk a) :
    Calls Try.prog 41 #[.agg #[.int .i64 a.n, .int .i64 a.parts, .slice ad an ac, .slice pd pn pc]] w fun e w' => e = .returned (.tuple #[.string (strL (wrL a)), .int .i64 (wrC a)]) ∧ Bl w w' := by
  cases hv : validArc a
  · have e1 : wrL a = [] := by unfold wrL; rw [hv]; rfl
    have e2 : wrC a = 1 := by unfold wrC; rw [hv]; rfl
    rw [e1, e2]
    obtain ⟨n, parts, xs, ps⟩ := a
    dsimp only at *
    have HX := Lib.hid hx
    have HP := Lib.hid hp
    have HV := Lib.hid hv
    have HOK : Hid (∀ p ∈ ps, p.1.size ≤ 140737488351232 ∧ p.2.Ok) := Lib.hid ok
    have hb := (Bl.refl w).alloc (.cells (arcCs n parts ad an ac pd pn pc).toArray 75)
    have hg := AC.new w _ rfl (arcCs n parts ad an ac pd pn pc) 75
    obtain ⟨c0, c1, c2, c3⟩ := AC.arc hg
    unfold arcCs at hg hb c0 c1 c2 c3
    clear hx hp hv ok e1 e2
    go_enter Try.func41, Try.ntmps41
    go_wp2_with fail
    refine (arcValid_hid n parts ad an ac xs pd pn pc ps _ (HX.out.keep hb) (HP.out.keep hb) false HV HOK).mono ?_
    rintro e W1 ⟨rfl, hb1⟩
    go_wp2_with fail
    go_ret2
    exact ⟨rfl, hb.trans hb1⟩
  · have e1 : wrL a = outL (bodyArc a) := by unfold wrL; rw [hv]; rfl
    have e2 : wrC a = outC (bodyArc a) := by unfold wrC; rw [hv]; rfl
    rw [e1, e2]
    have h := validArc_parts hv
    have hn := h.n
    have hpt := h.parts
    have hfew := h.few
    have h64 := (headArc_len h).1
    have hpl := hp.len
    have hax := putL_small h.at_
    have hb8 : beginL.length = 8 := rfl
    have hfl := flatC_len a.pairs (fun p hp => h.pair hp)
    have e3 : numB (a.pairs.length : Int) 4 = numB (pn : Int) 4 := by rw [hpl]
    refine arcWrite_hid a.n a.parts ad an ac a.at_ pd pn pc a.pairs w (Lib.hid hx) (Lib.hid hp) (Lib.hid ok) (Lib.hid fun p hp => h.pair hp) (Lib.hid hv) (Lib.hid h.at_)
      (strL (numB a.n 1)) (strL (numB a.parts 1)) (strL (putL a.at_)) (strL (numB (pn : Int) 4)) (strL (beginL ++ numB a.n 1)) (strL ((beginL ++ numB a.n 1) ++ numB a.parts 1)) (strL (((beginL ++ numB a.n 1) ++ numB a.parts 1) ++ putL a.at_)) (strL (headArc a))
      (Lib.hid ?_) (headArc a) (Lib.hid rfl) (Lib.hid rfl) (Lib.hid fun w => arnum1 a.n w (by omega) (by omega)) (Lib.hid fun w => arnum1 a.parts w (by omega) (by omega)) (Lib.hid fun w => arnum4 (pn : Int) w (by omega) (by omega)) (bodyArc a) (Lib.hid rfl) ?_
    · constructor
      all_goals first | exact strL_app beginL _ | exact strL_app _ _ | (rw [strL_app]; unfold headArc; rw [e3]; simp only [List.append_assoc]; done) | (refine strL_small1 ?_; (try simp only [List.length_append, numB_len]); omega)
    · unfold bodyArc
      rw [List.length_append]; omega
end Go.Proofs.Ytechiehbigmjbaa
