import Derived.Test.YtaplefelfiefaaaGreatQArchiveTellsUptoP2
import Derived.Test.YtaplefelfiefaaaGreatQArchiveTellsUptoP17
import Derived.Test.YtaplefelfiefaaaGreatQArchiveTellsUptoP16
import Derived.Test.YtaplefelfiefaaaGreatQArchiveTellsUptoP9
import Derived.Test.YtaplefelfiefaaaGreatQArchiveTellsUptoP13
import Derived.Test.YtaplefelfiefaaaGreatQArchiveTellsUptoP14
import Derived.Test.YtaplefelfiefaaaGreatQArchiveTellsUptoP11

/- op.Same. By an AI agent. -/
section
namespace Go.Proofs.YtaplefelfiefaaaGreat
open Go.RowKit


theorem put_agg (k : Int) (x : Nat) (n : Int) (s : ByteArray) (b : ByteArray) (c : Int) (w : World) (oa : Hid (ActL.Ok ⟨k, x, n, s⟩)) (h : Hid (SB b (putS ⟨k, x, n, s⟩) ∧ putC ⟨k, x, n, s⟩ = c)) :
    Calls Tryz.prog 35 #[.agg #[.int .i64 k, .float .f64 x, .int .i64 n, .string s]] w fun e w' => e = .returned (.tuple #[.string b, .int .i64 c]) ∧ Bl w w' := by
  refine (opPut_any ⟨k, x, n, s⟩ w oa.out).mono ?_
  rintro e w' ⟨rfl, hb⟩
  rw [h.out.2, SB.eq h.out.1 (SB.mk _)]
  exact ⟨rfl, hb⟩
end Go.Proofs.YtaplefelfiefaaaGreat
end

/- archive.Write. By an AI agent. -/
section
set_option linter.unusedVariables false
set_option linter.unusedSimpArgs false
namespace Go.Proofs.YtaplefelfiefaaaGreat
open Go.RowKit
attribute [local go_sem] eOp eOper eUpon

/-- the texts of an archive's head, one behind the other -/
structure ArcTexts (q1 q2 q3 q4 p1 p2 p3 p4 : ByteArray) : Prop where
  e1 : (⟨#[66, 69, 68, 82, 79, 67, 75, 49]⟩ : ByteArray) ++ q1 = p1
  y1 : q1.size ≤ 100
  e2 : p1 ++ q2 = p2
  z1 : p1.size ≤ 100
  y2 : q2.size ≤ 100
  e3 : p2 ++ q3 = p3
  z2 : p2.size ≤ 100
  y3 : q3.size ≤ 100
  e4 : p3 ++ q4 = p4
  z3 : p3.size ≤ 100
  y4 : q4.size ≤ 100
/-- .. of a pair -/
structure PairTexts (key b q1 q2 p1 p2 p3 : ByteArray) : Prop where
  e1 : q1 ++ key = p1
  e2 : p1 ++ q2 = p2
  e3 : p2 ++ b = p3
  y1 : q1.size ≤ 2000
  y2 : q2.size ≤ 2000
  yk : key.size ≤ 2000
  yb : b.size ≤ 2000
  z1 : p1.size ≤ 2000
  z2 : p2.size ≤ 2000
theorem flatC_take_len (ps : List (ByteArray × ValL)) (k : Nat) : ((ps.take k).flatMap putPairC).length ≤ (ps.flatMap putPairC).length := by
  have h : (ps.flatMap putPairC) = (ps.take k).flatMap putPairC ++ (ps.drop k).flatMap putPairC := by rw [← List.flatMap_append, List.take_append_drop]
  rw [h, List.length_append]; omega
theorem flatC_take_succ (ps : List (ByteArray × ValL)) {k : Nat} (hk : k < ps.length) : (ps.take (k + 1)).flatMap putPairC = (ps.take k).flatMap putPairC ++ putPairC (nthQ ps k) := by
  rw [List.take_succ_eq_append_getElem hk, List.flatMap_append, nthQ_eq hk]
  simp
theorem pair_texts {key : ByteArray} {v : ValL} {a : ActL} (ha : actOf key v = a) (h : pairB (key, v) = true) :
    PairTexts key (strL (putA a)) (strL (numB (key.size : Int) 1)) (strL (numB ((putA a).length : Int) 2)) (strL (numB (key.size : Int) 1 ++ key.data.toList)) (strL ((numB (key.size : Int) 1 ++ key.data.toList) ++ numB ((putA a).length : Int) 2)) (strL (putPairC (key, v))) := by
  have hf := (pairB_parts h).1
  have h1 := key_size (fits_key hf).1
  have h2 := putA_len (fits_key hf).2
  dsimp only at hf h1 h2
  rw [ha] at h2
  have h3 := size_nil key
  refine ⟨?_, strL_app _ _, ?_, ?_, ?_, by omega, ?_, ?_, ?_⟩
  · conv => lhs; rw [← strL_data key]
    exact strL_app _ _
  · rw [strL_app]
    unfold putPairC
    dsimp only
    rw [ha]
    simp only [List.append_assoc]
  all_goals (rw [strL_size]; (try simp only [List.length_append, numB_len]); omega)
def outL (L : List UInt8) : List UInt8 := if L.length + 4 ≤ 524288 then sealL L else []
def outC (L : List UInt8) : Int := if L.length + 4 ≤ 524288 then 0 else 2

set_option maxHeartbeats 6400000 in
set_option maxRecDepth 100000 in
theorem arcWrite_hid (n parts : Int) (ad : Option Addr) (an ac : Nat) (xs : List Int) (pd : Option Addr) (pn pc : Nat) (ps : List (ByteArray × ValL)) (w : World) (hx : Hid (IA w ad an xs)) (hp : Hid (PA w pd pn ps))
    (hok : Hid (∀ p ∈ ps, p.1.size ≤ 140737488351232 ∧ p.2.Ok)) (hpb : Hid (∀ p ∈ ps, pairB p = true)) (hv : Hid (validArc ⟨n, parts, xs, ps⟩ = true)) (hvx : Hid (validL xs = true))
    (q1 q2 q3 q4 p1 p2 p3 p4 : ByteArray) (N : Hid (ArcTexts q1 q2 q3 q4 p1 p2 p3 p4)) (lf : List UInt8) (hlf : Hid (p4.data.toList = lf)) (hq3 : Hid (strL (putL xs) = q3))
    (C1 : Hid (∀ w, Calls Tryz.prog 34 #[.int .i64 n, .int .i64 1] w fun e w' => e = .returned (.string q1) ∧ Bl w w'))
    (C2 : Hid (∀ w, Calls Tryz.prog 34 #[.int .i64 parts, .int .i64 1] w fun e w' => e = .returned (.string q2) ∧ Bl w w'))
    (C4 : Hid (∀ w, Calls Tryz.prog 34 #[.int .i64 (pn : Int), .int .i64 4] w fun e w' => e = .returned (.string q4) ∧ Bl w w'))
    (L : List UInt8) (hL : Hid (lf ++ ps.flatMap putPairC = L)) (hLl : L.length ≤ 20000000) :
    Calls Tryz.prog 10 #[.agg #[.int .i64 n, .int .i64 parts, .slice ad an ac, .slice pd pn pc]] w fun e w' => e = .returned (.tuple #[.string (strL (outL L)), .int .i64 (outC L)]) ∧ Bl w w' := by
  have hpn := hp.out.cap
  have hsf := store_float
  have hb := (Bl.refl w).alloc (.cells (arcCs n parts ad an ac pd pn pc).toArray 26)
  have hg := AC.new w _ rfl (arcCs n parts ad an ac pd pn pc) 26
  obtain ⟨c0, c1, c2, c3⟩ := AC.arc hg
  unfold arcCs at hg hb c0 c1 c2 c3
  go_enter Tryz.func10, Tryz.ntmps10
  go_wp2_with fail
  generalize w.alloc _ = W at *
  refine (arcValid_hid n parts ad an ac xs pd pn pc ps _ (hx.out.keep hb) (hp.out.keep hb) true hv hok).mono ?_
  rintro e W1 ⟨rfl, hb1⟩
  have HB := Lib.hid (hb.trans hb1)
  have HG := Lib.hid (hg.keep hb1)
  clear hb hb1 hg c0 c1 c2 c3
  have hbi := BI.new W1
  have hbl0 : Bl W1 (W1.alloc (.cells #[.pointer none, .slice none 0 0] 90)) := (Bl.refl W1).alloc _
  have c2 := (AC.arc (HG.out.keep hbl0)).2.2.1
  go_wp2_with fail
  refine (vput_yes ad an ac xs _ (hx.out.keep (HB.out.trans hbl0)) hvx.out).mono ?_
  rintro e W2 ⟨rfl, hb2⟩
  rw [show (⟨(putL xs).toArray⟩ : ByteArray) = q3 from hq3.out]
  clear c2
  go_upto_region 5 with fail
  have hbl2 : Bl W1 W2.drew := (hbl0.trans hb2).drew
  have HI := Lib.hid ((hbi.keep hb2).keep ((Bl.refl _).drew))
  clear hbi hbl0 hb2
  refine wp_region_extC (Bl W1) (fun _ _ h k => h.trans k) hbl2 15 1 (by kernel_rfl) rfl (by kernel_rfl) (by kernel_rfl) ?_
  generalize W2.drew = WD at *
  have HBD := Lib.hid hbl2
  clear hbl2
  generalize hgb : W1.heap.size = gb at *
  have HGB := Lib.hid hgb
  clear hgb
  simp only [List.take_succ_cons, List.take_zero]
  have c0 : ∀ q : ExtC (Bl W1), _ := fun q => (AC.arc (HG.out.keep q.ok)).1
  have c1 : ∀ q : ExtC (Bl W1), _ := fun q => (AC.arc (HG.out.keep q.ok)).2.1
  have c3 : ∀ q : ExtC (Bl W1), _ := fun q => (AC.arc (HG.out.keep q.ok)).2.2.2
  have e1 := N.out.e1
  have e2 := N.out.e2
  have e3 := N.out.e3
  have e4 := N.out.e4
  have s1_ : (9223372036854775807 < 8 + q1.size) = False := eq_false (by have := N.out.y1; omega)
  have s2_ : (9223372036854775807 < p1.size + q2.size) = False := eq_false (by have := N.out.z1; have := N.out.y2; omega)
  have s3_ : (9223372036854775807 < p2.size + q3.size) = False := eq_false (by have := N.out.z2; have := N.out.y3; omega)
  have s4_ : (9223372036854775807 < p3.size + q4.size) = False := eq_false (by have := N.out.z3; have := N.out.y4; omega)
  repeat (refine wpE_step (fun K hK => ?_); go_simp; first | (refine hK _ ?_; clear hK K) | (apply Exists.intro; refine ⟨fun q => ?_, hK _ ?_⟩; (first | with_reducible exact C1.out _ | with_reducible exact C2.out _ | with_reducible exact C4.out _); clear hK K))
  refine wpE_nil ?_
  clear c0 c1 c3 e1 e2 e3 e4 s1_ s2_ s3_ s4_
  refine wpAnyE_one (i := 15) (by kernel_rfl) ?_
  intro W3 hb3
  go_simp
  have hll0 : lf.length ≤ 20000000 := by have := congrArg List.length hL.out; rw [List.length_append] at this; omega
  have hbD := HBD.out.trans hb3
  refine (bi_writeString gb gb [] p4 lf hlf.out W3 (HI.out.keep hb3) (by simp; omega) (by rw [← HGB.out]; exact hbD.size)).mono ?_
  rintro e W4 ⟨rfl, hbi4, hb4⟩
  have hb14 : Bl W1 W4 := by
    rw [← HGB.out] at hb4
    exact Below.trans hbD hb4
  refine ⟨_, rfl, hb14, ?_⟩
  refine wpAnyE_done (by kernel_rfl) ?_
  intro W5 hb5
  have HBI := Lib.hid (hbi4.keep hb5)
  have HB15 := Lib.hid (hb14.trans hb5)
  clear hb14 hbi4 hb5 hb4 hbD HI HBD hb3
  have c3 := (AC.arc (HG.out.keep HB15.out)).2.2.2
  go_wp2_with fail
  clear c3
  go_loopw [39] (fun i wr => ∃ (k : Nat) (l : List UInt8), k ≤ pn ∧ i = .int .i64 k ∧ BI gb gb l wr ∧ Bl W1 wr ∧ l = lf ++ (ps.take k).flatMap putPairC) (fun i _ => pn - (intOf i).toNat)
  case atStart => exact ⟨0, _, Nat.zero_le _, rfl, HBI.out, HB15.out, by simp⟩
  case round =>
    clear HBI HB15
    obtain ⟨k, l, hk, rfl, hbi, hbl, hl⟩ := hrel
    have hll : l.length ≤ 20000000 := by
      have h1 := flatC_take_len ps k
      have h2 := congrArg List.length hL.out
      rw [List.length_append] at h2
      rw [hl, List.length_append]; omega
    have HLN := Lib.hid hl
    have HI := Lib.hid hbi
    have HBL := Lib.hid hbl
    clear hl hbi hbl
    by_cases hlt : k < pn
    · have hkl : k < ps.length := by rw [hp.out.len]; exact hlt
      obtain ⟨ba, oa, rfl, _⟩ := hp.out.cells k hlt
      obtain ⟨c0, c1, c2, c3, c4⟩ := hp.out.get (HB.out.trans HBL.out) hlt
      have HOK := Lib.hid (hok.out _ (nthQ_mem hkl))
      have HPB := Lib.hid (hpb.out _ (nthQ_mem hkl))
      have HTK := Lib.hid (flatC_take_succ ps hkl)
      have hl2 : (l ++ putPairC (nthQ ps k)).length ≤ 20000000 := by
        have h1 := flatC_take_len ps (k + 1)
        have h2 := congrArg List.length hL.out
        rw [List.length_append] at h2
        rw [HLN.out, List.append_assoc, ← HTK.out, List.length_append]; omega
      have HL2 := Lib.hid hl2
      clear hl2 hkl
      generalize nthQ ps k = p at *
      obtain ⟨key, ⟨pt, px, pm, pz⟩⟩ := p
      obtain ⟨⟨ak, ax, an2, az⟩, hA⟩ : ∃ A : ActL, actOf key ⟨pt, px, pm, pz⟩ = A := ⟨_, rfl⟩
      have HA := Lib.hid hA
      have HT := Lib.hid (pair_texts hA HPB.out)
      have hr : rightB ⟨ak, ax, an2, az⟩ = true := by rw [← hA]; exact (fits_key (pairB_parts HPB.out).1).2
      have HPT : Hid (SB (strL (putA ⟨ak, ax, an2, az⟩)) (putS ⟨ak, ax, an2, az⟩) ∧ putC ⟨ak, ax, an2, az⟩ = 0) := Lib.hid (by
        rw [(putS_right hr).1]
        exact ⟨rfl, (putS_right hr).2⟩)
      have HAO := Lib.hid (show (⟨ak, ax, an2, az⟩ : ActL).Ok from hA ▸ actOf_ok key HOK.out.2)
      have hk64 : key.size ≤ 64 := key_size (fits_key (pairB_parts HPB.out).1).1
      have ha26 := putA_len hr
      have HK1 := Lib.hid (fun w => arnum1 (key.size : Int) w (by omega) (by omega))
      have hbz := strL_size (putA ⟨ak, ax, an2, az⟩)
      have HK2 : Hid (∀ w, Calls Tryz.prog 34 #[.int .i64 ((strL (putA ⟨ak, ax, an2, az⟩)).size : Int), .int .i64 2] w fun e w' => e = .returned (.string (strL (numB ((putA ⟨ak, ax, an2, az⟩).length : Int) 2))) ∧ Bl w w') := Lib.hid (fun w => by
        rw [hbz]
        exact arnum2 ((putA ⟨ak, ax, an2, az⟩).length : Int) w (by omega) (by omega))
      dsimp only at c0 c1 c2 c3 c4
      clear hA hr ha26 hbz
      generalize strL (numB (key.size : Int) 1) = t1 at *
      generalize strL (numB ((putA ⟨ak, ax, an2, az⟩).length : Int) 2) = t2 at *
      generalize strL (numB (key.size : Int) 1 ++ key.data.toList) = u1 at *
      generalize strL ((numB (key.size : Int) 1 ++ key.data.toList) ++ numB ((putA ⟨ak, ax, an2, az⟩).length : Int) 2) = u2 at *
      generalize hu3 : strL (putPairC (key, ⟨pt, px, pm, pz⟩)) = u3 at *
      have HU3 : Hid (u3.data.toList = putPairC (key, ⟨pt, px, pm, pz⟩)) := Lib.hid (by rw [← hu3]; rfl)
      clear hu3
      generalize strL (putA ⟨ak, ax, an2, az⟩) = tb at *
      have hFar := Far.new HI.out (.cells #[.string key, .bool pt, .float .f64 px, .int .i64 pm, .string pz] 58)
      have hbw := (Bl.refl wr).alloc (.cells #[.string key, .bool pt, .float .f64 px, .int .i64 pm, .string pz] 58)
      have hgp := AC.new wr _ rfl [.string key, .bool pt, .float .f64 px, .int .i64 pm, .string pz] 58
      have hne : wr.heap.size ≠ gb := Nat.ne_of_gt HI.out.lt
      obtain ⟨g0, g1, g2, g3, g4⟩ := AC.pair hgp
      go_wp2_with fail
      clear g0 g1 g2 g3 g4 c0 c1 c2 c3 c4
      refine (arcAct_agg key pt px pm pz ak ax an2 az _ HOK.out.1 HA).mono ?_
      rintro e w1 ⟨rfl, hb1⟩
      go_wp2_with fail
      refine (put_agg ak ax an2 az tb 0 _ HAO HPT).mono ?_
      rintro e w2 ⟨rfl, hb2⟩
      go_upto_region 10 with fail
      have hi1 := HI.out.keep hbw
      have HFR := Lib.hid (hFar.keep hi1 ((hb1.trans hb2).drew))
      have HI1 := Lib.hid (hi1.keep ((hb1.trans hb2).drew))
      have HBD := Lib.hid (HBL.out.trans (hbw.trans ((hb1.trans hb2).drew)))
      have HGP := Lib.hid (hgp.keep ((hb1.trans hb2).drew))
      clear hi1 hFar hbw hgp hb1 hb2
      generalize hgpe : wr.heap.size = gp at *
      clear hgpe
      refine wp_region_extC (HoldB W1 gp [.string key, .bool pt, .float .f64 px, .int .i64 pm, .string pz]) HoldB.keep ⟨HBD.out, HGP.out⟩ 13 1 (by kernel_rfl) rfl (by kernel_rfl) (by kernel_rfl) ?_
      generalize w2.drew = WD at *
      simp only [List.take_succ_cons, List.take_zero]
      haveI : Nonempty (ExtC (HoldB W1 gp [.string key, .bool pt, .float .f64 px, .int .i64 pm, .string pz])) := ⟨⟨WD, HBD.out, HGP.out⟩⟩
      have d0 : ∀ q : ExtC (HoldB W1 gp [.string key, .bool pt, .float .f64 px, .int .i64 pm, .string pz]), _ := fun q => q.ok.2.cell 0 _ rfl
      have e1 := HT.out.e1
      have e2 := HT.out.e2
      have e3 := HT.out.e3
      have s1_ : (9223372036854775807 < t1.size + key.size) = False := eq_false (by have := HT.out.y1; omega)
      have s2_ : (9223372036854775807 < u1.size + t2.size) = False := eq_false (by have := HT.out.y2; have := HT.out.z1; omega)
      have s3_ : (9223372036854775807 < u2.size + tb.size) = False := eq_false (by have := HT.out.yb; have := HT.out.z2; omega)
      repeat (refine wpE_step (fun K hK => ?_); go_simp; first | (refine hK _ ?_; clear hK K) | (apply Exists.intro; refine ⟨fun q => ?_, hK _ ?_⟩; (first | with_reducible exact HK1.out _ | with_reducible exact HK2.out _); clear hK K))
      refine wpE_nil ?_
      clear d0 e1 e2 e3 s1_ s2_ s3_
      refine wpAnyE_one (i := 13) (by kernel_rfl) ?_
      intro W5 hb5
      go_simp
      refine (bi_writeFar gb gb l u3 (putPairC (key, ⟨pt, px, pm, pz⟩)) HU3.out W5 (HI1.out.keep hb5) (by have := HL2.out; rw [List.length_append] at this; omega) (by rw [← HGB.out]; exact (HBD.out.trans hb5).size) gp _ (HGP.out.keep hb5) hne (HFR.out.keep HI1.out hb5)).mono ?_
      rintro e W6 ⟨rfl, hbi6, hb6, hgp6⟩
      have hb16 : Bl W1 W6 := by
        rw [← HGB.out] at hb6
        exact Below.trans (HBD.out.trans hb5) hb6
      refine ⟨_, rfl, ⟨hb16, hgp6⟩, ?_⟩
      refine wpAnyE_done (by kernel_rfl) ?_
      intro W7 hb7
      have HBI := Lib.hid (hbi6.keep hb7)
      have HB17 := Lib.hid (hb16.trans hb7)
      clear hb16 hbi6 hb6 hb7 hgp6 hb5 HI1 HGP HBD HFR
      go_wp2_with fail
      go_roundw
      case rel => exact ⟨k + 1, _, by omega, by go_num, HBI.out, HB17.out, by rw [HTK.out, HLN.out, List.append_assoc]⟩
      case measure => simp [intOf]; omega
    · have hkp : k = pn := by omega
      subst hkp
      have hfin : l = L := by rw [HLN.out, List.take_of_length_le (by rw [hp.out.len]; exact Nat.le_refl _)]; exact hL.out
      subst hfin
      have HSM := Lib.hid (fun w => sum_any (strL l) w (by rw [strL_size]; omega))
      rw [show (strL l).data.toList = l from rfl] at HSM
      have hsl := sumL_lt l
      have HN4 := Lib.hid (fun w => arnum4 (sumL l : Int) w (by omega) (by omega))
      have HSE : Hid (l ++ numB (sumL l : Int) 4 = sealL l) := Lib.hid rfl
      have HLS := Lib.hid (sealL_len l)
      have HOUT : Hid ((l.length + 4 ≤ 524288 → outL l = sealL l ∧ outC l = 0) ∧ (¬ l.length + 4 ≤ 524288 → outL l = [] ∧ outC l = 2)) := Lib.hid (by
        unfold outL outC
        exact ⟨fun h => by rw [if_pos h, if_pos h]; exact ⟨rfl, rfl⟩, fun h => by rw [if_neg h, if_neg h]; exact ⟨rfl, rfl⟩⟩)
      have HBF := Lib.hid (BF.of HI.out)
      have hq : (strL (numB (sumL l : Int) 4)).data.toList = numB (sumL l : Int) 4 := rfl
      have HQ := Lib.hid hq
      clear hq
      generalize strL (numB (sumL l : Int) 4) = q5 at *
      go_wp2_with fail
      refine (bf_string gb gb l _ HBF.out (by rw [← HGB.out]; exact HBL.out.size)).mono ?_
      rintro e w3 ⟨rfl, hf3, hb3⟩
      rw [show (⟨l.toArray⟩ : ByteArray) = strL l from rfl]
      have hb13 : Bl W1 w3 := by
        rw [← HGB.out] at hb3
        exact Below.trans HBL.out hb3
      generalize strL l = sl at *
      go_wp2_with fail
      refine (HSM.out _).mono ?_
      rintro e w4 ⟨rfl, rfl⟩
      generalize sumL l = sm at *
      go_wp2_with fail
      refine (HN4.out _).mono ?_
      rintro e w4 ⟨rfl, hb4⟩
      have hb14 := hb13.trans hb4
      go_wp2_with fail
      refine (bf_write gb gb l q5 _ HQ.out _ (hf3.keep hb4) (by rw [numB_len]; omega) (by rw [← HGB.out]; exact hb14.size)).mono ?_
      rintro e w5 ⟨rfl, hf5, hb5⟩
      have hb15 : Bl W1 w5 := by
        rw [← HGB.out] at hb5
        exact Below.trans hb14 hb5
      rw [HSE.out] at hf5
      clear hf3 hb3 hb13 hb4 hb14 hb5
      go_wp2_with fail
      refine (bf_len gb gb _ _ hf5).mono ?_
      rintro e w6 ⟨rfl, rfl⟩
      have hzs : ∃ z, (sealL l).length = z ∧ l.length + 4 = z := ⟨_, rfl, HLS.out.symm⟩
      obtain ⟨z, hz1, hz2⟩ := hzs
      rw [hz1]
      rw [hz2] at HOUT
      have HZ1 := Lib.hid hz1
      clear hz1 hz2 HLS
      by_cases hz : z ≤ 524288
      · have q1_ : decide ((524288 : Int) < (z : Int)) = false := decide_eq_false (by omega)
        have q2_ : decide (524288 < z) = false := decide_eq_false (by omega)
        have HO := Lib.hid (HOUT.out.1 hz)
        clear hz
        go_wp2_with fail
        refine (bf_string gb gb _ _ hf5 (by rw [← HGB.out]; exact hb15.size)).mono ?_
        rintro e w7 ⟨rfl, hf7, hb7⟩
        have hb17 : Bl W1 w7 := by
          rw [← HGB.out] at hb7
          exact Below.trans hb15 hb7
        go_wp2_with fail
        go_ret2
        rw [HO.out.1, HO.out.2]
        exact ⟨rfl, HB.out.trans hb17⟩
      · have q1_ : decide ((524288 : Int) < (z : Int)) = true := decide_eq_true (by omega)
        have q2_ : decide (524288 < z) = true := decide_eq_true (by omega)
        have HO := Lib.hid (HOUT.out.2 hz)
        clear hz
        go_wp2_with fail
        go_ret2
        rw [HO.out.1, HO.out.2]
        exact ⟨rfl, HB.out.trans hb15⟩
def wrL (a : ArcL) : List UInt8 := if validArc a then outL (bodyArc a) else []
def wrC (a : ArcL) : Int := if validArc a then outC (bodyArc a) else 1
theorem flatC_len (ps : List (ByteArray × ValL)) (h : ∀ p ∈ ps, pairB p = true) : (ps.flatMap putPairC).length ≤ 1093 * ps.length := by
  induction ps with
  | nil => simp
  | cons p ps ih =>
    have h1 := putPairC_len (h p (by simp))
    have h2 := ih fun q hq => h q (by simp [hq])
    rw [List.flatMap_cons, List.length_append, List.length_cons]; omega
theorem strL_small1 {l : List UInt8} (h : l.length ≤ 100) : (strL l).size ≤ 100 := by rw [strL_size]; exact h
set_option maxRecDepth 100000 in
theorem arcWrite_any (a : ArcL) (ad : Option Addr) (an ac : Nat) (pd : Option Addr) (pn pc : Nat) (w : World) (hx : IA w ad an a.at_) (hp : PA w pd pn a.pairs) (ok : ArcOk a) :
    Calls Tryz.prog 10 #[.agg #[.int .i64 a.n, .int .i64 a.parts, .slice ad an ac, .slice pd pn pc]] w fun e w' => e = .returned (.tuple #[.string (strL (wrL a)), .int .i64 (wrC a)]) ∧ Bl w w' := by
  cases hv : validArc a
  · have e1 : wrL a = [] := by unfold wrL; rw [hv]; rfl
    have e2 : wrC a = 1 := by unfold wrC; rw [hv]; rfl
    rw [e1, e2]
    obtain ⟨n, parts, xs, ps⟩ := a
    dsimp only at *
    have HX := Lib.hid hx
    have HP := Lib.hid hp
    have HV := Lib.hid hv
    have HOK : Hid (∀ p ∈ ps, p.1.size ≤ 140737488351232 ∧ p.2.Ok) := Lib.hid ok
    have hb := (Bl.refl w).alloc (.cells (arcCs n parts ad an ac pd pn pc).toArray 26)
    have hg := AC.new w _ rfl (arcCs n parts ad an ac pd pn pc) 26
    obtain ⟨c0, c1, c2, c3⟩ := AC.arc hg
    unfold arcCs at hg hb c0 c1 c2 c3
    clear hx hp hv ok e1 e2
    go_enter Tryz.func10, Tryz.ntmps10
    go_wp2_with fail
    refine (arcValid_hid n parts ad an ac xs pd pn pc ps _ (HX.out.keep hb) (HP.out.keep hb) false HV HOK).mono ?_
    rintro e W1 ⟨rfl, hb1⟩
    go_wp2_with fail
    go_ret2
    exact ⟨rfl, hb.trans hb1⟩
  · have e1 : wrL a = outL (bodyArc a) := by unfold wrL; rw [hv]; rfl
    have e2 : wrC a = outC (bodyArc a) := by unfold wrC; rw [hv]; rfl
    rw [e1, e2]
    have h := validArc_parts hv
    have hn := h.n
    have hpt := h.parts
    have hfew := h.few
    have h64 := (headArc_len h).1
    have hpl := hp.len
    have hax := putL_small h.at_
    have hb8 : beginL.length = 8 := rfl
    have hfl := flatC_len a.pairs (fun p hp => h.pair hp)
    have e3 : numB (a.pairs.length : Int) 4 = numB (pn : Int) 4 := by rw [hpl]
    refine arcWrite_hid a.n a.parts ad an ac a.at_ pd pn pc a.pairs w (Lib.hid hx) (Lib.hid hp) (Lib.hid ok) (Lib.hid fun p hp => h.pair hp) (Lib.hid hv) (Lib.hid h.at_)
      (strL (numB a.n 1)) (strL (numB a.parts 1)) (strL (putL a.at_)) (strL (numB (pn : Int) 4)) (strL (beginL ++ numB a.n 1)) (strL ((beginL ++ numB a.n 1) ++ numB a.parts 1)) (strL (((beginL ++ numB a.n 1) ++ numB a.parts 1) ++ putL a.at_)) (strL (headArc a))
      (Lib.hid ?_) (headArc a) (Lib.hid rfl) (Lib.hid rfl) (Lib.hid fun w => arnum1 a.n w (by omega) (by omega)) (Lib.hid fun w => arnum1 a.parts w (by omega) (by omega)) (Lib.hid fun w => arnum4 (pn : Int) w (by omega) (by omega)) (bodyArc a) (Lib.hid rfl) ?_
    · constructor
      all_goals first | exact strL_app beginL _ | exact strL_app _ _ | (rw [strL_app]; unfold headArc; rw [e3]; simp only [List.append_assoc]; done) | (refine strL_small1 ?_; (try simp only [List.length_append, numB_len]); omega)
    · unfold bodyArc
      rw [List.length_append]; omega
end Go.Proofs.YtaplefelfiefaaaGreat
end

/- the state of archive.read. · archive.read. By an AI agent. -/
section
set_option linter.unusedVariables false
set_option linter.unusedSimpArgs false
namespace Go.Proofs.YtaplefelfiefaaaGreat
open Go.RowKit

def zeroArcCs : List Value := arcCs 0 0 none 0 0 none 0 0
structure AGR (w W : World) (l : List UInt8) : Prop where
  bl : Bl w W
  r : AC W w.heap.size zeroArcCs
  c : C1 W (w.heap.size + 1) (.string (strL l))
theorem AGR.keep {w W W' : World} {l : List UInt8} (h : AGR w W l) (k : Bl W W') : AGR w W' l := ⟨h.bl.trans k, h.r.keep k, h.c.keep k⟩
theorem AGR.set {w W : World} {l : List UInt8} (h : AGR w W l) (m : List UInt8) : AGR w (W.setCell ⟨w.heap.size + 1, 0, none⟩ (.string (strL m))) m :=
  ⟨h.bl.setCell (p := ⟨w.heap.size + 1, 0, none⟩) (Nat.le_succ _) _, h.r.other (by omega), h.c.set _⟩
theorem AGR.new (w : World) (l : List UInt8) (T U : TypeId) : AGR w ((w.alloc (.cells zeroArcCs.toArray T)).alloc (.cells #[.string (strL l)] U)) l :=
  ⟨((Bl.refl w).alloc _).alloc _, (AC.new w _ rfl zeroArcCs T).keep ((Bl.refl _).alloc _), C1.new _ (w.heap.size + 1) (by simp) _ U⟩
theorem AGR.bad {w W W' : World} {l : List UInt8} (h : AGR w W l) {r : ByteArray} (hb : Bl (W.setCell ⟨w.heap.size + 1, 0, none⟩ (.string r)) W') : Bl w W' :=
  (show Bl w (W.setCell ⟨w.heap.size + 1, 0, none⟩ (.string r)) from h.bl.setCell (p := ⟨w.heap.size + 1, 0, none⟩) (Nat.le_succ _) _).trans hb
theorem AGR.lt {w W : World} {l : List UInt8} (h : AGR w W l) : w.heap.size + 1 < W.heap.size := h.c.lt
/-- .. and the archive's own box, its vector, its pairs so far (which lie from block B on) -/
structure APG (w W : World) (l : List UInt8) (gx B : Nat) (cs : List Value) (ad : Option Addr) (n : Nat) (xs : List Int) (pv : Value) (k : Nat) (acc : List (ByteArray × ValL)) : Prop where
  g : AGR w W l
  a : AC W gx cs
  x : FarO (gx + 1) W ad n (cap2 cs) xs
  ap : ∀ b off, ad = some ⟨b, off, none⟩ → gx < b ∧ b < B
  o : OPR B W pv k acc
  ge : w.heap.size + 1 + 1 ≤ gx
  gb : gx < B
  lt : B ≤ W.heap.size
theorem APG.keep {w W W' : World} {l : List UInt8} {gx B : Nat} {cs : List Value} {ad : Option Addr} {n : Nat} {xs : List Int} {pv : Value} {k : Nat} {acc : List (ByteArray × ValL)} (h : APG w W l gx B cs ad n xs pv k acc) (b : Bl W W') : APG w W' l gx B cs ad n xs pv k acc :=
  ⟨h.g.keep b, h.a.keep b, h.x.keep b, h.ap, h.o.keep b, h.ge, h.gb, Nat.le_trans h.lt b.size⟩
theorem APG.set {w W : World} {l : List UInt8} {gx B : Nat} {cs : List Value} {ad : Option Addr} {n : Nat} {xs : List Int} {pv : Value} {k : Nat} {acc : List (ByteArray × ValL)} (h : APG w W l gx B cs ad n xs pv k acc) (m : List UInt8) : APG w (W.setCell ⟨w.heap.size + 1, 0, none⟩ (.string (strL m))) m gx B cs ad n xs pv k acc := by
  have hge := h.ge
  have hgb := h.gb
  exact ⟨h.g.set m, h.a.other (by omega), h.x.apart (fun b off e => by have := h.ap b off e; omega) _ _, h.ap, h.o.set (by omega) _ _, h.ge, h.gb, by simpa using h.lt⟩
theorem APG.new {w W : World} {l : List UInt8} {gx : Nat} {cs : List Value} {ad : Option Addr} {n : Nat} {xs : List Int} (g : AGR w W l) (a : AC W gx cs) (x : FarO (gx + 1) W ad n (cap2 cs) xs) (hge : w.heap.size + 1 + 1 ≤ gx) : APG w W l gx W.heap.size cs ad n xs (.slice none 0 0) 0 [] :=
  ⟨g, a, x, fun b off e => by have h1 := x.block b off e; omega, OPR.nil _ _, hge, a.lt, Nat.le_refl _⟩
/-- a pair is put behind the others -/
theorem APG.app {w W W' : World} {l : List UInt8} {gx B : Nat} {cs : List Value} {ad : Option Addr} {n : Nat} {xs : List Int} {pv v' : Value} {k : Nat} {acc : List (ByteArray × ValL)} (h : APG w W l gx B cs ad n xs pv k acc) (p : ByteArray × ValL)
    (ho : W'.ownsRow B 58 5 v' (k + 1) (cellsP acc ++ pairCs p)) (hg : W.grownBy W' pv.ownBlock) : APG w W' l gx B cs ad n xs v' (k + 1) (acc ++ [p]) := by
  have hb : Below B W W' := Below.grown (Below.refl _ W) hg h.lt (fun q hq => (World.ownsRow.lt h.o.2 q hq).1)
  have hge := h.ge
  have hgb := h.gb
  refine ⟨⟨Below.trans h.g.bl (Below.mono hb (by omega)), h.g.r.below hb (by omega), h.g.c.below hb (by omega)⟩, h.a.below hb (by omega), h.x.below hb (fun b off e => by have := h.ap b off e; omega), h.ap, ⟨by rw [List.length_append, h.o.1]; rfl, by rw [cellsP_snoc]; exact ho⟩, h.ge, h.gb, Nat.le_trans h.lt hb.size⟩
/-- .. and stored -/
theorem APG.store {w W : World} {l : List UInt8} {gx B : Nat} {cs : List Value} {ad : Option Addr} {n : Nat} {xs : List Int} {pv : Value} {k : Nat} {acc : List (ByteArray × ValL)} (h : APG w W l gx B cs ad n xs pv k acc) (j : Nat) (v : Value) (hj : j ≠ 2 := by decide) : APG w (W.setCell ⟨gx, j, none⟩ v) l gx B (cs.set j v) ad n xs pv k acc := by
  have hge := h.ge
  have hgb := h.gb
  exact ⟨⟨h.g.bl.setCell (p := ⟨gx, j, none⟩) (by show w.heap.size ≤ gx; omega) v, h.g.r.other (by omega), h.g.c.otherj (by omega)⟩, h.a.setj j v, by rw [cap2_set cs hj]; exact h.x.apart (fun b off e => by have := h.ap b off e; omega) _ _, h.ap, h.o.set (by omega) _ _, h.ge, h.gb, by simpa using h.lt⟩

/-- what reading comes to -/
def ArcPost (w : World) (l : List UInt8) (e : Ending) (w' : World) : Prop :=
  (∃ (a : ArcL) (ad : Option Addr) (n ca : Nat) (pd : Option Addr) (pn pc : Nat), rdArc l = some a ∧ e = .returned (arcV a.n a.parts ad n ca pd pn pc) ∧ FarO w.heap.size w' ad n ca a.at_ ∧ FarPO w.heap.size w' pd pn pc a.pairs ∧ Bl w w') ∨
  (rdArc l = none ∧ e = panR ∧ Bl w w')
theorem ar_results {tmps : Array Value} {W : World} {g : Nat} {n parts : Int} {ad : Option Addr} {an ac : Nat} {pd : Option Addr} {pn pc : Nat} (h : tmps.getD 2 undef = .pointer (some ⟨g, 0, none⟩)) (hc : AC W g (arcCs n parts ad an ac pd pn pc)) :
    (results Tryz.f40 tmps).run Tryz.prog W = .ok (arcV n parts ad an ac pd pn pc) W := by
  rw [Array.getD_eq_getD_getElem?] at h
  obtain ⟨c0, c1, c2, c3⟩ := hc.arc
  simp [results, Tryz.results40, go_sem, h, c0, c1, c2, c3, arcV]
/-- why nothing is read -/
theorem rdArc_none {l body : List UInt8} (hb : l.take (l.length - 4) = body) (h : rdBody body = none) : rdArc l = none := by
  unfold rdArc
  rw [hb, h]
  split <;> rfl
theorem rdArc_short {l : List UInt8} (h : ¬ (12 ≤ l.length ∧ l.length ≤ 524288)) : rdArc l = none := by
  unfold rdArc
  rw [if_neg (fun q => h ⟨q.1, q.2.1⟩)]
theorem rdArc_sum {l : List UInt8} (h : numB (sumL (l.take (l.length - 4)) : Int) 4 ≠ l.drop (l.length - 4)) : rdArc l = none := by
  unfold rdArc
  rw [if_neg (fun q => h q.2.2)]
theorem wr_iff (a : ArcL) (l : List UInt8) (hl : l.length ≤ 524288) : (wrC a = 0 ∧ wrL a = l) ↔ (validArc a = true ∧ putArc a = l) := by
  unfold wrC wrL
  cases hv : validArc a
  · simp
  · simp only [if_true, true_and]
    unfold outC outL
    have hs := sealL_len (bodyArc a)
    by_cases h : (bodyArc a).length + 4 ≤ 524288
    · rw [if_pos h, if_pos h]
      simp [putArc]
    · rw [if_neg h]
      constructor
      · rintro ⟨h1, _⟩; exact absurd h1 (by decide)
      · intro h2
        unfold putArc at h2
        rw [h2] at hs
        omega
theorem rdArc_of {l body m : List UInt8} {a : ArcL} (h1 : 12 ≤ l.length) (h2 : l.length ≤ 524288) (hb : l.take (l.length - 4) = body) (hs : numB (sumL body : Int) 4 = l.drop (l.length - 4)) (h : rdBody body = some (a, m)) :
    rdArc l = if wrC a = 0 ∧ wrL a = l then some a else none := by
  unfold rdArc
  rw [hb, if_pos ⟨h1, h2, hs⟩, h, Option.bind_some]
  dsimp only
  by_cases q : validArc a = true ∧ putArc a = l
  · rw [if_pos q, if_pos ((wr_iff a l h2).2 q)]
  · rw [if_neg q, if_neg (fun k => q ((wr_iff a l h2).1 k))]
end Go.Proofs.YtaplefelfiefaaaGreat

set_option linter.unusedVariables false
set_option linter.unusedSimpArgs false
namespace Go.Proofs.YtaplefelfiefaaaGreat
open Go.RowKit
attribute [local go_sem] eOp eOper eUpon pOp pOper pUpon

/-- worlds that hold two boxes -/
def HasTwo (g : Nat) (cs : List Value) (g' : Nat) (ds : List Value) (W' : World) : Prop := AC W' g cs ∧ AC W' g' ds
theorem HasTwo.keep {g g' : Nat} {cs ds : List Value} (w w' : World) (h : HasTwo g cs g' ds w) (k : Bl w w') : HasTwo g cs g' ds w' := ⟨h.1.keep k, h.2.keep k⟩
theorem AC.grown {w w' : World} {g : Nat} {cs : List Value} {row : Option Nat} (h : AC w g cs) (hg : w.grownBy w' row) (hn : some g ≠ row) : AC w' g cs := by
  obtain ⟨t, h⟩ := h
  exact ⟨t, by rw [hg.block g (lt_of_heap h) hn]; exact h⟩
theorem rdNumC_len {n : Nat} {l m : List UInt8} {x : Int} (h : rdNum n l = some (x, m)) : m.length ≤ l.length := by
  obtain ⟨e, -⟩ := rdNum_back h
  rw [e, List.length_append]; omega
theorem arread_short (l : List UInt8) (w : World) (h : ¬ (12 ≤ l.length ∧ l.length ≤ 524288)) :
    Calls Tryz.prog 40 #[.string (strL l)] w (ArcPost w l) := by
  have zl := strL_size l
  have HR := Lib.hid (rdArc_short h)
  have hb := (Bl.refl w).alloc (.cells zeroArcCs.toArray 26)
  have HB := Lib.hid hb
  unfold zeroArcCs arcCs at HB
  clear hb
  generalize strL l = sl at *
  generalize l.length = N at *
  by_cases h12 : 12 ≤ N
  · have q1 : decide ((12 : Int) ≤ (N : Int)) = true := decide_eq_true (by omega)
    have q2 : decide ((N : Int) ≤ 524288) = false := decide_eq_false (by omega)
    have q3 : decide (12 ≤ N) = true := decide_eq_true (by omega)
    have q4 : decide (N ≤ 524288) = false := decide_eq_false (by omega)
    clear h h12
    go_enter Tryz.func40, Tryz.ntmps40
    go_wp2_with fail
    refine (arwant_no _).mono ?_
    rintro e W12 ⟨rfl, rfl⟩
    unfold panR
    go_wp2_with fail
    exact ⟨rfl, .inr ⟨HR.out, rfl, HB.out⟩⟩
  · have q1 : decide ((12 : Int) ≤ (N : Int)) = false := decide_eq_false (by omega)
    have q3 : decide (12 ≤ N) = false := decide_eq_false (by omega)
    clear h h12
    go_enter Tryz.func40, Tryz.ntmps40
    go_wp2_with fail
    refine (arwant_no _).mono ?_
    rintro e W12 ⟨rfl, rfl⟩
    unfold panR
    go_wp2_with fail
    exact ⟨rfl, .inr ⟨HR.out, rfl, HB.out⟩⟩

set_option maxHeartbeats 12800000 in
set_option maxRecDepth 100000 in
theorem arread_long (l body tr : List UInt8) (m : Nat) (w : World) (hm : l.length = m + 4) (h8 : 8 ≤ m) (hmx : m + 4 ≤ 524288) (hbd : l.take m = body) (htr : l.drop m = tr) :
    Calls Tryz.prog 40 #[.string (strL l)] w (ArcPost w l) := by
  have hsf := store_float
  have zl := strL_size l
  rw [hm] at zl
  have e1 : (strL l).extract 0 m = strL body := by rw [strL_take, hbd]
  have e2 : (strL l).extract m (m + 4) = strL tr := by
    have := strL_drop l m
    rw [zl, htr] at this
    exact this
  have hbl : body.length = m := by rw [← hbd, List.length_take]; omega
  have HBD : Hid (l.take (l.length - 4) = body) := Lib.hid (by rw [hm, Nat.add_sub_cancel]; exact hbd)
  have HTR : Hid (l.drop (l.length - 4) = tr) := Lib.hid (by rw [hm, Nat.add_sub_cancel]; exact htr)
  have HL := Lib.hid hm
  have HBL := Lib.hid hbl
  have hb := AGR.new w body 26 152
  unfold zeroArcCs arcCs at hb
  have q1 : decide ((12 : Int) ≤ ((m + 4 : Nat) : Int)) = true := decide_eq_true (by omega)
  have q2 : decide (((m + 4 : Nat) : Int) ≤ 524288) = true := decide_eq_true (by omega)
  have hsub : ((m + 4 : Nat) : Int) - 4 = (m : Int) := by omega
  have hwr : IntKind.i64.wrap (m : Int) = (m : Int) := by rw [IntKind.wrap_i64]; omega
  have hmN : m ≤ m + 4 := Nat.le_add_right _ _
  generalize hN : m + 4 = N at *
  have HN := Lib.hid hN
  clear hN hm hbd htr hbl
  generalize hsl : strL l = sl at *
  have HSL := Lib.hid hsl
  clear hsl
  go_enter Tryz.func40, Tryz.ntmps40
  go_wp2_with fail
  refine (arwant_yes _).mono ?_
  rintro e W12 ⟨rfl, rfl⟩
  go_upto_region 3 with fail
  generalize (w.alloc (.cells #[.int .i64 0, .int .i64 0, .slice none 0 0, .slice none 0 0] 26)).alloc _ = W at *
  have HS := Lib.hid (fun w => sum_any (strL body) w (by rw [strL_size, HBL.out]; omega))
  rw [show (strL body).data.toList = body from rfl] at HS
  have hsl := sumL_lt body
  have HN4 := Lib.hid (fun w => arnum4 (sumL body : Int) w (by omega) (by omega))
  have HSB : Hid (∀ w, Calls Tryz.prog 36 #[.string (strL body)] w fun e w' => e = .returned (.int .i64 (sumL body)) ∧ Bl w w') := Lib.hid (fun w => by
    refine (HS.out w).mono ?_
    rintro e w' ⟨rfl, rfl⟩
    exact ⟨rfl, Bl.refl _⟩)
  clear HS
  have hbD := hb.keep ((Bl.refl W).drew)
  clear hb
  by_cases hs : numB (sumL body : Int) 4 = tr
  · have qe : ((strL (numB (sumL body : Int) 4)).toList == (strL tr).toList) = true := by rw [SB.beq (strL_SB _) (strL_SB _)]; exact decide_eq_true hs
    have HSS' := Lib.hid hs
    clear hs
    generalize strL (numB (sumL body : Int) 4) = qx at *
    generalize strL tr = qt at *
    generalize hsb : strL body = sb at *
    have hsmE : ∃ sm, sumL body = sm := ⟨_, rfl⟩
    obtain ⟨sm, hsm⟩ := hsmE
    have HSMB := Lib.hid hsm
    rw [hsm] at HSB HN4
    clear hsm hsl
    refine wp_region_panicsT [0, 1, 2, 3, 4, 5, 6, 7, 8, 9, 10, 11, 12, 13] 4 (HasBox (w.heap.size + 1) [.string sb]) HasBox.keep (by rw [← hsb]; exact hbD.c) [14, 15, 16, 17] (fun c W' => c = [{ v := .iface 49 (.int .i64 70), recovered := false }] ∧ rdArc l = none ∧ Bl w W') ?hR (by kernel_rfl) rfl (by kernel_rfl) (by kernel_rfl) (by kernel_rfl) ?_
    case hR =>
      rintro c tt W' ⟨rfl, hn, hb⟩
      go_simp
      go_wp2_with fail
      exact ⟨rfl, .inr ⟨hn, rfl, hb⟩⟩
    generalize W.drew = WD at *
    haveI : Nonempty (ExtC (HasBox (w.heap.size + 1) [.string sb])) := ⟨⟨WD, by rw [← hsb]; exact hbD.c⟩⟩
    have d7 : ∀ q : ExtC (HasBox (w.heap.size + 1) [.string sb]), _ := fun q => AC.cell q.ok 0 _ rfl
    repeat (refine wpI_step rfl (fun K hK => ?_); go_simp; first | (refine hK _ ?_; clear hK K) | (apply Exists.intro; refine ⟨fun q => ?_, hK _ ?_⟩; (first | with_reducible exact HSB.out _ | with_reducible exact HN4.out _); clear hK K))
    refine wpI_nil ?_
    clear d7 this qe e1 e2 hsub hwr hmN q1 q2
    refine wpAnyP_one (i := 14) (by kernel_rfl) ?_
    intro W8 hb8
    go_simp
    have G8 := Lib.hid (hbD.keep hb8)
    clear hb8 hbD
    refine (artake_some (w.heap.size + 1) body 8 W8 G8.out.c (by rw [HBL.out]; exact h8)).mono ?_
    rintro e W9 ⟨rfl, rfl⟩
    have G9 := Lib.hid (G8.out.set (body.drop 8))
    have HT8 : Hid (rdTake 8 body = some (body.take 8, body.drop 8)) := Lib.hid (by unfold rdTake; rw [if_pos (by rw [HBL.out]; exact h8)])
    clear G8
    generalize World.setCell _ _ (.string (strL (body.drop 8))) = W9 at *
    refine .inl ⟨_, rfl, ?_⟩
    by_cases hbg : body.take 8 = beginL
    · have qb : ((strL (body.take 8)).toList == [66, 69, 68, 82, 79, 67, 75, 49]) = true := by rw [hbg, ByteArray.toList_eq]; rfl
      have HBG := Lib.hid hbg
      clear hbg
      generalize strL (body.take 8) = s8 at *
      refine wpAnyP_one (i := 15) (by kernel_rfl) ?_
      intro W10 hb10
      go_simp
      refine wpAnyP_one (i := 16) (by kernel_rfl) ?_
      intro W11 hb11
      go_simp
      refine wpAnyP_one (i := 17) (by kernel_rfl) ?_
      intro W12 hb12
      go_simp
      refine (arwant_yes _).mono ?_
      rintro e W13 ⟨rfl, rfl⟩
      refine .inl ⟨_, rfl, ?_⟩
      refine wpAnyP_done (by kernel_rfl) ?_
      intro W14 hb14
      clear qb
      have G := Lib.hid (G9.out.keep ((hb10.trans (hb11.trans hb12)).trans hb14))
      clear hb10 hb11 hb12 hb14 G9
      have hz0 : (body.drop 8).length ≤ 524288 := by rw [List.length_drop, HBL.out]; have := HN.out; omega
      generalize body.drop 8 = l8 at *
      go_wp2_with fail
      refine (arnumR_any (w.heap.size + 1) l8 1 _ G.out.c (by decide) (by decide)).mono ?_
      rintro e W15 (⟨n, l9, h9, rfl, rfl⟩ | ⟨hn, rfl, rfl⟩)
      case inr =>
        unfold panR
        go_wp2_with fail
        exact ⟨rfl, .inr ⟨rdArc_none HBD.out (by simp [rdBody, rdFront, HT8.out, HBG.out, hn]), rfl, G.out.bl⟩⟩
      have H9 := Lib.hid h9
      have hz9 : l9.length ≤ 524288 := by have := rdNumC_len h9; omega
      replace G := Lib.hid (G.out.set l9)
      clear h9
      generalize World.setCell _ _ (.string (strL l9)) = W15 at *
      go_wp2_with fail
      refine (arnumR_any (w.heap.size + 1) l9 1 _ G.out.c (by decide) (by decide)).mono ?_
      rintro e W16 (⟨parts, l10, h10, rfl, rfl⟩ | ⟨hn, rfl, rfl⟩)
      case inr =>
        unfold panR
        go_wp2_with fail
        exact ⟨rfl, .inr ⟨rdArc_none HBD.out (by simp [rdBody, rdFront, HT8.out, HBG.out, H9.out, hn]), rfl, G.out.bl⟩⟩
      have H10 := Lib.hid h10
      have hz10 : l10.length ≤ 524288 := by have := rdNumC_len h10; omega
      replace G := Lib.hid (G.out.set l10)
      clear h10
      generalize World.setCell _ _ (.string (strL l10)) = W16 at *
      have hga := AC.new W16 _ rfl (arcCs n parts none 0 0 none 0 0) 26
      have hgb := (Bl.refl W16).alloc (.cells (arcCs n parts none 0 0 none 0 0).toArray 26)
      unfold arcCs at hga hgb
      have hlt := G.out.lt
      have G2 := Lib.hid (G.out.keep hgb)
      have cz := G2.out.c.cell
      go_wp2_with fail
      have GA := Lib.hid hga
      have hsz : (W16.alloc (.cells #[.int .i64 n, .int .i64 parts, .slice none 0 0, .slice none 0 0] 26)).heap.size = W16.heap.size + 1 := by simp
      clear hga hgb cz G
      generalize W16.alloc _ = W17 at *
      generalize W16.heap.size = gx at *
      refine (vget_rd (strL l10) l10 _ (strL_SB _) (by omega)).mono ?_
      rintro e W18 (⟨xs, l11, v, hv, rfl, hfi, hb⟩ | ⟨hv, c, hc, rfl, hb⟩)
      case inr =>
        have HN := Lib.hid (rdArc_none HBD.out (by simp [rdBody, rdFront, HT8.out, HBG.out, H9.out, H10.out, hv]))
        have HB := Lib.hid (G2.out.bl.trans hb)
        clear hv hb
        rcases hc with rfl | rfl
        · go_wp2_with fail
          refine (arwant_no _).mono ?_
          rintro e W19 ⟨rfl, rfl⟩
          unfold panR
          go_wp2_with fail
          exact ⟨rfl, .inr ⟨HN.out, rfl, HB.out⟩⟩
        · go_wp2_with fail
          refine (arwant_no _).mono ?_
          rintro e W19 ⟨rfl, rfl⟩
          unfold panR
          go_wp2_with fail
          exact ⟨rfl, .inr ⟨HN.out, rfl, HB.out⟩⟩
      obtain ⟨va, vn, vc, rfl, hI⟩ := hfi.si
      have HV := Lib.hid hv
      have hvl := rdV_len hv
      have hdr : l10.drop (1 + 6 * xs.length) = l11 := by rw [(rdV_back hv).1, List.drop_left' (by rw [putL_len])]
      have hF0 : FarO _ _ _ _ _ _ := hfi
      rw [hsz] at hF0
      generalize hk : 1 + 6 * xs.length = kv at *
      have G3 := Lib.hid (G2.out.keep hb)
      have GA3 := Lib.hid (GA.out.keep hb)
      have HF3 := Lib.hid hF0
      have HDR := Lib.hid hdr
      have hz11 : l11.length ≤ 524288 := by omega
      have hkl : kv ≤ l10.length := by omega
      clear hv hfi hI hb hF0 hdr G2 GA hsz hk hvl
      go_wp2_with fail
      refine (arwant_yes _).mono ?_
      rintro e W19 ⟨rfl, rfl⟩
      go_wp2_with fail
      refine (artake_some (w.heap.size + 1) l10 kv _ G3.out.c hkl).mono ?_
      rintro e W19 ⟨rfl, rfl⟩
      rw [HDR.out]
      have G4 := Lib.hid (G3.out.set l11)
      have GA4 := Lib.hid (GA3.out.other (j := 0) (u := .string (strL l11)) (by omega : gx ≠ w.heap.size + 1))
      have HF4 := Lib.hid (HF3.out.set (q := w.heap.size + 1) (by omega) 0 (.string (strL l11)))
      clear G3 GA3 HF3
      generalize World.setCell _ _ (.string (strL l11)) = W19 at *
      have a2 := (AC.arc GA4.out).2.2.1
      have f2 := GA4.out.frozen 2
      have cz := G4.out.c
      have P0 := APG.new (n := vn) ⟨G4.out.bl.setCell (p := ⟨gx, 2, none⟩) (by show w.heap.size ≤ gx; omega) (.slice va vn vc), G4.out.r.other (j := 2) (u := .slice va vn vc) (by omega : w.heap.size ≠ gx), G4.out.c.otherj (j := 2) (u := .slice va vn vc) (by omega : w.heap.size + 1 ≠ gx)⟩ (GA4.out.setj 2 (.slice va vn vc)) (HF4.out.set (q := gx) (Nat.lt_succ_self _) 2 (.slice va vn vc)) (by omega : w.heap.size + 1 + 1 ≤ gx)
      clear cz
      go_wp2_with fail
      clear a2 f2 G4 GA4 HF4
      have P1 := Lib.hid (show APG w _ l11 gx _ (arcCs n parts va vn vc none 0 0) va vn xs (.slice none 0 0) 0 [] from P0)
      clear P0
      generalize (W19.setCell ⟨gx, 2, none⟩ (.slice va vn vc)) = W20 at *
      generalize hBB : W20.heap.size = B at *
      clear hBB
      refine (arnumR_any (w.heap.size + 1) l11 4 _ P1.out.g.c (by decide) (by decide)).mono ?_
      rintro e W21 (⟨pnI, l12, h12, rfl, rfl⟩ | ⟨hn, rfl, rfl⟩)
      case inr =>
        unfold panR
        go_wp2_with fail
        exact ⟨rfl, .inr ⟨rdArc_none HBD.out (by simp [rdBody, rdFront, HT8.out, HBG.out, H9.out, H10.out, HV.out, hn]), rfl, P1.out.g.bl⟩⟩
      have H12 := Lib.hid h12
      have hz12 : l12.length ≤ 524288 := by have := rdNumC_len h12; omega
      have HZ12 := Lib.hid hz12
      have hbk := rdNum_back h12
      obtain ⟨pn, rfl⟩ := Int.eq_ofNat_of_zero_le hbk.2.1
      have hpn : pn < 4294967296 := by have := hbk.2.2; rw [show (256 : Int) ^ 4 = 4294967296 from rfl] at this; omega
      have Q := Lib.hid (P1.out.set l12)
      clear h12 hbk P1
      generalize World.setCell _ _ (.string (strL l12)) = W21 at *
      have HRB : Hid (rdBody body = (rdPairsC pn l12).map fun q => (⟨n, parts, xs, q.1⟩, q.2)) := Lib.hid (by
        unfold rdBody rdFront
        rw [HT8.out, Option.bind_some, if_pos HBG.out, H9.out, Option.bind_some, H10.out, Option.bind_some, HV.out, Option.bind_some, H12.out, Option.bind_some, Option.bind_some]
        dsimp only
        rw [Int.toNat_natCast])
      clear H9 H10 H12 HV HT8 HBG hz0 hz9 hz10 hz11 hkl
      go_wp2_with fail
      go_loopw [70] (fun i wr => ∃ (k : Nat) (lk : List UInt8) (acc : List (ByteArray × ValL)) (pd : Option Addr) (pc : Nat), k ≤ pn ∧ i = .int .i64 k ∧ APG w wr lk gx B (arcCs n parts va vn vc pd k pc) va vn xs (.slice pd k pc) k acc ∧ lk.length ≤ 524288 ∧ rdPairsC pn l12 = (rdPairsC (pn - k) lk).map fun p => (acc ++ p.1, p.2)) (fun i _ => pn - (intOf i).toNat)
      case atStart => exact ⟨0, l12, [], none, 0, Nat.zero_le _, rfl, Q.out, hz12, by simp⟩
      case round =>
        clear Q hz12
        obtain ⟨k, lk, acc, pd, pc, hk, rfl, hP, hzk, hrd⟩ := hrel
        have Q := Lib.hid hP
        have HD := Lib.hid hrd
        have HZ := Lib.hid hzk
        clear hP hrd hzk
        by_cases hlt2 : k < pn
        · obtain ⟨jj, hj⟩ : ∃ jj, pn - k = jj + 1 := ⟨pn - k - 1, by omega⟩
          rw [hj] at HD
          have hnone : ∀ {x : Option ((ByteArray × ValL) × List UInt8)}, rdPairC lk = x → x = none → rdArc l = none := fun h1 h2 => rdArc_none HBD.out (by rw [HRB.out, HD.out]; simp [rdPairsC, h1, h2])
          have HNO := Lib.hid (fun (h : rdPairC lk = none) => hnone rfl h)
          clear hnone
          go_wp2_with fail
          refine (arnumR_any (w.heap.size + 1) lk 1 _ Q.out.g.c (by decide) (by decide)).mono ?_
          rintro e X1 (⟨kn, la, ha, rfl, rfl⟩ | ⟨hn, rfl, rfl⟩)
          case inr =>
            unfold panR
            go_wp2_with fail
            exact ⟨rfl, .inr ⟨HNO.out (by simp [rdPairC, hn]), rfl, Q.out.g.bl⟩⟩
          have HA := Lib.hid ha
          have hza : la.length ≤ 524288 := by have := rdNumC_len ha; have := HZ.out; omega
          have hbk := rdNum_back ha
          obtain ⟨kn, rfl⟩ := Int.eq_ofNat_of_zero_le hbk.2.1
          have Q1 := Lib.hid (Q.out.set la)
          clear ha hbk
          generalize World.setCell _ _ (.string (strL la)) = X1 at *
          go_wp2_with fail
          refine (artake_any (w.heap.size + 1) la kn _ Q1.out.g.c).mono ?_
          rintro e X2 (⟨key, lb, hb, rfl, rfl⟩ | ⟨hn, rfl, rfl⟩)
          case inr =>
            unfold panR
            go_wp2_with fail
            exact ⟨rfl, .inr ⟨HNO.out (by simp [rdPairC, HA.out, hn]), rfl, Q1.out.g.bl⟩⟩
          have HB := Lib.hid hb
          have hzb : lb.length ≤ 524288 ∧ key.length ≤ 524288 := by have := rdTake_back hb; have h2 := congrArg List.length this.1; rw [List.length_append] at h2; omega
          have Q2 := Lib.hid (Q1.out.set lb)
          clear hb Q1
          generalize World.setCell _ _ (.string (strL lb)) = X2 at *
          have HCL := Lib.hid (fun w => cloneB_any (strL key) w (by rw [strL_size]; omega))
          go_wp2_with fail
          refine (HCL.out _).mono ?_
          rintro e X3 ⟨rfl, hb3⟩
          have Q3 := Lib.hid (Q2.out.keep hb3)
          clear hb3 Q2 HCL
          go_wp2_with fail
          refine (arnumR_any (w.heap.size + 1) lb 2 _ Q3.out.g.c (by decide) (by decide)).mono ?_
          rintro e X4 (⟨an, lc, hc, rfl, rfl⟩ | ⟨hn, rfl, rfl⟩)
          case inr =>
            unfold panR
            go_wp2_with fail
            exact ⟨rfl, .inr ⟨HNO.out (by simp [rdPairC, HA.out, HB.out, hn]), rfl, Q3.out.g.bl⟩⟩
          have HC := Lib.hid hc
          have hzc : lc.length ≤ 524288 := by have := rdNumC_len hc; omega
          have hbk := rdNum_back hc
          obtain ⟨an, rfl⟩ := Int.eq_ofNat_of_zero_le hbk.2.1
          have Q4 := Lib.hid (Q3.out.set lc)
          clear hc hbk Q3
          generalize World.setCell _ _ (.string (strL lc)) = X4 at *
          go_wp2_with fail
          refine (artake_any (w.heap.size + 1) lc an _ Q4.out.g.c).mono ?_
          rintro e X5 (⟨ta, ld, hd, rfl, rfl⟩ | ⟨hn, rfl, rfl⟩)
          case inr =>
            unfold panR
            go_wp2_with fail
            exact ⟨rfl, .inr ⟨HNO.out (by simp [rdPairC, HA.out, HB.out, HC.out, hn]), rfl, Q4.out.g.bl⟩⟩
          have HDD := Lib.hid hd
          have hzd : ld.length ≤ 524288 := by have := rdTake_back hd; have h2 := congrArg List.length this.1; rw [List.length_append] at h2; omega
          have Q5 := Lib.hid (Q4.out.set ld)
          clear hd Q4
          generalize World.setCell _ _ (.string (strL ld)) = X5 at *
          have HOG := Lib.hid (fun w => oget_any (strL ta) ta w (strL_SB ta))
          have HGC := Lib.hid (getA_codes ta)
          have HGB := Lib.hid (fun h => (putA_getA ta h).2.2)
          have HRP : Hid (rdPairC lk = if (getA ta).2 = 0 ∧ fitsB (strL key) (getA ta).1 = true then some ((strL key, afterL (strL key) noVal (getA ta).1), ld) else none) := Lib.hid (by
            unfold rdPairC
            rw [HA.out, Option.bind_some]
            dsimp only
            rw [Int.toNat_natCast, HB.out, Option.bind_some]
            dsimp only
            rw [HC.out, Option.bind_some]
            dsimp only
            rw [Int.toNat_natCast, HDD.out, Option.bind_some]
            rfl)
          clear HA HB HC HDD hza hzc
          generalize getA ta = gta at *
          obtain ⟨⟨ak, ax, an2, az⟩, code⟩ := gta
          try dsimp only at HOG HGC HGB HRP
          have hkz : (strL key).size ≤ 140737488351232 := by rw [strL_size]; omega
          generalize strL key = ks at *
          generalize strL ta = ts at *
          go_wp2_with fail
          refine (HOG.out _).mono ?_
          rintro e X6 ⟨rfl, hb6⟩
          have Q6 := Lib.hid (Q5.out.keep hb6)
          clear hb6 Q5 HOG
          have hgact := AC.new X6 _ rfl [.int .i64 ak, .float .f64 ax, .int .i64 an2, .string az] 66
          have hbact := (Bl.refl X6).alloc (.cells #[.int .i64 ak, .float .f64 ax, .int .i64 an2, .string az] 66)
          obtain ⟨g0, g1, g2, g3⟩ := hgact.act
          rcases HGC.out with hcode | hcode
          case inr =>
            subst hcode
            have HN1 := Lib.hid (HNO.out (by rw [HRP.out, if_neg (by rintro ⟨h, _⟩; exact absurd h (by decide))]))
            clear hgact
            go_wp2_with fail
            refine (arwant_no _).mono ?_
            rintro e X7 ⟨rfl, rfl⟩
            unfold panR
            go_wp2_with fail
            exact ⟨rfl, .inr ⟨HN1.out, rfl, Q6.out.g.bl.trans hbact⟩⟩
          subst hcode
          have HAO := Lib.hid (HGB.out rfl)
          obtain ⟨fk, hfk⟩ : ∃ fk, fitsB ks ⟨ak, ax, an2, az⟩ = fk := ⟨_, rfl⟩
          have HFK := Lib.hid hfk
          clear hfk HGC HGB
          go_wp2_with fail
          have HGA := Lib.hid hgact
          have Q7 := Lib.hid (Q6.out.keep hbact)
          have hrow : ∀ q, (Value.slice pd k pc).ownBlock = some q → q < X6.heap.size := fun q hq => (World.ownsRow.lt Q6.out.o.2 q hq).2
          have HROW := Lib.hid hrow
          clear hgact hbact g0 g1 g2 g3 Q6 hrow
          generalize X6.alloc _ = X7 at *
          generalize X6.heap.size = ga at *
          refine (fits_agg ks ak ax an2 az fk _ HFK hkz HAO).mono ?_
          rintro e X8 ⟨rfl, hb8⟩
          have Q8 := Lib.hid (Q7.out.keep hb8)
          have HGA8 := Lib.hid (HGA.out.keep hb8)
          clear hb8 Q7 HGA
          cases fk
          case false =>
            have HN1 := Lib.hid (HNO.out (by rw [HRP.out, if_neg (by rintro ⟨_, h⟩; rw [HFK.out] at h; exact absurd h (by decide))]))
            go_wp2_with fail
            refine (arwant_no _).mono ?_
            rintro e X9 ⟨rfl, rfl⟩
            unfold panR
            go_wp2_with fail
            exact ⟨rfl, .inr ⟨HN1.out, rfl, Q8.out.g.bl⟩⟩
          go_wp2_with fail
          refine (arwant_yes _).mono ?_
          rintro e X9 ⟨rfl, rfl⟩
          obtain ⟨⟨rb, rx, rn, rs⟩, hV⟩ : ∃ V : ValL, afterL ks noVal ⟨ak, ax, an2, az⟩ = V := ⟨_, rfl⟩
          have HV2 := Lib.hid hV
          have HS : Hid (rdPairsC pn l12 = (rdPairsC jj ld).map fun p => ((acc ++ [(ks, ⟨rb, rx, rn, rs⟩)]) ++ p.1, p.2)) := Lib.hid (by
            rw [HD.out]
            simp only [rdPairsC]
            rw [HRP.out, if_pos ⟨by first | rfl | trivial, HFK.out⟩, Option.bind_some, Option.map_map, hV]
            congr 1
            funext p
            simp)
          clear hV HRP HNO HD
          go_upto_region 14 with fail
          have Q9 := Lib.hid (Q8.out.keep (Bl.refl X8).drew)
          have HGA9 := Lib.hid (HGA8.out.keep (Bl.refl X8).drew)
          clear Q8 HGA8
          refine wp_region_panicsT [0, 1, 2, 3, 4, 5, 6, 7] 4 (HasTwo gx (arcCs n parts va vn vc pd k pc) ga [.int .i64 ak, .float .f64 ax, .int .i64 an2, .string az]) HasTwo.keep ⟨Q9.out.a, HGA9.out⟩ [11] (fun c W' => False) ?hR (by kernel_rfl) rfl (by kernel_rfl) (by kernel_rfl) (by kernel_rfl) ?_
          case hR => intro c tt W' h; exact h.elim
          generalize X8.drew = XD at *
          haveI : Nonempty (ExtC (HasTwo gx (arcCs n parts va vn vc pd k pc) ga [.int .i64 ak, .float .f64 ax, .int .i64 an2, .string az])) := ⟨⟨XD, Q9.out.a, HGA9.out⟩⟩
          have d3 : ∀ q : ExtC (HasTwo gx (arcCs n parts va vn vc pd k pc) ga [.int .i64 ak, .float .f64 ax, .int .i64 an2, .string az]), _ := fun q => (AC.arc q.ok.1).2.2.2
          have a0 : ∀ q : ExtC (HasTwo gx (arcCs n parts va vn vc pd k pc) ga [.int .i64 ak, .float .f64 ax, .int .i64 an2, .string az]), _ := fun q => (AC.act q.ok.2).1
          have a1 : ∀ q : ExtC (HasTwo gx (arcCs n parts va vn vc pd k pc) ga [.int .i64 ak, .float .f64 ax, .int .i64 an2, .string az]), _ := fun q => (AC.act q.ok.2).2.1
          have a2 : ∀ q : ExtC (HasTwo gx (arcCs n parts va vn vc pd k pc) ga [.int .i64 ak, .float .f64 ax, .int .i64 an2, .string az]), _ := fun q => (AC.act q.ok.2).2.2.1
          have a3 : ∀ q : ExtC (HasTwo gx (arcCs n parts va vn vc pd k pc) ga [.int .i64 ak, .float .f64 ax, .int .i64 an2, .string az]), _ := fun q => (AC.act q.ok.2).2.2.2
          have HAF := Lib.hid (fun w => after_agg ks false 0 0 ⟨#[]⟩ ak ax an2 az rb rx rn rs w HV2 hkz (Lib.hid noVal_ok) HAO)
          repeat (refine wpI_step rfl (fun K hK => ?_); go_simp; first | (refine hK _ ?_; clear hK K) | (apply Exists.intro; refine ⟨fun q => ?_, hK _ ?_⟩; (with_reducible exact HAF.out _); clear hK K))
          refine wpI_nil ?_
          clear d3 a0 a1 a2 a3 HAF this
          refine wpAnyP_one (i := 8) (by kernel_rfl) ?_
          intro Y1 hy1
          go_simp
          have hbl := (Bl.refl Y1).alloc (.cells #[.string ks, .bool rb, .float .f64 rx, .int .i64 rn, .string rs] 58)
          have hlit : (Y1.alloc (.cells #[.string ks, .bool rb, .float .f64 rx, .int .i64 rn, .string rs] 58)).heap[Y1.heap.size]? = some (.cells (pairCs (ks, ⟨rb, rx, rn, rs⟩)).toArray 58 (0, 0)) := heap_alloc_new Y1 _
          have Q10 := Lib.hid ((Q9.out.keep hy1).keep hbl)
          have HGA10 := Lib.hid ((HGA9.out.keep hy1).keep hbl)
          have HL := Lib.hid (SG.lit (size := 5) hlit rfl (by simp [pairCs, Value.oneCell']))
          clear hlit hbl hy1 Q9 HGA9
          refine ⟨⟨Q10.out.a, HGA10.out⟩, ?_⟩
          generalize Y1.alloc _ = Y2 at *
          generalize Y1.heap.size = gl at *
          refine wpAnyP_one (i := 9) (by kernel_rfl) ?_
          intro Y3 hy3
          have Q11 := Lib.hid (Q10.out.keep hy3)
          have HGA11 := Lib.hid (HGA10.out.keep hy3)
          have HL2 := Lib.hid (HL.out.keep hy3)
          clear HL Q10 HGA10 hy3
          refine pOp_appG rfl rfl _ _ _ rfl el_pair B (.slice pd k pc) k (cellsP acc) rfl Q11.out.o.2 Q11.out.lt (some ⟨gl, 0, none⟩) 1 1 (pairCs (ks, ⟨rb, rx, rn, rs⟩)) rfl HL2.out (by unfold maxLen; omega) (by omega) ?_
          intro v' Y4 ho hgr
          have Q12 := Lib.hid (Q11.out.app (ks, ⟨rb, rx, rn, rs⟩) ho hgr)
          have HGA12 := Lib.hid (HGA11.out.grown hgr (fun e => absurd (HROW.out _ e.symm) (Nat.lt_irrefl _)))
          clear ho hgr Q11 HL2 HGA11
          obtain ⟨pd', pc', rfl⟩ := Q12.out.o.form
          refine ⟨fun _ => ⟨Q12.out.a, HGA12.out⟩, ?_⟩
          simp only [Act.put, List.setIfInBounds_toArray]
          refine wpAnyP_one (i := 10) (by kernel_rfl) ?_
          intro Y5 hy5
          go_simp
          have Q13 := Lib.hid (Q12.out.keep hy5)
          have HGA13 := Lib.hid (HGA12.out.keep hy5)
          clear hy5 Q12 HGA12
          refine ⟨⟨Q13.out.a, HGA13.out⟩, ?_⟩
          refine wpAnyP_one (i := 11) (by kernel_rfl) ?_
          intro Y6 hy6
          have Q14 := Lib.hid (Q13.out.keep hy6)
          clear hy6 Q13 HGA13
          have f3 := Q14.out.a.frozen 3
          have e3 := Q14.out.a.cell 3 _ rfl
          go_simp
          have Q15 := Lib.hid (Q14.out.store 3 (.slice pd' (k + 1) pc'))
          clear f3 e3 Q14
          generalize World.setCell _ _ (.slice pd' (k + 1) pc') = Y7 at *
          refine wpAnyP_done (by kernel_rfl) ?_
          intro Y8 hy8
          have Q16 : Hid (APG w Y8 ld gx B (arcCs n parts va vn vc pd' (k + 1) pc') va vn xs (.slice pd' (k + 1) pc') (k + 1) (acc ++ [(ks, ⟨rb, rx, rn, rs⟩)])) := Lib.hid (Q15.out.keep hy8)
          clear Q15 hy8
          go_wp2_with fail
          go_roundw
          case rel => exact ⟨k + 1, ld, _, pd', pc', by omega, by go_num, Q16.out, hzd, by rw [show pn - (k + 1) = jj by omega]; exact HS.out⟩
          case measure => simp [intOf]; omega
        · have hkp : k = pn := by omega
          subst hkp
          have HE : Hid (rdPairsC k l12 = some (acc, lk)) := Lib.hid (by
            rw [HD.out, Nat.sub_self]
            simp [rdPairsC])
          have hpo := rdPairsC_ok _ _ _ _ HE.out
          have HOKA : Hid (ArcOk ⟨n, parts, xs, acc⟩) := Lib.hid (fun p hp => by have := hpo.2.1 p hp; exact ⟨by omega, this.2⟩)
          have hk6 : k ≤ 1000000 := by have := hpo.2.2; have := HZ12.out; omega
          have HAR : Hid (rdArc l = if wrC ⟨n, parts, xs, acc⟩ = 0 ∧ wrL ⟨n, parts, xs, acc⟩ = l then some ⟨n, parts, xs, acc⟩ else none) := Lib.hid (rdArc_of (by rw [HL.out]; have := HN.out; omega) (by rw [HL.out]; exact hmx) HBD.out (by rw [HTR.out]; exact HSS'.out) (by rw [HRB.out, HE.out]; rfl))
          have HFP : Hid (FarPO B wr pd k pc acc) := Lib.hid Q.out.o
          clear HE hpo HD HRB
          obtain ⟨b0, b1, b2, b3⟩ := AC.arc Q.out.a
          go_wp2_with fail
          clear b0 b1 b2 b3
          refine (arcWrite_any ⟨n, parts, xs, acc⟩ va vn vc pd k pc _ Q.out.x.far.1 (HFP.out.far hk6).1 HOKA.out).mono ?_
          rintro e Z1 ⟨rfl, hb1⟩
          have Q1 := Lib.hid (Q.out.keep hb1)
          have HFP1 := Lib.hid (HFP.out.keep hb1)
          clear hb1 Q HFP
          generalize wrC ⟨n, parts, xs, acc⟩ = cc at *
          by_cases hcc : cc = 0
          · subst hcc
            by_cases hw : wrL ⟨n, parts, xs, acc⟩ = l
            · have HRA : Hid (rdArc l = some ⟨n, parts, xs, acc⟩) := Lib.hid (by rw [HAR.out, if_pos ⟨rfl, hw⟩])
              rw [hw, HSL.out]
              clear hw
              go_wp2_with fail
              refine (arwant_yes _).mono ?_
              rintro e Z2 ⟨rfl, rfl⟩
              obtain ⟨b0, b1, b2, b3⟩ := AC.arc Q1.out.a
              have fr := Q1.out.g.r.frozen
              obtain ⟨r0, r1, r2, r3⟩ := AC.arc Q1.out.g.r
              go_wp2_with fail
              refine bodyPost_ret (ar_results rfl (Q1.out.g.r.fill (arcCs n parts va vn vc pd k pc) rfl)) rfl (.inl ⟨⟨n, parts, xs, acc⟩, va, vn, vc, pd, k, pc, HRA.out, rfl, ?_, ?_, ?_⟩)
              · exact (FarO.fill (q := w.heap.size) (by have := Q1.out.ge; omega) (arcCs n parts va vn vc pd k pc) _ 0 Q1.out.x).mono (by have := Q1.out.ge; omega)
              · exact (FarPO.fill (q := w.heap.size) (by have := Q1.out.ge; have := Q1.out.gb; omega) (arcCs n parts va vn vc pd k pc) _ 0 HFP1.out).mono (by have := Q1.out.ge; have := Q1.out.gb; omega)
              · exact Bl.fill (Nat.le_refl _) (arcCs n parts va vn vc pd k pc) _ 0 Q1.out.g.bl
            · have HRA : Hid (rdArc l = none) := Lib.hid (by rw [HAR.out, if_neg (fun q => hw q.2)])
              have qw : ((strL (wrL ⟨n, parts, xs, acc⟩)).toList == sl.toList) = false := by rw [← HSL.out, SB.beq (strL_SB _) (strL_SB _)]; exact decide_eq_false hw
              clear hw
              generalize strL (wrL ⟨n, parts, xs, acc⟩) = sw at *
              go_wp2_with fail
              refine (arwant_no _).mono ?_
              rintro e Z2 ⟨rfl, rfl⟩
              unfold panR
              go_wp2_with fail
              exact ⟨rfl, .inr ⟨HRA.out, rfl, Q1.out.g.bl⟩⟩
          · have HRA : Hid (rdArc l = none) := Lib.hid (by rw [HAR.out, if_neg (fun q => hcc q.1)])
            have qc : (cc == 0) = false := by rw [beq_eq_false_iff_ne]; exact hcc
            clear hcc
            go_wp2_with fail
            refine (arwant_no _).mono ?_
            rintro e Z2 ⟨rfl, rfl⟩
            unfold panR
            go_wp2_with fail
            exact ⟨rfl, .inr ⟨HRA.out, rfl, Q1.out.g.bl⟩⟩
    · have HNB : Hid (rdArc l = none) := Lib.hid (rdArc_none HBD.out (by
        unfold rdBody rdFront
        rw [HT8.out, Option.bind_some]
        dsimp only
        rw [if_neg hbg]
        rfl))
      have qb : ((strL (body.take 8)).toList == [66, 69, 68, 82, 79, 67, 75, 49]) = false := by
        rw [ByteArray.toList_eq]
        show (body.take 8 == beginL) = false
        rw [beq_eq_false_iff_ne]; exact hbg
      clear hbg
      generalize strL (body.take 8) = s8 at *
      refine wpAnyP_one (i := 15) (by kernel_rfl) ?_
      intro W10 hb10
      go_simp
      refine wpAnyP_one (i := 16) (by kernel_rfl) ?_
      intro W11 hb11
      go_simp
      refine wpAnyP_one (i := 17) (by kernel_rfl) ?_
      intro W12 hb12
      go_simp
      refine (arwant_no _).mono ?_
      rintro e W13 ⟨rfl, rfl⟩
      exact .inr ⟨_, rfl, rfl, HNB.out, G9.out.bl.trans (hb10.trans (hb11.trans hb12))⟩
  · have HRN : Hid (rdArc l = none) := Lib.hid (rdArc_sum (by rw [HBD.out, HTR.out]; exact hs))
    have qe : ((strL (numB (sumL body : Int) 4)).toList == (strL tr).toList) = false := by rw [SB.beq (strL_SB _) (strL_SB _)]; exact decide_eq_false hs
    clear hs
    generalize strL (numB (sumL body : Int) 4) = qx at *
    generalize strL tr = qt at *
    generalize hsb : strL body = sb at *
    generalize sumL body = sm at *
    refine wp_region_panicsT [0, 1, 2, 3, 4, 5, 6, 7, 8, 9, 10, 11, 12, 13, 14, 15, 16] 1 (HasBox (w.heap.size + 1) [.string sb]) HasBox.keep (by rw [← hsb]; exact hbD.c) [] (fun c W' => c = [{ v := .iface 49 (.int .i64 70), recovered := false }] ∧ Bl w W') ?hR (by kernel_rfl) rfl (by kernel_rfl) (by kernel_rfl) (by kernel_rfl) ?_
    case hR =>
      rintro c tt W' ⟨rfl, hb⟩
      go_simp
      go_wp2_with fail
      exact ⟨rfl, .inr ⟨HRN.out, rfl, hb⟩⟩
    generalize W.drew = WD at *
    haveI : Nonempty (ExtC (HasBox (w.heap.size + 1) [.string sb])) := ⟨⟨WD, by rw [← hsb]; exact hbD.c⟩⟩
    have d7 : ∀ q : ExtC (HasBox (w.heap.size + 1) [.string sb]), _ := fun q => AC.cell q.ok 0 _ rfl
    repeat (refine wpI_step rfl (fun K hK => ?_); go_simp; first | (refine hK _ ?_; clear hK K) | (apply Exists.intro; refine ⟨fun q => ?_, hK _ ?_⟩; (first | with_reducible exact HSB.out _ | with_reducible exact HN4.out _); clear hK K))
    refine wpI_nil ?_
    clear d7 this
    refine wpAnyP_one (i := 17) (by kernel_rfl) ?_
    intro W8 hb8
    go_simp
    refine (arwant_no _).mono ?_
    rintro e W9 ⟨rfl, rfl⟩
    exact .inr ⟨_, rfl, rfl, hbD.bl.trans hb8⟩
end Go.Proofs.YtaplefelfiefaaaGreat
end
