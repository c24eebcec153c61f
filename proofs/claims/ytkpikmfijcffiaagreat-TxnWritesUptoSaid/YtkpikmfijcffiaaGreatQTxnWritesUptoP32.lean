import Derived.Test.YtkpikmfijcffiaaGreatQTxnWritesUptoP27
import Derived.Test.YtkpikmfijcffiaaGreatQTxn2
import Derived.Test.YtkpikmfijcffiaaGreatQTxnWritesUptoP29
import Derived.Test.YtkpikmfijcffiaaGreatQOpSame
import Derived.Test.YtkpikmfijcffiaaGreatQTxnWritesUptoP11
import Derived.Test.YtkpikmfijcffiaaGreatQTxnWritesUptoP23
import Derived.Test.YtkpikmfijcffiaaGreatQTxnWritesUptoP16

/- txn.Put. By an AI agent. -/
section
set_option linter.unusedVariables false
set_option linter.unusedSimpArgs false
namespace Go.Proofs.YtkpikmfijcffiaaGreat
open Go.RowKit
attribute [local go_sem] eOp eOper eUpon

/-- the texts of a transaction's head, one behind the other -/
structure HeadTexts (q1 q2 q3 q4 q5 p2 p3 p4 p5 : ByteArray) : Prop where
  e1 : q1 ++ q2 = p2
  y1 : q1.size ≤ 200
  y2 : q2.size ≤ 200
  e2 : p2 ++ q3 = p3
  z1 : p2.size ≤ 200
  y3 : q3.size ≤ 200
  e3 : p3 ++ q4 = p4
  z2 : p3.size ≤ 200
  y4 : q4.size ≤ 200
  e4 : p4 ++ q5 = p5
  z3 : p4.size ≤ 200
  y5 : q5.size ≤ 200
/-- .. of a write -/
structure WrTexts (key b q1 q2 p1 p2 p3 : ByteArray) : Prop where
  e1 : q1 ++ key = p1
  e2 : p1 ++ q2 = p2
  e3 : p2 ++ b = p3
  y1 : q1.size ≤ 2000
  y2 : q2.size ≤ 2000
  yk : key.size ≤ 2000
  yb : b.size ≤ 2000
  z1 : p1.size ≤ 2000
  z2 : p2.size ≤ 2000
theorem flatT_take_len (ps : List (ByteArray × ActL)) (k : Nat) : ((ps.take k).flatMap putWr).length ≤ (ps.flatMap putWr).length := by
  have h : (ps.flatMap putWr) = (ps.take k).flatMap putWr ++ (ps.drop k).flatMap putWr := by rw [← List.flatMap_append, List.take_append_drop]
  rw [h, List.length_append]; omega
theorem flatT_take_succ (ps : List (ByteArray × ActL)) {k : Nat} (hk : k < ps.length) : (ps.take (k + 1)).flatMap putWr = (ps.take k).flatMap putWr ++ putWr (nthW ps k) := by
  rw [List.take_succ_eq_append_getElem hk, List.flatMap_append, nthW_eq hk]
  simp
theorem wr_texts {key : ByteArray} {a : ActL} (hf : fitsB key a = true) :
    WrTexts key (strL (putA a)) (strL (numB (key.size : Int) 1)) (strL (numB ((putA a).length : Int) 2)) (strL (numB (key.size : Int) 1 ++ key.data.toList)) (strL ((numB (key.size : Int) 1 ++ key.data.toList) ++ numB ((putA a).length : Int) 2)) (strL (putWr (key, a))) := by
  have h1 := key_size (fits_key hf).1
  have h2 := putA_len (fits_key hf).2
  have h3 := size_nil key
  refine ⟨?_, strL_app _ _, ?_, ?_, ?_, by omega, ?_, ?_, ?_⟩
  · conv => lhs; rw [← strL_data key]
    exact strL_app _ _
  · rw [strL_app]
    unfold putWr
    simp only [List.append_assoc]
  all_goals (rw [strL_size]; (try simp only [List.length_append, numB_len]); omega)
theorem putWr_small {p : ByteArray × ActL} (hf : fitsB p.1 p.2 = true) : (putWr p).length ≤ 1093 := by
  have h1 := key_size (fits_key hf).1
  have h2 := putA_len (fits_key hf).2
  have h3 := size_nil p.1
  unfold putWr
  simp only [List.length_append, numB_len]
  omega
theorem flatT_len (ps : List (ByteArray × ActL)) (h : ∀ p ∈ ps, fitsB p.1 p.2 = true) : (ps.flatMap putWr).length ≤ 1093 * ps.length := by
  induction ps with
  | nil => simp
  | cons p ps ih =>
    have h1 := putWr_small (h p (by simp))
    have h2 := ih fun q hq => h q (by simp [hq])
    rw [List.flatMap_cons, List.length_append, List.length_cons]; omega

set_option maxHeartbeats 6400000 in
set_option maxRecDepth 100000 in
theorem txPut_hid (o : Nat) (num prev : Int) (da : Option Addr) (dn dc : Nat) (ds : List Int) (bx ox : Nat) (an ac : Nat) (xs : List Int) (pd : Option Addr) (pn pc : Nat) (ps : List (ByteArray × ActL)) (w : World)
    (hd : Hid (IA w da dn ds)) (hx : Hid (IA w (some ⟨bx, ox, none⟩) an xs)) (hp : Hid (WW w pd pn ps)) (hpn : pn ≤ 200) (hon : o < an) (m : Int) (hm : Hid (w.cell? ⟨bx, ox + o, none⟩ = some (.int .i64 m)))
    (hpb : Hid (∀ p ∈ ps, fitsB p.1 p.2 = true)) (hv : Hid (validT ⟨(o : Int), num, prev, ds, xs, ps⟩ = true)) (hvx : Hid (validL ds = true))
    (q1 q2 q3 q4 q5 p2 p3 p4 p5 : ByteArray) (N : Hid (HeadTexts q1 q2 q3 q4 q5 p2 p3 p4 p5)) (lf : List UInt8) (hlf : Hid (p5.data.toList = lf)) (hq4 : Hid (strL (putL ds) = q4))
    (C1 : Hid (∀ w, Calls Tryz.prog 99 #[.int .i64 (o : Int), .int .i64 1] w fun e w' => e = .returned (.string q1) ∧ Bl w w'))
    (C2 : Hid (∀ w, Calls Tryz.prog 99 #[.int .i64 num, .int .i64 6] w fun e w' => e = .returned (.string q2) ∧ Bl w w'))
    (C3 : Hid (∀ w, Calls Tryz.prog 99 #[.int .i64 prev, .int .i64 6] w fun e w' => e = .returned (.string q3) ∧ Bl w w'))
    (C5 : Hid (∀ w, Calls Tryz.prog 99 #[.int .i64 m, .int .i64 6] w fun e w' => e = .returned (.string q5) ∧ Bl w w'))
    (L : List UInt8) (hL : Hid (lf ++ ps.flatMap putWr = L)) (hLl : L.length ≤ 20000000) :
    Calls Tryz.prog 20 #[.agg #[.int .i64 (o : Int), .int .i64 num, .int .i64 prev, .slice da dn dc, .slice (some ⟨bx, ox, none⟩) an ac, .slice pd pn pc]] w fun e w' => e = .returned (.tuple #[.string (strL (outT L)), .int .i64 (outTC L)]) ∧ Bl w w' := by
  have hsf := store_float
  have han := hx.out.cap
  have hb := (Bl.refl w).alloc (.cells [Value.int .i64 (o : Int), .int .i64 num, .int .i64 prev, .slice da dn dc, .slice (some ⟨bx, ox, none⟩) an ac, .slice pd pn pc].toArray 62)
  have hg := AC.new w _ rfl [Value.int .i64 (o : Int), .int .i64 num, .int .i64 prev, .slice da dn dc, .slice (some ⟨bx, ox, none⟩) an ac, .slice pd pn pc] 62
  have c0 := hg.cell 0 _ rfl
  have c1 := hg.cell 1 _ rfl
  have c2 := hg.cell 2 _ rfl
  have c3 := hg.cell 3 _ rfl
  have c4 := hg.cell 4 _ rfl
  have c5 := hg.cell 5 _ rfl
  go_enter Tryz.func20, Tryz.ntmps20
  go_wp2_with fail
  generalize w.alloc _ = W at *
  refine (txValid_hid (o : Int) num prev da dn dc ds (some ⟨bx, ox, none⟩) an ac xs pd pn pc ps _ (hd.out.keep hb) (hx.out.keep hb) (hp.out.keep hb) true hv).mono ?_
  rintro e W1 ⟨rfl, hb1⟩
  have HB := Lib.hid (hb.trans hb1)
  have HG := Lib.hid (hg.keep hb1)
  clear hb hb1 hg c0 c1 c2 c3 c4 c5
  have hbi := BI.new W1
  have hbl0 : Bl W1 (W1.alloc (.cells #[.pointer none, .slice none 0 0] 110)) := (Bl.refl W1).alloc _
  have c3 := (HG.out.keep hbl0).cell 3 _ rfl
  go_wp2_with fail
  refine (vput_yes da dn dc ds _ (hd.out.keep (HB.out.trans hbl0)) hvx.out).mono ?_
  rintro e W2 ⟨rfl, hb2⟩
  rw [show (⟨(putL ds).toArray⟩ : ByteArray) = q4 from hq4.out]
  clear c3
  go_upto_region 5 with fail
  have hbl2 : Bl W1 W2.drew := (hbl0.trans hb2).drew
  have HI := Lib.hid ((hbi.keep hb2).keep ((Bl.refl _).drew))
  clear hbi hbl0 hb2
  refine wp_region_extC (Bl W1) (fun _ _ h k => h.trans k) hbl2 21 1 (by kernel_rfl) rfl (by kernel_rfl) (by kernel_rfl) ?_
  generalize W2.drew = WD at *
  have HBD := Lib.hid hbl2
  clear hbl2
  generalize hgb : W1.heap.size = gb at *
  have HGB := Lib.hid hgb
  clear hgb
  simp only [List.take_succ_cons, List.take_zero]
  have c0 : ∀ q : ExtC (Bl W1), _ := fun q => (HG.out.keep q.ok).cell 0 _ rfl
  have c1 : ∀ q : ExtC (Bl W1), _ := fun q => (HG.out.keep q.ok).cell 1 _ rfl
  have c2 : ∀ q : ExtC (Bl W1), _ := fun q => (HG.out.keep q.ok).cell 2 _ rfl
  have c4 : ∀ q : ExtC (Bl W1), _ := fun q => (HG.out.keep q.ok).cell 4 _ rfl
  have cm : ∀ q : ExtC (Bl W1), _ := fun q => (HB.out.trans q.ok).cell hm.out
  have hoi : decide ((o : Int) < (an : Int)) = true := decide_eq_true (by omega)
  have hoi2 : decide (o < an) = true := decide_eq_true hon
  have e1 := N.out.e1
  have e2 := N.out.e2
  have e3 := N.out.e3
  have e4 := N.out.e4
  have s1_ : (9223372036854775807 < q1.size + q2.size) = False := eq_false (by have := N.out.y1; have := N.out.y2; omega)
  have s2_ : (9223372036854775807 < p2.size + q3.size) = False := eq_false (by have := N.out.z1; have := N.out.y3; omega)
  have s3_ : (9223372036854775807 < p3.size + q4.size) = False := eq_false (by have := N.out.z2; have := N.out.y4; omega)
  have s4_ : (9223372036854775807 < p4.size + q5.size) = False := eq_false (by have := N.out.z3; have := N.out.y5; omega)
  repeat (refine wpE_step (fun K hK => ?_); go_simp; first | (refine hK _ ?_; clear hK K) | (apply Exists.intro; refine ⟨fun q => ?_, hK _ ?_⟩; (first | with_reducible exact C1.out _ | with_reducible exact C2.out _ | with_reducible exact C3.out _ | with_reducible exact C5.out _); clear hK K))
  refine wpE_nil ?_
  clear c0 c1 c2 c4 cm e1 e2 e3 e4 s1_ s2_ s3_ s4_ hoi hoi2
  refine wpAnyE_one (i := 21) (by kernel_rfl) ?_
  intro W3 hb3
  go_simp
  have hll0 : lf.length ≤ 20000000 := by have := congrArg List.length hL.out; rw [List.length_append] at this; omega
  have hbD := HBD.out.trans hb3
  refine (bi_writeString gb gb [] p5 lf hlf.out W3 (HI.out.keep hb3) (by simp; omega) (by rw [← HGB.out]; exact hbD.size)).mono ?_
  rintro e W4 ⟨rfl, hbi4, hb4⟩
  have hb14 : Bl W1 W4 := by
    rw [← HGB.out] at hb4
    exact Below.trans hbD hb4
  refine ⟨_, rfl, hb14, ?_⟩
  refine wpAnyE_done (by kernel_rfl) ?_
  intro W5 hb5
  have HBI := Lib.hid (hbi4.keep hb5)
  have HB15 := Lib.hid (hb14.trans hb5)
  clear hb14 hbi4 hb5 hb4 hbD HI HBD hb3
  have c5 := (HG.out.keep HB15.out).cell 5 _ rfl
  go_wp2_with fail
  clear c5
  go_loopw [45] (fun i wr => ∃ (k : Nat) (l : List UInt8), k ≤ pn ∧ i = .int .i64 k ∧ BI gb gb l wr ∧ Bl W1 wr ∧ l = lf ++ (ps.take k).flatMap putWr) (fun i _ => pn - (intOf i).toNat)
  case atStart => exact ⟨0, _, Nat.zero_le _, rfl, HBI.out, HB15.out, by simp⟩
  case round =>
    clear HBI HB15
    obtain ⟨k, l, hk, rfl, hbi, hbl, hl⟩ := hrel
    have hll : l.length ≤ 20000000 := by
      have h1 := flatT_take_len ps k
      have h2 := congrArg List.length hL.out
      rw [List.length_append] at h2
      rw [hl, List.length_append]; omega
    have HLN := Lib.hid hl
    have HI := Lib.hid hbi
    have HBL := Lib.hid hbl
    clear hl hbi hbl
    by_cases hlt : k < pn
    · have hkl : k < ps.length := by rw [hp.out.len]; exact hlt
      obtain ⟨ba, oa, rfl, _⟩ := hp.out.cells k hlt
      obtain ⟨c0, c1, c2, c3, c4⟩ := hp.out.get (HB.out.trans HBL.out) hlt
      have HOK := Lib.hid (hp.out.ok _ (nthW_mem hkl))
      have HPB := Lib.hid (hpb.out _ (nthW_mem hkl))
      have HTK := Lib.hid (flatT_take_succ ps hkl)
      have hl2 : (l ++ putWr (nthW ps k)).length ≤ 20000000 := by
        have h1 := flatT_take_len ps (k + 1)
        have h2 := congrArg List.length hL.out
        rw [List.length_append] at h2
        rw [HLN.out, List.append_assoc, ← HTK.out, List.length_append]; omega
      have HL2 := Lib.hid hl2
      clear hl2 hkl
      generalize nthW ps k = p at *
      obtain ⟨key, ⟨ak, ax, an2, az⟩⟩ := p
      have HT := Lib.hid (wr_texts HPB.out)
      have hr : rightB ⟨ak, ax, an2, az⟩ = true := (fits_key HPB.out).2
      have HPT : Hid (SB (strL (putA ⟨ak, ax, an2, az⟩)) (putS ⟨ak, ax, an2, az⟩) ∧ putC ⟨ak, ax, an2, az⟩ = 0) := Lib.hid (by
        rw [(putS_right hr).1]
        exact ⟨rfl, (putS_right hr).2⟩)
      have HAO := Lib.hid (show (⟨ak, ax, an2, az⟩ : ActL).Ok from HOK.out.2)
      have hk64 : key.size ≤ 64 := key_size (fits_key HPB.out).1
      have ha26 := putA_len hr
      have HK1 := Lib.hid (fun w => tnum1 (key.size : Int) w (by omega) (by omega))
      have hbz := strL_size (putA ⟨ak, ax, an2, az⟩)
      have HK2 : Hid (∀ w, Calls Tryz.prog 99 #[.int .i64 ((strL (putA ⟨ak, ax, an2, az⟩)).size : Int), .int .i64 2] w fun e w' => e = .returned (.string (strL (numB ((putA ⟨ak, ax, an2, az⟩).length : Int) 2))) ∧ Bl w w') := Lib.hid (fun w => by
        rw [hbz]
        exact tnum2 ((putA ⟨ak, ax, an2, az⟩).length : Int) w (by omega) (by omega))
      dsimp only at c0 c1 c2 c3 c4
      clear hr ha26 hbz
      generalize strL (numB (key.size : Int) 1) = t1 at *
      generalize strL (numB ((putA ⟨ak, ax, an2, az⟩).length : Int) 2) = t2 at *
      generalize strL (numB (key.size : Int) 1 ++ key.data.toList) = u1 at *
      generalize strL ((numB (key.size : Int) 1 ++ key.data.toList) ++ numB ((putA ⟨ak, ax, an2, az⟩).length : Int) 2) = u2 at *
      generalize hu3 : strL (putWr (key, ⟨ak, ax, an2, az⟩)) = u3 at *
      have HU3 : Hid (u3.data.toList = putWr (key, ⟨ak, ax, an2, az⟩)) := Lib.hid (by rw [← hu3]; rfl)
      clear hu3
      generalize strL (putA ⟨ak, ax, an2, az⟩) = tb at *
      have hFar := Far.new HI.out (.cells #[.string key, .int .i64 ak, .float .f64 ax, .int .i64 an2, .string az] 58)
      have hbw := (Bl.refl wr).alloc (.cells #[.string key, .int .i64 ak, .float .f64 ax, .int .i64 an2, .string az] 58)
      have hgp := AC.new wr _ rfl [.string key, .int .i64 ak, .float .f64 ax, .int .i64 an2, .string az] 58
      have hne : wr.heap.size ≠ gb := Nat.ne_of_gt HI.out.lt
      have g0 := hgp.cell 0 _ rfl
      have g1 := hgp.cell 1 _ rfl
      have g2 := hgp.cell 2 _ rfl
      have g3 := hgp.cell 3 _ rfl
      have g4 := hgp.cell 4 _ rfl
      go_wp2_with fail
      clear g0 g1 g2 g3 g4 c0 c1 c2 c3 c4
      refine (put_agg ak ax an2 az tb 0 _ HAO HPT).mono ?_
      rintro e w2 ⟨rfl, hb2⟩
      go_upto_region 10 with fail
      have hi1 := HI.out.keep hbw
      have HFR := Lib.hid (hFar.keep hi1 (hb2.drew))
      have HI1 := Lib.hid (hi1.keep (hb2.drew))
      have HBD := Lib.hid (HBL.out.trans (hbw.trans (hb2.drew)))
      have HGP := Lib.hid (hgp.keep (hb2.drew))
      clear hi1 hFar hbw hgp hb2
      generalize hgpe : wr.heap.size = gp at *
      clear hgpe
      refine wp_region_extC (HoldB W1 gp [.string key, .int .i64 ak, .float .f64 ax, .int .i64 an2, .string az]) HoldB.keep ⟨HBD.out, HGP.out⟩ 13 1 (by kernel_rfl) rfl (by kernel_rfl) (by kernel_rfl) ?_
      generalize w2.drew = WD at *
      simp only [List.take_succ_cons, List.take_zero]
      haveI : Nonempty (ExtC (HoldB W1 gp [.string key, .int .i64 ak, .float .f64 ax, .int .i64 an2, .string az])) := ⟨⟨WD, HBD.out, HGP.out⟩⟩
      have d0 : ∀ q : ExtC (HoldB W1 gp [.string key, .int .i64 ak, .float .f64 ax, .int .i64 an2, .string az]), _ := fun q => q.ok.2.cell 0 _ rfl
      have e1 := HT.out.e1
      have e2 := HT.out.e2
      have e3 := HT.out.e3
      have s1_ : (9223372036854775807 < t1.size + key.size) = False := eq_false (by have := HT.out.y1; omega)
      have s2_ : (9223372036854775807 < u1.size + t2.size) = False := eq_false (by have := HT.out.y2; have := HT.out.z1; omega)
      have s3_ : (9223372036854775807 < u2.size + tb.size) = False := eq_false (by have := HT.out.yb; have := HT.out.z2; omega)
      repeat (refine wpE_step (fun K hK => ?_); go_simp; first | (refine hK _ ?_; clear hK K) | (apply Exists.intro; refine ⟨fun q => ?_, hK _ ?_⟩; (first | with_reducible exact HK1.out _ | with_reducible exact HK2.out _); clear hK K))
      refine wpE_nil ?_
      clear d0 e1 e2 e3 s1_ s2_ s3_
      refine wpAnyE_one (i := 13) (by kernel_rfl) ?_
      intro W5 hb5
      go_simp
      refine (bi_writeFar gb gb l u3 (putWr (key, ⟨ak, ax, an2, az⟩)) HU3.out W5 (HI1.out.keep hb5) (by have := HL2.out; rw [List.length_append] at this; omega) (by rw [← HGB.out]; exact (HBD.out.trans hb5).size) gp _ (HGP.out.keep hb5) hne (HFR.out.keep HI1.out hb5)).mono ?_
      rintro e W6 ⟨rfl, hbi6, hb6, hgp6⟩
      have hb16 : Bl W1 W6 := by
        rw [← HGB.out] at hb6
        exact Below.trans (HBD.out.trans hb5) hb6
      refine ⟨_, rfl, ⟨hb16, hgp6⟩, ?_⟩
      refine wpAnyE_done (by kernel_rfl) ?_
      intro W7 hb7
      have HBI := Lib.hid (hbi6.keep hb7)
      have HB17 := Lib.hid (hb16.trans hb7)
      clear hb16 hbi6 hb6 hb7 hgp6 hb5 HI1 HGP HBD HFR
      go_wp2_with fail
      go_roundw
      case rel => exact ⟨k + 1, _, by omega, by go_num, HBI.out, HB17.out, by rw [HTK.out, HLN.out, List.append_assoc]⟩
      case measure => simp [intOf]; omega
    · have hkp : k = pn := by omega
      subst hkp
      have hfin : l = L := by rw [HLN.out, List.take_of_length_le (by rw [hp.out.len]; exact Nat.le_refl _)]; exact hL.out
      subst hfin
      have HSM := Lib.hid (fun w => sum_any (strL l) w (by rw [strL_size]; omega))
      rw [show (strL l).data.toList = l from rfl] at HSM
      have hsl := sumL_lt l
      have HN4 := Lib.hid (fun w => tnum4 (sumL l : Int) w (by omega) (by omega))
      have HSE : Hid (l ++ numB (sumL l : Int) 4 = sealL l) := Lib.hid rfl
      have HLS := Lib.hid (sealL_len l)
      have HOUT : Hid ((l.length + 4 ≤ 65000 → outT l = sealL l ∧ outTC l = 0) ∧ (¬ l.length + 4 ≤ 65000 → outT l = [] ∧ outTC l = 2)) := Lib.hid (by
        unfold outT outTC
        exact ⟨fun h => by rw [if_pos h, if_pos h]; exact ⟨rfl, rfl⟩, fun h => by rw [if_neg h, if_neg h]; exact ⟨rfl, rfl⟩⟩)
      have HBF := Lib.hid (BF.of HI.out)
      have hq : (strL (numB (sumL l : Int) 4)).data.toList = numB (sumL l : Int) 4 := rfl
      have HQ := Lib.hid hq
      clear hq
      generalize strL (numB (sumL l : Int) 4) = qs at *
      go_wp2_with fail
      refine (bf_string gb gb l _ HBF.out (by rw [← HGB.out]; exact HBL.out.size)).mono ?_
      rintro e w3 ⟨rfl, hf3, hb3⟩
      rw [show (⟨l.toArray⟩ : ByteArray) = strL l from rfl]
      have hb13 : Bl W1 w3 := by
        rw [← HGB.out] at hb3
        exact Below.trans HBL.out hb3
      generalize strL l = sl at *
      go_wp2_with fail
      refine (HSM.out _).mono ?_
      rintro e w4 ⟨rfl, rfl⟩
      generalize sumL l = sm at *
      go_wp2_with fail
      refine (HN4.out _).mono ?_
      rintro e w4 ⟨rfl, hb4⟩
      have hb14 := hb13.trans hb4
      go_wp2_with fail
      refine (bf_write gb gb l qs _ HQ.out _ (hf3.keep hb4) (by rw [numB_len]; omega) (by rw [← HGB.out]; exact hb14.size)).mono ?_
      rintro e w5 ⟨rfl, hf5, hb5⟩
      have hb15 : Bl W1 w5 := by
        rw [← HGB.out] at hb5
        exact Below.trans hb14 hb5
      rw [HSE.out] at hf5
      clear hf3 hb3 hb13 hb4 hb14 hb5
      go_wp2_with fail
      refine (bf_len gb gb _ _ hf5).mono ?_
      rintro e w6 ⟨rfl, rfl⟩
      have hzs : ∃ z, (sealL l).length = z ∧ l.length + 4 = z := ⟨_, rfl, HLS.out.symm⟩
      obtain ⟨z, hz1, hz2⟩ := hzs
      rw [hz1]
      rw [hz2] at HOUT
      have HZ1 := Lib.hid hz1
      clear hz1 hz2 HLS
      by_cases hz : z ≤ 65000
      · have q1_ : decide ((65000 : Int) < (z : Int)) = false := decide_eq_false (by omega)
        have q2_ : decide (65000 < z) = false := decide_eq_false (by omega)
        have HO := Lib.hid (HOUT.out.1 hz)
        clear hz
        go_wp2_with fail
        refine (bf_string gb gb _ _ hf5 (by rw [← HGB.out]; exact hb15.size)).mono ?_
        rintro e w7 ⟨rfl, hf7, hb7⟩
        have hb17 : Bl W1 w7 := by
          rw [← HGB.out] at hb7
          exact Below.trans hb15 hb7
        go_wp2_with fail
        go_ret2
        rw [HO.out.1, HO.out.2]
        exact ⟨rfl, HB.out.trans hb17⟩
      · have q1_ : decide ((65000 : Int) < (z : Int)) = true := decide_eq_true (by omega)
        have q2_ : decide (65000 < z) = true := decide_eq_true (by omega)
        have HO := Lib.hid (HOUT.out.2 hz)
        clear hz
        go_wp2_with fail
        go_ret2
        rw [HO.out.1, HO.out.2]
        exact ⟨rfl, HB.out.trans hb15⟩
theorem strL_smallT {l : List UInt8} (h : l.length ≤ 200) : (strL l).size ≤ 200 := by rw [strL_size]; exact h
set_option maxRecDepth 100000 in
theorem txPut_any (t : TxnL) (s : TxAt) (w : World) (h : TX w s t) : Calls Tryz.prog 20 #[txV t s] w fun e w' => e = .returned (.tuple #[.string (strL (ptL t)), .int .i64 (ptC t)]) ∧ Bl w w' := by
  cases hv : validT t
  · have e1 : ptL t = [] := by unfold ptL; rw [hv]; rfl
    have e2 : ptC t = 1 := by unfold ptC; rw [hv]; rfl
    rw [e1, e2]
    obtain ⟨o, num, prev, ds, xs, ps⟩ := t
    obtain ⟨da, dn, dc, aa, an, ac, pd, pn, pc⟩ := s
    obtain ⟨hd, hx, hp, _, _, _⟩ := h
    dsimp only at *
    unfold txV
    dsimp only
    have HD := Lib.hid hd
    have HX := Lib.hid hx
    have HP := Lib.hid hp
    have HV := Lib.hid hv
    have hb := (Bl.refl w).alloc (.cells [Value.int .i64 o, .int .i64 num, .int .i64 prev, .slice da dn dc, .slice aa an ac, .slice pd pn pc].toArray 62)
    have hg := AC.new w _ rfl [Value.int .i64 o, .int .i64 num, .int .i64 prev, .slice da dn dc, .slice aa an ac, .slice pd pn pc] 62
    have c0 := hg.cell 0 _ rfl
    have c1 := hg.cell 1 _ rfl
    have c2 := hg.cell 2 _ rfl
    have c3 := hg.cell 3 _ rfl
    have c4 := hg.cell 4 _ rfl
    have c5 := hg.cell 5 _ rfl
    clear hx hp hv hd e1 e2 hg
    go_enter Tryz.func20, Tryz.ntmps20
    go_wp2_with fail
    refine (txValid_hid o num prev da dn dc ds aa an ac xs pd pn pc ps _ (HD.out.keep hb) (HX.out.keep hb) (HP.out.keep hb) false HV).mono ?_
    rintro e W1 ⟨rfl, hb1⟩
    go_wp2_with fail
    go_ret2
    exact ⟨rfl, hb.trans hb1⟩
  · have e1 : ptL t = outT (bodyTx t) := by unfold ptL; rw [hv]; rfl
    have e2 : ptC t = outTC (bodyTx t) := by unfold ptC; rw [hv]; rfl
    rw [e1, e2]
    have hpa := validT_parts hv
    obtain ⟨o, num, prev, ds, xs, ps⟩ := t
    obtain ⟨da, dn, dc, aa, an, ac, pd, pn, pc⟩ := s
    obtain ⟨hd, hx, hp, _, _, _⟩ := h
    dsimp only at *
    have h0 := hpa.o0
    have h1 := hpa.o1
    have hn := hpa.num
    have hpr := hpa.prev
    have hbd := hpa.bound
    have hfew := hpa.few
    have hax := putL_small hpa.deps
    have hfl := flatT_len ps (fun p hp => hpa.fits hp)
    have hhd := headTx_len hpa.deps
    have hpl := hp.len
    have hxl := hx.len
    dsimp only at h0 h1 hn hpr hfew
    obtain ⟨oi, rfl⟩ := Int.eq_ofNat_of_zero_le h0
    have hlt : oi < an := by omega
    obtain ⟨bx, ox, rfl, hcx⟩ := hx.cells oi hlt
    have hcm := hcx oi hlt
    unfold txV
    dsimp only
    have e3 : atT ⟨(oi : Int), num, prev, ds, xs, ps⟩ = nth xs oi := rfl
    rw [e3] at hbd hpr
    have hh : headTx ⟨(oi : Int), num, prev, ds, xs, ps⟩ = numB (oi : Int) 1 ++ (numB num 6 ++ (numB prev 6 ++ (putL ds ++ numB (nth xs oi) 6))) := rfl
    have hval := (valid_parts hpa.at_).2.1
    dsimp only at hval
    refine txPut_hid oi num prev da dn dc ds bx ox an ac xs pd pn pc ps w (Lib.hid hd) (Lib.hid hx) (Lib.hid hp) (by omega) hlt (nth xs oi) (Lib.hid hcm) (Lib.hid fun p hp => hpa.fits hp) (Lib.hid hv) (Lib.hid hpa.deps)
      (strL (numB (oi : Int) 1)) (strL (numB num 6)) (strL (numB prev 6)) (strL (putL ds)) (strL (numB (nth xs oi) 6)) (strL (numB (oi : Int) 1 ++ numB num 6)) (strL ((numB (oi : Int) 1 ++ numB num 6) ++ numB prev 6)) (strL (((numB (oi : Int) 1 ++ numB num 6) ++ numB prev 6) ++ putL ds)) (strL (headTx ⟨(oi : Int), num, prev, ds, xs, ps⟩))
      (Lib.hid ?_) (headTx ⟨(oi : Int), num, prev, ds, xs, ps⟩) (Lib.hid rfl) (Lib.hid rfl) (Lib.hid fun w => tnum1 (oi : Int) w (by omega) (by omega)) (Lib.hid fun w => tnum6 num w (by omega) (by omega)) (Lib.hid fun w => tnum6 prev w (by omega) (by omega)) (Lib.hid fun w => tnum6 (nth xs oi) w (by omega) (by omega)) (bodyTx ⟨(oi : Int), num, prev, ds, xs, ps⟩) (Lib.hid rfl) ?_
    · constructor
      all_goals first | exact strL_app _ _ | (rw [strL_app, hh]; simp only [List.append_assoc]; done) | (refine strL_smallT ?_; (try simp only [List.length_append, numB_len]); dsimp only at hax; omega)
    · unfold bodyTx
      rw [List.length_append]
      dsimp only at hfl hhd ⊢
      omega
end Go.Proofs.YtkpikmfijcffiaaGreat
end

/- the state of txn.read. By an AI agent. -/
section
set_option linter.unusedVariables false
set_option linter.unusedSimpArgs false
namespace Go.Proofs.YtkpikmfijcffiaaGreat
open Go.RowKit

theorem FarWA.fillA {B : Nat} {a : Option Addr} {n : Nat} {ps : List (ByteArray × ActL)} {q : Nat} (hq : q < B) (vs : List Value) : ∀ (w : World) (j : Nat), FarWA B w a n ps → FarWA B (fill w q j vs) a n ps := by
  induction vs with
  | nil => intro w j h; exact h
  | cons v vs ih => intro w j h; exact ih _ _ (h.set hq j v)
def txL (o num prev : Int) (dd : Option Addr) (dn dc : Nat) (ad : Option Addr) (an ac : Nat) (pd : Option Addr) (pn pc : Nat) : List Value := [.int .i64 o, .int .i64 num, .int .i64 prev, .slice dd dn dc, .slice ad an ac, .slice pd pn pc]
/-- the result's box and the reader's -/
structure TGR (w W : World) (l : List UInt8) : Prop where
  bl : Bl w W
  r : AC W w.heap.size zTx
  c : C1 W (w.heap.size + 1) (.string (strL l))
theorem TGR.keep {w W W' : World} {l : List UInt8} (h : TGR w W l) (k : Bl W W') : TGR w W' l := ⟨h.bl.trans k, h.r.keep k, h.c.keep k⟩
theorem TGR.set {w W : World} {l : List UInt8} (h : TGR w W l) (m : List UInt8) : TGR w (W.setCell ⟨w.heap.size + 1, 0, none⟩ (.string (strL m))) m :=
  ⟨h.bl.setCell (p := ⟨w.heap.size + 1, 0, none⟩) (Nat.le_succ _) _, h.r.other (by omega), h.c.set _⟩
theorem TGR.new (w : World) (l : List UInt8) (T U : TypeId) : TGR w ((w.alloc (.cells zTx.toArray T)).alloc (.cells #[.string (strL l)] U)) l :=
  ⟨((Bl.refl w).alloc _).alloc _, (AC.new w _ rfl zTx T).keep ((Bl.refl _).alloc _), C1.new _ (w.heap.size + 1) (by simp) _ U⟩
theorem TGR.lt {w W : World} {l : List UInt8} (h : TGR w W l) : w.heap.size + 1 < W.heap.size := h.c.lt
theorem TGR.stored {w W : World} {l : List UInt8} (h : TGR w W l) {g : Nat} (hg : w.heap.size + 1 + 1 ≤ g) (j : Nat) (v : Value) : TGR w (W.setCell ⟨g, j, none⟩ v) l :=
  ⟨h.bl.setCell (p := ⟨g, j, none⟩) (by show w.heap.size ≤ g; omega) v, h.r.other (by omega), h.c.otherj (by omega)⟩
theorem TGR.fr {w W W' : World} {l : List UInt8} (h : TGR w W l) {B : Nat} (hb : Below B W W') (hB : w.heap.size + 1 + 1 ≤ B) : TGR w W' l :=
  ⟨Below.trans h.bl (Below.mono hb (by omega)), h.r.below hb (by omega), h.c.below hb (by omega)⟩
/-- .. and the transaction's own box, its two vectors, its writes so far (which lie from block B on) -/
structure TPG (w W : World) (l : List UInt8) (gx B : Nat) (cs : List Value) (dd : Option Addr) (dn : Nat) (ds : List Int) (ad : Option Addr) (an : Nat) (xs : List Int) (pv : Value) (k : Nat) (acc : List (ByteArray × ActL)) : Prop where
  g : TGR w W l
  a : AC W gx cs
  x : IA W dd dn ds
  ap : ∀ b off, dd = some ⟨b, off, none⟩ → dn = 0 ∨ (gx < b ∧ b < B)
  y : IA W ad an xs
  aq : ∀ b off, ad = some ⟨b, off, none⟩ → an = 0 ∨ (gx < b ∧ b < B)
  o : OWR B W pv k acc
  ge : w.heap.size + 1 + 1 ≤ gx
  gb : gx < B
  lt : B ≤ W.heap.size
section
variable {w W W' : World} {l : List UInt8} {gx B : Nat} {cs : List Value} {dd : Option Addr} {dn : Nat} {ds : List Int} {ad : Option Addr} {an : Nat} {xs : List Int} {pv v' : Value} {k : Nat} {acc : List (ByteArray × ActL)}
theorem TPG.keep (h : TPG w W l gx B cs dd dn ds ad an xs pv k acc) (b : Bl W W') : TPG w W' l gx B cs dd dn ds ad an xs pv k acc :=
  ⟨h.g.keep b, h.a.keep b, h.x.keep b, h.ap, h.y.keep b, h.aq, h.o.keep b, h.ge, h.gb, Nat.le_trans h.lt b.size⟩
theorem TPG.set (h : TPG w W l gx B cs dd dn ds ad an xs pv k acc) (m : List UInt8) : TPG w (W.setCell ⟨w.heap.size + 1, 0, none⟩ (.string (strL m))) m gx B cs dd dn ds ad an xs pv k acc := by
  have hge := h.ge
  have hgb := h.gb
  exact ⟨h.g.set m, h.a.other (by omega), h.x.apart (fun b off e => by have := h.ap b off e; omega) _ _, h.ap, h.y.apart (fun b off e => by have := h.aq b off e; omega) _ _, h.aq, h.o.set (by omega) _ _, h.ge, h.gb, by simpa using h.lt⟩
theorem TPG.new (g : TGR w W l) (a : AC W gx cs) (x : FarIA (gx + 1) W dd dn ds) (y : FarIA (gx + 1) W ad an xs) (hge : w.heap.size + 1 + 1 ≤ gx) : TPG w W l gx W.heap.size cs dd dn ds ad an xs (.slice none 0 0) 0 [] :=
  ⟨g, a, x.1, fun b off e => by have h1 := x.2 b off e; have h2 := x.1.block b off e; omega, y.1, fun b off e => by have h1 := y.2 b off e; have h2 := y.1.block b off e; omega, OWR.nil _ _, hge, a.lt, Nat.le_refl _⟩
/-- a write is put behind the others -/
theorem TPG.app (h : TPG w W l gx B cs dd dn ds ad an xs pv k acc) (p : ByteArray × ActL)
    (ho : W'.ownsRow B 58 5 v' (k + 1) (cellsW acc ++ writeCs p)) (hg : W.grownBy W' pv.ownBlock) : TPG w W' l gx B cs dd dn ds ad an xs v' (k + 1) (acc ++ [p]) := by
  have hb : Below B W W' := Below.grown (Below.refl _ W) hg h.lt (fun q hq => (World.ownsRow.lt h.o.2 q hq).1)
  have hge := h.ge
  have hgb := h.gb
  refine ⟨h.g.fr hb (by omega), h.a.below hb (by omega), h.x.below hb (fun b off e => by have := h.ap b off e; omega), h.ap, h.y.below hb (fun b off e => by have := h.aq b off e; omega), h.aq, ⟨by rw [List.length_append, h.o.1]; rfl, by rw [cellsW_snoc]; exact ho⟩, h.ge, h.gb, Nat.le_trans h.lt hb.size⟩
/-- .. and stored -/
theorem TPG.store (h : TPG w W l gx B cs dd dn ds ad an xs pv k acc) (j : Nat) (v : Value) : TPG w (W.setCell ⟨gx, j, none⟩ v) l gx B (cs.set j v) dd dn ds ad an xs pv k acc := by
  have hge := h.ge
  have hgb := h.gb
  exact ⟨h.g.stored hge j v, h.a.setj j v, h.x.apart (fun b off e => by have := h.ap b off e; omega) _ _, h.ap, h.y.apart (fun b off e => by have := h.aq b off e; omega) _ _, h.aq, h.o.set (by omega) _ _, h.ge, h.gb, by simpa using h.lt⟩
end
/-- a transaction of which all lists lie from block B on -/
structure TXF (B : Nat) (w : World) (s : TxAt) (t : TxnL) : Prop where
  d : FarIA B w s.da s.dn t.deps
  a : FarIA B w s.aa s.an t.at_
  ws : FarWA B w s.wa s.wn t.ws
theorem TXF.keep {B : Nat} {w w' : World} {s : TxAt} {t : TxnL} (h : TXF B w s t) (k : Bl w w') : TXF B w' s t := ⟨h.d.keep k, h.a.keep k, h.ws.keep k⟩
theorem TXF.mono {B B' : Nat} {w : World} {s : TxAt} {t : TxnL} (h : TXF B w s t) (k : B' ≤ B) : TXF B' w s t := ⟨h.d.mono k, h.a.mono k, h.ws.mono k⟩
theorem TXF.fill {B : Nat} {w : World} {s : TxAt} {t : TxnL} (h : TXF B w s t) {q : Nat} (hq : q < B) (vs : List Value) (j : Nat) : TXF B (Go.Proofs.YtkpikmfijcffiaaGreat.fill w q j vs) s t := ⟨h.d.fill hq vs _ _, h.a.fill hq vs _ _, FarWA.fillA hq vs _ _ h.ws⟩
theorem TXF.tx {B : Nat} {w : World} {s : TxAt} {t : TxnL} (h : TXF B w s t) (ok : TxOk t) : TX w s t := ⟨h.d.1, h.a.1, h.ws.1.ww ok.ws, ok.o, ok.num, ok.prev⟩
/-- what reading comes to -/
def TxPost (w : World) (l : List UInt8) (e : Ending) (w' : World) : Prop :=
  (∃ (t : TxnL) (s : TxAt), rdTx l = some t ∧ e = .returned (txV t s) ∧ TXF w.heap.size w' s t ∧ Bl w w') ∨
  (rdTx l = none ∧ e = panE ∧ Bl w w')
theorem tx_results {tmps : Array Value} {W : World} {g : Nat} {o num prev : Int} {dd : Option Addr} {dn dc : Nat} {ad : Option Addr} {an ac : Nat} {pd : Option Addr} {pn pc : Nat} (h : tmps.getD 2 undef = .pointer (some ⟨g, 0, none⟩)) (hc : AC W g (txL o num prev dd dn dc ad an ac pd pn pc)) :
    (results Tryz.f104 tmps).run Tryz.prog W = .ok (.agg #[.int .i64 o, .int .i64 num, .int .i64 prev, .slice dd dn dc, .slice ad an ac, .slice pd pn pc]) W := by
  rw [Array.getD_eq_getD_getElem?] at h
  have c0 := hc.cell 0 _ rfl
  have c1 := hc.cell 1 _ rfl
  have c2 := hc.cell 2 _ rfl
  have c3 := hc.cell 3 _ rfl
  have c4 := hc.cell 4 _ rfl
  have c5 := hc.cell 5 _ rfl
  simp [results, Tryz.results104, go_sem, h, c0, c1, c2, c3, c4, c5]
/-- why nothing is read -/
theorem rdTx_none {l body : List UInt8} (hb : l.take (l.length - 4) = body) (h : rdBodyT body = none) : rdTx l = none := by
  unfold rdTx
  rw [hb, h]
  split <;> rfl
theorem rdTx_short {l : List UInt8} (h : ¬ (4 ≤ l.length ∧ l.length ≤ 65000)) : rdTx l = none := by
  unfold rdTx
  rw [if_neg (fun q => h ⟨q.1, q.2.1⟩)]
theorem rdTx_sum {l : List UInt8} (h : numB (sumL (l.take (l.length - 4)) : Int) 4 ≠ l.drop (l.length - 4)) : rdTx l = none := by
  unfold rdTx
  rw [if_neg (fun q => h q.2.2)]
theorem rdTx_of {l body : List UInt8} {t : TxnL} (h1 : 4 ≤ l.length) (h2 : l.length ≤ 65000) (hb : l.take (l.length - 4) = body) (hs : numB (sumL body : Int) 4 = l.drop (l.length - 4)) (h : rdBodyT body = some t) :
    rdTx l = if validT t = true then some t else none := by
  unfold rdTx
  rw [hb, if_pos ⟨h1, h2, hs⟩, h, Option.bind_some]
theorem rdWrs_nil (f : Nat) : rdWrs f [] = some [] := by cases f <;> rfl
theorem rdWrs_cons (f : Nat) {l : List UInt8} (h : l ≠ []) : rdWrs (f + 1) l = (rdWr l).bind fun p => (rdWrs f p.2).map fun q => p.1 :: q := by
  show (if l.length = 0 then some [] else _) = _
  rw [if_neg (fun q => h (List.eq_nil_of_length_eq_zero q))]
theorem filled_T {l : List UInt8} (h : l ≠ []) : (strL l).toList.isEmpty = false := by
  rw [ByteArray.toList_eq]
  show l.isEmpty = false
  cases l with
  | nil => exact absurd rfl h
  | cons a l => rfl
theorem rdNumT_len {n : Nat} {l m : List UInt8} {x : Int} (h : rdNum n l = some (x, m)) : m.length + n ≤ l.length := by
  obtain ⟨e, -⟩ := rdNum_back h
  rw [e, List.length_append, numB_len]; omega
theorem txread_short (l : List UInt8) (w : World) (h : ¬ (4 ≤ l.length ∧ l.length ≤ 65000)) :
    Calls Tryz.prog 104 #[.string (strL l)] w (TxPost w l) := by
  have zl := strL_size l
  have HR := Lib.hid (rdTx_short h)
  have hb := (Bl.refl w).alloc (.cells zTx.toArray 62)
  have HB := Lib.hid hb
  unfold zTx at HB
  clear hb
  generalize strL l = sl at *
  generalize l.length = N at *
  by_cases h12 : 4 ≤ N
  · have q1 : decide ((4 : Int) ≤ (N : Int)) = true := decide_eq_true (by omega)
    have q2 : decide ((N : Int) ≤ 65000) = false := decide_eq_false (by omega)
    have q3 : decide (4 ≤ N) = true := decide_eq_true (by omega)
    have q4 : decide (N ≤ 65000) = false := decide_eq_false (by omega)
    clear h h12
    go_enter Tryz.func104, Tryz.ntmps104
    go_wp2_with fail
    refine (twant_no _).mono ?_
    rintro e W12 ⟨rfl, rfl⟩
    unfold panE
    go_wp2_with fail
    exact ⟨rfl, .inr ⟨HR.out, rfl, HB.out⟩⟩
  · have q1 : decide ((4 : Int) ≤ (N : Int)) = false := decide_eq_false (by omega)
    have q3 : decide (4 ≤ N) = false := decide_eq_false (by omega)
    clear h h12
    go_enter Tryz.func104, Tryz.ntmps104
    go_wp2_with fail
    refine (twant_no _).mono ?_
    rintro e W12 ⟨rfl, rfl⟩
    unfold panE
    go_wp2_with fail
    exact ⟨rfl, .inr ⟨HR.out, rfl, HB.out⟩⟩
end Go.Proofs.YtkpikmfijcffiaaGreat
end
