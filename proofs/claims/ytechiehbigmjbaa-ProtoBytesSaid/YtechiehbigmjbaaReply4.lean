/- proto.PutReply of an answer that can be. By an AI agent. -/
import Derived.Test.YtechiehbigmjbaaReply3
import Derived.Test.YtechiehbigmjbaaReply1
import Derived.Test.YtechiehbigmjbaaProt5
import Derived.Test.YtechiehbigmjbaaBuildF
set_option linter.unusedVariables false
set_option linter.unusedSimpArgs false
namespace Go.Proofs.Ytechiehbigmjbaa
open Go.RowKit
attribute [local go_sem] eOp eOper eUpon

/-- six texts, one behind the other -/
structure Six (q1 q2 q3 q4 q5 q6 p2 p3 p4 p5 p6 : ByteArray) : Prop where
  e2 : q1 ++ q2 = p2
  z2 : p2.size ≤ 400000
  y2 : q2.size ≤ 400000
  e3 : p2 ++ q3 = p3
  z3 : p3.size ≤ 400000
  y3 : q3.size ≤ 400000
  e4 : p3 ++ q4 = p4
  z4 : p4.size ≤ 400000
  y4 : q4.size ≤ 400000
  e5 : p4 ++ q5 = p5
  z5 : p5.size ≤ 400000
  y5 : q5.size ≤ 400000
  e6 : p5 ++ q6 = p6
  y6 : q6.size ≤ 400000
  y1 : q1.size ≤ 400000

/-- worlds that go on from W1 and hold a box -/
def WithBox (W1 : World) (g : Nat) (cs : List Value) (W' : World) : Prop := Bl W1 W' ∧ AC W' g cs
theorem WithBox.keep {W1 : World} {g : Nat} {cs : List Value} (w w' : World) (h : WithBox W1 g cs w) (k : Bl w w') : WithBox W1 g cs w' := ⟨h.1.trans k, h.2.keep k⟩
theorem byteCells_len (l : List UInt8) : (Lib.byteCells l).length = l.length := by simp [Lib.byteCells]
theorem flat_take_len (ps : List (ByteArray × ValL)) (k : Nat) : ((ps.take k).flatMap putPair).length ≤ (ps.flatMap putPair).length := by
  have h : (ps.flatMap putPair) = (ps.take k).flatMap putPair ++ (ps.drop k).flatMap putPair := by rw [← List.flatMap_append, List.take_append_drop]
  rw [h, List.length_append]; omega
theorem flat_take_succ (ps : List (ByteArray × ValL)) {k : Nat} (hk : k < ps.length) : (ps.take (k + 1)).flatMap putPair = (ps.take k).flatMap putPair ++ putPair (nthQ ps k) := by
  rw [List.take_succ_eq_append_getElem hk, List.flatMap_append, nthQ_eq hk]
  simp
theorem textS_any (s : ByteArray) (w : World) (hz : s.size ≤ 70000) :
    Calls Try.prog 93 #[.string s] w fun e w' => e = .returned (.string (strL (textB s.data.toList))) ∧ Bl w w' := by
  have := text_any s.data.toList w (by rw [show s.data.toList.length = s.size by simp]; omega)
  exact this
theorem putVal_len (v : ValL) : (putVal v).length = 21 + v.s.size := by
  unfold putVal
  simp only [List.length_append, numB_len, bytesN8_len, textB_len]
  have : v.s.data.toList.length = v.s.size := by simp
  omega
theorem pair_sizes {p : ByteArray × ValL} (h : PairOk p 70000) : (strL (textB p.1.data.toList)).size ≤ 400000 ∧ (strL (putVal p.2)).size ≤ 400000 := by
  rw [strL_size, strL_size, putVal_len, textB_len]
  have h1 := h.key
  have h2 := h.s
  have : p.1.data.toList.length = p.1.size := by simp
  omega

set_option maxHeartbeats 3200000 in
set_option maxRecDepth 100000 in
theorem putReply_hid (code num : Int) (ad : Option Addr) (n ca : Nat) (xs : List Int) (t : Bool) (x : Nat) (m : Int) (s : ByteArray) (pd : Option Addr) (pn pc : Nat) (ps : List (ByteArray × ValL)) (text : ByteArray) (w : World) (hx : Hid (IA w ad n xs)) (hp : Hid (PA w pd pn ps))
    (HR : Hid (∀ w, IA w ad n xs → PA w pd pn ps → Calls Try.prog 122 #[.agg #[.int .i64 code, .int .i64 num, .slice ad n ca, .bool t, .float .f64 x, .int .i64 m, .string s, .slice pd pn pc, .string text]] w fun e w' => e = .returned (.bool true) ∧ Bl w w'))
    (q1 q2 q3 q4 q5 q6 p2 p3 p4 p5 p6 : ByteArray) (N : Hid (Six q1 q2 q3 q4 q5 q6 p2 p3 p4 p5 p6)) (lf : List UInt8) (hlf : Hid (p6.data.toList = lf))
    (hps : Hid (∀ p ∈ ps, PairOk p 70000)) (hlen : Hid (lf.length + (ps.flatMap putPair).length ≤ 65536))
    (C1 : Hid (∀ w, Calls Try.prog 84 #[.int .i64 code, .int .i64 6] w fun e w' => e = .returned (.string q1) ∧ Bl w w'))
    (C2 : Hid (∀ w, Calls Try.prog 84 #[.int .i64 num, .int .i64 6] w fun e w' => e = .returned (.string q2) ∧ Bl w w'))
    (C3 : Hid (∀ w, IA w ad n xs → Calls Try.prog 92 #[.slice ad n ca] w fun e w' => e = .returned (.string q3) ∧ Bl w w'))
    (C4 : Hid (∀ w, Calls Try.prog 123 #[.agg #[.bool t, .float .f64 x, .int .i64 m, .string s]] w fun e w' => e = .returned (.string q4) ∧ Bl w w'))
    (C5 : Hid (∀ w, Calls Try.prog 93 #[.string text] w fun e w' => e = .returned (.string q5) ∧ Bl w w'))
    (C6 : Hid (∀ w, Calls Try.prog 84 #[.int .i64 (pn : Int), .int .i64 4] w fun e w' => e = .returned (.string q6) ∧ Bl w w')) :
    Calls Try.prog 51 #[.agg #[.int .i64 code, .int .i64 num, .slice ad n ca, .bool t, .float .f64 x, .int .i64 m, .string s, .slice pd pn pc, .string text]] w fun e w' => e = .returned (.tuple #[.string (strL (lf ++ ps.flatMap putPair)), .int .i64 0]) ∧ Bl w w' := by
  have hpn := hp.out.cap
  have hsf := store_float
  have hb := (Bl.refl w).alloc (.cells (repCs code num ad n ca t x m s pd pn pc text).toArray 94)
  have hg := AC.new w _ rfl (repCs code num ad n ca t x m s pd pn pc text) 94
  obtain ⟨c0, c1, c2, c3, c4, c5, c6, c7, c8⟩ := AC.rep hg
  unfold repCs at hg hb c0 c1 c2 c3 c4 c5 c6 c7 c8
  go_enter Try.func51, Try.ntmps51
  go_wp2_with fail
  generalize w.alloc _ = W at *
  refine (HR.out _ (hx.out.keep hb) (hp.out.keep hb)).mono ?_
  rintro e W1 ⟨rfl, hb1⟩
  have HB := Lib.hid (hb.trans hb1)
  have HG := Lib.hid (hg.keep hb1)
  clear hb hb1 hg c0 c1 c2 c3 c4 c5 c6 c7 c8
  go_upto_region 4 with fail
  have hbi := BI.new W1
  have hbl0 : Bl W1 ((W1.alloc (.cells #[.pointer none, .slice none 0 0] 156)).drew) := ((Bl.refl W1).alloc _).drew
  have HI := Lib.hid (hbi.keep ((Bl.refl _).drew))
  clear hbi
  refine wp_region_extC (Bl W1) (fun _ _ h k => h.trans k) hbl0 24 1 (by kernel_rfl) rfl (by kernel_rfl) (by kernel_rfl) ?_
  generalize hWD : (W1.alloc (.cells #[.pointer none, .slice none 0 0] 156)).drew = WD at *
  have HBD := Lib.hid hbl0
  have HWD := Lib.hid hWD
  clear hbl0 hWD
  generalize hgb : W1.heap.size = gb at *
  have HGB := Lib.hid hgb
  clear hgb
  simp only [List.take_succ_cons, List.take_zero]
  have c0 : ∀ q : ExtC (Bl W1), _ := fun q => (HG.out.keep q.ok).rep.1
  have c1 : ∀ q : ExtC (Bl W1), _ := fun q => (HG.out.keep q.ok).rep.2.1
  have c2 : ∀ q : ExtC (Bl W1), _ := fun q => (HG.out.keep q.ok).rep.2.2.1
  have c3 : ∀ q : ExtC (Bl W1), _ := fun q => (HG.out.keep q.ok).rep.2.2.2.1
  have c4 : ∀ q : ExtC (Bl W1), _ := fun q => (HG.out.keep q.ok).rep.2.2.2.2.1
  have c5 : ∀ q : ExtC (Bl W1), _ := fun q => (HG.out.keep q.ok).rep.2.2.2.2.2.1
  have c6 : ∀ q : ExtC (Bl W1), _ := fun q => (HG.out.keep q.ok).rep.2.2.2.2.2.2.1
  have c7 : ∀ q : ExtC (Bl W1), _ := fun q => (HG.out.keep q.ok).rep.2.2.2.2.2.2.2.1
  have c8 : ∀ q : ExtC (Bl W1), _ := fun q => (HG.out.keep q.ok).rep.2.2.2.2.2.2.2.2
  have C3' := Lib.hid (fun q : ExtC (Bl W1) => C3.out q.at (hx.out.keep (HB.out.trans q.ok)))
  have e2 := N.out.e2
  have z2 := N.out.z2
  have y2 := N.out.y2
  have e3 := N.out.e3
  have z3 := N.out.z3
  have y3 := N.out.y3
  have e4 := N.out.e4
  have z4 := N.out.z4
  have y4 := N.out.y4
  have e5 := N.out.e5
  have z5 := N.out.z5
  have y5 := N.out.y5
  have e6 := N.out.e6
  have y6 := N.out.y6
  have y1 := N.out.y1
  have s2_ : (9223372036854775807 < q1.size + q2.size) = False := eq_false (by omega)
  have s3_ : (9223372036854775807 < p2.size + q3.size) = False := eq_false (by omega)
  have s4_ : (9223372036854775807 < p3.size + q4.size) = False := eq_false (by omega)
  have s5_ : (9223372036854775807 < p4.size + q5.size) = False := eq_false (by omega)
  have s6_ : (9223372036854775807 < p5.size + q6.size) = False := eq_false (by omega)
  clear z2 y2 z3 y3 z4 y4 z5 y5 y6 y1
  repeat (refine wpE_step (fun K hK => ?_); go_simp; first | (refine hK _ ?_; clear hK K) | (apply Exists.intro; refine ⟨fun q => ?_, hK _ ?_⟩; (first | with_reducible exact C1.out _ | with_reducible exact C2.out _ | with_reducible exact C4.out _ | with_reducible exact C5.out _ | with_reducible exact C6.out _ | with_reducible exact C3'.out q); clear hK K))
  refine wpE_nil ?_
  clear c0 c1 c2 c3 c4 c5 c6 c7 c8 e2 e3 e4 e5 e6 s2_ s3_ s4_ s5_ s6_
  refine wpAnyE_one (i := 24) (by kernel_rfl) ?_
  intro W2 hb2
  go_simp
  have hl1 : lf.length ≤ 65536 := by have := hlen.out; omega
  have hbD := HBD.out.trans hb2
  refine (bi_writeString gb gb [] p6 lf hlf.out W2 (HI.out.keep hb2) (by simp; omega) (by rw [← HGB.out]; exact hbD.size)).mono ?_
  rintro e W3 ⟨rfl, hbi3, hb3⟩
  have hb13 : Bl W1 W3 := by
    rw [← HGB.out] at hb3
    exact Below.trans hbD hb3
  refine ⟨_, rfl, hb13, ?_⟩
  refine wpAnyE_done (by kernel_rfl) ?_
  intro W4 hb4
  have HBI := Lib.hid (hbi3.keep hb4)
  have HB14 := Lib.hid (hb13.trans hb4)
  clear hb13 hbi3 hb4 hb3 hbD HI HBD HWD hb2
  have c7 := (HG.out.keep HB14.out).rep.2.2.2.2.2.2.2.1
  go_wp2_with fail
  clear c7
  go_loopw [38] (fun i wr => ∃ (k : Nat) (l : List UInt8), k ≤ pn ∧ i = .int .i64 k ∧ BI gb gb l wr ∧ Bl W1 wr ∧ l = lf ++ (ps.take k).flatMap putPair) (fun i _ => pn - (intOf i).toNat)
  case atStart => exact ⟨0, _, Nat.zero_le _, rfl, HBI.out, HB14.out, by simp⟩
  case round =>
    clear HBI HB14
    obtain ⟨k, l, hk, rfl, hbi, hbl, hl⟩ := hrel
    have hll : l.length ≤ 65536 := by
      have h1 := flat_take_len ps k
      have h2 := hlen.out
      rw [hl, List.length_append]; omega
    have HL := Lib.hid hl
    have HI := Lib.hid hbi
    have HBL := Lib.hid hbl
    clear hl hbi hbl
    by_cases hlt : k < pn
    · have hkl : k < ps.length := by rw [hp.out.len]; exact hlt
      obtain ⟨ba, oa, rfl, _⟩ := hp.out.cells k hlt
      obtain ⟨c0, c1, c2, c3, c4⟩ := hp.out.get (HB.out.trans HBL.out) hlt
      have HM := Lib.hid (hps.out _ (nthQ_mem hkl))
      have HTK := Lib.hid (flat_take_succ ps hkl)
      have hl2 : (l ++ putPair (nthQ ps k)).length ≤ 65536 := by
        have h1 := flat_take_len ps (k + 1)
        have h2 := hlen.out
        rw [HL.out, List.append_assoc, ← HTK.out, List.length_append]; omega
      have HL2 := Lib.hid hl2
      clear hl2 hkl
      generalize nthQ ps k = p at *
      obtain ⟨key, ⟨pt, px, pm, pz⟩⟩ := p
      have HT := Lib.hid (fun w => textS_any key w HM.out.key)
      have HV := Lib.hid (fun w => value_any ⟨pt, px, pm, pz⟩ w HM.out.x HM.out.n HM.out.s)
      have HS := Lib.hid (pair_sizes HM.out)
      have HE : Hid (strL (textB key.data.toList) ++ strL (putVal ⟨pt, px, pm, pz⟩) = strL (putPair (key, ⟨pt, px, pm, pz⟩))) := Lib.hid (by rw [strL_app]; rfl)
      dsimp only at c0 c1 c2 c3 c4 HV HT HS HE
      generalize strL (textB key.data.toList) = qa at *
      generalize strL (putVal ⟨pt, px, pm, pz⟩) = qb at *
      go_upto_region 8 with fail
      have hFar := Far.new HI.out (.cells #[.string key, .bool pt, .float .f64 px, .int .i64 pm, .string pz] 87)
      have hbw := (Bl.refl wr).alloc (.cells #[.string key, .bool pt, .float .f64 px, .int .i64 pm, .string pz] 87)
      have hgp := AC.new wr _ rfl [.string key, .bool pt, .float .f64 px, .int .i64 pm, .string pz] 87
      have hne : wr.heap.size ≠ gb := Nat.ne_of_gt HI.out.lt
      have hi1 := HI.out.keep hbw
      have HFR := Lib.hid (hFar.keep hi1 ((Bl.refl _).drew))
      have HI1 := Lib.hid (hi1.keep ((Bl.refl _).drew))
      have HBD := Lib.hid ((HBL.out.trans hbw).drew)
      have HGP := Lib.hid (hgp.keep ((Bl.refl _).drew))
      clear hi1 hFar hbw hgp c0 c1 c2 c3 c4
      generalize hgpe : wr.heap.size = gp at *
      clear hgpe
      refine wp_region_extC (WithBox W1 gp [.string key, .bool pt, .float .f64 px, .int .i64 pm, .string pz]) WithBox.keep ⟨HBD.out, HGP.out⟩ 7 1 (by kernel_rfl) rfl (by kernel_rfl) (by kernel_rfl) ?_
      generalize (wr.alloc (.cells #[.string key, .bool pt, .float .f64 px, .int .i64 pm, .string pz] 87)).drew = WD at *
      simp only [List.take_succ_cons, List.take_zero]
      haveI : Nonempty (ExtC (WithBox W1 gp [.string key, .bool pt, .float .f64 px, .int .i64 pm, .string pz])) := ⟨⟨WD, HBD.out, HGP.out⟩⟩
      have d0 : ∀ q : ExtC (WithBox W1 gp [.string key, .bool pt, .float .f64 px, .int .i64 pm, .string pz]), _ := fun q => q.ok.2.cell 0 _ rfl
      have d1 : ∀ q : ExtC (WithBox W1 gp [.string key, .bool pt, .float .f64 px, .int .i64 pm, .string pz]), _ := fun q => q.ok.2.cell 1 _ rfl
      have d2 : ∀ q : ExtC (WithBox W1 gp [.string key, .bool pt, .float .f64 px, .int .i64 pm, .string pz]), _ := fun q => q.ok.2.cell 2 _ rfl
      have d3 : ∀ q : ExtC (WithBox W1 gp [.string key, .bool pt, .float .f64 px, .int .i64 pm, .string pz]), _ := fun q => q.ok.2.cell 3 _ rfl
      have d4 : ∀ q : ExtC (WithBox W1 gp [.string key, .bool pt, .float .f64 px, .int .i64 pm, .string pz]), _ := fun q => q.ok.2.cell 4 _ rfl
      have sab : (9223372036854775807 < qa.size + qb.size) = False := eq_false (by have := HS.out; omega)
      repeat (refine wpE_step (fun K hK => ?_); go_simp; first | (refine hK _ ?_; clear hK K) | (apply Exists.intro; refine ⟨fun q => ?_, hK _ ?_⟩; (first | with_reducible exact HT.out _ | with_reducible exact HV.out _); clear hK K))
      refine wpE_nil ?_
      clear d0 d1 d2 d3 d4 sab
      refine wpAnyE_one (i := 7) (by kernel_rfl) ?_
      intro W5 hb5
      go_simp
      rw [HE.out]
      refine (bi_writeFar gb gb l _ (putPair (key, ⟨pt, px, pm, pz⟩)) rfl W5 (HI1.out.keep hb5) (by have := HL2.out; rw [List.length_append] at this; show l.length + (putPair _).length ≤ _; omega) (by rw [← HGB.out]; exact (HBD.out.trans hb5).size) gp _ (HGP.out.keep hb5) hne (HFR.out.keep HI1.out hb5)).mono ?_
      rintro e W6 ⟨rfl, hbi6, hb6, hgp6⟩
      have hb16 : Bl W1 W6 := by
        rw [← HGB.out] at hb6
        exact Below.trans (HBD.out.trans hb5) hb6
      refine ⟨_, rfl, ⟨hb16, hgp6⟩, ?_⟩
      refine wpAnyE_done (by kernel_rfl) ?_
      intro W7 hb7
      have HBI := Lib.hid (hbi6.keep hb7)
      have HB17 := Lib.hid (hb16.trans hb7)
      clear hb16 hbi6 hb6 hb7 hgp6 hb5 HI1 HGP HBD HFR
      go_wp2_with fail
      refine (Try.Builder_Len gb gb _ _ HBI.out).mono ?_
      rintro e W8 ⟨rfl, rfl⟩
      have hbl : (Lib.byteCells (l ++ putPair (key, ⟨pt, px, pm, pz⟩))).length ≤ 65536 := by rw [byteCells_len]; exact HL2.out
      rw [byteCells_len] at hbl ⊢
      generalize hLL : (l ++ putPair (key, ⟨pt, px, pm, pz⟩)).length = LL at *
      have HLL := Lib.hid hLL
      clear hLL
      have hq1 : decide ((65536 : Int) < (LL : Int)) = false := decide_eq_false (by omega)
      have hq2 : decide (65536 < LL) = false := decide_eq_false (by omega)
      clear hbl
      go_wp2_with fail
      go_roundw
      case rel => exact ⟨k + 1, _, by omega, by go_num, HBI.out, HB17.out, by rw [HTK.out, HL.out, List.append_assoc]⟩
      case measure => simp [intOf]; omega
    · have hkp : k = pn := by omega
      subst hkp
      have hfin : l = lf ++ ps.flatMap putPair := by rw [HL.out, List.take_of_length_le (by rw [hp.out.len]; exact Nat.le_refl _)]
      have HF := Lib.hid hfin
      clear hfin
      go_wp2_with fail
      refine (Try.Builder_Len gb gb _ _ HI.out).mono ?_
      rintro e W8 ⟨rfl, rfl⟩
      rw [byteCells_len]
      generalize hLL : l.length = LL at *
      have HLL := Lib.hid hLL
      clear hLL
      have hq1 : decide ((65536 : Int) < (LL : Int)) = false := decide_eq_false (by omega)
      have hq2 : decide (65536 < LL) = false := decide_eq_false (by omega)
      clear hll
      go_wp2_with fail
      refine (Try.Builder_String_any gb gb l _ HI.out (by rw [← HGB.out]; exact HBL.out.size)).mono ?_
      rintro e w4 ⟨rfl, hb4⟩
      go_wp2_with fail
      go_ret2
      have hb4' : Bl W1 w4 := by
        rw [← HGB.out] at hb4
        exact Below.trans HBL.out hb4
      exact ⟨congrArg (fun l : List UInt8 => Ending.returned (.tuple #[.string (strL l), .int .i64 0])) HF.out, HB.out.trans hb4'⟩
theorem strL_small4 {l : List UInt8} (h : l.length ≤ 400000) : (strL l).size ≤ 400000 := by rw [strL_size]; exact h
theorem putReply_any (r : ReplyL) (ad : Option Addr) (n ca : Nat) (pd : Option Addr) (pn pc : Nat) (w : World) (ok : RepOk w r ad n pd pn) {z : Nat} (hr : RightR r z) (hz : z ≤ 65536) (hlen : (putReplyL r).length ≤ 65536) :
    Calls Try.prog 51 #[repV r.code r.num ad n ca r.val.there r.val.x r.val.n r.val.s pd pn pc r.text] w fun e w' => e = .returned (.tuple #[.string (strL (putReplyL r)), .int .i64 0]) ∧ Bl w w' := by
  have h1 := vecS_len r.at_
  have h3 := putVal_len r.val
  have hv := hr.vs
  have ht := hr.text
  have h4 : r.text.data.toList.length = r.text.size := by simp
  have hpn := ok.p.cap
  have epn : r.pairs.length = pn := ok.p.len
  have ef : putFront r = ((((numB r.code 6 ++ numB r.num 6) ++ vecB r.at_) ++ putVal r.val) ++ textB r.text.data.toList) ++ numB (pn : Int) 4 := by unfold putFront; rw [epn]; simp only [List.append_assoc]
  have H := putReply_hid r.code r.num ad n ca r.at_ r.val.there r.val.x r.val.n r.val.s pd pn pc r.pairs r.text w (Lib.hid ok.x) (Lib.hid ok.p) (Lib.hid fun w hx hp => pright_any r ad n ca pd pn pc w ⟨hx, hp⟩ hr hz)
    (strL (numB r.code 6)) (strL (numB r.num 6)) (strL (vecB r.at_)) (strL (putVal r.val)) (strL (textB r.text.data.toList)) (strL (numB (pn : Int) 4))
    (strL (numB r.code 6 ++ numB r.num 6)) (strL ((numB r.code 6 ++ numB r.num 6) ++ vecB r.at_)) (strL (((numB r.code 6 ++ numB r.num 6) ++ vecB r.at_) ++ putVal r.val)) (strL ((((numB r.code 6 ++ numB r.num 6) ++ vecB r.at_) ++ putVal r.val) ++ textB r.text.data.toList)) (strL (putFront r))
    (Lib.hid ?_) (putFront r) (Lib.hid rfl) (Lib.hid fun p hp => ?_) (Lib.hid ?_) (Lib.hid fun w => num6_any r.code w hr.code) (Lib.hid fun w => num6_any r.num w hr.num) (Lib.hid fun w hx => vector_any ad n ca r.at_ w hx) (Lib.hid fun w => value_any r.val w hr.vx hr.vn (by omega))
    (Lib.hid fun w => textS_any r.text w (by omega)) (Lib.hid fun w => num4_any pn w (by omega))
  · exact H
  · constructor
    all_goals first | exact strL_app _ _ | (rw [ef]; exact strL_app _ _) | (refine strL_small4 ?_; (try simp only [List.length_append, numB_len, textB_len, vecB]); omega)
  · have o := hr.pairs p hp
    exact ⟨by have := o.key; omega, o.x, o.n, by have := o.s; omega⟩
  · unfold putReplyL at hlen
    rwa [List.length_append] at hlen
end Go.Proofs.Ytechiehbigmjbaa
