import Derived.Test.YtaelghbjbopilaaGreatQProtoRepliesUptoP15
import Derived.Test.YtaelghbjbopilaaGreatQProtoRepliesUptoP18
import Derived.Test.YtaelghbjbopilaaGreatQProtoRepliesUptoP11

/- proto.GetAsk's closure (printed in part by wip/gen/prot7.py). By an AI agent. -/
section
set_option linter.unusedVariables false
set_option linter.unusedSimpArgs false
namespace Go.Proofs.YtaelghbjbopilaaGreat
open Go.RowKit

def zeroAskCs : List Value := askCs 0 0 0 0 0 none 0 0 ⟨#[]⟩ ⟨#[]⟩ 0 0 0 ⟨#[]⟩
/-- the closure's boxes: the result, the reader -/
structure GS (w W : World) (l : List UInt8) : Prop where
  bl : Bl w W
  r : AC W w.heap.size zeroAskCs
  c : C1 W (w.heap.size + 1) (.string (strL l))
theorem GS.keep {w W W' : World} {l : List UInt8} (h : GS w W l) (k : Bl W W') : GS w W' l := ⟨h.bl.trans k, h.r.keep k, h.c.keep k⟩
theorem GS.set {w W : World} {l : List UInt8} (h : GS w W l) (m : List UInt8) : GS w (W.setCell ⟨w.heap.size + 1, 0, none⟩ (.string (strL m))) m :=
  ⟨h.bl.setCell (p := ⟨w.heap.size + 1, 0, none⟩) (Nat.le_succ _) _, h.r.other (by omega), h.c.set _⟩
theorem GS.new (w : World) (l : List UInt8) (T U : TypeId) : GS w ((w.alloc (.cells zeroAskCs.toArray T)).alloc (.cells #[.string (strL l)] U)) l :=
  ⟨((Bl.refl w).alloc _).alloc _, (AC.new w _ rfl zeroAskCs T).keep ((Bl.refl _).alloc _), C1.new _ (w.heap.size + 1) (by simp) _ U⟩
theorem GS.bad {w W W' : World} {l : List UInt8} (h : GS w W l) {r : ByteArray} (hb : Bl (W.setCell ⟨w.heap.size + 1, 0, none⟩ (.string r)) W') : Bl w W' :=
  (show Bl w (W.setCell ⟨w.heap.size + 1, 0, none⟩ (.string r)) from h.bl.setCell (p := ⟨w.heap.size + 1, 0, none⟩) (Nat.le_succ _) _).trans hb
theorem GS.lt {w W : World} {l : List UInt8} (h : GS w W l) : w.heap.size + 1 < W.heap.size := h.c.lt
/-- the closure's boxes, when the request's own is there too -/
structure G3 (w W : World) (l : List UInt8) (ga : Nat) (cs : List Value) (ad : Option Addr) (n ca : Nat) (xs : List Int) : Prop where
  g : GS w W l
  a : AC W ga cs
  x : FarO (w.heap.size + 1 + 1) W ad n ca xs
  ap : ∀ b off, ad = some ⟨b, off, none⟩ → w.heap.size + 1 + 1 ≤ b ∧ b ≠ ga
  ne1 : ga ≠ w.heap.size + 1
  ne0 : ga ≠ w.heap.size
  le : w.heap.size ≤ ga
theorem G3.keep {w W W' : World} {l : List UInt8} {ga : Nat} {cs : List Value} {ad : Option Addr} {n ca : Nat} {xs : List Int} (h : G3 w W l ga cs ad n ca xs) (k : Bl W W') : G3 w W' l ga cs ad n ca xs := ⟨h.g.keep k, h.a.keep k, h.x.keep k, h.ap, h.ne1, h.ne0, h.le⟩
theorem G3.set {w W : World} {l : List UInt8} {ga : Nat} {cs : List Value} {ad : Option Addr} {n ca : Nat} {xs : List Int} (h : G3 w W l ga cs ad n ca xs) (m : List UInt8) : G3 w (W.setCell ⟨w.heap.size + 1, 0, none⟩ (.string (strL m))) m ga cs ad n ca xs :=
  ⟨h.g.set m, h.a.other h.ne1, h.x.apart (fun b off e => by have := h.ap b off e; omega) _ _, h.ap, h.ne1, h.ne0, h.le⟩
theorem G3.put {w W : World} {l : List UInt8} {ga : Nat} {cs : List Value} {ad : Option Addr} {n ca : Nat} {xs : List Int} (h : G3 w W l ga cs ad n ca xs) (j : Nat) (v : Value) : G3 w (W.setCell ⟨ga, j, none⟩ v) l ga (cs.set j v) ad n ca xs :=
  ⟨⟨h.g.bl.setCell (p := ⟨ga, j, none⟩) h.le v, h.g.r.other (Ne.symm h.ne0), h.g.c.otherj (Ne.symm h.ne1)⟩, h.a.setj j v, h.x.apart (fun b off e => by have := h.ap b off e; omega) _ _, h.ap, h.ne1, h.ne0, h.le⟩
theorem G3.new {w W : World} {l : List UInt8} {ad : Option Addr} {n ca : Nat} {xs : List Int} (g : GS w W l) (x : FarO (w.heap.size + 1 + 1) W ad n ca xs) (cs : List Value) (T : TypeId) : G3 w (W.alloc (.cells cs.toArray T)) l W.heap.size cs ad n ca xs :=
  ⟨g.keep ((Bl.refl W).alloc _), AC.new W _ rfl cs T, x.keep ((Bl.refl W).alloc _), fun b off e => by have h1 := x.block b off e; omega, by have := g.lt; omega, by have := g.lt; omega, by have := g.lt; omega⟩
/-- what the closure comes to -/
def AskPost (w : World) (l : List UInt8) (e : Ending) (w' : World) : Prop :=
  (∃ (a : AskL) (ad : Option Addr) (n ca : Nat), rdAsk l = some a ∧ e = .returned (askV a.kind a.ses a.tx a.id a.num ad n ca a.key a.text a.act.k a.act.x a.act.n a.act.s) ∧ FarO w.heap.size w' ad n ca a.at_ ∧ Bl w w') ∨
  (rdAsk l = none ∧ e = panE ∧ Bl w w')
theorem ga_results {tmps : Array Value} {W : World} {g : Nat} {k s t i m : Int} {ad : Option Addr} {n ca : Nat} {key text : ByteArray} {ak : Int} {ax : Nat} {an : Int} {az : ByteArray} (h : tmps.getD 1 undef = .pointer (some ⟨g, 0, none⟩)) (hc : AC W g (askCs k s t i m ad n ca key text ak ax an az)) :
    (results Tryz.f113 tmps).run Tryz.prog W = .ok (askV k s t i m ad n ca key text ak ax an az) W := by
  rw [Array.getD_eq_getD_getElem?] at h
  obtain ⟨c0, c1, c2, c3, c4, c5, c6, c7, c8, c9, c10, c11⟩ := hc.ask
  simp [results, Tryz.results113, go_sem, h, c0, c1, c2, c3, c4, c5, c6, c7, c8, c9, c10, c11, askV]

theorem gotA_ok (l : List UInt8) : (getA l).1.Ok ∧ (getA l).1.s.size ≤ 1024 := by
  rcases getA_codes l with h | h
  · obtain ⟨_, h2, h3⟩ := putA_getA l h
    exact ⟨h3, right_size h2⟩
  · have hb : getA l = badA := by
      have hn : ∀ k m, (numA k m).2 = 0 ∨ numA k m = badA := fun k m => by unfold numA; split; exact .inl rfl; exact .inr rfl
      have hb : (getA l).2 = 0 ∨ getA l = badA := by
        unfold getA setA
        (repeat' split) <;> first | exact .inl rfl | exact .inr rfl | exact hn _ _
      rcases hb with q | q
      · rw [h] at q; exact absurd q (by decide)
      · exact q
    rw [hb]
    exact ⟨⟨by decide, by decide, by decide, by decide⟩, by decide⟩

set_option maxHeartbeats 6400000 in
set_option maxRecDepth 100000 in
theorem getAsk1_any (gb : Nat) (l : List UInt8) (w : World) (hg : C1 w gb (.string (strL l))) (hz : l.length ≤ 1000000) :
    Calls Tryz.prog 113 #[.pointer (some ⟨gb, 0, none⟩)] w (AskPost w l) := by
  have hsf := store_float
  have c0 := hg.cell
  have cl := (hg.keep ((Bl.refl w).alloc (.cells zeroAskCs.toArray 73))).cell
  unfold zeroAskCs askCs at cl
  clear hg
  go_enter Tryz.func113, Tryz.ntmps113
  go_wp2_with fail
  have G := GS.new w l 73 99
  unfold zeroAskCs askCs at G
  generalize (w.alloc (.cells #[.int .i64 0, .int .i64 0, .int .i64 0, .int .i64 0, .int .i64 0, .slice none 0 0, .string ⟨#[]⟩, .string ⟨#[]⟩, .int .i64 0, .float .f64 0, .int .i64 0, .string ⟨#[]⟩] 73)).alloc (.cells #[.string (strL l)] 99) = W0 at *
  have GH := Lib.hid G
  clear c0 cl G
  refine (pnum_any (w.heap.size + 1) l 1 _ GH.out.c (by decide) (by decide)).mono ?_
  rintro e W1 (⟨k, l1, h1, rfl, rfl⟩ | ⟨hn, rfl, rfl⟩)
  case inr =>
    unfold panE
    go_wp2_with fail
    exact ⟨rfl, .inr ⟨by simp [rdAsk, hn], rfl, GH.out.bl⟩⟩
  have H1 := Lib.hid h1
  have hz1 : l1.length ≤ 1000000 := by
    have := congrArg List.length (rdNum_back h1).1
    rw [List.length_append, numB_len] at this
    omega
  replace GH := Lib.hid (GH.out.set l1)
  clear h1
  generalize World.setCell _ _ (.string (strL l1)) = W1 at *
  go_wp2_with fail
  refine (pnum_any (w.heap.size + 1) l1 6 _ GH.out.c (by decide) (by decide)).mono ?_
  rintro e W2 (⟨s, l2, h2, rfl, rfl⟩ | ⟨hn, rfl, rfl⟩)
  case inr =>
    unfold panE
    go_wp2_with fail
    exact ⟨rfl, .inr ⟨by simp [rdAsk, H1.out, hn], rfl, GH.out.bl⟩⟩
  have H2 := Lib.hid h2
  have hz2 : l2.length ≤ 1000000 := by
    have := congrArg List.length (rdNum_back h2).1
    rw [List.length_append, numB_len] at this
    omega
  replace GH := Lib.hid (GH.out.set l2)
  clear h2
  generalize World.setCell _ _ (.string (strL l2)) = W2 at *
  go_wp2_with fail
  refine (pnum_any (w.heap.size + 1) l2 6 _ GH.out.c (by decide) (by decide)).mono ?_
  rintro e W3 (⟨t, l3, h3, rfl, rfl⟩ | ⟨hn, rfl, rfl⟩)
  case inr =>
    unfold panE
    go_wp2_with fail
    exact ⟨rfl, .inr ⟨by simp [rdAsk, H1.out, H2.out, hn], rfl, GH.out.bl⟩⟩
  have H3 := Lib.hid h3
  have hz3 : l3.length ≤ 1000000 := by
    have := congrArg List.length (rdNum_back h3).1
    rw [List.length_append, numB_len] at this
    omega
  replace GH := Lib.hid (GH.out.set l3)
  clear h3
  generalize World.setCell _ _ (.string (strL l3)) = W3 at *
  go_wp2_with fail
  refine (pnum_any (w.heap.size + 1) l3 6 _ GH.out.c (by decide) (by decide)).mono ?_
  rintro e W4 (⟨i, l4, h4, rfl, rfl⟩ | ⟨hn, rfl, rfl⟩)
  case inr =>
    unfold panE
    go_wp2_with fail
    exact ⟨rfl, .inr ⟨by simp [rdAsk, H1.out, H2.out, H3.out, hn], rfl, GH.out.bl⟩⟩
  have H4 := Lib.hid h4
  have hz4 : l4.length ≤ 1000000 := by
    have := congrArg List.length (rdNum_back h4).1
    rw [List.length_append, numB_len] at this
    omega
  replace GH := Lib.hid (GH.out.set l4)
  clear h4
  generalize World.setCell _ _ (.string (strL l4)) = W4 at *
  go_wp2_with fail
  refine (pnum_any (w.heap.size + 1) l4 6 _ GH.out.c (by decide) (by decide)).mono ?_
  rintro e W5 (⟨m, l5, h5, rfl, rfl⟩ | ⟨hn, rfl, rfl⟩)
  case inr =>
    unfold panE
    go_wp2_with fail
    exact ⟨rfl, .inr ⟨by simp [rdAsk, H1.out, H2.out, H3.out, H4.out, hn], rfl, GH.out.bl⟩⟩
  have H5 := Lib.hid h5
  have hz5 : l5.length ≤ 1000000 := by
    have := congrArg List.length (rdNum_back h5).1
    rw [List.length_append, numB_len] at this
    omega
  replace GH := Lib.hid (GH.out.set l5)
  clear h5
  generalize World.setCell _ _ (.string (strL l5)) = W5 at *
  go_wp2_with fail
  refine (pvecO_any (w.heap.size + 1) l5 _ GH.out.c hz5).mono ?_
  rintro e W6 (⟨ad, n, ca, xs, l6, h6, rfl, hb, hfar⟩ | ⟨hn, rfl, r, hb⟩)
  case inr =>
    unfold panE
    go_wp2_with fail
    exact ⟨rfl, .inr ⟨by simp [rdAsk, H1.out, H2.out, H3.out, H4.out, H5.out, hn], rfl, GH.out.bad hb⟩⟩
  have H6 := Lib.hid h6
  have hz6 : l6.length ≤ 1000000 := by
    have := congrArg List.length (rdVec_back h6).1
    unfold vecB at this
    rw [List.length_append, textB_len] at this
    omega
  have HF : Hid (FarO (w.heap.size + 1 + 1) W6 ad n ca xs) := Lib.hid (hfar.mono GH.out.lt)
  replace GH := Lib.hid ((GH.out.set l6).keep hb)
  clear h6 hb hfar
  go_wp2_with fail
  have HB7 := Lib.hid (GH.out.lt)
  refine (ptext_any (w.heap.size + 1) l6 _ GH.out.c hz6).mono ?_
  rintro e W7 (⟨key, l7, h7, rfl, hb⟩ | ⟨hn, rfl, r, hb⟩)
  case inr =>
    unfold panE
    go_wp2_with fail
    exact ⟨rfl, .inr ⟨by simp [rdAsk, H1.out, H2.out, H3.out, H4.out, H5.out, H6.out, hn], rfl, GH.out.bad hb⟩⟩
  have H7 := Lib.hid h7
  have hz7 : l7.length ≤ 1000000 ∧ key.length ≤ 1000000 := by
    have := congrArg List.length (rdText_back h7)
    rw [List.length_append, textB_len] at this
    omega
  have HZ7 := Lib.hid hz7.2
  replace hz7 := hz7.1
  replace HF := Lib.hid ((HF.out.set (Nat.lt_succ_self _) 0 (.string (strL l7))).keep hb)
  replace GH := Lib.hid ((GH.out.set l7).keep hb)
  clear h7 hb
  go_wp2_with fail
  have HB8 := Lib.hid (GH.out.lt)
  refine (ptext_any (w.heap.size + 1) l7 _ GH.out.c hz7).mono ?_
  rintro e W8 (⟨text, l8, h8, rfl, hb⟩ | ⟨hn, rfl, r, hb⟩)
  case inr =>
    unfold panE
    go_wp2_with fail
    exact ⟨rfl, .inr ⟨by simp [rdAsk, H1.out, H2.out, H3.out, H4.out, H5.out, H6.out, H7.out, hn], rfl, GH.out.bad hb⟩⟩
  have H8 := Lib.hid h8
  have hz8 : l8.length ≤ 1000000 ∧ text.length ≤ 1000000 := by
    have := congrArg List.length (rdText_back h8)
    rw [List.length_append, textB_len] at this
    omega
  have HZ8 := Lib.hid hz8.2
  replace hz8 := hz8.1
  replace HF := Lib.hid ((HF.out.set (Nat.lt_succ_self _) 0 (.string (strL l8))).keep hb)
  replace GH := Lib.hid ((GH.out.set l8).keep hb)
  clear h8 hb
  go_wp2_with fail
  have Q := Lib.hid (G3.new GH.out HF.out (askCs k s t i m ad n ca (strL key) (strL text) 0 0 0 ⟨#[]⟩) 73)
  unfold askCs at Q
  clear GH HF
  generalize W8.heap.size = ga at *
  generalize W8.alloc _ = W9 at *
  refine (ptext_any (w.heap.size + 1) l8 _ Q.out.g.c hz8).mono ?_
  rintro e W10 (⟨tx, l9, h9, rfl, hb⟩ | ⟨hn, rfl, r, hb⟩)
  case inr =>
    unfold panE
    go_wp2_with fail
    exact ⟨rfl, .inr ⟨by simp [rdAsk, H1.out, H2.out, H3.out, H4.out, H5.out, H6.out, H7.out, H8.out, rdAct, hn], rfl, Q.out.g.bad hb⟩⟩
  have H9 := Lib.hid h9
  replace Q := Lib.hid ((Q.out.set l9).keep hb)
  clear h9 hb
  have HOK := Lib.hid (gotA_ok tx)
  have HO := Lib.hid (fun w => oget_any (strL tx) tx w (strL_SB tx))
  have HRD : Hid (rdAct l8 = if (getA tx).2 = 0 then some ((getA tx).1, l9) else none) := Lib.hid (by unfold rdAct; rw [H9.out]; rfl)
  generalize getA tx = ga2 at *
  obtain ⟨⟨ak, ax, an, az⟩, code⟩ := ga2
  dsimp only at HO HRD HOK
  go_wp2_with fail
  refine (HO.out _).mono ?_
  rintro e W11 ⟨rfl, hb⟩
  have hbz : Bl W10 (W11.alloc (.cells #[.int .i64 ak, .float .f64 ax, .int .i64 an, .string az] 71)) := hb.alloc _
  have hct := AC.new W11 _ rfl [.int .i64 ak, .float .f64 ax, .int .i64 an, .string az] 71
  replace Q := Lib.hid (Q.out.keep hbz)
  have hc1 := Q.out.g.c.cell
  clear hb hbz
  by_cases hcode : code = 0
  · subst hcode
    have HRD2 : Hid (rdAct l8 = some (⟨ak, ax, an, az⟩, l9)) := Lib.hid (by rw [HRD.out, if_pos rfl])
    clear HRD
    by_cases h0 : l9 = []
    · subst h0
      have q : (strL []).toList.isEmpty = true := by rw [ByteArray.toList_eq]; rfl
      go_wp2_with fail
      refine (pwant_yes _).mono ?_
      rintro e W12 ⟨rfl, rfl⟩
      obtain ⟨b0, b1, b2, b3⟩ := hct.act
      have fa := Q.out.a.frozen
      have a8 := Q.out.a.cell 8 _ rfl
      have a9 := Q.out.a.cell 9 _ rfl
      have a10 := Q.out.a.cell 10 _ rfl
      have a11 := Q.out.a.cell 11 _ rfl
      have Q2 := Lib.hid ((((Q.out.put 8 (.int .i64 ak)).put 9 (.float .f64 ax)).put 10 (.int .i64 an)).put 11 (.string az))
      clear Q hct hc1
      generalize W11.heap.size = gc at *
      generalize W11.alloc _ = W13 at *
      obtain ⟨d0, d1, d2, d3, d4, d5, d6, d7, d8, d9, d10, d11⟩ := AC.ask (k := k) (s := s) (t := t) (i := i) (m := m) (ad := ad) (n := n) (ca := ca) (key := strL key) (text := strL text) (ak := ak) (ax := ax) (an := an) (az := az) Q2.out.a
      have hok : AskOk _ ⟨k, s, t, i, m, xs, strL key, strL text, ⟨ak, ax, an, az⟩⟩ ad n := ⟨Q2.out.x.far.1, by rw [strL_size]; have := HZ7.out; omega, by rw [strL_size]; have := HZ8.out; omega, HOK.out.1⟩
      have HAO := Lib.hid hok
      clear hok
      go_wp2_with fail
      cases hv : validA ⟨k, s, t, i, m, xs, strL key, strL text, ⟨ak, ax, an, az⟩⟩
      · refine (pvalid_hid k s t i m ad n ca xs (strL key) (strL text) ak ax an az false _ HAO.out (Lib.hid hv)).mono ?_
        rintro e W14 ⟨rfl, hb⟩
        have HV := Lib.hid hv
        replace Q2 := Lib.hid (Q2.out.keep hb)
        clear hv hb d0 d1 d2 d3 d4 d5 d6 d7 d8 d9 d10 d11 b0 b1 b2 b3 fa a8 a9 a10 a11 HAO
        go_wp2_with fail
        refine (pwant_no _).mono ?_
        rintro e W12 ⟨rfl, rfl⟩
        unfold panE
        go_wp2_with fail
        exact ⟨rfl, .inr ⟨by have := HV.out; unfold strL at this; simp [rdAsk, H1.out, H2.out, H3.out, H4.out, H5.out, H6.out, H7.out, H8.out, HRD2.out, this], rfl, Q2.out.g.bl⟩⟩
      · refine (pvalid_hid k s t i m ad n ca xs (strL key) (strL text) ak ax an az true _ HAO.out (Lib.hid hv)).mono ?_
        rintro e W14 ⟨rfl, hb⟩
        have HV := Lib.hid hv
        replace Q2 := Lib.hid (Q2.out.keep hb)
        clear hv hb d0 d1 d2 d3 d4 d5 d6 d7 d8 d9 d10 d11 b0 b1 b2 b3 fa a8 a9 a10 a11 HAO
        go_wp2_with fail
        refine (pwant_yes _).mono ?_
        rintro e W12 ⟨rfl, rfl⟩
        obtain ⟨d0, d1, d2, d3, d4, d5, d6, d7, d8, d9, d10, d11⟩ := AC.ask (k := k) (s := s) (t := t) (i := i) (m := m) (ad := ad) (n := n) (ca := ca) (key := strL key) (text := strL text) (ak := ak) (ax := ax) (an := an) (az := az) Q2.out.a
        have fr := Q2.out.g.r.frozen
        have r0 := Q2.out.g.r.cell 0 _ rfl
        have r1 := Q2.out.g.r.cell 1 _ rfl
        have r2 := Q2.out.g.r.cell 2 _ rfl
        have r3 := Q2.out.g.r.cell 3 _ rfl
        have r4 := Q2.out.g.r.cell 4 _ rfl
        have r5 := Q2.out.g.r.cell 5 _ rfl
        have r6 := Q2.out.g.r.cell 6 _ rfl
        have r7 := Q2.out.g.r.cell 7 _ rfl
        have r8 := Q2.out.g.r.cell 8 _ rfl
        have r9 := Q2.out.g.r.cell 9 _ rfl
        have r10 := Q2.out.g.r.cell 10 _ rfl
        have r11 := Q2.out.g.r.cell 11 _ rfl
        go_wp2_with fail
        refine bodyPost_ret (ga_results rfl (Q2.out.g.r.fill [.int .i64 k, .int .i64 s, .int .i64 t, .int .i64 i, .int .i64 m, .slice ad n ca, .string (strL key), .string (strL text), .int .i64 ak, .float .f64 ax, .int .i64 an, .string az] rfl)) rfl (.inl ⟨⟨k, s, t, i, m, xs, strL key, strL text, ⟨ak, ax, an, az⟩⟩, ad, n, ca, ?_, rfl, ?_, ?_⟩)
        · have := HV.out
          unfold strL at this
          simp [rdAsk, H1.out, H2.out, H3.out, H4.out, H5.out, H6.out, H7.out, H8.out, HRD2.out, this, strL]
        · exact FarO.mono (B := w.heap.size + 1 + 1) (FarO.fillApart (fun b off e => by have := Q2.out.ap b off e; omega) [.int .i64 k, .int .i64 s, .int .i64 t, .int .i64 i, .int .i64 m, .slice ad n ca, .string (strL key), .string (strL text), .int .i64 ak, .float .f64 ax, .int .i64 an, .string az] _ 0 Q2.out.x) (by omega)
        · exact Bl.fill (Nat.le_refl _) [.int .i64 k, .int .i64 s, .int .i64 t, .int .i64 i, .int .i64 m, .slice ad n ca, .string (strL key), .string (strL text), .int .i64 ak, .float .f64 ax, .int .i64 an, .string az] _ 0 Q2.out.g.bl
    · have q : (strL l9).toList.isEmpty = false := filled_L h0
      have HN := Lib.hid h0
      clear h0
      go_wp2_with fail
      refine (pwant_no _).mono ?_
      rintro e W12 ⟨rfl, rfl⟩
      unfold panE
      go_wp2_with fail
      exact ⟨rfl, .inr ⟨by simp [rdAsk, H1.out, H2.out, H3.out, H4.out, H5.out, H6.out, H7.out, H8.out, HRD2.out, HN.out], rfl, Q.out.g.bl⟩⟩
  · have HRD2 : Hid (rdAct l8 = none) := Lib.hid (by rw [HRD.out, if_neg hcode])
    have q : (code == 0) = false := by rw [beq_eq_false_iff_ne]; exact hcode
    clear HRD hcode
    go_wp2_with fail
    refine (pwant_no _).mono ?_
    rintro e W12 ⟨rfl, rfl⟩
    unfold panE
    go_wp2_with fail
    exact ⟨rfl, .inr ⟨by simp [rdAsk, H1.out, H2.out, H3.out, H4.out, H5.out, H6.out, H7.out, H8.out, HRD2.out], rfl, Q.out.g.bl⟩⟩
end Go.Proofs.YtaelghbjbopilaaGreat
end

/- proto.safely of a request, proto.GetAsk. By an AI agent. -/
section
set_option linter.unusedVariables false
set_option linter.unusedSimpArgs false
namespace Go.Proofs.YtaelghbjbopilaaGreat
open Go.RowKit

theorem scatch_idle (a0 a1 : Addr) (w : World) :
    CallsD Tryz.prog 166 #[.pointer (some a0), .pointer (some a1)] .returning w fun e u' w' => e = .returned (.tuple #[]) ∧ u' = .returning ∧ w' = w := by
  refine callsD_of_wpS Tryz.func166 rfl fun c₀ cs hu => ?_
  apply wpS_seq
  apply wpS_region
  simp [wpOpsS, go_sem, recoverD, hu, Tryz.ntmps166, Exit.thenS]
  apply wpS_seq
  apply wpS_region
  simp [wpOpsS, go_sem, Exit.thenS]
  refine wpS_cond (t := false) (by simp [Act.eval, Array.replicate]) ?_
  simp only [Bool.false_eq_true, if_false]
  refine wpS_of_wp (wp_skip ?_)
  cases c₀
  simp_all [bodyPostS, results, Tryz.results166]

set_option maxHeartbeats 1600000 in
set_option maxRecDepth 100000 in
theorem scatch_code (g0 g1 : Nat) (c : Int) (v1 : Value) (older : List PanicEntry) (w : World) (h0 : AC w g0 zeroAskCs) (h1 : AC w g1 [v1]) (n01 : g0 ≠ g1) :
    CallsD Tryz.prog 166 #[.pointer (some ⟨g0, 0, none⟩), .pointer (some ⟨g1, 0, none⟩)] (.panicking ({ v := .iface 22 (.int .i64 c), recovered := false } :: older)) w fun e u' w' =>
      e = .returned (.tuple #[]) ∧ u' = .panicking ({ v := .iface 22 (.int .i64 c), recovered := true } :: older) ∧ w' = (fill (w.alloc (.cells zeroAskCs.toArray 73)) g0 0 zeroAskCs).setCell ⟨g1, 0, none⟩ (.int .i64 c) := by
  have hsf := store_float
  have h2 := AC.new w w.heap.size rfl zeroAskCs 73
  have hk := h0.keep ((Bl.refl w).alloc (.cells zeroAskCs.toArray 73))
  have hk1 := h1.keep ((Bl.refl w).alloc (.cells zeroAskCs.toArray 73))
  have H4 := AC.fillOther (Ne.symm n01) zeroAskCs _ 0 hk1
  have f0 := hk.frozen
  obtain ⟨k0, k1, k2, k3, k4, k5, k6, k7, k8, k9, k10, k11⟩ := AC.ask hk
  obtain ⟨d0, d1, d2, d3, d4, d5, d6, d7, d8, d9, d10, d11⟩ := AC.ask h2
  have e0 := H4.cell 0 _ rfl
  have ef := H4.frozen 0
  simp only [zeroAskCs, askCs, fill] at *
  refine callsD_of_wpS Tryz.func166 rfl fun c₀ cs hu => ?_
  apply wpS_seq
  apply wpS_region
  simp [wpOpsS, go_sem, recoverD, hu, Tryz.ntmps166, Exit.thenS]
  apply wpS_seq
  apply wpS_region
  simp [wpOpsS, go_sem, Exit.thenS]
  refine wpS_cond (t := true) (by simp [Act.eval, Array.replicate]) ?_
  simp only [if_true]
  apply wpS_seq
  apply wpS_region
  simp [wpOpsS, go_sem, Exit.thenS, assert_code, recoverD]
  apply wpS_seq
  apply wpS_seq
  apply wpS_region
  simp [wpOpsS, go_sem, Exit.thenS, recoverD]
  refine wpS_cond (t := false) (by simp [Act.eval, Array.replicate]) ?_
  simp only [Bool.false_eq_true, if_false]
  refine wpS_of_wp (wp_skip ?_)
  simp only [Exit.thenS]
  apply wpS_seq
  apply wpS_region
  simp [wpOpsS, go_sem, Exit.thenS, recoverD]
  clear h0 h1 h2 hk hk1 H4
  generalize w.alloc (.cells #[.int .i64 0, .int .i64 0, .int .i64 0, .int .i64 0, .int .i64 0, .slice none 0 0, .string ⟨#[]⟩, .string ⟨#[]⟩, .int .i64 0, .float .f64 0, .int .i64 0, .string ⟨#[]⟩] 73) = W at *
  apply wpS_region
  simp [wpOpsS, go_sem, hsf, f0, k0, k1, k2, k3, k4, k5, k6, k7, k8, k9, k10, k11, d0, d1, d2, d3, d4, d5, d6, d7, d8, d9, d10, d11, e0, ef, recoverD, bodyPostS, results, Tryz.results166]

/-- the two boxes of safely -/
structure SF (w W : World) (cs : List Value) (e : Int) : Prop where
  bl : Bl w W
  r : AC W w.heap.size cs
  t : AC W (w.heap.size + 1) [.int .i64 e]
theorem SF.keep {w W W' : World} {cs : List Value} {e : Int} (h : SF w W cs e) (k : Bl W W') : SF w W' cs e := ⟨h.bl.trans k, h.r.keep k, h.t.keep k⟩
theorem SF.new (w : World) (T U : TypeId) (cs : List Value) (e : Int) : SF w ((w.alloc (.cells cs.toArray T)).alloc (.cells #[.int .i64 e] U)) cs e :=
  ⟨((Bl.refl w).alloc _).alloc _, (AC.new w _ rfl cs T).keep ((Bl.refl _).alloc _), AC.new _ (w.heap.size + 1) (by simp) [.int .i64 e] U⟩
theorem SF.set {w W : World} {cs : List Value} {e0 : Int} (h : SF w W cs e0) (vs : List Value) (hl : cs.length = vs.length) (e : Int) : SF w ((fill W w.heap.size 0 vs).setCell ⟨w.heap.size + 1, 0, none⟩ (.int .i64 e)) vs e :=
  ⟨(show Bl w _ from Bl.fill (Nat.le_refl _) vs _ 0 h.bl).setCell (p := ⟨w.heap.size + 1, 0, none⟩) (Nat.le_succ _) _, (h.r.fill vs hl).other (by omega), (AC.fillOther (by omega) vs _ 0 h.t).setj 0 _⟩
theorem safely_results {tmps : Array Value} {W : World} {g0 g1 : Nat} {k s t i m : Int} {ad : Option Addr} {n ca : Nat} {key text : ByteArray} {ak : Int} {ax : Nat} {an : Int} {az : ByteArray} {e : Int} (h0 : tmps.getD 2 undef = .pointer (some ⟨g0, 0, none⟩)) (h1 : tmps.getD 3 undef = .pointer (some ⟨g1, 0, none⟩))
    (hc : AC W g0 (askCs k s t i m ad n ca key text ak ax an az)) (d1 : AC W g1 [.int .i64 e]) :
    (results Tryz.f112 tmps).run Tryz.prog W = .ok (.tuple #[askV k s t i m ad n ca key text ak ax an az, .int .i64 e]) W := by
  rw [Array.getD_eq_getD_getElem?] at h0 h1
  obtain ⟨c0, c1, c2, c3, c4, c5, c6, c7, c8, c9, c10, c11⟩ := hc.ask
  have k8 := d1.cell 0 _ rfl
  simp [results, Tryz.results112, go_sem, h0, h1, c0, c1, c2, c3, c4, c5, c6, c7, c8, c9, c10, c11, k8, askV]
/-- what GetAsk comes to -/
def GetPostO (w : World) (l : List UInt8) (e : Ending) (w' : World) : Prop :=
  (∃ (a : AskL) (ad : Option Addr) (n ca : Nat), rdAsk l = some a ∧ e = .returned (.tuple #[askV a.kind a.ses a.tx a.id a.num ad n ca a.key a.text a.act.k a.act.x a.act.n a.act.s, .int .i64 0]) ∧ FarO w.heap.size w' ad n ca a.at_ ∧ Bl w w') ∨
  (rdAsk l = none ∧ e = .returned (.tuple #[askV 0 0 0 0 0 none 0 0 ⟨#[]⟩ ⟨#[]⟩ 0 0 0 ⟨#[]⟩, .int .i64 4]) ∧ Bl w w')
set_option maxHeartbeats 1600000 in
set_option maxRecDepth 100000 in
theorem safelyA_any (gb : Nat) (l : List UInt8) (w : World) (hg : C1 w gb (.string (strL l))) (hz : l.length ≤ 1000000) :
    Calls Tryz.prog 112 #[.func (.func 113) #[] #[.pointer (some ⟨gb, 0, none⟩)]] w (GetPostO w l) := by
  have hmf := hmf
  have hsf := store_float
  have H := Lib.hid (fun w hg => getAsk1_any gb l w hg hz)
  have G := SF.new w 73 22 zeroAskCs 0
  have hsz : w.heap.size + 2 ≤ ((w.alloc (.cells zeroAskCs.toArray 73)).alloc (.cells #[.int .i64 0] 22)).heap.size := by simp
  have hg2 := hg.keep G.bl
  clear hg
  unfold zeroAskCs askCs at G hsz hg2
  go_enter_defers Tryz.func112, Tryz.ntmps112
  go_wp2_with fail
  generalize (w.alloc (.cells #[.int .i64 0, .int .i64 0, .int .i64 0, .int .i64 0, .int .i64 0, .slice none 0 0, .string ⟨#[]⟩, .string ⟨#[]⟩, .int .i64 0, .float .f64 0, .int .i64 0, .string ⟨#[]⟩] 73)).alloc (.cells #[.int .i64 0] 22) = W at *
  have GH := Lib.hid G
  clear G
  refine (H.out _ hg2).mono ?_
  rintro e w1 (⟨⟨k, s, t, i, m, xs, key, text, ⟨ak, ax, an, az⟩⟩, ad, n, ca, hr, rfl, hF, hb1⟩ | ⟨hr, rfl, hb1⟩)
  · have HR := Lib.hid hr
    have G := GH.out.keep hb1
    have HF := Lib.hid (hF.mono hsz)
    clear hb1 hr hF hsz hg2 GH
    dsimp only at *
    unfold askV
    have fr := G.r.frozen
    have k0 := G.r.cell 0 _ rfl
    have k1 := G.r.cell 1 _ rfl
    have k2 := G.r.cell 2 _ rfl
    have k3 := G.r.cell 3 _ rfl
    have k4 := G.r.cell 4 _ rfl
    have k5 := G.r.cell 5 _ rfl
    have k6 := G.r.cell 6 _ rfl
    have k7 := G.r.cell 7 _ rfl
    have k8 := G.r.cell 8 _ rfl
    have k9 := G.r.cell 9 _ rfl
    have k10 := G.r.cell 10 _ rfl
    have k11 := G.r.cell 11 _ rfl
    have H4 := AC.fillOther (g := w.heap.size + 1) (g' := w.heap.size) (by omega) [.int .i64 k, .int .i64 s, .int .i64 t, .int .i64 i, .int .i64 m, .slice ad n ca, .string key, .string text, .int .i64 ak, .float .f64 ax, .int .i64 an, .string az] w1 0 G.t
    have e0 := H4.cell 0 _ rfl
    have ef := H4.frozen 0
    simp only [fill] at e0 ef
    have GH := Lib.hid G
    clear H4 G
    go_wp2_with fail
    refine leaves_cons (f := 166) (args := #[.pointer (some ⟨w.heap.size, 0, none⟩), .pointer (some ⟨w.heap.size + 1, 0, none⟩)]) (by simp) (by simp [go_sem]) ?_
    refine (scatch_idle _ _ _).mono ?_
    rintro e u' w'' ⟨rfl, rfl, rfl⟩
    have G2 := GH.out.set [.int .i64 k, .int .i64 s, .int .i64 t, .int .i64 i, .int .i64 m, .slice ad n ca, .string key, .string text, .int .i64 ak, .float .f64 ax, .int .i64 an, .string az] rfl 0
    have hF2 : FarO w.heap.size _ ad n ca xs := ((HF.out.fill (q := w.heap.size) (by omega) [.int .i64 k, .int .i64 s, .int .i64 t, .int .i64 i, .int .i64 m, .slice ad n ca, .string key, .string text, .int .i64 ak, .float .f64 ax, .int .i64 an, .string az] w1 0).set (q := w.heap.size + 1) (by omega) 0 (.int .i64 0)).mono (by omega)
    exact leaves_ret (safely_results rfl rfl G2.r G2.t) (.inl ⟨⟨k, s, t, i, m, xs, key, text, ⟨ak, ax, an, az⟩⟩, ad, n, ca, HR.out, rfl, hF2, G2.bl⟩)
  · have G := GH.out.keep hb1
    unfold panE
    clear hb1 hg2
    refine leaves_cons (f := 166) (args := #[.pointer (some ⟨w.heap.size, 0, none⟩), .pointer (some ⟨w.heap.size + 1, 0, none⟩)]) (by simp) (by simp [go_sem]) ?_
    refine (scatch_code w.heap.size (w.heap.size + 1) 4 _ [] _ G.r G.t (by omega)).mono ?_
    rintro e u' w'' ⟨rfl, rfl, rfl⟩
    have G := (G.keep ((Bl.refl _).alloc (.cells zeroAskCs.toArray 73))).set zeroAskCs rfl 4
    exact leaves_back (safely_results rfl rfl G.r G.t) (.inr ⟨hr, rfl, G.bl⟩)
theorem getAsk_results {tmps : Array Value} {W : World} {g0 : Nat} {k s t i m : Int} {ad : Option Addr} {n ca : Nat} {key text : ByteArray} {ak : Int} {ax : Nat} {an : Int} {az : ByteArray} {e : Int} (h0 : tmps.getD 2 undef = .pointer (some ⟨g0, 0, none⟩)) (h1 : tmps.getD 3 undef = .int .i64 e)
    (hc : AC W g0 (askCs k s t i m ad n ca key text ak ax an az)) :
    (results Tryz.f20 tmps).run Tryz.prog W = .ok (.tuple #[askV k s t i m ad n ca key text ak ax an az, .int .i64 e]) W := by
  rw [Array.getD_eq_getD_getElem?] at h0 h1
  obtain ⟨c0, c1, c2, c3, c4, c5, c6, c7, c8, c9, c10, c11⟩ := hc.ask
  simp [results, Tryz.results20, go_sem, h0, h1, c0, c1, c2, c3, c4, c5, c6, c7, c8, c9, c10, c11, askV]
set_option maxHeartbeats 1600000 in
set_option maxRecDepth 100000 in
theorem getAskO_any (l : List UInt8) (w : World) (hz : l.length ≤ 1000000) :
    Calls Tryz.prog 20 #[.string (strL l)] w (GetPostO w l) := by
  have hmf := hmf
  have hsf := store_float
  have hg := (C1.new w w.heap.size rfl (.string (strL l)) 9).keep ((Bl.refl _).alloc (.cells zeroAskCs.toArray 73))
  have hr := AC.new (w.alloc (.cells #[.string (strL l)] 9)) (w.heap.size + 1) (by simp) zeroAskCs 73
  have hb0 : Bl w ((w.alloc (.cells #[.string (strL l)] 9)).alloc (.cells zeroAskCs.toArray 73)) := ((Bl.refl w).alloc _).alloc _
  have hsz : w.heap.size + 2 ≤ ((w.alloc (.cells #[.string (strL l)] 9)).alloc (.cells zeroAskCs.toArray 73)).heap.size := by simp
  unfold zeroAskCs askCs at hg hr hb0 hsz
  have H := Lib.hid (fun w hg => safelyA_any w.heap.size l w hg hz)
  go_enter Tryz.func20, Tryz.ntmps20
  go_wp2_with fail
  generalize (w.alloc (.cells #[.string (strL l)] 9)).alloc (.cells #[.int .i64 0, .int .i64 0, .int .i64 0, .int .i64 0, .int .i64 0, .slice none 0 0, .string ⟨#[]⟩, .string ⟨#[]⟩, .int .i64 0, .float .f64 0, .int .i64 0, .string ⟨#[]⟩] 73) = W at *
  refine (safelyA_any w.heap.size l _ hg hz).mono ?_
  rintro e w1 (⟨⟨k, s, t, i, m, xs, key, text, ⟨ak, ax, an, az⟩⟩, ad, n, ca, hrd, rfl, hF, hb1⟩ | ⟨hrd, rfl, hb1⟩)
  · have HR := Lib.hid hrd
    have G := hr.keep hb1
    have HB := Lib.hid (hb0.trans hb1)
    have HF := Lib.hid (hF.mono hsz)
    clear hb1 hrd hF hsz hg hr hb0
    dsimp only at *
    unfold askV
    have fr := G.frozen
    obtain ⟨k0, k1, k2, k3, k4, k5, k6, k7, k8, k9, k10, k11⟩ := AC.ask G
    have GH := Lib.hid G
    clear G
    go_wp2_with fail
    refine bodyPost_ret (getAsk_results rfl rfl (GH.out.fill [.int .i64 k, .int .i64 s, .int .i64 t, .int .i64 i, .int .i64 m, .slice ad n ca, .string key, .string text, .int .i64 ak, .float .f64 ax, .int .i64 an, .string az] rfl)) rfl (.inl ⟨⟨k, s, t, i, m, xs, key, text, ⟨ak, ax, an, az⟩⟩, ad, n, ca, HR.out, rfl, ?_, ?_⟩)
    · exact (HF.out.fill (q := w.heap.size + 1) (by omega) [.int .i64 k, .int .i64 s, .int .i64 t, .int .i64 i, .int .i64 m, .slice ad n ca, .string key, .string text, .int .i64 ak, .float .f64 ax, .int .i64 an, .string az] w1 0).mono (by omega)
    · exact Bl.fill (Nat.le_succ _) [.int .i64 k, .int .i64 s, .int .i64 t, .int .i64 i, .int .i64 m, .slice ad n ca, .string key, .string text, .int .i64 ak, .float .f64 ax, .int .i64 an, .string az] _ 0 HB.out
  · have HR := Lib.hid hrd
    have G := hr.keep hb1
    have HB := Lib.hid (hb0.trans hb1)
    clear hb1 hrd hsz hg hr hb0
    unfold askV
    have fr := G.frozen
    obtain ⟨k0, k1, k2, k3, k4, k5, k6, k7, k8, k9, k10, k11⟩ := AC.ask G
    have GH := Lib.hid G
    clear G
    go_wp2_with fail
    refine bodyPost_ret (getAsk_results rfl rfl (GH.out.fill zeroAskCs rfl)) rfl (.inr ⟨HR.out, rfl, ?_⟩)
    exact Bl.fill (Nat.le_succ _) zeroAskCs _ 0 HB.out
/-- what GetAsk comes to -/
def GetPostA (w : World) (l : List UInt8) (e : Ending) (w' : World) : Prop :=
  (∃ (a : AskL) (ad : Option Addr) (n ca : Nat), rdAsk l = some a ∧ e = .returned (.tuple #[askV a.kind a.ses a.tx a.id a.num ad n ca a.key a.text a.act.k a.act.x a.act.n a.act.s, .int .i64 0]) ∧ FarIA w.heap.size w' ad n a.at_ ∧ Bl w w') ∨
  (rdAsk l = none ∧ e = .returned (.tuple #[askV 0 0 0 0 0 none 0 0 ⟨#[]⟩ ⟨#[]⟩ 0 0 0 ⟨#[]⟩, .int .i64 4]) ∧ Bl w w')
theorem getAsk_any (l : List UInt8) (w : World) (hz : l.length ≤ 1000000) :
    Calls Tryz.prog 20 #[.string (strL l)] w (GetPostA w l) := by
  refine (getAskO_any l w hz).mono ?_
  rintro e w' (⟨a, ad, n, ca, h1, h2, h3, h4⟩ | h)
  · exact .inl ⟨a, ad, n, ca, h1, h2, h3.far, h4⟩
  · exact .inr h
end Go.Proofs.YtaelghbjbopilaaGreat
end
