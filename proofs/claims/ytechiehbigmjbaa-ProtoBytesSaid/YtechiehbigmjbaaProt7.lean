/- proto.GetAsk's closure (printed in part by wip/gen/prot7.py). By an AI agent. -/
import Derived.Test.YtechiehbigmjbaaProt5
import Derived.Test.YtechiehbigmjbaaProt6
set_option linter.unusedVariables false
set_option linter.unusedSimpArgs false
namespace Go.Proofs.Ytechiehbigmjbaa
open Go.RowKit

def zeroAskCs : List Value := askCs 0 0 0 0 0 none 0 0 ⟨#[]⟩ ⟨#[]⟩ 0 0 0 ⟨#[]⟩
/-- the closure's boxes: the result, the reader -/
structure GS (w W : World) (l : List UInt8) : Prop where
  bl : Bl w W
  r : AC W w.heap.size zeroAskCs
  c : C1 W (w.heap.size + 1) (.string (strL l))
theorem GS.keep {w W W' : World} {l : List UInt8} (h : GS w W l) (k : Bl W W') : GS w W' l := ⟨h.bl.trans k, h.r.keep k, h.c.keep k⟩
theorem GS.set {w W : World} {l : List UInt8} (h : GS w W l) (m : List UInt8) : GS w (W.setCell ⟨w.heap.size + 1, 0, none⟩ (.string (strL m))) m :=
  ⟨h.bl.setCell (p := ⟨w.heap.size + 1, 0, none⟩) (Nat.le_succ _) _, h.r.other (by omega), h.c.set _⟩
theorem GS.new (w : World) (l : List UInt8) (T U : TypeId) : GS w ((w.alloc (.cells zeroAskCs.toArray T)).alloc (.cells #[.string (strL l)] U)) l :=
  ⟨((Bl.refl w).alloc _).alloc _, (AC.new w _ rfl zeroAskCs T).keep ((Bl.refl _).alloc _), C1.new _ (w.heap.size + 1) (by simp) _ U⟩
theorem GS.bad {w W W' : World} {l : List UInt8} (h : GS w W l) {r : ByteArray} (hb : Bl (W.setCell ⟨w.heap.size + 1, 0, none⟩ (.string r)) W') : Bl w W' :=
  (show Bl w (W.setCell ⟨w.heap.size + 1, 0, none⟩ (.string r)) from h.bl.setCell (p := ⟨w.heap.size + 1, 0, none⟩) (Nat.le_succ _) _).trans hb
theorem GS.lt {w W : World} {l : List UInt8} (h : GS w W l) : w.heap.size + 1 < W.heap.size := h.c.lt
theorem IA.apart {w : World} {a : Option Addr} {n : Nat} {xs : List Int} (h : IA w a n xs) {q : Nat} (hq : ∀ b off, a = some ⟨b, off, none⟩ → n = 0 ∨ b ≠ q) (j : Nat) (u : Value) : IA (w.setCell ⟨q, j, none⟩ u) a n xs := by
  refine ⟨h.len, h.cap, fun i hi => ?_, h.wf⟩
  obtain ⟨b, off, e, hc⟩ := h.cells i hi
  refine ⟨b, off, e, fun i hi => ?_⟩
  have hne : b ≠ q := by
    have := hq b off e
    omega
  rw [← hc i hi]
  unfold World.cell?
  rw [Below.heap_setCell _ _ _ _ hne]
theorem IA.fillApart {a : Option Addr} {n : Nat} {xs : List Int} {q : Nat} (hq : ∀ b off, a = some ⟨b, off, none⟩ → n = 0 ∨ b ≠ q) (vs : List Value) : ∀ (w : World) (j : Nat), IA w a n xs → IA (fill w q j vs) a n xs := by
  induction vs with
  | nil => intro w j h; exact h
  | cons v vs ih => intro w j h; exact ih _ _ (h.apart hq j v)
theorem IA.block {w : World} {a : Option Addr} {n : Nat} {xs : List Int} (h : IA w a n xs) : ∀ b off, a = some ⟨b, off, none⟩ → n = 0 ∨ b < w.heap.size := by
  intro b off e
  by_cases hn : n = 0
  · exact .inl hn
  · obtain ⟨b', off', e', hc⟩ := h.cells 0 (by omega)
    rw [e] at e'
    cases e'
    exact .inr (World.block_lt_of_cell? _ _ (hc 0 (by omega)))
/-- the closure's boxes, when the request's own is there too -/
structure G3 (w W : World) (l : List UInt8) (ga : Nat) (cs : List Value) (ad : Option Addr) (n : Nat) (xs : List Int) : Prop where
  g : GS w W l
  a : AC W ga cs
  x : IA W ad n xs
  ap : ∀ b off, ad = some ⟨b, off, none⟩ → n = 0 ∨ (w.heap.size + 1 + 1 ≤ b ∧ b ≠ ga)
  ne1 : ga ≠ w.heap.size + 1
  ne0 : ga ≠ w.heap.size
  le : w.heap.size ≤ ga
theorem G3.keep {w W W' : World} {l : List UInt8} {ga : Nat} {cs : List Value} {ad : Option Addr} {n : Nat} {xs : List Int} (h : G3 w W l ga cs ad n xs) (k : Bl W W') : G3 w W' l ga cs ad n xs := ⟨h.g.keep k, h.a.keep k, h.x.keep k, h.ap, h.ne1, h.ne0, h.le⟩
theorem G3.set {w W : World} {l : List UInt8} {ga : Nat} {cs : List Value} {ad : Option Addr} {n : Nat} {xs : List Int} (h : G3 w W l ga cs ad n xs) (m : List UInt8) : G3 w (W.setCell ⟨w.heap.size + 1, 0, none⟩ (.string (strL m))) m ga cs ad n xs :=
  ⟨h.g.set m, h.a.other h.ne1, h.x.apart (fun b off e => by have := h.ap b off e; omega) _ _, h.ap, h.ne1, h.ne0, h.le⟩
theorem G3.put {w W : World} {l : List UInt8} {ga : Nat} {cs : List Value} {ad : Option Addr} {n : Nat} {xs : List Int} (h : G3 w W l ga cs ad n xs) (j : Nat) (v : Value) : G3 w (W.setCell ⟨ga, j, none⟩ v) l ga (cs.set j v) ad n xs :=
  ⟨⟨h.g.bl.setCell (p := ⟨ga, j, none⟩) h.le v, h.g.r.other (Ne.symm h.ne0), h.g.c.otherj (Ne.symm h.ne1)⟩, h.a.setj j v, h.x.apart (fun b off e => by have := h.ap b off e; omega) _ _, h.ap, h.ne1, h.ne0, h.le⟩
theorem G3.new {w W : World} {l : List UInt8} {ad : Option Addr} {n : Nat} {xs : List Int} (g : GS w W l) (x : FarIA (w.heap.size + 1 + 1) W ad n xs) (cs : List Value) (T : TypeId) : G3 w (W.alloc (.cells cs.toArray T)) l W.heap.size cs ad n xs :=
  ⟨g.keep ((Bl.refl W).alloc _), AC.new W _ rfl cs T, x.1.keep ((Bl.refl W).alloc _), fun b off e => by have h1 := x.2 b off e; have h2 := x.1.block b off e; omega, by have := g.lt; omega, by have := g.lt; omega, by have := g.lt; omega⟩
/-- what the closure comes to -/
def AskPost (w : World) (l : List UInt8) (e : Ending) (w' : World) : Prop :=
  (∃ (a : AskL) (ad : Option Addr) (n ca : Nat), rdAsk l = some a ∧ e = .returned (askV a.kind a.ses a.tx a.id a.num ad n ca a.key a.text a.act.k a.act.x a.act.n a.act.s) ∧ FarIA w.heap.size w' ad n a.at_ ∧ Bl w w') ∨
  (rdAsk l = none ∧ e = panE ∧ Bl w w')
theorem ga_results {tmps : Array Value} {W : World} {g : Nat} {k s t i m : Int} {ad : Option Addr} {n ca : Nat} {key text : ByteArray} {ak : Int} {ax : Nat} {an : Int} {az : ByteArray} (h : tmps.getD 1 undef = .pointer (some ⟨g, 0, none⟩)) (hc : AC W g (askCs k s t i m ad n ca key text ak ax an az)) :
    (results Try.f98 tmps).run Try.prog W = .ok (askV k s t i m ad n ca key text ak ax an az) W := by
  rw [Array.getD_eq_getD_getElem?] at h
  obtain ⟨c0, c1, c2, c3, c4, c5, c6, c7, c8, c9, c10, c11⟩ := hc.ask
  simp [results, Try.results98, go_sem, h, c0, c1, c2, c3, c4, c5, c6, c7, c8, c9, c10, c11, askV]

theorem gotA_ok (l : List UInt8) : (getA l).1.Ok ∧ (getA l).1.s.size ≤ 1024 := by
  rcases getA_codes l with h | h
  · obtain ⟨_, h2, h3⟩ := putA_getA l h
    exact ⟨h3, right_size h2⟩
  · have hb : getA l = badA := by
      have hn : ∀ k m, (numA k m).2 = 0 ∨ numA k m = badA := fun k m => by unfold numA; split; exact .inl rfl; exact .inr rfl
      have hb : (getA l).2 = 0 ∨ getA l = badA := by
        unfold getA setA
        (repeat' split) <;> first | exact .inl rfl | exact .inr rfl | exact hn _ _
      rcases hb with q | q
      · rw [h] at q; exact absurd q (by decide)
      · exact q
    rw [hb]
    exact ⟨⟨by decide, by decide, by decide, by decide⟩, by decide⟩

set_option maxHeartbeats 6400000 in
set_option maxRecDepth 100000 in
theorem getAsk1_any (gb : Nat) (l : List UInt8) (w : World) (hg : C1 w gb (.string (strL l))) (hz : l.length ≤ 1000000) :
    Calls Try.prog 98 #[.pointer (some ⟨gb, 0, none⟩)] w (AskPost w l) := by
  have hsf := store_float
  have c0 := hg.cell
  have cl := (hg.keep ((Bl.refl w).alloc (.cells zeroAskCs.toArray 66))).cell
  unfold zeroAskCs askCs at cl
  clear hg
  go_enter Try.func98, Try.ntmps98
  go_wp2_with fail
  have G := GS.new w l 66 148
  unfold zeroAskCs askCs at G
  generalize (w.alloc (.cells #[.int .i64 0, .int .i64 0, .int .i64 0, .int .i64 0, .int .i64 0, .slice none 0 0, .string ⟨#[]⟩, .string ⟨#[]⟩, .int .i64 0, .float .f64 0, .int .i64 0, .string ⟨#[]⟩] 66)).alloc (.cells #[.string (strL l)] 148) = W0 at *
  have GH := Lib.hid G
  clear c0 cl G
  refine (pnum_any (w.heap.size + 1) l 1 _ GH.out.c (by decide) (by decide)).mono ?_
  rintro e W1 (⟨k, l1, h1, rfl, rfl⟩ | ⟨hn, rfl, rfl⟩)
  case inr =>
    unfold panE
    go_wp2_with fail
    exact ⟨rfl, .inr ⟨by simp [rdAsk, hn], rfl, GH.out.bl⟩⟩
  have H1 := Lib.hid h1
  have hz1 : l1.length ≤ 1000000 := by
    have := congrArg List.length (rdNum_back h1).1
    rw [List.length_append, numB_len] at this
    omega
  replace GH := Lib.hid (GH.out.set l1)
  clear h1
  generalize World.setCell _ _ (.string (strL l1)) = W1 at *
  go_wp2_with fail
  refine (pnum_any (w.heap.size + 1) l1 6 _ GH.out.c (by decide) (by decide)).mono ?_
  rintro e W2 (⟨s, l2, h2, rfl, rfl⟩ | ⟨hn, rfl, rfl⟩)
  case inr =>
    unfold panE
    go_wp2_with fail
    exact ⟨rfl, .inr ⟨by simp [rdAsk, H1.out, hn], rfl, GH.out.bl⟩⟩
  have H2 := Lib.hid h2
  have hz2 : l2.length ≤ 1000000 := by
    have := congrArg List.length (rdNum_back h2).1
    rw [List.length_append, numB_len] at this
    omega
  replace GH := Lib.hid (GH.out.set l2)
  clear h2
  generalize World.setCell _ _ (.string (strL l2)) = W2 at *
  go_wp2_with fail
  refine (pnum_any (w.heap.size + 1) l2 6 _ GH.out.c (by decide) (by decide)).mono ?_
  rintro e W3 (⟨t, l3, h3, rfl, rfl⟩ | ⟨hn, rfl, rfl⟩)
  case inr =>
    unfold panE
    go_wp2_with fail
    exact ⟨rfl, .inr ⟨by simp [rdAsk, H1.out, H2.out, hn], rfl, GH.out.bl⟩⟩
  have H3 := Lib.hid h3
  have hz3 : l3.length ≤ 1000000 := by
    have := congrArg List.length (rdNum_back h3).1
    rw [List.length_append, numB_len] at this
    omega
  replace GH := Lib.hid (GH.out.set l3)
  clear h3
  generalize World.setCell _ _ (.string (strL l3)) = W3 at *
  go_wp2_with fail
  refine (pnum_any (w.heap.size + 1) l3 6 _ GH.out.c (by decide) (by decide)).mono ?_
  rintro e W4 (⟨i, l4, h4, rfl, rfl⟩ | ⟨hn, rfl, rfl⟩)
  case inr =>
    unfold panE
    go_wp2_with fail
    exact ⟨rfl, .inr ⟨by simp [rdAsk, H1.out, H2.out, H3.out, hn], rfl, GH.out.bl⟩⟩
  have H4 := Lib.hid h4
  have hz4 : l4.length ≤ 1000000 := by
    have := congrArg List.length (rdNum_back h4).1
    rw [List.length_append, numB_len] at this
    omega
  replace GH := Lib.hid (GH.out.set l4)
  clear h4
  generalize World.setCell _ _ (.string (strL l4)) = W4 at *
  go_wp2_with fail
  refine (pnum_any (w.heap.size + 1) l4 6 _ GH.out.c (by decide) (by decide)).mono ?_
  rintro e W5 (⟨m, l5, h5, rfl, rfl⟩ | ⟨hn, rfl, rfl⟩)
  case inr =>
    unfold panE
    go_wp2_with fail
    exact ⟨rfl, .inr ⟨by simp [rdAsk, H1.out, H2.out, H3.out, H4.out, hn], rfl, GH.out.bl⟩⟩
  have H5 := Lib.hid h5
  have hz5 : l5.length ≤ 1000000 := by
    have := congrArg List.length (rdNum_back h5).1
    rw [List.length_append, numB_len] at this
    omega
  replace GH := Lib.hid (GH.out.set l5)
  clear h5
  generalize World.setCell _ _ (.string (strL l5)) = W5 at *
  go_wp2_with fail
  refine (pvec_any (w.heap.size + 1) l5 _ GH.out.c hz5).mono ?_
  rintro e W6 (⟨ad, n, ca, xs, l6, h6, rfl, hb, hfar⟩ | ⟨hn, rfl, r, hb⟩)
  case inr =>
    unfold panE
    go_wp2_with fail
    exact ⟨rfl, .inr ⟨by simp [rdAsk, H1.out, H2.out, H3.out, H4.out, H5.out, hn], rfl, GH.out.bad hb⟩⟩
  have H6 := Lib.hid h6
  have hz6 : l6.length ≤ 1000000 := by
    have := congrArg List.length (rdVec_back h6).1
    unfold vecB at this
    rw [List.length_append, textB_len] at this
    omega
  have HF : Hid (FarIA (w.heap.size + 1 + 1) W6 ad n xs) := Lib.hid (hfar.mono GH.out.lt)
  replace GH := Lib.hid ((GH.out.set l6).keep hb)
  clear h6 hb hfar
  go_wp2_with fail
  have HB7 := Lib.hid (GH.out.lt)
  refine (ptext_any (w.heap.size + 1) l6 _ GH.out.c hz6).mono ?_
  rintro e W7 (⟨key, l7, h7, rfl, hb⟩ | ⟨hn, rfl, r, hb⟩)
  case inr =>
    unfold panE
    go_wp2_with fail
    exact ⟨rfl, .inr ⟨by simp [rdAsk, H1.out, H2.out, H3.out, H4.out, H5.out, H6.out, hn], rfl, GH.out.bad hb⟩⟩
  have H7 := Lib.hid h7
  have hz7 : l7.length ≤ 1000000 ∧ key.length ≤ 1000000 := by
    have := congrArg List.length (rdText_back h7)
    rw [List.length_append, textB_len] at this
    omega
  have HZ7 := Lib.hid hz7.2
  replace hz7 := hz7.1
  replace HF := Lib.hid ((HF.out.set (Nat.lt_succ_self _) 0 (.string (strL l7))).keep hb)
  replace GH := Lib.hid ((GH.out.set l7).keep hb)
  clear h7 hb
  go_wp2_with fail
  have HB8 := Lib.hid (GH.out.lt)
  refine (ptext_any (w.heap.size + 1) l7 _ GH.out.c hz7).mono ?_
  rintro e W8 (⟨text, l8, h8, rfl, hb⟩ | ⟨hn, rfl, r, hb⟩)
  case inr =>
    unfold panE
    go_wp2_with fail
    exact ⟨rfl, .inr ⟨by simp [rdAsk, H1.out, H2.out, H3.out, H4.out, H5.out, H6.out, H7.out, hn], rfl, GH.out.bad hb⟩⟩
  have H8 := Lib.hid h8
  have hz8 : l8.length ≤ 1000000 ∧ text.length ≤ 1000000 := by
    have := congrArg List.length (rdText_back h8)
    rw [List.length_append, textB_len] at this
    omega
  have HZ8 := Lib.hid hz8.2
  replace hz8 := hz8.1
  replace HF := Lib.hid ((HF.out.set (Nat.lt_succ_self _) 0 (.string (strL l8))).keep hb)
  replace GH := Lib.hid ((GH.out.set l8).keep hb)
  clear h8 hb
  go_wp2_with fail
  have Q := Lib.hid (G3.new GH.out HF.out (askCs k s t i m ad n ca (strL key) (strL text) 0 0 0 ⟨#[]⟩) 66)
  unfold askCs at Q
  clear GH HF
  generalize W8.heap.size = ga at *
  generalize W8.alloc _ = W9 at *
  refine (ptext_any (w.heap.size + 1) l8 _ Q.out.g.c hz8).mono ?_
  rintro e W10 (⟨tx, l9, h9, rfl, hb⟩ | ⟨hn, rfl, r, hb⟩)
  case inr =>
    unfold panE
    go_wp2_with fail
    exact ⟨rfl, .inr ⟨by simp [rdAsk, H1.out, H2.out, H3.out, H4.out, H5.out, H6.out, H7.out, H8.out, rdAct, hn], rfl, Q.out.g.bad hb⟩⟩
  have H9 := Lib.hid h9
  replace Q := Lib.hid ((Q.out.set l9).keep hb)
  clear h9 hb
  have HOK := Lib.hid (gotA_ok tx)
  have HO := Lib.hid (fun w => oget_any (strL tx) tx w (strL_SB tx))
  have HRD : Hid (rdAct l8 = if (getA tx).2 = 0 then some ((getA tx).1, l9) else none) := Lib.hid (by unfold rdAct; rw [H9.out]; rfl)
  generalize getA tx = ga2 at *
  obtain ⟨⟨ak, ax, an, az⟩, code⟩ := ga2
  dsimp only at HO HRD HOK
  go_wp2_with fail
  refine (HO.out _).mono ?_
  rintro e W11 ⟨rfl, hb⟩
  have hbz : Bl W10 (W11.alloc (.cells #[.int .i64 ak, .float .f64 ax, .int .i64 an, .string az] 64)) := hb.alloc _
  have hct := AC.new W11 _ rfl [.int .i64 ak, .float .f64 ax, .int .i64 an, .string az] 64
  replace Q := Lib.hid (Q.out.keep hbz)
  have hc1 := Q.out.g.c.cell
  clear hb hbz
  by_cases hcode : code = 0
  · subst hcode
    have HRD2 : Hid (rdAct l8 = some (⟨ak, ax, an, az⟩, l9)) := Lib.hid (by rw [HRD.out, if_pos rfl])
    clear HRD
    by_cases h0 : l9 = []
    · subst h0
      have q : (strL []).toList.isEmpty = true := by rw [ByteArray.toList_eq]; rfl
      go_wp2_with fail
      refine (pwant_yes _).mono ?_
      rintro e W12 ⟨rfl, rfl⟩
      obtain ⟨b0, b1, b2, b3⟩ := hct.act
      have fa := Q.out.a.frozen
      have a8 := Q.out.a.cell 8 _ rfl
      have a9 := Q.out.a.cell 9 _ rfl
      have a10 := Q.out.a.cell 10 _ rfl
      have a11 := Q.out.a.cell 11 _ rfl
      have Q2 := Lib.hid ((((Q.out.put 8 (.int .i64 ak)).put 9 (.float .f64 ax)).put 10 (.int .i64 an)).put 11 (.string az))
      clear Q hct hc1
      generalize W11.heap.size = gc at *
      generalize W11.alloc _ = W13 at *
      obtain ⟨d0, d1, d2, d3, d4, d5, d6, d7, d8, d9, d10, d11⟩ := AC.ask (k := k) (s := s) (t := t) (i := i) (m := m) (ad := ad) (n := n) (ca := ca) (key := strL key) (text := strL text) (ak := ak) (ax := ax) (an := an) (az := az) Q2.out.a
      have hok : AskOk _ ⟨k, s, t, i, m, xs, strL key, strL text, ⟨ak, ax, an, az⟩⟩ ad n := ⟨Q2.out.x, by rw [strL_size]; have := HZ7.out; omega, by rw [strL_size]; have := HZ8.out; omega, HOK.out.1⟩
      have HAO := Lib.hid hok
      clear hok
      go_wp2_with fail
      cases hv : validA ⟨k, s, t, i, m, xs, strL key, strL text, ⟨ak, ax, an, az⟩⟩
      · refine (pvalid_hid k s t i m ad n ca xs (strL key) (strL text) ak ax an az false _ HAO.out (Lib.hid hv)).mono ?_
        rintro e W14 ⟨rfl, hb⟩
        have HV := Lib.hid hv
        replace Q2 := Lib.hid (Q2.out.keep hb)
        clear hv hb d0 d1 d2 d3 d4 d5 d6 d7 d8 d9 d10 d11 b0 b1 b2 b3 fa a8 a9 a10 a11 HAO
        go_wp2_with fail
        refine (pwant_no _).mono ?_
        rintro e W12 ⟨rfl, rfl⟩
        unfold panE
        go_wp2_with fail
        exact ⟨rfl, .inr ⟨by have := HV.out; unfold strL at this; simp [rdAsk, H1.out, H2.out, H3.out, H4.out, H5.out, H6.out, H7.out, H8.out, HRD2.out, this], rfl, Q2.out.g.bl⟩⟩
      · refine (pvalid_hid k s t i m ad n ca xs (strL key) (strL text) ak ax an az true _ HAO.out (Lib.hid hv)).mono ?_
        rintro e W14 ⟨rfl, hb⟩
        have HV := Lib.hid hv
        replace Q2 := Lib.hid (Q2.out.keep hb)
        clear hv hb d0 d1 d2 d3 d4 d5 d6 d7 d8 d9 d10 d11 b0 b1 b2 b3 fa a8 a9 a10 a11 HAO
        go_wp2_with fail
        refine (pwant_yes _).mono ?_
        rintro e W12 ⟨rfl, rfl⟩
        obtain ⟨d0, d1, d2, d3, d4, d5, d6, d7, d8, d9, d10, d11⟩ := AC.ask (k := k) (s := s) (t := t) (i := i) (m := m) (ad := ad) (n := n) (ca := ca) (key := strL key) (text := strL text) (ak := ak) (ax := ax) (an := an) (az := az) Q2.out.a
        have fr := Q2.out.g.r.frozen
        have r0 := Q2.out.g.r.cell 0 _ rfl
        have r1 := Q2.out.g.r.cell 1 _ rfl
        have r2 := Q2.out.g.r.cell 2 _ rfl
        have r3 := Q2.out.g.r.cell 3 _ rfl
        have r4 := Q2.out.g.r.cell 4 _ rfl
        have r5 := Q2.out.g.r.cell 5 _ rfl
        have r6 := Q2.out.g.r.cell 6 _ rfl
        have r7 := Q2.out.g.r.cell 7 _ rfl
        have r8 := Q2.out.g.r.cell 8 _ rfl
        have r9 := Q2.out.g.r.cell 9 _ rfl
        have r10 := Q2.out.g.r.cell 10 _ rfl
        have r11 := Q2.out.g.r.cell 11 _ rfl
        go_wp2_with fail
        refine bodyPost_ret (ga_results rfl (Q2.out.g.r.fill [.int .i64 k, .int .i64 s, .int .i64 t, .int .i64 i, .int .i64 m, .slice ad n ca, .string (strL key), .string (strL text), .int .i64 ak, .float .f64 ax, .int .i64 an, .string az] rfl)) rfl (.inl ⟨⟨k, s, t, i, m, xs, strL key, strL text, ⟨ak, ax, an, az⟩⟩, ad, n, ca, ?_, rfl, ⟨?_, ?_⟩, ?_⟩)
        · have := HV.out
          unfold strL at this
          simp [rdAsk, H1.out, H2.out, H3.out, H4.out, H5.out, H6.out, H7.out, H8.out, HRD2.out, this, strL]
        · exact IA.fillApart (fun b off e => by have := Q2.out.ap b off e; omega) [.int .i64 k, .int .i64 s, .int .i64 t, .int .i64 i, .int .i64 m, .slice ad n ca, .string (strL key), .string (strL text), .int .i64 ak, .float .f64 ax, .int .i64 an, .string az] _ 0 Q2.out.x
        · exact fun b off e => by have := Q2.out.ap b off e; omega
        · exact Bl.fill (Nat.le_refl _) [.int .i64 k, .int .i64 s, .int .i64 t, .int .i64 i, .int .i64 m, .slice ad n ca, .string (strL key), .string (strL text), .int .i64 ak, .float .f64 ax, .int .i64 an, .string az] _ 0 Q2.out.g.bl
    · have q : (strL l9).toList.isEmpty = false := filled_L h0
      have HN := Lib.hid h0
      clear h0
      go_wp2_with fail
      refine (pwant_no _).mono ?_
      rintro e W12 ⟨rfl, rfl⟩
      unfold panE
      go_wp2_with fail
      exact ⟨rfl, .inr ⟨by simp [rdAsk, H1.out, H2.out, H3.out, H4.out, H5.out, H6.out, H7.out, H8.out, HRD2.out, HN.out], rfl, Q.out.g.bl⟩⟩
  · have HRD2 : Hid (rdAct l8 = none) := Lib.hid (by rw [HRD.out, if_neg hcode])
    have q : (code == 0) = false := by rw [beq_eq_false_iff_ne]; exact hcode
    clear HRD hcode
    go_wp2_with fail
    refine (pwant_no _).mono ?_
    rintro e W12 ⟨rfl, rfl⟩
    unfold panE
    go_wp2_with fail
    exact ⟨rfl, .inr ⟨by simp [rdAsk, H1.out, H2.out, H3.out, H4.out, H5.out, H6.out, H7.out, H8.out, HRD2.out], rfl, Q.out.g.bl⟩⟩
end Go.Proofs.Ytechiehbigmjbaa
