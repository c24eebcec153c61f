/- slices.Clone of writes; stream.copied; the test of Unsent. By an AI agent. -/
import Derived.Test.YtdkfgoaogmjjfaaTxnA
import Derived.Test.YtdkfgoaogmjjfaaVClone
import Derived.Test.YtdkfgoaogmjjfaaAppP
import Derived.Test.YtdkfgoaogmjjfaaAppM
import Derived.Test.YtdkfgoaogmjjfaaFill
import Derived.Test.YtdkfgoaogmjjfaaStrm0
import Derived.Deep.DeepCutAuto
set_option linter.unusedVariables false
set_option linter.unusedSimpArgs false
namespace Go.Proofs.Ytdkfgoaogmjjfaa
open Go.RowKit
attribute [local go_sem] eOp eOper eUpon pOp pOper pUpon

theorem sg_ww {w : World} {a : Option Addr} {n : Nat} {ws : List (ByteArray × ActL)} (h : WW w a n ws) : SG w 5 a n (cellsW ws) := by
  refine ⟨by rw [cellsW_len, h.len], fun ad e j u hu => ?_, fun e => ?_, fun u hu => ?_⟩
  · have hjl : j < n * 5 := by
      have := (List.getElem?_eq_some_iff.1 hu).1
      rwa [cellsW_len, h.len] at this
    have hi : j / 5 < n := by omega
    obtain ⟨b, off, e', hc⟩ := h.cells (j / 5) hi
    rw [e] at e'
    obtain rfl := Option.some.inj e'
    have hg := cellsW_get ws (j / 5) (by rw [h.len]; exact hi) (j % 5) (by omega)
    rw [show j / 5 * 5 + j % 5 = j by omega, hu] at hg
    have hcc := hc (j / 5) hi
    rw [Addr.add_lit, show off + j = off + j / 5 * 5 + j % 5 by omega]
    have hr : j % 5 < 5 := by omega
    generalize j % 5 = r at hg hr
    match r, hr with
    | 0, _ => rw [Nat.add_zero, hcc.c0]; exact hg.symm
    | 1, _ => rw [hcc.c1]; exact hg.symm
    | 2, _ => rw [hcc.c2]; exact hg.symm
    | 3, _ => rw [hcc.c3]; exact hg.symm
    | 4, _ => rw [hcc.c4]; exact hg.symm
  · subst e
    by_cases hn : 0 < n
    · obtain ⟨b, off, e', _⟩ := h.cells 0 hn
      cases e'
    · omega
  · obtain ⟨p, _, hp⟩ := List.mem_flatMap.1 hu
    simp only [writeCs, List.mem_cons, List.not_mem_nil, or_false] at hp
    rcases hp with rfl | rfl | rfl | rfl | rfl <;> rfl
theorem wclone_any (a : Option Addr) (n ca : Nat) (ws : List (ByteArray × ActL)) (w : World) (hx : WW w a n ws) (hn : n ≤ 1000000) :
    Calls Try.prog 86 #[.slice a n ca] w fun e w' => ∃ v, e = .returned v ∧ OWR w.heap.size w' v n ws ∧ Bl w w' := by
  have hnil := fun (w : World) => Lib.run_eql_slice_nil w 28 60 a n ca 0 0 Try.underlying28
  have HX := Lib.hid hx
  cases a with
  | none =>
    have hn0 : n = 0 := (sg_ww hx).nil rfl
    have hws : ws = [] := List.eq_nil_of_length_eq_zero (hx.len.trans hn0)
    subst hn0 hws
    clear hx
    go_enter Try.func86, Try.ntmps86
    go_wp2
    go_ret
    exact ⟨_, rfl, OWR.nil _ _, Bl.refl _⟩
  | some ad =>
    have HS := Lib.hid ((sg_ww hx).keep ((Bl.refl w).alloc (.cells #[] 60)))
    clear hx
    go_enter Try.func86, Try.ntmps86
    go_wp2_with (at_builtin; refine wpList_appG rfl _ _ _ rfl el_wr w.heap.size _ 0 [] rfl (World.ownsRow_lit w #[] 0 (Nat.le_refl _) (by decide) rfl) ?c0 (some ad) n ca _ rfl HS.out ?c1 ?c2 ?_)
    case c0 => simp
    case c1 => unfold maxLen; omega
    case c2 => omega
    intro v' w1 hown' hgrow
    have hb : Bl w w1 := ((Bl.refl w).alloc _).grown hgrow (by simp) (fun k hk => by simp [Value.ownBlock] at hk; omega)
    have HO : Hid (OWR w.heap.size w1 v' n ws) := Lib.hid ⟨HX.out.len, by simpa using hown'⟩
    have HB := Lib.hid hb
    clear hown' hgrow hb
    go_wp2
    go_ret
    exact ⟨_, rfl, HO.out, HB.out⟩

/-- a copied transaction's lists -/
structure Cop (w w' : World) (t : TxnL) (dv av wv : Value) : Prop where
  d : FI w.heap.size w' dv t.deps
  a : FI w.heap.size w' av t.at_
  ow : OWR w.heap.size w' wv t.ws.length t.ws
  da : dv.ownBlock = none ∨ dv.ownBlock ≠ av.ownBlock
  dw : dv.ownBlock = none ∨ dv.ownBlock ≠ wv.ownBlock
  aw : av.ownBlock = none ∨ av.ownBlock ≠ wv.ownBlock
  bl : Bl w w'
theorem own_apart {A B : Nat} {W W' : World} {E F : TypeId} {y z m n : Nat} {u v : Value} {cs ds : List Value} (h : W.ownsRow A E y u m cs) (k : W'.ownsRow B F z v n ds) (hB : W.heap.size ≤ B) : u.ownBlock = none ∨ u.ownBlock ≠ v.ownBlock := by
  cases e : u.ownBlock with
  | none => exact .inl rfl
  | some b =>
    refine .inr (fun e2 => ?_)
    have h1 := (World.ownsRow.lt h b e).2
    have h2 := (World.ownsRow.lt k b e2.symm).1
    omega
theorem own_less {B B' : Nat} {W : World} {E : TypeId} {z n : Nat} {v : Value} {cs : List Value} (h : W.ownsRow B E z v n cs) (hb : B' ≤ B) : W.ownsRow B' E z v n cs := by
  obtain ⟨h1, h2 | ⟨g, cap, cur, hv, hB, r⟩⟩ := h
  · exact ⟨h1, .inl h2⟩
  · exact ⟨h1, .inr ⟨g, cap, cur, hv, Nat.le_trans hb hB, r⟩⟩
theorem own_set {B : Nat} {W : World} {E : TypeId} {z n : Nat} {v : Value} {cs : List Value} (h : W.ownsRow B E z v n cs) {q : Nat} (hq : q < B) (j : Nat) (u : Value) : (W.setCell ⟨q, j, none⟩ u).ownsRow B E z v n cs := by
  obtain ⟨h1, h2 | ⟨g, cap, cur, hv, hB, hg, r⟩⟩ := h
  · exact ⟨h1, .inl h2⟩
  · exact ⟨h1, .inr ⟨g, cap, cur, hv, hB, by rw [Below.heap_setCell _ _ _ _ (show g ≠ q by omega)]; exact hg, r⟩⟩
theorem own_fill {B : Nat} {E : TypeId} {z n : Nat} {v : Value} {cs : List Value} {q : Nat} (hq : q < B) (vs : List Value) : ∀ (W : World) (j : Nat), W.ownsRow B E z v n cs → (Go.Proofs.Ytdkfgoaogmjjfaa.fill W q j vs).ownsRow B E z v n cs := by
  induction vs with
  | nil => intro W j h; exact h
  | cons u vs ih => intro W j h; exact ih _ _ (own_set h hq j u)
theorem copied_results {tmps : Array Value} {W : World} {g : Nat} {o num prev : Int} {dv av wv : Value} (h : tmps.getD 2 undef = .pointer (some ⟨g, 0, none⟩)) (hc : AC W g [.int .i64 o, .int .i64 num, .int .i64 prev, dv, av, wv]) :
    (results Try.f59 tmps).run Try.prog W = .ok (.agg #[.int .i64 o, .int .i64 num, .int .i64 prev, dv, av, wv]) W := by
  rw [Array.getD_eq_getD_getElem?] at h
  have c0 := hc.cell 0 _ rfl
  have c1 := hc.cell 1 _ rfl
  have c2 := hc.cell 2 _ rfl
  have c3 := hc.cell 3 _ rfl
  have c4 := hc.cell 4 _ rfl
  have c5 := hc.cell 5 _ rfl
  simp [results, Try.results59, go_sem, h, c0, c1, c2, c3, c4, c5]
/-- the two boxes of copied -/
structure CB (w W : World) (cs rs : List Value) : Prop where
  bl : Bl w W
  t : AC W w.heap.size cs
  r : AC W (w.heap.size + 1) rs
theorem CB.keep {w W W' : World} {cs rs : List Value} (h : CB w W cs rs) (k : Bl W W') : CB w W' cs rs := ⟨h.bl.trans k, h.t.keep k, h.r.keep k⟩
theorem CB.store {w W : World} {cs rs : List Value} (h : CB w W cs rs) (j : Nat) (v : Value) : CB w (W.setCell ⟨w.heap.size, j, none⟩ v) (cs.set j v) rs :=
  ⟨h.bl.setCell (p := ⟨w.heap.size, j, none⟩) (Nat.le_refl _) v, h.t.setj j v, h.r.other (by omega)⟩
theorem CB.new (w : World) (cs rs : List Value) (T U : TypeId) : CB w ((w.alloc (.cells cs.toArray T)).alloc (.cells rs.toArray U)) cs rs :=
  ⟨((Bl.refl w).alloc _).alloc _, (AC.new w _ rfl cs T).keep ((Bl.refl _).alloc _), AC.new _ (w.heap.size + 1) (by simp) rs U⟩
def zTx : List Value := [.int .i64 0, .int .i64 0, .int .i64 0, .slice none 0 0, .slice none 0 0, .slice none 0 0]
set_option maxHeartbeats 6400000 in
set_option maxRecDepth 100000 in
theorem copied_any (o num prev : Int) (da : Option Addr) (dn dc : Nat) (ds : List Int) (aa : Option Addr) (an ac : Nat) (xs : List Int) (wa : Option Addr) (wn wc : Nat) (ws : List (ByteArray × ActL)) (w : World)
    (hd : IA w da dn ds) (hx : IA w aa an xs) (hw : WW w wa wn ws) (hwn : wn ≤ 1000000) :
    Calls Try.prog 59 #[.agg #[.int .i64 o, .int .i64 num, .int .i64 prev, .slice da dn dc, .slice aa an ac, .slice wa wn wc]] w fun e w' =>
      ∃ dv av wv, e = .returned (.agg #[.int .i64 o, .int .i64 num, .int .i64 prev, dv, av, wv]) ∧ Cop w w' ⟨o, num, prev, ds, xs, ws⟩ dv av wv := by
  have hsf := store_float
  have HD := Lib.hid hd
  have HX := Lib.hid hx
  have HW := Lib.hid hw
  have G := CB.new w [.int .i64 o, .int .i64 num, .int .i64 prev, .slice da dn dc, .slice aa an ac, .slice wa wn wc] zTx 30 30
  unfold zTx at G
  clear hd hx hw
  go_enter Try.func59, Try.ntmps59
  go_upto_region 1 with fail
  generalize (w.alloc _).alloc _ = W at *
  have HG := Lib.hid (G.keep ((Bl.refl W).drew))
  clear G
  refine wp_region_panicsT [0, 1, 3, 4, 6, 7] 9 (HasBox w.heap.size [.int .i64 o, .int .i64 num, .int .i64 prev, .slice da dn dc, .slice aa an ac, .slice wa wn wc]) HasBox.keep HG.out.t [10, 11, 12, 13, 14] (fun c W' => False) ?hR (by kernel_rfl) rfl (by kernel_rfl) (by kernel_rfl) (by kernel_rfl) ?_
  case hR => intro c tt W' h; exact h.elim
  generalize W.drew = Z at *
  haveI : Nonempty (ExtC (HasBox w.heap.size [.int .i64 o, .int .i64 num, .int .i64 prev, .slice da dn dc, .slice aa an ac, .slice wa wn wc])) := ⟨⟨Z, HG.out.t⟩⟩
  have d3 : ∀ q : ExtC (HasBox w.heap.size [.int .i64 o, .int .i64 num, .int .i64 prev, .slice da dn dc, .slice aa an ac, .slice wa wn wc]), _ := fun q => AC.cell q.ok 3 _ rfl
  have d4 : ∀ q : ExtC (HasBox w.heap.size [.int .i64 o, .int .i64 num, .int .i64 prev, .slice da dn dc, .slice aa an ac, .slice wa wn wc]), _ := fun q => AC.cell q.ok 4 _ rfl
  have d5 : ∀ q : ExtC (HasBox w.heap.size [.int .i64 o, .int .i64 num, .int .i64 prev, .slice da dn dc, .slice aa an ac, .slice wa wn wc]), _ := fun q => AC.cell q.ok 5 _ rfl
  repeat (refine wpI_step rfl (fun K hK => ?_); go_simp; first | (refine hK _ ?_; clear hK K) | (apply Exists.intro; refine ⟨fun q => ?_, hK _ ?_⟩; fail; clear hK K))
  refine wpI_nil ?_
  clear d3 d4 d5 this
  refine wpAnyP_one (i := 2) (by kernel_rfl) ?_
  intro Y1 hy1
  go_simp
  refine (vclone_any da dn dc ds Y1 (HD.out.keep (HG.out.bl.trans hy1))).mono ?_
  rintro e Y2 ⟨dv, rfl, hdv, hb2⟩
  obtain ⟨da2, dn2, dc2, hdve, _⟩ := hdv.si
  subst hdve
  have HDV := Lib.hid (show FI Y1.heap.size Y2 (.slice da2 dn2 dc2) ds from hdv)
  have HY2 := Lib.hid (hy1.trans hb2)
  have HS1 : Hid (Z.heap.size ≤ Y1.heap.size) := Lib.hid hy1.size
  clear hy1 hdv hb2
  go_simp
  refine ⟨HG.out.t.keep HY2.out, ?_⟩
  haveI : Nonempty (ExtC (HasBox w.heap.size [.int .i64 o, .int .i64 num, .int .i64 prev, .slice da dn dc, .slice aa an ac, .slice wa wn wc])) := ⟨⟨Y2, HG.out.t.keep HY2.out⟩⟩
  refine wpAnyP_mid [9] 7 HasBox.keep (by kernel_rfl) (HG.out.t.keep HY2.out) (by kernel_rfl) (by kernel_rfl) (by kernel_rfl) ?_
  repeat (refine wpI_step rfl (fun K hK => ?_); go_simp; first | (refine hK _ ?_; clear hK K) | (apply Exists.intro; refine ⟨fun q => ?_, hK _ ?_⟩; fail; clear hK K))
  refine wpI_nil ?_
  clear this
  refine wpAnyP_one (i := 5) (by kernel_rfl) ?_
  intro Y3 hy3
  go_simp
  refine (vclone_any aa an ac xs Y3 (HX.out.keep (HG.out.bl.trans (HY2.out.trans hy3)))).mono ?_
  rintro e Y4 ⟨av, rfl, hav, hb4⟩
  obtain ⟨aa2, an2, ac2, have_, _⟩ := hav.si
  subst have_
  have HAV := Lib.hid (show FI Y3.heap.size Y4 (.slice aa2 an2 ac2) xs from hav)
  have HDA := Lib.hid (own_apart HDV.out.own hav.own hy3.size)
  have HS3 : Hid (Z.heap.size ≤ Y3.heap.size) := Lib.hid (HY2.out.trans hy3).size
  have HDV4 := Lib.hid (HDV.out.keep (hy3.trans hb4))
  have HY4 := Lib.hid (HY2.out.trans (hy3.trans hb4))
  clear hy3 hav hb4 HDV HY2
  go_simp
  refine ⟨HG.out.t.keep HY4.out, ?_⟩
  refine wpAnyP_one (i := 8) (by kernel_rfl) ?_
  intro Y5 hy5
  go_simp
  refine (wclone_any wa wn wc ws Y5 (HW.out.keep (HG.out.bl.trans (HY4.out.trans hy5))) hwn).mono ?_
  rintro e Y6 ⟨wv, rfl, hwv, hb6⟩
  obtain ⟨wa2, wc2, hwve⟩ := OWR.form hwv
  subst hwve
  have HDW := Lib.hid (own_apart HDV4.out.own hwv.2 hy5.size)
  have HAW := Lib.hid (own_apart HAV.out.own hwv.2 hy5.size)
  have HS5 : Hid (Z.heap.size ≤ Y5.heap.size) := Lib.hid (HY4.out.trans hy5).size
  have HDV6 := Lib.hid (HDV4.out.keep (hy5.trans hb6))
  have HAV6 := Lib.hid (HAV.out.keep (hy5.trans hb6))
  have HWV := Lib.hid (show OWR Y5.heap.size Y6 (.slice wa2 wn wc2) wn ws from hwv)
  have HG6 := Lib.hid (HG.out.keep (HY4.out.trans (hy5.trans hb6)))
  have hzb := HG.out.r.lt
  clear hy5 hwv hb6 HDV4 HAV HY4
  go_simp
  refine ⟨HG6.out.t, ?_⟩
  have hg0 : w.heap.size < Z.heap.size := by omega
  have HDO : Hid (Y6.ownsRow Z.heap.size 3 1 (.slice da2 dn2 dc2) ds.length (ds.map (Value.int .i64))) := Lib.hid (own_less HDV6.out.own HS1.out)
  have HAO : Hid (Y6.ownsRow Z.heap.size 3 1 (.slice aa2 an2 ac2) xs.length (xs.map (Value.int .i64))) := Lib.hid (own_less HAV6.out.own HS3.out)
  have HWO : Hid (Y6.ownsRow Z.heap.size 60 5 (.slice wa2 wn wc2) wn (cellsW ws)) := Lib.hid (own_less HWV.out.2 HS5.out)
  have HWL := Lib.hid HWV.out.1
  have HDC := Lib.hid (And.intro HDV6.out.cap HDV6.out.wf)
  have HAC := Lib.hid (And.intro HAV6.out.cap HAV6.out.wf)
  clear HDV6 HAV6 HWV HS1 HS3 HS5
  refine wpAnyP_one (i := 10) (by kernel_rfl) ?_
  intro Y7 hy7
  have HG7 := Lib.hid (HG6.out.keep hy7)
  have HD7 := Lib.hid (ownsRow_bl HDO.out hy7)
  have HA7 := Lib.hid (ownsRow_bl HAO.out hy7)
  have HW7 := Lib.hid (ownsRow_bl HWO.out hy7)
  have c3 := HG7.out.t.cell 3 _ rfl
  have f3 := HG7.out.t.frozen 3
  clear hy7 HG6 HDO HAO HWO
  go_simp
  clear c3 f3
  have HG8 := Lib.hid (show CB w (Y7.setCell ⟨w.heap.size, 3, none⟩ (.slice da2 dn2 dc2)) [.int .i64 o, .int .i64 num, .int .i64 prev, (.slice da2 dn2 dc2), .slice aa an ac, .slice wa wn wc] zTx from HG7.out.store 3 (.slice da2 dn2 dc2))
  have HD8 := Lib.hid (own_set HD7.out hg0 3 (.slice da2 dn2 dc2))
  have HA8 := Lib.hid (own_set HA7.out hg0 3 (.slice da2 dn2 dc2))
  have HW8 := Lib.hid (own_set HW7.out hg0 3 (.slice da2 dn2 dc2))
  clear HG7 HD7 HA7 HW7
  generalize World.setCell _ _ (.slice da2 dn2 dc2) = Y8 at *
  refine wpAnyP_one (i := 11) (by kernel_rfl) ?_
  intro X11 hx11
  go_simp
  refine wpAnyP_one (i := 12) (by kernel_rfl) ?_
  intro Y9 hy9
  replace hy9 := hx11.trans hy9
  have HG9 := Lib.hid (HG8.out.keep hy9)
  have HD9 := Lib.hid (ownsRow_bl HD8.out hy9)
  have HA9 := Lib.hid (ownsRow_bl HA8.out hy9)
  have HW9 := Lib.hid (ownsRow_bl HW8.out hy9)
  have c4 := HG9.out.t.cell 4 _ rfl
  have f4 := HG9.out.t.frozen 4
  clear hy9 HG8 HD8 HA8 HW8
  go_simp
  clear c4 f4
  have HG10 := Lib.hid (show CB w (Y9.setCell ⟨w.heap.size, 4, none⟩ (.slice aa2 an2 ac2)) [.int .i64 o, .int .i64 num, .int .i64 prev, (.slice da2 dn2 dc2), (.slice aa2 an2 ac2), .slice wa wn wc] zTx from HG9.out.store 4 (.slice aa2 an2 ac2))
  have HD10 := Lib.hid (own_set HD9.out hg0 4 (.slice aa2 an2 ac2))
  have HA10 := Lib.hid (own_set HA9.out hg0 4 (.slice aa2 an2 ac2))
  have HW10 := Lib.hid (own_set HW9.out hg0 4 (.slice aa2 an2 ac2))
  clear HG9 HD9 HA9 HW9
  generalize World.setCell _ _ (.slice aa2 an2 ac2) = Y10 at *
  refine wpAnyP_one (i := 13) (by kernel_rfl) ?_
  intro X13 hx13
  go_simp
  refine wpAnyP_one (i := 14) (by kernel_rfl) ?_
  intro Y11 hy11
  replace hy11 := hx13.trans hy11
  have HG11 := Lib.hid (HG10.out.keep hy11)
  have HD11 := Lib.hid (ownsRow_bl HD10.out hy11)
  have HA11 := Lib.hid (ownsRow_bl HA10.out hy11)
  have HW11 := Lib.hid (ownsRow_bl HW10.out hy11)
  have c5 := HG11.out.t.cell 5 _ rfl
  have f5 := HG11.out.t.frozen 5
  clear hy11 HG10 HD10 HA10 HW10
  go_simp
  clear c5 f5
  have HG12 := Lib.hid (show CB w (Y11.setCell ⟨w.heap.size, 5, none⟩ (.slice wa2 wn wc2)) [.int .i64 o, .int .i64 num, .int .i64 prev, (.slice da2 dn2 dc2), (.slice aa2 an2 ac2), (.slice wa2 wn wc2)] zTx from HG11.out.store 5 (.slice wa2 wn wc2))
  have HD12 := Lib.hid (own_set HD11.out hg0 5 (.slice wa2 wn wc2))
  have HA12 := Lib.hid (own_set HA11.out hg0 5 (.slice wa2 wn wc2))
  have HW12 := Lib.hid (own_set HW11.out hg0 5 (.slice wa2 wn wc2))
  clear HG11 HD11 HA11 HW11
  generalize World.setCell _ _ (.slice wa2 wn wc2) = Y12 at *
  refine wpAnyP_done (by kernel_rfl) ?_
  intro Y13 hy13
  have HG13 := Lib.hid (HG12.out.keep hy13)
  have HD13 := Lib.hid (ownsRow_bl HD12.out hy13)
  have HA13 := Lib.hid (ownsRow_bl HA12.out hy13)
  have HW13 := Lib.hid (ownsRow_bl HW12.out hy13)
  clear hy13 HG12 HD12 HA12 HW12
  have t0 := HG13.out.t.cell 0 _ rfl
  have t1 := HG13.out.t.cell 1 _ rfl
  have t2 := HG13.out.t.cell 2 _ rfl
  have t3 := HG13.out.t.cell 3 _ rfl
  have t4 := HG13.out.t.cell 4 _ rfl
  have t5 := HG13.out.t.cell 5 _ rfl
  have fr := HG13.out.r.frozen
  have r0 := HG13.out.r.cell 0 _ rfl
  have r1 := HG13.out.r.cell 1 _ rfl
  have r2 := HG13.out.r.cell 2 _ rfl
  have r3 := HG13.out.r.cell 3 _ rfl
  have r4 := HG13.out.r.cell 4 _ rfl
  have r5 := HG13.out.r.cell 5 _ rfl
  have hd1 : w.heap.size + 1 < Z.heap.size := hzb
  go_wp2_with fail
  refine bodyPost_ret (copied_results rfl (HG13.out.r.fill [.int .i64 o, .int .i64 num, .int .i64 prev, (.slice da2 dn2 dc2), (.slice aa2 an2 ac2), (.slice wa2 wn wc2)] rfl)) rfl ⟨(.slice da2 dn2 dc2), (.slice aa2 an2 ac2), (.slice wa2 wn wc2), rfl, ⟨⟨?_, HDC.out.1, HDC.out.2⟩, ⟨?_, HAC.out.1, HAC.out.2⟩, ⟨rfl, ?_⟩, HDA.out, HDW.out, HAW.out, ?_⟩⟩
  · exact own_less (own_fill hd1 [.int .i64 o, .int .i64 num, .int .i64 prev, (.slice da2 dn2 dc2), (.slice aa2 an2 ac2), (.slice wa2 wn wc2)] _ 0 HD13.out) (by omega)
  · exact own_less (own_fill hd1 [.int .i64 o, .int .i64 num, .int .i64 prev, (.slice da2 dn2 dc2), (.slice aa2 an2 ac2), (.slice wa2 wn wc2)] _ 0 HA13.out) (by omega)
  · have e : ws.length = wn := HWL.out
    dsimp only
    rw [e]
    exact own_less (own_fill hd1 [.int .i64 o, .int .i64 num, .int .i64 prev, (.slice da2 dn2 dc2), (.slice aa2 an2 ac2), (.slice wa2 wn wc2)] _ 0 HW13.out) (by omega)
  · exact Bl.fill (Nat.le_succ _) [.int .i64 o, .int .i64 num, .int .i64 prev, (.slice da2 dn2 dc2), (.slice aa2 an2 ac2), (.slice wa2 wn wc2)] _ 0 HG13.out.bl
end Go.Proofs.Ytdkfgoaogmjjfaa
