import Derived.Test.YtaokennbpgdngaaQStreamBytesP1
import Derived.Test.YtaokennbpgdngaaCore6
import Derived.Test.YtaokennbpgdngaaCore27

/- stream.Get of a row. By an AI agent. -/
section
set_option linter.unusedVariables false
set_option linter.unusedSimpArgs false
namespace Go.Proofs.Ytaokennbpgdngaa
open Go.RowKit
attribute [local go_sem] eOp eOper eUpon pOp pOper pUpon

theorem scatch_idle (a0 a1 a2 a3 : Addr) (w : World) :
    CallsD Try.prog 47 #[.pointer (some a0), .pointer (some a1), .pointer (some a2), .pointer (some a3)] .returning w fun e u' w' => e = .returned (.tuple #[]) ∧ u' = .returning ∧ w' = w := by
  refine callsD_of_wpS Try.func47 rfl fun c₀ cs hu => ?_
  apply wpS_seq
  apply wpS_region
  simp [wpOpsS, go_sem, recoverD, hu, Try.ntmps47, Exit.thenS]
  apply wpS_seq
  apply wpS_region
  simp [wpOpsS, go_sem, Exit.thenS]
  refine wpS_cond (t := false) (by simp [Act.eval, Array.replicate]) ?_
  simp only [Bool.false_eq_true, if_false]
  refine wpS_of_wp (wp_skip ?_)
  cases c₀
  simp_all [bodyPostS, results, Try.results47]
/-- the four boxes of Get -/
structure SG4 (w W : World) (cs : List Value) (x : Int) (v : Value) (e : Int) : Prop where
  bl : Bl w W
  t : AC W w.heap.size cs
  f : AC W (w.heap.size + 1) [.int .i64 x]
  r : AC W (w.heap.size + 1 + 1) [v]
  e : AC W (w.heap.size + 1 + 1 + 1) [.int .i64 e]
theorem SG4.keep {w W W' : World} {cs : List Value} {x : Int} {v : Value} {e : Int} (h : SG4 w W cs x v e) (k : Bl W W') : SG4 w W' cs x v e := ⟨h.bl.trans k, h.t.keep k, h.f.keep k, h.r.keep k, h.e.keep k⟩
theorem SG4.new (w : World) (T U V X : TypeId) (cs : List Value) (x : Int) (v : Value) (e : Int) :
    SG4 w ((((w.alloc (.cells cs.toArray T)).alloc (.cells #[.int .i64 x] U)).alloc (.cells #[v] V)).alloc (.cells #[.int .i64 e] X)) cs x v e :=
  ⟨((((Bl.refl w).alloc _).alloc _).alloc _).alloc _, (((AC.new w _ rfl cs T).keep ((Bl.refl _).alloc _)).keep ((Bl.refl _).alloc _)).keep ((Bl.refl _).alloc _), ((AC.new _ (w.heap.size + 1) (by simp) [.int .i64 x] U).keep ((Bl.refl _).alloc _)).keep ((Bl.refl _).alloc _), (AC.new _ (w.heap.size + 1 + 1) (by simp) [v] V).keep ((Bl.refl _).alloc _), AC.new _ (w.heap.size + 1 + 1 + 1) (by simp) [.int .i64 e] X⟩
/-- all four are set anew -/
def set4 (w W : World) (vs : List Value) (x : Int) (v : Value) : World := ((fill W w.heap.size 0 vs).setCell ⟨w.heap.size + 1, 0, none⟩ (.int .i64 x)).setCell ⟨w.heap.size + 1 + 1, 0, none⟩ v
theorem SG4.set {w W : World} {cs : List Value} {x : Int} {v : Value} {e : Int} (h : SG4 w W cs x v e) (vs : List Value) (hl : cs.length = vs.length) (y : Int) (u : Value) : SG4 w (set4 w W vs y u) vs y u e := by
  unfold set4
  refine ⟨?_, ?_, ?_, ?_, ?_⟩
  · exact ((Bl.fill (Nat.le_refl _) vs W 0 h.bl).setCell (p := ⟨w.heap.size + 1, 0, none⟩) (Nat.le_succ _) _).setCell (p := ⟨w.heap.size + 1 + 1, 0, none⟩) (by show w.heap.size ≤ w.heap.size + 1 + 1; omega) _
  · exact ((h.t.fill vs hl).other (by omega)).other (by omega)
  · exact ((AC.fillOther (by omega) vs W 0 h.f).setj 0 (.int .i64 y)).other (by omega)
  · exact ((AC.fillOther (by omega) vs W 0 h.r).other (by omega)).setj 0 u
  · exact ((AC.fillOther (by omega) vs W 0 h.e).other (by omega)).other (by omega)
/-- .. with a vector that lies behind them -/
structure SV (w : World) (cs : List Value) (x : Int) (v : Value) (e : Int) (xs : List Int) (W : World) : Prop where
  g : SG4 w W cs x v e
  o : W.ownsRow (w.heap.size + 1 + 1 + 1 + 1) 3 1 v xs.length (xs.map (Value.int .i64))
theorem SV.keep {w : World} {cs : List Value} {x : Int} {v : Value} {e : Int} {xs : List Int} (W W' : World) (h : SV w cs x v e xs W) (k : Bl W W') : SV w cs x v e xs W' := ⟨h.g.keep k, ownsRow_bl h.o k⟩
theorem SV.fillT {w W : World} {cs : List Value} {x : Int} {v : Value} {e : Int} {xs : List Int} (h : SV w cs x v e xs W) : SV w cs x v e xs (fill W w.heap.size 0 cs) :=
  ⟨⟨Bl.fill (Nat.le_refl _) cs W 0 h.g.bl, h.g.t.fill cs rfl, AC.fillOther (by omega) cs W 0 h.g.f, AC.fillOther (by omega) cs W 0 h.g.r, AC.fillOther (by omega) cs W 0 h.g.e⟩, own_fill6 (by omega) cs W 0 h.o⟩
theorem SV.setF {w W : World} {cs : List Value} {x : Int} {v : Value} {e : Int} {xs : List Int} (h : SV w cs x v e xs W) : SV w cs x v e xs (W.setCell ⟨w.heap.size + 1, 0, none⟩ (.int .i64 x)) :=
  ⟨⟨h.g.bl.setCell (p := ⟨w.heap.size + 1, 0, none⟩) (Nat.le_succ _) _, h.g.t.other (by omega), h.g.f.setj 0 _, h.g.r.other (by omega), h.g.e.other (by omega)⟩, own_set6 h.o (by omega) 0 _⟩
theorem SV.setR {w W : World} {cs : List Value} {x : Int} {v : Value} {e : Int} {xs : List Int} (h : SV w cs x v e xs W) : SV w cs x v e xs (W.setCell ⟨w.heap.size + 1 + 1, 0, none⟩ v) :=
  ⟨⟨h.g.bl.setCell (p := ⟨w.heap.size + 1 + 1, 0, none⟩) (by show w.heap.size ≤ w.heap.size + 1 + 1; omega) _, h.g.t.other (by omega), h.g.f.other (by omega), h.g.r.setj 0 _, h.g.e.other (by omega)⟩, own_set6 h.o (by omega) 0 _⟩
theorem SV.setE {w W : World} {cs : List Value} {x : Int} {v : Value} {e : Int} {xs : List Int} (h : SV w cs x v e xs W) : SV w cs x v e xs (W.setCell ⟨w.heap.size + 1 + 1 + 1, 0, none⟩ (.int .i64 e)) :=
  ⟨⟨h.g.bl.setCell (p := ⟨w.heap.size + 1 + 1 + 1, 0, none⟩) (by show w.heap.size ≤ w.heap.size + 1 + 1 + 1; omega) _, h.g.t.other (by omega), h.g.f.other (by omega), h.g.r.other (by omega), h.g.e.setj 0 _⟩, own_set6 h.o (by omega) 0 _⟩
theorem sGet_results {tmps : Array Value} {w : World} {g0 g1 g2 g3 : Nat} {o num prev : Int} {dv av wv : Value} {x : Int} {v : Value} {e : Int} (h0 : tmps.getD 2 undef = .pointer (some ⟨g0, 0, none⟩)) (h1 : tmps.getD 3 undef = .pointer (some ⟨g1, 0, none⟩)) (h2 : tmps.getD 4 undef = .pointer (some ⟨g2, 0, none⟩)) (h3 : tmps.getD 5 undef = .pointer (some ⟨g3, 0, none⟩))
    (d0 : AC w g0 [.int .i64 o, .int .i64 num, .int .i64 prev, dv, av, wv]) (d1 : AC w g1 [.int .i64 x]) (d2 : AC w g2 [v]) (d3 : AC w g3 [.int .i64 e]) :
    (results Try.f17 tmps).run Try.prog w = .ok (.tuple #[.agg #[.int .i64 o, .int .i64 num, .int .i64 prev, dv, av, wv], .int .i64 x, v, .int .i64 e]) w := by
  rw [Array.getD_eq_getD_getElem?] at h0 h1 h2 h3
  have c0 := d0.cell 0 _ rfl
  have c1 := d0.cell 1 _ rfl
  have c2 := d0.cell 2 _ rfl
  have c3 := d0.cell 3 _ rfl
  have c4 := d0.cell 4 _ rfl
  have c5 := d0.cell 5 _ rfl
  have c6 := d1.cell 0 _ rfl
  have c7 := d2.cell 0 _ rfl
  have c8 := d3.cell 0 _ rfl
  simp [results, Try.results17, go_sem, h0, h1, h2, h3, c0, c1, c2, c3, c4, c5, c6, c7, c8]
set_option maxHeartbeats 3200000 in
set_option maxRecDepth 100000 in
theorem sget_row (fb : UInt8) (fn : Nat) (hfn : fb.toNat = fn) (m : List UInt8) (xs : List Int) (w : World) (hr : rdV m = some (xs, [])) (hlt : fn < xs.length) :
    Calls Try.prog 17 #[.string (strL (82 :: fb :: m))] w fun e w' => ∃ v, e = .returned (.tuple #[zTxV, .int .i64 fn, v, .int .i64 0]) ∧ FI w.heap.size w' v xs ∧ Bl w w' := by
  have hmf := hmf
  have H := Lib.hid (fun w => sread_row fb fn hfn m xs w hr hlt)
  have G := SG4.new w 29 3 24 35 zTxC 0 (.slice none 0 0) 0
  unfold zTxV at H ⊢
  unfold zTxC at G
  clear hr hfn
  generalize strL (82 :: fb :: m) = sl at *
  go_enter_defers Try.func17, Try.ntmps17
  go_wp2_with fail
  generalize (((w.alloc _).alloc _).alloc _).alloc _ = W at *
  refine (H.out _).mono ?_
  rintro e W1 ⟨v, rfl, hf, hb1⟩
  obtain ⟨va, vn, vc, rfl, _⟩ := hf.si
  have G1 := Lib.hid (G.keep hb1)
  have HF := Lib.hid hf
  have HWS := Lib.hid G.e.lt
  clear hf hb1 G H
  have fr := G1.out.t.frozen
  have r0 := G1.out.t.cell 0 _ rfl
  have r1 := G1.out.t.cell 1 _ rfl
  have r2 := G1.out.t.cell 2 _ rfl
  have r3 := G1.out.t.cell 3 _ rfl
  have r4 := G1.out.t.cell 4 _ rfl
  have r5 := G1.out.t.cell 5 _ rfl
  have f0 := (AC.fillOther (g' := w.heap.size) (by omega) [.int .i64 0, .int .i64 0, .int .i64 0, .slice none 0 0, .slice none 0 0, .slice none 0 0] W1 0 G1.out.f).cell 0 _ rfl
  have ff0 := (AC.fillOther (g' := w.heap.size) (by omega) [.int .i64 0, .int .i64 0, .int .i64 0, .slice none 0 0, .slice none 0 0, .slice none 0 0] W1 0 G1.out.f).frozen 0
  have x0 := ((AC.fillOther (g' := w.heap.size) (by omega) [.int .i64 0, .int .i64 0, .int .i64 0, .slice none 0 0, .slice none 0 0, .slice none 0 0] W1 0 G1.out.r).other (g' := w.heap.size + 1) (j := 0) (u := .int .i64 fn) (by omega)).cell 0 _ rfl
  have xf0 := ((AC.fillOther (g' := w.heap.size) (by omega) [.int .i64 0, .int .i64 0, .int .i64 0, .slice none 0 0, .slice none 0 0, .slice none 0 0] W1 0 G1.out.r).other (g' := w.heap.size + 1) (j := 0) (u := .int .i64 fn) (by omega)).frozen 0
  dsimp only [fill] at f0 ff0 x0 xf0
  go_upto_region 3 with fail
  clear fr r0 r1 r2 r3 r4 r5 f0 ff0 x0 xf0
  have G2 := Lib.hid (G1.out.set [.int .i64 0, .int .i64 0, .int .i64 0, .slice none 0 0, .slice none 0 0, .slice none 0 0] rfl fn (.slice va vn vc))
  have HF2 : Hid ((set4 w W1 [.int .i64 0, .int .i64 0, .int .i64 0, .slice none 0 0, .slice none 0 0, .slice none 0 0] fn (.slice va vn vc)).ownsRow (w.heap.size + 1 + 1 + 1 + 1) 3 1 (.slice va vn vc) xs.length (xs.map (Value.int .i64))) := Lib.hid (own_less6 (own_set6 (own_set6 (own_fill6 (q := w.heap.size) (by have := HWS.out; omega) [.int .i64 0, .int .i64 0, .int .i64 0, .slice none 0 0, .slice none 0 0, .slice none 0 0] W1 0 HF.out.own) (q := w.heap.size + 1) (by have := HWS.out; omega) 0 _) (q := w.heap.size + 1 + 1) (by have := HWS.out; omega) 0 _) (by have := HWS.out; omega))
  have HFC := Lib.hid (And.intro HF.out.cap HF.out.wf)
  unfold set4 at G2 HF2
  dsimp only [fill] at G2 HF2
  clear G1 HF
  generalize World.setCell _ _ (.slice va vn vc) = W2 at *
  have HS := Lib.hid (show SV w [.int .i64 0, .int .i64 0, .int .i64 0, .slice none 0 0, .slice none 0 0, .slice none 0 0] (fn : Int) (.slice va vn vc) 0 xs W2 from ⟨G2.out, HF2.out⟩)
  clear G2 HF2
  refine wp_region_panicsT [0, 1, 2] 4 (SV w [.int .i64 0, .int .i64 0, .int .i64 0, .slice none 0 0, .slice none 0 0, .slice none 0 0] (fn : Int) (.slice va vn vc) 0 xs) SV.keep (SV.keep _ _ HS.out ((Bl.refl W2).drew)) [] (fun c W' => False) ?hR (by kernel_rfl) rfl (by kernel_rfl) (by kernel_rfl) (by kernel_rfl) ?_
  case hR => intro c tt W' h; exact h.elim
  have HZ := Lib.hid (SV.keep _ _ HS.out ((Bl.refl W2).drew))
  generalize W2.drew = Z at *
  haveI : Nonempty (ExtC (SV w [.int .i64 0, .int .i64 0, .int .i64 0, .slice none 0 0, .slice none 0 0, .slice none 0 0] (fn : Int) (.slice va vn vc) 0 xs)) := ⟨⟨Z, HZ.out⟩⟩
  have t0 : ∀ q : ExtC (SV w [.int .i64 0, .int .i64 0, .int .i64 0, .slice none 0 0, .slice none 0 0, .slice none 0 0] (fn : Int) (.slice va vn vc) 0 xs), _ := fun q => AC.cell q.ok.g.t 0 _ rfl
  have t1 : ∀ q : ExtC (SV w [.int .i64 0, .int .i64 0, .int .i64 0, .slice none 0 0, .slice none 0 0, .slice none 0 0] (fn : Int) (.slice va vn vc) 0 xs), _ := fun q => AC.cell q.ok.g.t 1 _ rfl
  have t2 : ∀ q : ExtC (SV w [.int .i64 0, .int .i64 0, .int .i64 0, .slice none 0 0, .slice none 0 0, .slice none 0 0] (fn : Int) (.slice va vn vc) 0 xs), _ := fun q => AC.cell q.ok.g.t 2 _ rfl
  have t3 : ∀ q : ExtC (SV w [.int .i64 0, .int .i64 0, .int .i64 0, .slice none 0 0, .slice none 0 0, .slice none 0 0] (fn : Int) (.slice va vn vc) 0 xs), _ := fun q => AC.cell q.ok.g.t 3 _ rfl
  have t4 : ∀ q : ExtC (SV w [.int .i64 0, .int .i64 0, .int .i64 0, .slice none 0 0, .slice none 0 0, .slice none 0 0] (fn : Int) (.slice va vn vc) 0 xs), _ := fun q => AC.cell q.ok.g.t 4 _ rfl
  have t5 : ∀ q : ExtC (SV w [.int .i64 0, .int .i64 0, .int .i64 0, .slice none 0 0, .slice none 0 0, .slice none 0 0] (fn : Int) (.slice va vn vc) 0 xs), _ := fun q => AC.cell q.ok.g.t 5 _ rfl
  have t6 : ∀ q : ExtC (SV w [.int .i64 0, .int .i64 0, .int .i64 0, .slice none 0 0, .slice none 0 0, .slice none 0 0] (fn : Int) (.slice va vn vc) 0 xs), _ := fun q => AC.cell q.ok.g.f 0 _ rfl
  have t7 : ∀ q : ExtC (SV w [.int .i64 0, .int .i64 0, .int .i64 0, .slice none 0 0, .slice none 0 0, .slice none 0 0] (fn : Int) (.slice va vn vc) 0 xs), _ := fun q => AC.cell q.ok.g.r 0 _ rfl
  repeat (refine wpI_step rfl (fun K hK => ?_); go_simp; first | (refine hK _ ?_; clear hK K) | (apply Exists.intro; refine ⟨fun q => ?_, hK _ ?_⟩; fail; clear hK K))
  refine wpI_nil ?_
  clear t0 t1 t2 t3 t4 t5 t6 t7 this
  refine wpAnyP_one (i := 3) (by kernel_rfl) ?_
  intro Y1 hy1
  have H1 := Lib.hid (SV.keep _ _ HZ.out hy1)
  have fr := H1.out.g.t.frozen
  have r0 := H1.out.g.t.cell 0 _ rfl
  have r1 := H1.out.g.t.cell 1 _ rfl
  have r2 := H1.out.g.t.cell 2 _ rfl
  have r3 := H1.out.g.t.cell 3 _ rfl
  have r4 := H1.out.g.t.cell 4 _ rfl
  have r5 := H1.out.g.t.cell 5 _ rfl
  go_simp
  clear fr r0 r1 r2 r3 r4 r5 hy1
  refine ⟨H1.out.fillT, ?_⟩
  have H2 := Lib.hid H1.out.fillT
  dsimp only [fill] at H2
  generalize World.setCell _ ⟨w.heap.size, 5, none⟩ _ = Y2 at *
  refine wpAnyP_one (i := 4) (by kernel_rfl) ?_
  intro Y3 hy3
  have H3 := Lib.hid (SV.keep _ _ H2.out hy3)
  have fr := H3.out.g.f.frozen 0
  have r0 := H3.out.g.f.cell 0 _ rfl
  go_simp
  clear fr r0 hy3
  refine ⟨H3.out.setF, ?_⟩
  have H4 := Lib.hid H3.out.setF
  generalize World.setCell _ ⟨w.heap.size + 1, 0, none⟩ _ = Y4 at *
  refine wpAnyP_one (i := 5) (by kernel_rfl) ?_
  intro Y5 hy5
  have H5 := Lib.hid (SV.keep _ _ H4.out hy5)
  have fr := H5.out.g.r.frozen 0
  have r0 := H5.out.g.r.cell 0 _ rfl
  go_simp
  clear fr r0 hy5
  refine ⟨H5.out.setR, ?_⟩
  have H6 := Lib.hid H5.out.setR
  generalize World.setCell _ ⟨w.heap.size + 1 + 1, 0, none⟩ _ = Y6 at *
  refine wpAnyP_one (i := 6) (by kernel_rfl) ?_
  intro Y7 hy7
  have H7 := Lib.hid (SV.keep _ _ H6.out hy7)
  have fr := H7.out.g.e.frozen 0
  have r0 := H7.out.g.e.cell 0 _ rfl
  go_simp
  clear fr r0 hy7
  refine ⟨H7.out.setE, ?_⟩
  have H8 := Lib.hid H7.out.setE
  generalize World.setCell _ ⟨w.heap.size + 1 + 1 + 1, 0, none⟩ _ = Y8 at *
  refine wpAnyP_done (by kernel_rfl) ?_
  intro Y9 hy9
  have H9 := Lib.hid (SV.keep _ _ H8.out hy9)
  go_wp2_with fail
  refine leaves_cons (f := 47) (args := #[.pointer (some ⟨w.heap.size, 0, none⟩), .pointer (some ⟨w.heap.size + 1, 0, none⟩), .pointer (some ⟨w.heap.size + 1 + 1, 0, none⟩), .pointer (some ⟨w.heap.size + 1 + 1 + 1, 0, none⟩)]) (by simp) (by simp [go_sem]) ?_
  refine (scatch_idle _ _ _ _ _).mono ?_
  rintro e u' w'' ⟨rfl, rfl, rfl⟩
  exact leaves_ret (sGet_results rfl rfl rfl rfl H9.out.g.t H9.out.g.f H9.out.g.r H9.out.g.e) ⟨_, rfl, ⟨own_less6 H9.out.o (by omega), HFC.out.1, HFC.out.2⟩, H9.out.g.bl⟩
end Go.Proofs.Ytaokennbpgdngaa
end

/- stream.read of a transaction, and of what is no message. By an AI agent. -/
section
set_option linter.unusedVariables false
set_option linter.unusedSimpArgs false
namespace Go.Proofs.Ytaokennbpgdngaa
open Go.RowKit
attribute [local go_sem] eOp eOper eUpon pOp pOper pUpon

/-- the row that a message's bytes behind its kind tell -/
def rdRow : List UInt8 → Option (Nat × List Int)
  | [] => none
  | fb :: m => match rdV m with
    | some (xs, []) => if fb.toNat < xs.length then some (fb.toNat, xs) else none
    | _ => none
theorem TXF.setc {B : Nat} {w : World} {s : TxAt} {t : TxnL} (h : TXF B w s t) {q : Nat} (hq : q < B) (j : Nat) (u : Value) : TXF B (w.setCell ⟨q, j, none⟩ u) s t := ⟨h.d.set hq j u, h.a.set hq j u, h.ws.set hq j u⟩
set_option maxHeartbeats 3200000 in
set_option maxRecDepth 100000 in
theorem sread_tx (m : List UInt8) (t : TxnL) (w : World) (ht : rdTx m = some t) :
    Calls Try.prog 48 #[.string (strL (84 :: m))] w fun e w' => ∃ s, e = .returned (.tuple #[txV t s, .int .i64 t.o, .slice none 0 0]) ∧ TXF w.heap.size w' s t ∧ Bl w w' := by
  have hsf := store_float
  obtain ⟨s, hs⟩ : ∃ s, strL (84 :: m) = s := ⟨_, rfl⟩
  have hml : m.length ≤ 65000 := (rdTx_back ht).2.2.2
  have hsz : s.size = m.length + 1 := by rw [← hs, strL_size]; simp
  have hp0 : 0 < s.size := by omega
  have h0 : (s[0]'hp0).toNat = 84 := by subst hs; rfl
  have hex : s.extract 1 s.size = strL m := by
    rw [hsz, ← hs, strL_ext]
    congr 1
    rw [List.drop_succ_cons, List.drop_zero, List.take_of_length_le (by simp)]
  have hne : s.toList.isEmpty = false := by subst hs; rw [ByteArray.toList_eq]; rfl
  have HG := Lib.hid (fun w => txGet_any m w)
  have HR := Lib.hid ht
  rw [hs]
  rw [hsz] at hex
  clear hs ht
  generalize strL m = q at *
  have hb := (Bl.refl w).alloc (.cells zTx.toArray 29)
  have hg := AC.new w _ rfl zTx 29
  unfold zTx at hb hg
  obtain ⟨N, hN⟩ : ∃ N, m.length + 1 = N := ⟨_, rfl⟩
  rw [hN] at hsz hex
  have hN1 : 1 ≤ N := by omega
  have hN9 : N ≤ 65001 := by omega
  clear hN hml
  go_enter Try.func48, Try.ntmps48
  go_wp2_with fail
  refine (swant_yes _).mono ?_
  rintro e W1 ⟨rfl, rfl⟩
  generalize w.alloc _ = W at *
  go_wp2_with fail
  refine (HG.out _).mono ?_
  rintro e W2 (⟨t', s', hr, rfl, hF, hb1⟩ | ⟨hr, _⟩)
  case inr => rw [HR.out] at hr; cases hr
  rw [HR.out] at hr
  obtain rfl := Option.some.inj hr
  obtain ⟨o, num, prev, ds, xs, ws⟩ := t
  obtain ⟨dd, dn, dc, ad, an, ac, pd, pn, pc⟩ := s'
  unfold txV
  dsimp only
  have HB := Lib.hid (hb.trans hb1)
  have HGB := Lib.hid (hg.keep hb1)
  have HF := Lib.hid hF
  have HMS := Lib.hid hb.size
  have HWW := Lib.hid hb1.size
  have hgl := hg.lt
  have hgx := AC.new W2 _ rfl (txL o num prev dd dn dc ad an ac pd pn pc) 29
  have hbx := (Bl.refl W2).alloc (.cells (txL o num prev dd dn dc ad an ac pd pn pc).toArray 29)
  unfold txL at hgx hbx
  clear hb hb1 hg hF hr hex h0 hne
  go_wp2_with fail
  refine (swant_yes _).mono ?_
  rintro e W3 ⟨rfl, rfl⟩
  go_upto_region 6 with fail
  have HX := Lib.hid (hgx.keep (Bl.refl _).drew)
  have HF2 := Lib.hid ((HF.out.keep hbx).keep (Bl.refl _).drew)
  have HB2 := Lib.hid ((HB.out.trans hbx).drew)
  have HGB2 := Lib.hid ((HGB.out.keep hbx).keep (Bl.refl _).drew)
  clear hgx hbx HB HGB HF
  have HW2 : Hid (W.heap.size ≤ W2.heap.size) := Lib.hid HWW.out
  generalize W2.alloc _ = W3 at *
  have hgl2 := HX.out.lt
  have hne2 : W2.heap.size ≠ w.heap.size := by have := HGB2.out.lt; have := HMS.out; have h3 := HW2.out; omega
  generalize W2.heap.size = gx at *
  refine wp_region_panicsT [0, 1, 2] 3 (HasBox gx (txL o num prev dd dn dc ad an ac pd pn pc)) HasBox.keep HX.out [] (fun c W' => False) ?hR (by kernel_rfl) rfl (by kernel_rfl) (by kernel_rfl) (by kernel_rfl) ?_
  case hR => intro c tt W' h; exact h.elim
  generalize W3.drew = Z at *
  haveI : Nonempty (ExtC (HasBox gx (txL o num prev dd dn dc ad an ac pd pn pc))) := ⟨⟨Z, HX.out⟩⟩
  have x0 : ∀ q : ExtC (HasBox gx (txL o num prev dd dn dc ad an ac pd pn pc)), _ := fun q => AC.cell q.ok 0 _ rfl
  have x1 : ∀ q : ExtC (HasBox gx (txL o num prev dd dn dc ad an ac pd pn pc)), _ := fun q => AC.cell q.ok 1 _ rfl
  have x2 : ∀ q : ExtC (HasBox gx (txL o num prev dd dn dc ad an ac pd pn pc)), _ := fun q => AC.cell q.ok 2 _ rfl
  have x3 : ∀ q : ExtC (HasBox gx (txL o num prev dd dn dc ad an ac pd pn pc)), _ := fun q => AC.cell q.ok 3 _ rfl
  have x4 : ∀ q : ExtC (HasBox gx (txL o num prev dd dn dc ad an ac pd pn pc)), _ := fun q => AC.cell q.ok 4 _ rfl
  have x5 : ∀ q : ExtC (HasBox gx (txL o num prev dd dn dc ad an ac pd pn pc)), _ := fun q => AC.cell q.ok 5 _ rfl
  repeat (refine wpI_step rfl (fun K hK => ?_); go_simp; first | (refine hK _ ?_; clear hK K) | (apply Exists.intro; refine ⟨fun q => ?_, hK _ ?_⟩; fail; clear hK K))
  refine wpI_nil ?_
  clear x0 x1 x2 x3 x4 x5 this
  refine wpAnyP_one (i := 3) (by kernel_rfl) ?_
  intro Y1 hy1
  have HG1 := Lib.hid (HGB2.out.keep hy1)
  have HF3 := Lib.hid (HF2.out.keep hy1)
  have HB3 := Lib.hid (HB2.out.trans hy1)
  have HX3 := Lib.hid (HX.out.keep hy1)
  clear HGB2 HF2 HB2 hy1 HX
  have fr := HG1.out.frozen
  have r0 := HG1.out.cell 0 _ rfl
  have r1 := HG1.out.cell 1 _ rfl
  have r2 := HG1.out.cell 2 _ rfl
  have r3 := HG1.out.cell 3 _ rfl
  have r4 := HG1.out.cell 4 _ rfl
  have r5 := HG1.out.cell 5 _ rfl
  go_simp
  clear fr r0 r1 r2 r3 r4 r5
  have HG4 := Lib.hid (HG1.out.fill [.int .i64 o, .int .i64 num, .int .i64 prev, .slice dd dn dc, .slice ad an ac, .slice pd pn pc] rfl)
  have HF4 := Lib.hid (HF3.out.fill (q := w.heap.size) (by have := HMS.out; have := hgl; omega) [.int .i64 o, .int .i64 num, .int .i64 prev, .slice dd dn dc, .slice ad an ac, .slice pd pn pc] 0)
  have HB4 := Lib.hid (Bl.fill (Nat.le_refl _) [.int .i64 o, .int .i64 num, .int .i64 prev, .slice dd dn dc, .slice ad an ac, .slice pd pn pc] _ 0 HB3.out)
  have HX4 := Lib.hid (AC.fillOther hne2 [.int .i64 o, .int .i64 num, .int .i64 prev, .slice dd dn dc, .slice ad an ac, .slice pd pn pc] Y1 0 HX3.out)
  clear HG1 HF3 HB3 HX3
  dsimp only [fill] at HG4 HF4 HB4 HX4
  refine ⟨HX4.out, ?_⟩
  generalize World.setCell _ _ (.slice pd pn pc) = Y2 at *
  refine wpAnyP_one (i := 4) (by kernel_rfl) ?_
  intro Y3 hy3
  go_simp
  refine ⟨HX4.out.keep hy3, ?_⟩
  refine wpAnyP_one (i := 5) (by kernel_rfl) ?_
  intro Y4 hy4
  go_simp
  refine ⟨HX4.out.keep (hy3.trans hy4), ?_⟩
  refine wpAnyP_done (by kernel_rfl) ?_
  intro Y5 hy5
  have hb5 := hy3.trans (hy4.trans hy5)
  go_wp2_with fail
  refine bodyPost_ret (sread_results rfl rfl rfl (HG4.out.keep hb5)) rfl ⟨⟨dd, dn, dc, ad, an, ac, pd, pn, pc⟩, rfl, (HF4.out.keep hb5).mono (by have := HMS.out; omega), HB4.out.trans hb5⟩
end Go.Proofs.Ytaokennbpgdngaa
end

/- txn.Get of what is no transaction. By an AI agent. -/
section
namespace Go.Proofs.Ytaokennbpgdngaa
open Go.RowKit

theorem txGet_no {l : List UInt8} (h : rdTx l = none) (w : World) : Calls Try.prog 22 #[.string (strL l)] w fun e w' => e = .returned (.tuple #[.agg #[.int .i64 0, .int .i64 0, .int .i64 0, .slice none 0 0, .slice none 0 0, .slice none 0 0], .int .i64 4]) ∧ Bl w w' := by
  refine (txGet_any l w).mono ?_
  rintro e w' (⟨t, s, hr, _⟩ | ⟨_, rfl, hb⟩)
  · rw [h] at hr; cases hr
  · exact ⟨rfl, hb⟩
end Go.Proofs.Ytaokennbpgdngaa
end

/- stream.read of what is no message. By an AI agent. -/
section
set_option linter.unusedVariables false
set_option linter.unusedSimpArgs false
namespace Go.Proofs.Ytaokennbpgdngaa
open Go.RowKit

/-- no message -/
def noMsg : List UInt8 → Prop
  | [] => True
  | c :: m => (c.toNat = 84 → rdTx m = none) ∧ (c.toNat = 82 → rdRow m = none)
theorem sread_nil (w : World) : Calls Try.prog 48 #[.string (strL [])] w fun e w' => e = panE ∧ Bl w w' := by
  have hne : (strL []).toList.isEmpty = true := by rw [ByteArray.toList_eq]; rfl
  have hb := (Bl.refl w).alloc (.cells zTx.toArray 29)
  unfold zTx at hb
  generalize strL [] = s at *
  go_enter Try.func48, Try.ntmps48
  go_wp2_with fail
  refine (swant_no _).mono ?_
  rintro e W1 ⟨rfl, rfl⟩
  unfold panE
  go_wp2_with fail
  exact ⟨rfl, rfl, hb⟩
set_option maxHeartbeats 1600000 in
set_option maxRecDepth 100000 in
theorem sread_no (c : UInt8) (m : List UInt8) (w : World) (hml : m.length ≤ 1000000) (h : noMsg (c :: m)) :
    Calls Try.prog 48 #[.string (strL (c :: m))] w fun e w' => e = panE ∧ Bl w w' := by
  obtain ⟨s, hs⟩ : ∃ s, strL (c :: m) = s := ⟨_, rfl⟩
  have hsz : s.size = m.length + 1 := by rw [← hs, strL_size]; simp
  have hp0 : 0 < s.size := by omega
  have h0 : (s[0]'hp0).toNat = c.toNat := by subst hs; rfl
  have hex : s.extract 1 s.size = strL m := by
    rw [hsz, ← hs, strL_ext]
    congr 1
    rw [List.drop_succ_cons, List.drop_zero, List.take_of_length_le (by simp)]
  have hne : s.toList.isEmpty = false := by subst hs; rw [ByteArray.toList_eq]; rfl
  have HSX := Lib.hid hs
  have hc8 : c.toNat < 256 := UInt8.toNat_lt _
  have hb := (Bl.refl w).alloc (.cells zTx.toArray 29)
  have HB := Lib.hid hb
  unfold zTx at HB
  have HH := Lib.hid h
  rw [hs]
  rw [hsz] at hex
  clear hb h hs
  by_cases h84 : c.toNat = 84
  · have HG := Lib.hid (fun w => txGet_no (HH.out.1 h84) w)
    rw [h84] at h0
    generalize strL m = q at *
    obtain ⟨N, hN⟩ : ∃ N, m.length + 1 = N := ⟨_, rfl⟩
    rw [hN] at hsz hex
    have hN1 : 1 ≤ N := by omega
    have hN9 : N ≤ 1000001 := by omega
    clear hN hml h84 HH hc8
    go_enter Try.func48, Try.ntmps48
    go_wp2_with fail
    refine (swant_yes _).mono ?_
    rintro e W1 ⟨rfl, rfl⟩
    generalize w.alloc _ = W at *
    go_wp2_with fail
    refine (HG.out _).mono ?_
    rintro e W2 ⟨rfl, hb1⟩
    have hbx := (Bl.refl W2).alloc (.cells #[.int .i64 0, .int .i64 0, .int .i64 0, .slice none 0 0, .slice none 0 0, .slice none 0 0] 29)
    have HB2 := Lib.hid (HB.out.trans (hb1.trans hbx))
    clear hb1 hbx
    go_wp2_with fail
    refine (swant_no _).mono ?_
    rintro e W3 ⟨rfl, rfl⟩
    unfold panE
    go_wp2_with fail
    exact ⟨rfl, rfl, HB2.out⟩
  have q84 : ((c.toNat : Int) == 84) = false := by rw [beq_eq_false_iff_ne]; omega
  by_cases h82 : c.toNat = 82
  case neg =>
    have q82 : ((c.toNat : Int) == 82) = false := by rw [beq_eq_false_iff_ne]; omega
    generalize c.toNat = cn at *
    clear hex HH h84 h82
    go_enter Try.func48, Try.ntmps48
    go_wp2_with fail
    refine (swant_yes _).mono ?_
    rintro e W1 ⟨rfl, rfl⟩
    generalize w.alloc _ = W at *
    go_wp2_with fail
    exact ⟨rfl, rfl, HB.out⟩
  rw [h82] at h0
  have HRR := Lib.hid (HH.out.2 h82)
  clear HH h84 q84 h82 hc8 hex
  cases m with
  | nil =>
    rw [List.length_nil] at hsz
    generalize strL [c] = sx at *
    go_enter Try.func48, Try.ntmps48
    go_wp2_with fail
    refine (swant_yes _).mono ?_
    rintro e W1 ⟨rfl, rfl⟩
    generalize w.alloc _ = W at *
    go_wp2_with fail
    refine (swant_no _).mono ?_
    rintro e W3 ⟨rfl, rfl⟩
    unfold panE
    go_wp2_with fail
    exact ⟨rfl, rfl, HB.out⟩
  | cons fb m =>
    have hsz2 : s.size = m.length + 2 := by rw [hsz, List.length_cons]
    have hml2 : m.length ≤ 1000000 := by rw [List.length_cons] at hml; omega
    clear hsz hml
    have hp1 : 1 < s.size := by omega
    have h1 : (s[1]'hp1).toNat = fb.toNat := by obtain rfl := HSX.out; rfl
    have hex : s.extract 2 s.size = strL m := by
      rw [hsz2, ← HSX.out, strL_ext]
      congr 1
      rw [List.drop_succ_cons, List.drop_succ_cons, List.drop_zero, List.take_of_length_le (by simp)]
    rw [hsz2] at hex
    have hfb : fb.toNat < 256 := UInt8.toNat_lt _
    have HG := Lib.hid (fun w => vget_rd (strL m) m w (strL_SB m) (by omega))
    have hw2 : IntKind.i64.wrap (((m.length + 2 : Nat) : Int) - 2) = (m.length : Int) := by rw [IntKind.wrap_i64]; omega
    have hsb : ((m.length + 2 : Nat) : Int) - 2 = (m.length : Int) := by omega
    clear HSX
    generalize strL m = q at *
    obtain ⟨N, hN⟩ : ∃ N, m.length + 2 = N := ⟨_, rfl⟩
    rw [hN] at hsz2 hex hw2 hsb
    have hN2 : 2 ≤ N := by omega
    have hN9 : N ≤ 1000002 := by omega
    have d1 : decide ((1 : Int) < (N : Int)) = true := decide_eq_true (by omega)
    have d2 : decide (1 < N) = true := decide_eq_true (by omega)
    clear hN
    go_enter Try.func48, Try.ntmps48
    go_wp2_with fail
    refine (swant_yes _).mono ?_
    rintro e W1 ⟨rfl, rfl⟩
    generalize w.alloc _ = W at *
    go_wp2_with fail
    refine (swant_yes _).mono ?_
    rintro e W1 ⟨rfl, rfl⟩
    go_wp2_with fail
    refine (HG.out _).mono ?_
    rintro e W2 (⟨xs, mr, v, hy, rfl, hfi, hb2⟩ | ⟨hy, cc, hcc, rfl, hb2⟩)
    case inr =>
      have HB2 := Lib.hid (HB.out.trans hb2)
      rcases hcc with rfl | rfl
      · go_wp2_with fail
        refine (swant_no _).mono ?_
        rintro e W3 ⟨rfl, rfl⟩
        unfold panE
        go_wp2_with fail
        exact ⟨rfl, rfl, HB2.out⟩
      · go_wp2_with fail
        refine (swant_no _).mono ?_
        rintro e W3 ⟨rfl, rfl⟩
        unfold panE
        go_wp2_with fail
        exact ⟨rfl, rfl, HB2.out⟩
    obtain ⟨va, vn, vc, rfl, hI⟩ := hfi.si
    have hvn : vn = xs.length := hI.len.symm
    subst hvn
    have HB2 := Lib.hid (HB.out.trans hb2)
    have hml : m.length = (1 + 6 * xs.length) + mr.length := by rw [(rdV_back hy).1, List.length_append, putL_len]
    have hv8 : xs.length ≤ 8 := (valid_parts (rdV_back hy).2).2.1
    have hrr : mr = [] → ¬ fb.toNat < xs.length := fun h1 h2 => by
      have := HRR.out
      simp [rdRow, hy, h1, h2] at this
    clear hb2 hfi hI hy HRR HG
    by_cases hmr : mr = []
    · have hm2 : m.length = 1 + 6 * xs.length := by rw [hml, hmr]; rfl
      have hnl := hrr hmr
      rw [hm2] at hw2 hsb
      have q1 : (((1 + 6 * xs.length : Nat) : Int) == ((1 + 6 * xs.length : Nat) : Int)) = true := by simp
      have q2 : decide ((fb.toNat : Int) < (xs.length : Int)) = false := decide_eq_false (by omega)
      have q3 : decide (fb.toNat < xs.length) = false := decide_eq_false hnl
      have hwf : IntKind.i64.wrap (fb.toNat : Int) = (fb.toNat : Int) := by rw [IntKind.wrap_i64]; omega
      clear hmr hrr hml hm2 hnl
      generalize fb.toNat = fn at *
      generalize xs.length = xn at *
      go_wp2_with fail
      refine (swant_no _).mono ?_
      rintro e W3 ⟨rfl, rfl⟩
      unfold panE
      go_wp2_with fail
      exact ⟨rfl, rfl, HB2.out⟩
    · have hpos := List.length_pos_iff.2 hmr
      have q1 : (((1 + 6 * xs.length : Nat) : Int) == (m.length : Int)) = false := by rw [beq_eq_false_iff_ne]; omega
      have q4 : (1 + 6 * xs.length) ≠ m.length := by omega
      generalize hkv : 1 + 6 * xs.length = kv at *
      generalize m.length = ml at *
      clear hmr hrr hml hpos
      go_wp2_with fail
      refine (swant_no _).mono ?_
      rintro e W3 ⟨rfl, rfl⟩
      unfold panE
      go_wp2_with fail
      exact ⟨rfl, rfl, HB2.out⟩
end Go.Proofs.Ytaokennbpgdngaa
end

/- stream.Get of a transaction, and of what is no message. By an AI agent. -/
section
set_option linter.unusedVariables false
set_option linter.unusedSimpArgs false
namespace Go.Proofs.Ytaokennbpgdngaa
open Go.RowKit
attribute [local go_sem] eOp eOper eUpon pOp pOper pUpon

/-- the four boxes, and a transaction that lies behind them -/
structure SVT (w : World) (cs : List Value) (x : Int) (v : Value) (e : Int) (s : TxAt) (t : TxnL) (W : World) : Prop where
  g : SG4 w W cs x v e
  o : TXF (w.heap.size + 1 + 1 + 1 + 1) W s t
section
variable {w W : World} {cs : List Value} {x : Int} {v : Value} {e : Int} {s : TxAt} {t : TxnL}
theorem SVT.keep (W W' : World) (h : SVT w cs x v e s t W) (k : Bl W W') : SVT w cs x v e s t W' := ⟨h.g.keep k, h.o.keep k⟩
theorem SVT.fillT (h : SVT w cs x v e s t W) : SVT w cs x v e s t (fill W w.heap.size 0 cs) :=
  ⟨⟨Bl.fill (Nat.le_refl _) cs W 0 h.g.bl, h.g.t.fill cs rfl, AC.fillOther (by omega) cs W 0 h.g.f, AC.fillOther (by omega) cs W 0 h.g.r, AC.fillOther (by omega) cs W 0 h.g.e⟩, h.o.fill (by omega) cs 0⟩
theorem SVT.setF (h : SVT w cs x v e s t W) : SVT w cs x v e s t (W.setCell ⟨w.heap.size + 1, 0, none⟩ (.int .i64 x)) :=
  ⟨⟨h.g.bl.setCell (p := ⟨w.heap.size + 1, 0, none⟩) (Nat.le_succ _) _, h.g.t.other (by omega), h.g.f.setj 0 _, h.g.r.other (by omega), h.g.e.other (by omega)⟩, h.o.setc (by omega) 0 _⟩
theorem SVT.setR (h : SVT w cs x v e s t W) : SVT w cs x v e s t (W.setCell ⟨w.heap.size + 1 + 1, 0, none⟩ v) :=
  ⟨⟨h.g.bl.setCell (p := ⟨w.heap.size + 1 + 1, 0, none⟩) (by show w.heap.size ≤ w.heap.size + 1 + 1; omega) _, h.g.t.other (by omega), h.g.f.other (by omega), h.g.r.setj 0 _, h.g.e.other (by omega)⟩, h.o.setc (by omega) 0 _⟩
theorem SVT.setE (h : SVT w cs x v e s t W) : SVT w cs x v e s t (W.setCell ⟨w.heap.size + 1 + 1 + 1, 0, none⟩ (.int .i64 e)) :=
  ⟨⟨h.g.bl.setCell (p := ⟨w.heap.size + 1 + 1 + 1, 0, none⟩) (by show w.heap.size ≤ w.heap.size + 1 + 1 + 1; omega) _, h.g.t.other (by omega), h.g.f.other (by omega), h.g.r.other (by omega), h.g.e.setj 0 _⟩, h.o.setc (by omega) 0 _⟩
end
set_option maxHeartbeats 3200000 in
set_option maxRecDepth 100000 in
theorem sget_tx (m : List UInt8) (t : TxnL) (w : World) (ht : rdTx m = some t) :
    Calls Try.prog 17 #[.string (strL (84 :: m))] w fun e w' => ∃ s, e = .returned (.tuple #[txV t s, .int .i64 t.o, .slice none 0 0, .int .i64 0]) ∧ TXF w.heap.size w' s t ∧ Bl w w' := by
  have hmf := hmf
  have H := Lib.hid (fun w => sread_tx m t w ht)
  have G := SG4.new w 29 3 24 35 zTxC 0 (.slice none 0 0) 0
  unfold zTxC at G
  clear ht
  generalize strL (84 :: m) = sl at *
  go_enter_defers Try.func17, Try.ntmps17
  go_wp2_with fail
  generalize (((w.alloc _).alloc _).alloc _).alloc _ = W at *
  refine (H.out _).mono ?_
  rintro e W1 ⟨s1, rfl, hf, hb1⟩
  obtain ⟨o, num, prev, ds, xs, ws⟩ := t
  obtain ⟨dd, dn, dc, ad, an, ac, pd, pn, pc⟩ := s1
  unfold txV
  dsimp only
  have G1 := Lib.hid (G.keep hb1)
  have HF := Lib.hid hf
  have HWS := Lib.hid G.e.lt
  clear hf hb1 G H
  have fr := G1.out.t.frozen
  have r0 := G1.out.t.cell 0 _ rfl
  have r1 := G1.out.t.cell 1 _ rfl
  have r2 := G1.out.t.cell 2 _ rfl
  have r3 := G1.out.t.cell 3 _ rfl
  have r4 := G1.out.t.cell 4 _ rfl
  have r5 := G1.out.t.cell 5 _ rfl
  have f0 := (AC.fillOther (g' := w.heap.size) (by omega) [.int .i64 o, .int .i64 num, .int .i64 prev, .slice dd dn dc, .slice ad an ac, .slice pd pn pc] W1 0 G1.out.f).cell 0 _ rfl
  have ff0 := (AC.fillOther (g' := w.heap.size) (by omega) [.int .i64 o, .int .i64 num, .int .i64 prev, .slice dd dn dc, .slice ad an ac, .slice pd pn pc] W1 0 G1.out.f).frozen 0
  have x0 := ((AC.fillOther (g' := w.heap.size) (by omega) [.int .i64 o, .int .i64 num, .int .i64 prev, .slice dd dn dc, .slice ad an ac, .slice pd pn pc] W1 0 G1.out.r).other (g' := w.heap.size + 1) (j := 0) (u := .int .i64 o) (by omega)).cell 0 _ rfl
  have xf0 := ((AC.fillOther (g' := w.heap.size) (by omega) [.int .i64 o, .int .i64 num, .int .i64 prev, .slice dd dn dc, .slice ad an ac, .slice pd pn pc] W1 0 G1.out.r).other (g' := w.heap.size + 1) (j := 0) (u := .int .i64 o) (by omega)).frozen 0
  dsimp only [fill] at f0 ff0 x0 xf0
  go_upto_region 3 with fail
  clear fr r0 r1 r2 r3 r4 r5 f0 ff0 x0 xf0
  have G2 := Lib.hid (G1.out.set [.int .i64 o, .int .i64 num, .int .i64 prev, .slice dd dn dc, .slice ad an ac, .slice pd pn pc] rfl o (.slice none 0 0))
  have HF2 : Hid (TXF (w.heap.size + 1 + 1 + 1 + 1) (set4 w W1 [.int .i64 o, .int .i64 num, .int .i64 prev, .slice dd dn dc, .slice ad an ac, .slice pd pn pc] o (.slice none 0 0)) ⟨dd, dn, dc, ad, an, ac, pd, pn, pc⟩ ⟨o, num, prev, ds, xs, ws⟩) := Lib.hid (TXF.mono (TXF.setc (TXF.setc (HF.out.fill (q := w.heap.size) (by have := HWS.out; omega) [.int .i64 o, .int .i64 num, .int .i64 prev, .slice dd dn dc, .slice ad an ac, .slice pd pn pc] 0) (q := w.heap.size + 1) (by have := HWS.out; omega) 0 _) (q := w.heap.size + 1 + 1) (by have := HWS.out; omega) 0 _) (by have := HWS.out; omega))
  unfold set4 at G2 HF2
  dsimp only [fill] at G2 HF2
  clear G1 HF
  generalize World.setCell _ ⟨w.heap.size + 1 + 1, 0, none⟩ (.slice none 0 0) = W2 at *
  have HS := Lib.hid (show SVT w [.int .i64 o, .int .i64 num, .int .i64 prev, .slice dd dn dc, .slice ad an ac, .slice pd pn pc] (o : Int) (.slice none 0 0) 0 ⟨dd, dn, dc, ad, an, ac, pd, pn, pc⟩ ⟨o, num, prev, ds, xs, ws⟩ W2 from ⟨G2.out, HF2.out⟩)
  clear G2 HF2
  refine wp_region_panicsT [0, 1, 2] 4 (SVT w [.int .i64 o, .int .i64 num, .int .i64 prev, .slice dd dn dc, .slice ad an ac, .slice pd pn pc] (o : Int) (.slice none 0 0) 0 ⟨dd, dn, dc, ad, an, ac, pd, pn, pc⟩ ⟨o, num, prev, ds, xs, ws⟩) SVT.keep (SVT.keep _ _ HS.out ((Bl.refl W2).drew)) [] (fun c W' => False) ?hR (by kernel_rfl) rfl (by kernel_rfl) (by kernel_rfl) (by kernel_rfl) ?_
  case hR => intro c tt W' h; exact h.elim
  have HZ := Lib.hid (SVT.keep _ _ HS.out ((Bl.refl W2).drew))
  generalize W2.drew = Z at *
  haveI : Nonempty (ExtC (SVT w [.int .i64 o, .int .i64 num, .int .i64 prev, .slice dd dn dc, .slice ad an ac, .slice pd pn pc] (o : Int) (.slice none 0 0) 0 ⟨dd, dn, dc, ad, an, ac, pd, pn, pc⟩ ⟨o, num, prev, ds, xs, ws⟩)) := ⟨⟨Z, HZ.out⟩⟩
  have t0 : ∀ q : ExtC (SVT w [.int .i64 o, .int .i64 num, .int .i64 prev, .slice dd dn dc, .slice ad an ac, .slice pd pn pc] (o : Int) (.slice none 0 0) 0 ⟨dd, dn, dc, ad, an, ac, pd, pn, pc⟩ ⟨o, num, prev, ds, xs, ws⟩), _ := fun q => AC.cell q.ok.g.t 0 _ rfl
  have t1 : ∀ q : ExtC (SVT w [.int .i64 o, .int .i64 num, .int .i64 prev, .slice dd dn dc, .slice ad an ac, .slice pd pn pc] (o : Int) (.slice none 0 0) 0 ⟨dd, dn, dc, ad, an, ac, pd, pn, pc⟩ ⟨o, num, prev, ds, xs, ws⟩), _ := fun q => AC.cell q.ok.g.t 1 _ rfl
  have t2 : ∀ q : ExtC (SVT w [.int .i64 o, .int .i64 num, .int .i64 prev, .slice dd dn dc, .slice ad an ac, .slice pd pn pc] (o : Int) (.slice none 0 0) 0 ⟨dd, dn, dc, ad, an, ac, pd, pn, pc⟩ ⟨o, num, prev, ds, xs, ws⟩), _ := fun q => AC.cell q.ok.g.t 2 _ rfl
  have t3 : ∀ q : ExtC (SVT w [.int .i64 o, .int .i64 num, .int .i64 prev, .slice dd dn dc, .slice ad an ac, .slice pd pn pc] (o : Int) (.slice none 0 0) 0 ⟨dd, dn, dc, ad, an, ac, pd, pn, pc⟩ ⟨o, num, prev, ds, xs, ws⟩), _ := fun q => AC.cell q.ok.g.t 3 _ rfl
  have t4 : ∀ q : ExtC (SVT w [.int .i64 o, .int .i64 num, .int .i64 prev, .slice dd dn dc, .slice ad an ac, .slice pd pn pc] (o : Int) (.slice none 0 0) 0 ⟨dd, dn, dc, ad, an, ac, pd, pn, pc⟩ ⟨o, num, prev, ds, xs, ws⟩), _ := fun q => AC.cell q.ok.g.t 4 _ rfl
  have t5 : ∀ q : ExtC (SVT w [.int .i64 o, .int .i64 num, .int .i64 prev, .slice dd dn dc, .slice ad an ac, .slice pd pn pc] (o : Int) (.slice none 0 0) 0 ⟨dd, dn, dc, ad, an, ac, pd, pn, pc⟩ ⟨o, num, prev, ds, xs, ws⟩), _ := fun q => AC.cell q.ok.g.t 5 _ rfl
  have t6 : ∀ q : ExtC (SVT w [.int .i64 o, .int .i64 num, .int .i64 prev, .slice dd dn dc, .slice ad an ac, .slice pd pn pc] (o : Int) (.slice none 0 0) 0 ⟨dd, dn, dc, ad, an, ac, pd, pn, pc⟩ ⟨o, num, prev, ds, xs, ws⟩), _ := fun q => AC.cell q.ok.g.f 0 _ rfl
  have t7 : ∀ q : ExtC (SVT w [.int .i64 o, .int .i64 num, .int .i64 prev, .slice dd dn dc, .slice ad an ac, .slice pd pn pc] (o : Int) (.slice none 0 0) 0 ⟨dd, dn, dc, ad, an, ac, pd, pn, pc⟩ ⟨o, num, prev, ds, xs, ws⟩), _ := fun q => AC.cell q.ok.g.r 0 _ rfl
  repeat (refine wpI_step rfl (fun K hK => ?_); go_simp; first | (refine hK _ ?_; clear hK K) | (apply Exists.intro; refine ⟨fun q => ?_, hK _ ?_⟩; fail; clear hK K))
  refine wpI_nil ?_
  clear t0 t1 t2 t3 t4 t5 t6 t7 this
  refine wpAnyP_one (i := 3) (by kernel_rfl) ?_
  intro Y1 hy1
  have H1 := Lib.hid (SVT.keep _ _ HZ.out hy1)
  have fr := H1.out.g.t.frozen
  have r0 := H1.out.g.t.cell 0 _ rfl
  have r1 := H1.out.g.t.cell 1 _ rfl
  have r2 := H1.out.g.t.cell 2 _ rfl
  have r3 := H1.out.g.t.cell 3 _ rfl
  have r4 := H1.out.g.t.cell 4 _ rfl
  have r5 := H1.out.g.t.cell 5 _ rfl
  go_simp
  clear fr r0 r1 r2 r3 r4 r5 hy1
  refine ⟨H1.out.fillT, ?_⟩
  have H2 := Lib.hid H1.out.fillT
  dsimp only [fill] at H2
  generalize World.setCell _ ⟨w.heap.size, 5, none⟩ _ = Y2 at *
  refine wpAnyP_one (i := 4) (by kernel_rfl) ?_
  intro Y3 hy3
  have H3 := Lib.hid (SVT.keep _ _ H2.out hy3)
  have fr := H3.out.g.f.frozen 0
  have r0 := H3.out.g.f.cell 0 _ rfl
  go_simp
  clear fr r0 hy3
  refine ⟨H3.out.setF, ?_⟩
  have H4 := Lib.hid H3.out.setF
  generalize World.setCell _ ⟨w.heap.size + 1, 0, none⟩ _ = Y4 at *
  refine wpAnyP_one (i := 5) (by kernel_rfl) ?_
  intro Y5 hy5
  have H5 := Lib.hid (SVT.keep _ _ H4.out hy5)
  have fr := H5.out.g.r.frozen 0
  have r0 := H5.out.g.r.cell 0 _ rfl
  go_simp
  clear fr r0 hy5
  refine ⟨H5.out.setR, ?_⟩
  have H6 := Lib.hid H5.out.setR
  generalize World.setCell _ ⟨w.heap.size + 1 + 1, 0, none⟩ _ = Y6 at *
  refine wpAnyP_one (i := 6) (by kernel_rfl) ?_
  intro Y7 hy7
  have H7 := Lib.hid (SVT.keep _ _ H6.out hy7)
  have fr := H7.out.g.e.frozen 0
  have r0 := H7.out.g.e.cell 0 _ rfl
  go_simp
  clear fr r0 hy7
  refine ⟨H7.out.setE, ?_⟩
  have H8 := Lib.hid H7.out.setE
  generalize World.setCell _ ⟨w.heap.size + 1 + 1 + 1, 0, none⟩ _ = Y8 at *
  refine wpAnyP_done (by kernel_rfl) ?_
  intro Y9 hy9
  have H9 := Lib.hid (SVT.keep _ _ H8.out hy9)
  go_wp2_with fail
  refine leaves_cons (f := 47) (args := #[.pointer (some ⟨w.heap.size, 0, none⟩), .pointer (some ⟨w.heap.size + 1, 0, none⟩), .pointer (some ⟨w.heap.size + 1 + 1, 0, none⟩), .pointer (some ⟨w.heap.size + 1 + 1 + 1, 0, none⟩)]) (by simp) (by simp [go_sem]) ?_
  refine (scatch_idle _ _ _ _ _).mono ?_
  rintro e u' w'' ⟨rfl, rfl, rfl⟩
  exact leaves_ret (sGet_results rfl rfl rfl rfl H9.out.g.t H9.out.g.f H9.out.g.r H9.out.g.e) ⟨⟨dd, dn, dc, ad, an, ac, pd, pn, pc⟩, rfl, H9.out.o.mono (by omega), H9.out.g.bl⟩
set_option maxHeartbeats 1600000 in
set_option maxRecDepth 100000 in
theorem scatch_code (w0 w : World) (c : Int) (older : List PanicEntry) (h : SG4 w0 w zTxC 0 (.slice none 0 0) 0) :
    CallsD Try.prog 47 #[.pointer (some ⟨w0.heap.size, 0, none⟩), .pointer (some ⟨w0.heap.size + 1, 0, none⟩), .pointer (some ⟨w0.heap.size + 1 + 1, 0, none⟩), .pointer (some ⟨w0.heap.size + 1 + 1 + 1, 0, none⟩)] (.panicking ({ v := .iface 35 (.int .i64 c), recovered := false } :: older)) w fun e u' w' =>
      e = .returned (.tuple #[]) ∧ u' = .panicking ({ v := .iface 35 (.int .i64 c), recovered := true } :: older) ∧ w' = (set4 w0 w zTxC 0 (.slice none 0 0)).setCell ⟨w0.heap.size + 1 + 1 + 1, 0, none⟩ (.int .i64 c) := by
  have hsf := store_float
  have h6 := h.t
  unfold zTxC at h6
  have f0 := h6.frozen
  have k0 := h6.cell 0 _ rfl
  have k1 := h6.cell 1 _ rfl
  have k2 := h6.cell 2 _ rfl
  have k3 := h6.cell 3 _ rfl
  have k4 := h6.cell 4 _ rfl
  have k5 := h6.cell 5 _ rfl
  have F6 := AC.fillOther (g' := w0.heap.size) (by omega) zTxC w 0 h.f
  have R6 := (AC.fillOther (g' := w0.heap.size) (by omega) zTxC w 0 h.r).other (g' := w0.heap.size + 1) (j := 0) (u := .int .i64 0) (by omega)
  have E6 := ((AC.fillOther (g' := w0.heap.size) (by omega) zTxC w 0 h.e).other (g' := w0.heap.size + 1) (j := 0) (u := .int .i64 0) (by omega)).other (g' := w0.heap.size + 1 + 1) (j := 0) (u := .slice none 0 0) (by omega)
  have a0 := F6.cell 0 _ rfl
  have af := F6.frozen 0
  have b0 := R6.cell 0 _ rfl
  have bf := R6.frozen 0
  have e0 := E6.cell 0 _ rfl
  have ef := E6.frozen 0
  unfold set4
  unfold zTxC at a0 af b0 bf e0 ef ⊢
  dsimp only [fill] at a0 af b0 bf e0 ef ⊢
  refine callsD_of_wpS Try.func47 rfl fun c₀ cs hu => ?_
  apply wpS_seq
  apply wpS_region
  simp [wpOpsS, go_sem, recoverD, hu, Try.ntmps47, Exit.thenS]
  apply wpS_seq
  apply wpS_region
  simp [wpOpsS, go_sem, Exit.thenS]
  refine wpS_cond (t := true) (by simp [Act.eval, Array.replicate]) ?_
  simp only [if_true]
  apply wpS_seq
  apply wpS_region
  simp [wpOpsS, go_sem, Exit.thenS, assert_code, recoverD]
  apply wpS_seq
  apply wpS_seq
  apply wpS_region
  simp [wpOpsS, go_sem, Exit.thenS, recoverD]
  refine wpS_cond (t := false) (by simp [Act.eval, Array.replicate]) ?_
  simp only [Bool.false_eq_true, if_false]
  refine wpS_of_wp (wp_skip ?_)
  simp only [Exit.thenS]
  apply wpS_region
  simp [wpOpsS, go_sem, hsf, f0, k0, k1, k2, k3, k4, k5, a0, af, b0, bf, e0, ef, recoverD, bodyPostS, results, Try.results47]
set_option maxHeartbeats 1600000 in
set_option maxRecDepth 100000 in
theorem sget_no (l : List UInt8) (w : World) (hl : l.length ≤ 1000000) (h : noMsg l) :
    Calls Try.prog 17 #[.string (strL l)] w fun e w' => e = .returned (.tuple #[zTxV, .int .i64 0, .slice none 0 0, .int .i64 4]) ∧ Bl w w' := by
  have hmf := hmf
  have H : Hid (∀ w, Calls Try.prog 48 #[.string (strL l)] w fun e w' => e = panE ∧ Bl w w') := Lib.hid (fun w => by
    cases l with
    | nil => exact sread_nil w
    | cons c m => exact sread_no c m w (by rw [List.length_cons] at hl; omega) h)
  have G := SG4.new w 29 3 24 35 zTxC 0 (.slice none 0 0) 0
  have HGG : Hid (∀ W, SG4 w W [.int .i64 0, .int .i64 0, .int .i64 0, .slice none 0 0, .slice none 0 0, .slice none 0 0] 0 (.slice none 0 0) 0 → SG4 w W zTxC 0 (.slice none 0 0) 0) := Lib.hid (fun W h => h)
  unfold zTxC at G
  unfold zTxV
  clear h
  generalize strL l = sl at *
  go_enter_defers Try.func17, Try.ntmps17
  go_wp2_with fail
  generalize (((w.alloc _).alloc _).alloc _).alloc _ = W at *
  refine (H.out _).mono ?_
  rintro e W1 ⟨rfl, hb1⟩
  have G1 := HGG.out _ (G.keep hb1)
  clear hb1 G H HGG
  unfold panE
  refine leaves_cons (f := 47) (args := #[.pointer (some ⟨w.heap.size, 0, none⟩), .pointer (some ⟨w.heap.size + 1, 0, none⟩), .pointer (some ⟨w.heap.size + 1 + 1, 0, none⟩), .pointer (some ⟨w.heap.size + 1 + 1 + 1, 0, none⟩)]) (by simp) (by simp [go_sem]) ?_
  refine (scatch_code w W1 4 [] G1).mono ?_
  rintro e u' w'' ⟨rfl, rfl, rfl⟩
  have G2 := G1.set zTxC rfl 0 (.slice none 0 0)
  have G3 : SG4 w ((set4 w W1 zTxC 0 (.slice none 0 0)).setCell ⟨w.heap.size + 1 + 1 + 1, 0, none⟩ (.int .i64 4)) zTxC 0 (.slice none 0 0) 4 := ⟨G2.bl.setCell (p := ⟨w.heap.size + 1 + 1 + 1, 0, none⟩) (by show w.heap.size ≤ w.heap.size + 1 + 1 + 1; omega) _, G2.t.other (by omega), G2.f.other (by omega), G2.r.other (by omega), G2.e.setj 0 _⟩
  exact leaves_back (sGet_results rfl rfl rfl rfl G3.t G3.f G3.r G3.e) ⟨rfl, G3.bl⟩
end Go.Proofs.Ytaokennbpgdngaa
end
