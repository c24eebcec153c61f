import Derived.Test.YtaokennbpgdngaaQStreamUnsentP1
import Derived.Test.YtaokennbpgdngaaCore6
import Derived.Test.YtaokennbpgdngaaCore1
import Derived.Test.YtaokennbpgdngaaCore3

/- stream.Get of a row. By an AI agent. -/
section
set_option linter.unusedVariables false
set_option linter.unusedSimpArgs false
namespace Go.Proofs.Ytaokennbpgdngaa
open Go.RowKit
attribute [local go_sem] eOp eOper eUpon pOp pOper pUpon

theorem scatch_idle (a0 a1 a2 a3 : Addr) (w : World) :
    CallsD Try.prog 47 #[.pointer (some a0), .pointer (some a1), .pointer (some a2), .pointer (some a3)] .returning w fun e u' w' => e = .returned (.tuple #[]) ∧ u' = .returning ∧ w' = w := by
  refine callsD_of_wpS Try.func47 rfl fun c₀ cs hu => ?_
  apply wpS_seq
  apply wpS_region
  simp [wpOpsS, go_sem, recoverD, hu, Try.ntmps47, Exit.thenS]
  apply wpS_seq
  apply wpS_region
  simp [wpOpsS, go_sem, Exit.thenS]
  refine wpS_cond (t := false) (by simp [Act.eval, Array.replicate]) ?_
  simp only [Bool.false_eq_true, if_false]
  refine wpS_of_wp (wp_skip ?_)
  cases c₀
  simp_all [bodyPostS, results, Try.results47]
/-- the four boxes of Get -/
structure SG4 (w W : World) (cs : List Value) (x : Int) (v : Value) (e : Int) : Prop where
  bl : Bl w W
  t : AC W w.heap.size cs
  f : AC W (w.heap.size + 1) [.int .i64 x]
  r : AC W (w.heap.size + 1 + 1) [v]
  e : AC W (w.heap.size + 1 + 1 + 1) [.int .i64 e]
theorem SG4.keep {w W W' : World} {cs : List Value} {x : Int} {v : Value} {e : Int} (h : SG4 w W cs x v e) (k : Bl W W') : SG4 w W' cs x v e := ⟨h.bl.trans k, h.t.keep k, h.f.keep k, h.r.keep k, h.e.keep k⟩
theorem SG4.new (w : World) (T U V X : TypeId) (cs : List Value) (x : Int) (v : Value) (e : Int) :
    SG4 w ((((w.alloc (.cells cs.toArray T)).alloc (.cells #[.int .i64 x] U)).alloc (.cells #[v] V)).alloc (.cells #[.int .i64 e] X)) cs x v e :=
  ⟨((((Bl.refl w).alloc _).alloc _).alloc _).alloc _, (((AC.new w _ rfl cs T).keep ((Bl.refl _).alloc _)).keep ((Bl.refl _).alloc _)).keep ((Bl.refl _).alloc _), ((AC.new _ (w.heap.size + 1) (by simp) [.int .i64 x] U).keep ((Bl.refl _).alloc _)).keep ((Bl.refl _).alloc _), (AC.new _ (w.heap.size + 1 + 1) (by simp) [v] V).keep ((Bl.refl _).alloc _), AC.new _ (w.heap.size + 1 + 1 + 1) (by simp) [.int .i64 e] X⟩
/-- all four are set anew -/
def set4 (w W : World) (vs : List Value) (x : Int) (v : Value) : World := ((fill W w.heap.size 0 vs).setCell ⟨w.heap.size + 1, 0, none⟩ (.int .i64 x)).setCell ⟨w.heap.size + 1 + 1, 0, none⟩ v
theorem SG4.set {w W : World} {cs : List Value} {x : Int} {v : Value} {e : Int} (h : SG4 w W cs x v e) (vs : List Value) (hl : cs.length = vs.length) (y : Int) (u : Value) : SG4 w (set4 w W vs y u) vs y u e := by
  unfold set4
  refine ⟨?_, ?_, ?_, ?_, ?_⟩
  · exact ((Bl.fill (Nat.le_refl _) vs W 0 h.bl).setCell (p := ⟨w.heap.size + 1, 0, none⟩) (Nat.le_succ _) _).setCell (p := ⟨w.heap.size + 1 + 1, 0, none⟩) (by show w.heap.size ≤ w.heap.size + 1 + 1; omega) _
  · exact ((h.t.fill vs hl).other (by omega)).other (by omega)
  · exact ((AC.fillOther (by omega) vs W 0 h.f).setj 0 (.int .i64 y)).other (by omega)
  · exact ((AC.fillOther (by omega) vs W 0 h.r).other (by omega)).setj 0 u
  · exact ((AC.fillOther (by omega) vs W 0 h.e).other (by omega)).other (by omega)
/-- .. with a vector that lies behind them -/
structure SV (w : World) (cs : List Value) (x : Int) (v : Value) (e : Int) (xs : List Int) (W : World) : Prop where
  g : SG4 w W cs x v e
  o : W.ownsRow (w.heap.size + 1 + 1 + 1 + 1) 3 1 v xs.length (xs.map (Value.int .i64))
theorem SV.keep {w : World} {cs : List Value} {x : Int} {v : Value} {e : Int} {xs : List Int} (W W' : World) (h : SV w cs x v e xs W) (k : Bl W W') : SV w cs x v e xs W' := ⟨h.g.keep k, ownsRow_bl h.o k⟩
theorem SV.fillT {w W : World} {cs : List Value} {x : Int} {v : Value} {e : Int} {xs : List Int} (h : SV w cs x v e xs W) : SV w cs x v e xs (fill W w.heap.size 0 cs) :=
  ⟨⟨Bl.fill (Nat.le_refl _) cs W 0 h.g.bl, h.g.t.fill cs rfl, AC.fillOther (by omega) cs W 0 h.g.f, AC.fillOther (by omega) cs W 0 h.g.r, AC.fillOther (by omega) cs W 0 h.g.e⟩, own_fill6 (by omega) cs W 0 h.o⟩
theorem SV.setF {w W : World} {cs : List Value} {x : Int} {v : Value} {e : Int} {xs : List Int} (h : SV w cs x v e xs W) : SV w cs x v e xs (W.setCell ⟨w.heap.size + 1, 0, none⟩ (.int .i64 x)) :=
  ⟨⟨h.g.bl.setCell (p := ⟨w.heap.size + 1, 0, none⟩) (Nat.le_succ _) _, h.g.t.other (by omega), h.g.f.setj 0 _, h.g.r.other (by omega), h.g.e.other (by omega)⟩, own_set6 h.o (by omega) 0 _⟩
theorem SV.setR {w W : World} {cs : List Value} {x : Int} {v : Value} {e : Int} {xs : List Int} (h : SV w cs x v e xs W) : SV w cs x v e xs (W.setCell ⟨w.heap.size + 1 + 1, 0, none⟩ v) :=
  ⟨⟨h.g.bl.setCell (p := ⟨w.heap.size + 1 + 1, 0, none⟩) (by show w.heap.size ≤ w.heap.size + 1 + 1; omega) _, h.g.t.other (by omega), h.g.f.other (by omega), h.g.r.setj 0 _, h.g.e.other (by omega)⟩, own_set6 h.o (by omega) 0 _⟩
theorem SV.setE {w W : World} {cs : List Value} {x : Int} {v : Value} {e : Int} {xs : List Int} (h : SV w cs x v e xs W) : SV w cs x v e xs (W.setCell ⟨w.heap.size + 1 + 1 + 1, 0, none⟩ (.int .i64 e)) :=
  ⟨⟨h.g.bl.setCell (p := ⟨w.heap.size + 1 + 1 + 1, 0, none⟩) (by show w.heap.size ≤ w.heap.size + 1 + 1 + 1; omega) _, h.g.t.other (by omega), h.g.f.other (by omega), h.g.r.other (by omega), h.g.e.setj 0 _⟩, own_set6 h.o (by omega) 0 _⟩
theorem sGet_results {tmps : Array Value} {w : World} {g0 g1 g2 g3 : Nat} {o num prev : Int} {dv av wv : Value} {x : Int} {v : Value} {e : Int} (h0 : tmps.getD 2 undef = .pointer (some ⟨g0, 0, none⟩)) (h1 : tmps.getD 3 undef = .pointer (some ⟨g1, 0, none⟩)) (h2 : tmps.getD 4 undef = .pointer (some ⟨g2, 0, none⟩)) (h3 : tmps.getD 5 undef = .pointer (some ⟨g3, 0, none⟩))
    (d0 : AC w g0 [.int .i64 o, .int .i64 num, .int .i64 prev, dv, av, wv]) (d1 : AC w g1 [.int .i64 x]) (d2 : AC w g2 [v]) (d3 : AC w g3 [.int .i64 e]) :
    (results Try.f17 tmps).run Try.prog w = .ok (.tuple #[.agg #[.int .i64 o, .int .i64 num, .int .i64 prev, dv, av, wv], .int .i64 x, v, .int .i64 e]) w := by
  rw [Array.getD_eq_getD_getElem?] at h0 h1 h2 h3
  have c0 := d0.cell 0 _ rfl
  have c1 := d0.cell 1 _ rfl
  have c2 := d0.cell 2 _ rfl
  have c3 := d0.cell 3 _ rfl
  have c4 := d0.cell 4 _ rfl
  have c5 := d0.cell 5 _ rfl
  have c6 := d1.cell 0 _ rfl
  have c7 := d2.cell 0 _ rfl
  have c8 := d3.cell 0 _ rfl
  simp [results, Try.results17, go_sem, h0, h1, h2, h3, c0, c1, c2, c3, c4, c5, c6, c7, c8]
set_option maxHeartbeats 3200000 in
set_option maxRecDepth 100000 in
theorem sget_row (fb : UInt8) (fn : Nat) (hfn : fb.toNat = fn) (m : List UInt8) (xs : List Int) (w : World) (hr : rdV m = some (xs, [])) (hlt : fn < xs.length) :
    Calls Try.prog 17 #[.string (strL (82 :: fb :: m))] w fun e w' => ∃ v, e = .returned (.tuple #[zTxV, .int .i64 fn, v, .int .i64 0]) ∧ FI w.heap.size w' v xs ∧ Bl w w' := by
  have hmf := hmf
  have H := Lib.hid (fun w => sread_row fb fn hfn m xs w hr hlt)
  have G := SG4.new w 29 3 24 35 zTxC 0 (.slice none 0 0) 0
  unfold zTxV at H ⊢
  unfold zTxC at G
  clear hr hfn
  generalize strL (82 :: fb :: m) = sl at *
  go_enter_defers Try.func17, Try.ntmps17
  go_wp2_with fail
  generalize (((w.alloc _).alloc _).alloc _).alloc _ = W at *
  refine (H.out _).mono ?_
  rintro e W1 ⟨v, rfl, hf, hb1⟩
  obtain ⟨va, vn, vc, rfl, _⟩ := hf.si
  have G1 := Lib.hid (G.keep hb1)
  have HF := Lib.hid hf
  have HWS := Lib.hid G.e.lt
  clear hf hb1 G H
  have fr := G1.out.t.frozen
  have r0 := G1.out.t.cell 0 _ rfl
  have r1 := G1.out.t.cell 1 _ rfl
  have r2 := G1.out.t.cell 2 _ rfl
  have r3 := G1.out.t.cell 3 _ rfl
  have r4 := G1.out.t.cell 4 _ rfl
  have r5 := G1.out.t.cell 5 _ rfl
  have f0 := (AC.fillOther (g' := w.heap.size) (by omega) [.int .i64 0, .int .i64 0, .int .i64 0, .slice none 0 0, .slice none 0 0, .slice none 0 0] W1 0 G1.out.f).cell 0 _ rfl
  have ff0 := (AC.fillOther (g' := w.heap.size) (by omega) [.int .i64 0, .int .i64 0, .int .i64 0, .slice none 0 0, .slice none 0 0, .slice none 0 0] W1 0 G1.out.f).frozen 0
  have x0 := ((AC.fillOther (g' := w.heap.size) (by omega) [.int .i64 0, .int .i64 0, .int .i64 0, .slice none 0 0, .slice none 0 0, .slice none 0 0] W1 0 G1.out.r).other (g' := w.heap.size + 1) (j := 0) (u := .int .i64 fn) (by omega)).cell 0 _ rfl
  have xf0 := ((AC.fillOther (g' := w.heap.size) (by omega) [.int .i64 0, .int .i64 0, .int .i64 0, .slice none 0 0, .slice none 0 0, .slice none 0 0] W1 0 G1.out.r).other (g' := w.heap.size + 1) (j := 0) (u := .int .i64 fn) (by omega)).frozen 0
  dsimp only [fill] at f0 ff0 x0 xf0
  go_upto_region 3 with fail
  clear fr r0 r1 r2 r3 r4 r5 f0 ff0 x0 xf0
  have G2 := Lib.hid (G1.out.set [.int .i64 0, .int .i64 0, .int .i64 0, .slice none 0 0, .slice none 0 0, .slice none 0 0] rfl fn (.slice va vn vc))
  have HF2 : Hid ((set4 w W1 [.int .i64 0, .int .i64 0, .int .i64 0, .slice none 0 0, .slice none 0 0, .slice none 0 0] fn (.slice va vn vc)).ownsRow (w.heap.size + 1 + 1 + 1 + 1) 3 1 (.slice va vn vc) xs.length (xs.map (Value.int .i64))) := Lib.hid (own_less6 (own_set6 (own_set6 (own_fill6 (q := w.heap.size) (by have := HWS.out; omega) [.int .i64 0, .int .i64 0, .int .i64 0, .slice none 0 0, .slice none 0 0, .slice none 0 0] W1 0 HF.out.own) (q := w.heap.size + 1) (by have := HWS.out; omega) 0 _) (q := w.heap.size + 1 + 1) (by have := HWS.out; omega) 0 _) (by have := HWS.out; omega))
  have HFC := Lib.hid (And.intro HF.out.cap HF.out.wf)
  unfold set4 at G2 HF2
  dsimp only [fill] at G2 HF2
  clear G1 HF
  generalize World.setCell _ _ (.slice va vn vc) = W2 at *
  have HS := Lib.hid (show SV w [.int .i64 0, .int .i64 0, .int .i64 0, .slice none 0 0, .slice none 0 0, .slice none 0 0] (fn : Int) (.slice va vn vc) 0 xs W2 from ⟨G2.out, HF2.out⟩)
  clear G2 HF2
  refine wp_region_panicsT [0, 1, 2] 4 (SV w [.int .i64 0, .int .i64 0, .int .i64 0, .slice none 0 0, .slice none 0 0, .slice none 0 0] (fn : Int) (.slice va vn vc) 0 xs) SV.keep (SV.keep _ _ HS.out ((Bl.refl W2).drew)) [] (fun c W' => False) ?hR (by kernel_rfl) rfl (by kernel_rfl) (by kernel_rfl) (by kernel_rfl) ?_
  case hR => intro c tt W' h; exact h.elim
  have HZ := Lib.hid (SV.keep _ _ HS.out ((Bl.refl W2).drew))
  generalize W2.drew = Z at *
  haveI : Nonempty (ExtC (SV w [.int .i64 0, .int .i64 0, .int .i64 0, .slice none 0 0, .slice none 0 0, .slice none 0 0] (fn : Int) (.slice va vn vc) 0 xs)) := ⟨⟨Z, HZ.out⟩⟩
  have t0 : ∀ q : ExtC (SV w [.int .i64 0, .int .i64 0, .int .i64 0, .slice none 0 0, .slice none 0 0, .slice none 0 0] (fn : Int) (.slice va vn vc) 0 xs), _ := fun q => AC.cell q.ok.g.t 0 _ rfl
  have t1 : ∀ q : ExtC (SV w [.int .i64 0, .int .i64 0, .int .i64 0, .slice none 0 0, .slice none 0 0, .slice none 0 0] (fn : Int) (.slice va vn vc) 0 xs), _ := fun q => AC.cell q.ok.g.t 1 _ rfl
  have t2 : ∀ q : ExtC (SV w [.int .i64 0, .int .i64 0, .int .i64 0, .slice none 0 0, .slice none 0 0, .slice none 0 0] (fn : Int) (.slice va vn vc) 0 xs), _ := fun q => AC.cell q.ok.g.t 2 _ rfl
  have t3 : ∀ q : ExtC (SV w [.int .i64 0, .int .i64 0, .int .i64 0, .slice none 0 0, .slice none 0 0, .slice none 0 0] (fn : Int) (.slice va vn vc) 0 xs), _ := fun q => AC.cell q.ok.g.t 3 _ rfl
  have t4 : ∀ q : ExtC (SV w [.int .i64 0, .int .i64 0, .int .i64 0, .slice none 0 0, .slice none 0 0, .slice none 0 0] (fn : Int) (.slice va vn vc) 0 xs), _ := fun q => AC.cell q.ok.g.t 4 _ rfl
  have t5 : ∀ q : ExtC (SV w [.int .i64 0, .int .i64 0, .int .i64 0, .slice none 0 0, .slice none 0 0, .slice none 0 0] (fn : Int) (.slice va vn vc) 0 xs), _ := fun q => AC.cell q.ok.g.t 5 _ rfl
  have t6 : ∀ q : ExtC (SV w [.int .i64 0, .int .i64 0, .int .i64 0, .slice none 0 0, .slice none 0 0, .slice none 0 0] (fn : Int) (.slice va vn vc) 0 xs), _ := fun q => AC.cell q.ok.g.f 0 _ rfl
  have t7 : ∀ q : ExtC (SV w [.int .i64 0, .int .i64 0, .int .i64 0, .slice none 0 0, .slice none 0 0, .slice none 0 0] (fn : Int) (.slice va vn vc) 0 xs), _ := fun q => AC.cell q.ok.g.r 0 _ rfl
  repeat (refine wpI_step rfl (fun K hK => ?_); go_simp; first | (refine hK _ ?_; clear hK K) | (apply Exists.intro; refine ⟨fun q => ?_, hK _ ?_⟩; fail; clear hK K))
  refine wpI_nil ?_
  clear t0 t1 t2 t3 t4 t5 t6 t7 this
  refine wpAnyP_one (i := 3) (by kernel_rfl) ?_
  intro Y1 hy1
  have H1 := Lib.hid (SV.keep _ _ HZ.out hy1)
  have fr := H1.out.g.t.frozen
  have r0 := H1.out.g.t.cell 0 _ rfl
  have r1 := H1.out.g.t.cell 1 _ rfl
  have r2 := H1.out.g.t.cell 2 _ rfl
  have r3 := H1.out.g.t.cell 3 _ rfl
  have r4 := H1.out.g.t.cell 4 _ rfl
  have r5 := H1.out.g.t.cell 5 _ rfl
  go_simp
  clear fr r0 r1 r2 r3 r4 r5 hy1
  refine ⟨H1.out.fillT, ?_⟩
  have H2 := Lib.hid H1.out.fillT
  dsimp only [fill] at H2
  generalize World.setCell _ ⟨w.heap.size, 5, none⟩ _ = Y2 at *
  refine wpAnyP_one (i := 4) (by kernel_rfl) ?_
  intro Y3 hy3
  have H3 := Lib.hid (SV.keep _ _ H2.out hy3)
  have fr := H3.out.g.f.frozen 0
  have r0 := H3.out.g.f.cell 0 _ rfl
  go_simp
  clear fr r0 hy3
  refine ⟨H3.out.setF, ?_⟩
  have H4 := Lib.hid H3.out.setF
  generalize World.setCell _ ⟨w.heap.size + 1, 0, none⟩ _ = Y4 at *
  refine wpAnyP_one (i := 5) (by kernel_rfl) ?_
  intro Y5 hy5
  have H5 := Lib.hid (SV.keep _ _ H4.out hy5)
  have fr := H5.out.g.r.frozen 0
  have r0 := H5.out.g.r.cell 0 _ rfl
  go_simp
  clear fr r0 hy5
  refine ⟨H5.out.setR, ?_⟩
  have H6 := Lib.hid H5.out.setR
  generalize World.setCell _ ⟨w.heap.size + 1 + 1, 0, none⟩ _ = Y6 at *
  refine wpAnyP_one (i := 6) (by kernel_rfl) ?_
  intro Y7 hy7
  have H7 := Lib.hid (SV.keep _ _ H6.out hy7)
  have fr := H7.out.g.e.frozen 0
  have r0 := H7.out.g.e.cell 0 _ rfl
  go_simp
  clear fr r0 hy7
  refine ⟨H7.out.setE, ?_⟩
  have H8 := Lib.hid H7.out.setE
  generalize World.setCell _ ⟨w.heap.size + 1 + 1 + 1, 0, none⟩ _ = Y8 at *
  refine wpAnyP_done (by kernel_rfl) ?_
  intro Y9 hy9
  have H9 := Lib.hid (SV.keep _ _ H8.out hy9)
  go_wp2_with fail
  refine leaves_cons (f := 47) (args := #[.pointer (some ⟨w.heap.size, 0, none⟩), .pointer (some ⟨w.heap.size + 1, 0, none⟩), .pointer (some ⟨w.heap.size + 1 + 1, 0, none⟩), .pointer (some ⟨w.heap.size + 1 + 1 + 1, 0, none⟩)]) (by simp) (by simp [go_sem]) ?_
  refine (scatch_idle _ _ _ _ _).mono ?_
  rintro e u' w'' ⟨rfl, rfl, rfl⟩
  exact leaves_ret (sGet_results rfl rfl rfl rfl H9.out.g.t H9.out.g.f H9.out.g.r H9.out.g.e) ⟨_, rfl, ⟨own_less6 H9.out.o (by omega), HFC.out.1, HFC.out.2⟩, H9.out.g.bl⟩
end Go.Proofs.Ytaokennbpgdngaa
end

/- append to a row of one's own, behind which the old slice still reads as it did. By an AI agent. -/
section
namespace Go.Proofs.Ytaokennbpgdngaa
open Go.RowKit

theorem run_appK {w : World} {B : Nat} {T E : TypeId} {size bytes : Nat} (hT : EL T E size bytes) (ty : TypeId) (v : Value) (n : Nat) (xs : List Value) (hown : w.ownsRow B E size v n xs) (ad : Option Addr) (m c : Nat) (news : List Value) (hs : SG w size ad m news)
    (h63 : n + m ≤ maxLen) (hbytes : (n + m) * bytes ≤ 140737488355328) (hB : B ≤ w.heap.size) :
    ∃ v' w', (Builtin.append_ #[T, T] ty #[v, .slice ad m c]).run Try.prog w = .ok v' w' ∧ w'.ownsRow B E size v' (n + m) (xs ++ news) ∧ w.grownBy w' v.ownBlock ∧ w'.ownsRow B E size v n xs ∧ (∀ b, v'.ownBlock = some b → v.ownBlock = some b ∨ w.heap.size ≤ b) := by
  obtain ⟨i, z, hi, hz, h1, h2, h3⟩ := hT.info
  cases ad with
  | none =>
    have hm := hs.nil rfl
    subst hm
    have e : news = [] := List.eq_nil_of_length_eq_zero (by rw [hs.len, Nat.zero_mul])
    subst e
    rw [List.append_nil, Nat.add_zero]
    have hown' := hown
    obtain ⟨hl, ⟨rfl, hn⟩ | ⟨g, cap, cur, rfl, hBg, hg, hn, r⟩⟩ := hown
    · subst hn
      exact ⟨_, w, by simp [Builtin.append_, run_underlying hT.ty, sizeOf, typeInfo, hi, Builtin.lenOf, Builtin.firstCells], ⟨hl, .inl ⟨rfl, rfl⟩⟩, ⟨rfl, rfl, rfl, Nat.le_refl _, fun _ _ _ => rfl⟩, hown', fun b h => .inl h⟩
    · have := run_append_room_src (P := Try.prog) w T T ty E i hT.ty hi g 0 n cap (.slice none 0 c) 0 [] (Src.ofNil w hT.ty c) (by omega) (fun k hk => by simp at hk) (fun k hk => by simp at hk)
      exact ⟨_, w, by simpa [World.setCells] using this, ⟨hl, .inr ⟨g, cap, cur, rfl, hBg, hg, hn, r⟩⟩, ⟨rfl, rfl, rfl, Nat.le_refl _, fun _ _ _ => rfl⟩, hown', fun b h => .inl h⟩
  | some ad =>
    have hsz := hT.pos
    obtain ⟨v', w', e1, e2, e3, _⟩ := run_append_own (P := Try.prog) w B T ty E i z size bytes hT.ty hi hz h1 h2 h3 hT.pos v n xs hown ad m c news hs.len (hs.at_ ad rfl) hs.one h63 hbytes hB
    refine ⟨v', w', e1, e2, e3, ?_⟩
    have e1' := e1
    subst h1
    subst h2
    rcases hown.2 with ⟨rfl, rfl⟩ | ⟨g, cap, cur, rfl, hbg, hg, hnc, hcm, hcs, htake⟩
    · refine ⟨⟨hown.1, .inl ⟨rfl, rfl⟩⟩, fun b hb => .inr ?_⟩
      obtain ⟨v2, w2, d1, d2, _⟩ := run_append_own (P := Try.prog) w w.heap.size T ty E i z i.size i.bytes hT.ty hi hz rfl rfl h3 hT.pos (.slice none 0 0) 0 xs ⟨hown.1, .inl ⟨rfl, rfl⟩⟩ ad m c news hs.len (hs.at_ ad rfl) hs.one h63 hbytes (Nat.le_refl _)
      rw [d1] at e1'
      cases e1'
      exact (World.ownsRow.lt d2 b hb).1
    · by_cases hroom : n + m ≤ cap
      · have hfit : n * i.size + news.length ≤ cur.size := by rw [hs.len, hcs, ← Nat.add_mul]; exact Nat.mul_le_mul_right _ hroom
        have hr := run_append_room (P := Try.prog) w T ty E i hT.ty hi g n cap cur hg ad m c news hs.len (hs.at_ ad rfl) hs.one hroom hfit
        rw [hr] at e1
        cases e1
        have hx1 := hown.1
        refine ⟨⟨hown.1, .inr ⟨g, cap, _, rfl, hbg, setRow_heap w g cur _ E _ hg, hnc, hcm, ?_, ?_⟩⟩, fun b hb => .inl hb⟩
        · simp only [List.size_toArray, List.length_append, List.length_take, List.length_drop, Array.length_toList]
          omega
        · rw [htake, List.append_assoc, ← hx1]
          exact List.take_left
      · have holds : ∀ j u, xs[j]? = some u → w.cell? ((⟨g, 0, none⟩ : Addr).add j) = some u := hown.cells (g := g) rfl
        have hr := run_append_grow (P := Try.prog) w T ty E i z hT.ty hi hz ⟨g, 0, none⟩ n cap xs hown.1 holds ad m c news hs.len (hs.at_ ad rfl) (by omega) (by simp only [maxLen] at h63; omega) (growslice_fits (by omega) hbytes)
        rw [hr] at e1
        cases e1
        refine ⟨⟨hown.1, .inr ⟨g, cap, cur, rfl, hbg, ?_, hnc, hcm, hcs, htake⟩⟩, fun b hb => .inr (by simp [Value.ownBlock] at hb; omega)⟩
        rw [heap_alloc_old w.drew _ (lt_of_heap hg)]
        exact hg
section
variable {ops : Array Oper}
theorem wpList_appK {rest : List Oper} {o : Oper} {a : Act} {w : World} {Q : Exit → Act → World → Prop} (hgd : o.guard = none) (s x : Operand) (T : TypeId)
    (ho : o.op = .call { callee := .builtin .append, args := #[s, x], argTypes := #[T, T] }) {E : TypeId} {size bytes : Nat} (hT : EL T E size bytes) (B : Nat) (v : Value) (n : Nat) (xs : List Value) (hs : a.eval s = v) (hown : w.ownsRow B E size v n xs) (hB : B ≤ w.heap.size)
    (ad : Option Addr) (m c : Nat) (news : List Value) (hx : a.eval x = .slice ad m c) (hsc : SG w size ad m news) (h63 : n + m ≤ maxLen) (hbytes : (n + m) * bytes ≤ 140737488355328)
    (h : ∀ v' w', w'.ownsRow B E size v' (n + m) (xs ++ news) → w.grownBy w' v.ownBlock → w'.ownsRow B E size v n xs → (∀ b, v'.ownBlock = some b → v.ownBlock = some b ∨ w.heap.size ≤ b) → wpList Try.prog ops Q rest (a.put o.dst v') w') : wpList Try.prog ops Q (o :: rest) a w := by
  obtain ⟨v', w', hr, h2, h3, h4, h5⟩ := run_appK hT o.type v n xs hown ad m c news hsc h63 hbytes hB
  refine wpList_plain hgd fun _ hK => ?_
  unfold Oper.wp execOp
  simp only [ho, resolve, invoke, builtin, Sem.run_bind, Sem.run_pure, Result.andThen_ok, List.map_toArray, List.map_cons, List.map_nil, hs, hx, hr]
  exact hK _ _ (h v' w' h2 h3 h4 h5)
end
end Go.Proofs.Ytaokennbpgdngaa
end
