import Derived.Test.YtfmabjoindlfeaaGreatQTxnTellsUptoP33
import Derived.Test.YtfmabjoindlfeaaGreatQTxnTellsUptoP22
import Derived.Test.YtfmabjoindlfeaaGreatQTxnTellsUptoP16
import Derived.StillTailTactics
import Derived.Test.YtfmabjoindlfeaaGreatQTxnTellsUptoP32
import Derived.Deep.DeepCutAuto
import Derived.Test.YtfmabjoindlfeaaGreatQTxnTellsUptoP1
import Derived.Test.YtfmabjoindlfeaaGreatQTxnTellsUptoP30

/- txn.Get. By an AI agent. -/
section
set_option linter.unusedVariables false
set_option linter.unusedSimpArgs false
namespace Go.Proofs.YtfmabjoindlfeaaGreat
open Go.RowKit

theorem txread_any (l : List UInt8) (w : World) : Calls Tryz.prog 52 #[.string (strL l)] w (TxPost w l) := by
  by_cases h : 4 ≤ l.length ∧ l.length ≤ 65000
  · exact txread_long l (l.take (l.length - 4)) (l.drop (l.length - 4)) (l.length - 4) w (by omega) (by omega) rfl rfl
  · exact txread_short l w h
theorem txcatch_idle (a0 a1 : Addr) (w : World) :
    CallsD Tryz.prog 51 #[.pointer (some a0), .pointer (some a1)] .returning w fun e u' w' => e = .returned (.tuple #[]) ∧ u' = .returning ∧ w' = w := by
  refine callsD_of_wpS Tryz.func51 rfl fun c₀ cs hu => ?_
  apply wpS_seq
  apply wpS_region
  simp [wpOpsS, go_sem, recoverD, hu, Tryz.ntmps51, Exit.thenS]
  apply wpS_seq
  apply wpS_region
  simp [wpOpsS, go_sem, Exit.thenS]
  refine wpS_cond (t := false) (by simp [Act.eval, Array.replicate]) ?_
  simp only [Bool.false_eq_true, if_false]
  refine wpS_of_wp (wp_skip ?_)
  cases c₀
  simp_all [bodyPostS, results, Tryz.results51]
theorem AC.set6 {w : World} {g : Nat} {a0 b0 c0 d0 e0 f0 : Value} (h : AC w g [a0, b0, c0, d0, e0, f0]) (a b c d e f : Value) :
    AC ((((((w.setCell ⟨g, 0, none⟩ a).setCell ⟨g, 1, none⟩ b).setCell ⟨g, 2, none⟩ c).setCell ⟨g, 3, none⟩ d).setCell ⟨g, 4, none⟩ e).setCell ⟨g, 5, none⟩ f) g [a, b, c, d, e, f] :=
  (((((h.setj 0 a).setj 1 b).setj 2 c).setj 3 d).setj 4 e).setj 5 f
theorem AC.other6 {w : World} {g g' : Nat} {cs : List Value} (h : AC w g cs) (hn : g ≠ g') (a b c d e f : Value) :
    AC ((((((w.setCell ⟨g', 0, none⟩ a).setCell ⟨g', 1, none⟩ b).setCell ⟨g', 2, none⟩ c).setCell ⟨g', 3, none⟩ d).setCell ⟨g', 4, none⟩ e).setCell ⟨g', 5, none⟩ f) g cs :=
  (((((h.other hn).other hn).other hn).other hn).other hn).other hn

set_option maxHeartbeats 800000 in
set_option maxRecDepth 100000 in
theorem txcatch_code (g0 g1 : Nat) (c : Int) (v1 : Value) (older : List PanicEntry) (w : World) (k x n s t r : Value) (h0 : AC w g0 [k, x, n, s, t, r]) (h1 : AC w g1 [v1]) (n01 : g0 ≠ g1) :
    CallsD Tryz.prog 51 #[.pointer (some ⟨g0, 0, none⟩), .pointer (some ⟨g1, 0, none⟩)] (.panicking ({ v := .iface 49 (.int .i64 c), recovered := false } :: older)) w fun e u' w' =>
      e = .returned (.tuple #[]) ∧ u' = .panicking ({ v := .iface 49 (.int .i64 c), recovered := true } :: older) ∧ w' = (((((((w.setCell ⟨g0, 0, none⟩ (.int .i64 0)).setCell ⟨g0, 1, none⟩ (.int .i64 0)).setCell ⟨g0, 2, none⟩ (.int .i64 0)).setCell ⟨g0, 3, none⟩ (.slice none 0 0)).setCell ⟨g0, 4, none⟩ (.slice none 0 0)).setCell ⟨g0, 5, none⟩ (.slice none 0 0)).setCell ⟨g1, 0, none⟩ (.int .i64 c)) := by
  have hsf := store_float
  have f0 := h0.frozen
  have k0 := h0.cell 0 _ rfl
  have k1 := h0.cell 1 _ rfl
  have k2 := h0.cell 2 _ rfl
  have k3 := h0.cell 3 _ rfl
  have k4 := h0.cell 4 _ rfl
  have k5 := h0.cell 5 _ rfl
  have H4 := h1.other6 (g' := g0) (Ne.symm n01) (.int .i64 0) (.int .i64 0) (.int .i64 0) (.slice none 0 0) (.slice none 0 0) (.slice none 0 0)
  have e0 := H4.cell 0 _ rfl
  have ef := H4.frozen 0
  refine callsD_of_wpS Tryz.func51 rfl fun c₀ cs hu => ?_
  apply wpS_seq
  apply wpS_region
  simp [wpOpsS, go_sem, recoverD, hu, Tryz.ntmps51, Exit.thenS]
  apply wpS_seq
  apply wpS_region
  simp [wpOpsS, go_sem, Exit.thenS]
  refine wpS_cond (t := true) (by simp [Act.eval, Array.replicate]) ?_
  simp only [if_true]
  apply wpS_seq
  apply wpS_region
  simp [wpOpsS, go_sem, Exit.thenS, assert_code, recoverD]
  apply wpS_seq
  apply wpS_seq
  apply wpS_region
  simp [wpOpsS, go_sem, Exit.thenS, recoverD]
  refine wpS_cond (t := false) (by simp [Act.eval, Array.replicate]) ?_
  simp only [Bool.false_eq_true, if_false]
  refine wpS_of_wp (wp_skip ?_)
  simp only [Exit.thenS]
  apply wpS_region
  simp [wpOpsS, go_sem, hsf, f0, k0, k1, k2, k3, k4, k5, e0, ef, recoverD, bodyPostS, results, Tryz.results51]

/-- the two boxes of Get -/
structure TxG (w W : World) (cs : List Value) (e : Int) : Prop where
  bl : Bl w W
  r : AC W w.heap.size cs
  t : AC W (w.heap.size + 1) [.int .i64 e]
theorem TxG.keep {w W W' : World} {cs : List Value} {e : Int} (h : TxG w W cs e) (k : Bl W W') : TxG w W' cs e := ⟨h.bl.trans k, h.r.keep k, h.t.keep k⟩
theorem TxG.new (w : World) (T U : TypeId) (cs : List Value) (e : Int) : TxG w ((w.alloc (.cells cs.toArray T)).alloc (.cells #[.int .i64 e] U)) cs e :=
  ⟨((Bl.refl w).alloc _).alloc _, (AC.new w _ rfl cs T).keep ((Bl.refl _).alloc _), AC.new _ (w.heap.size + 1) (by simp) [.int .i64 e] U⟩
theorem TxG.set {w W : World} {a0 b0 c0 d0 f0 g0 : Value} {e0 : Int} (h : TxG w W [a0, b0, c0, d0, f0, g0] e0) (a b c d f g : Value) (e : Int) :
    TxG w (((((((W.setCell ⟨w.heap.size, 0, none⟩ a).setCell ⟨w.heap.size, 1, none⟩ b).setCell ⟨w.heap.size, 2, none⟩ c).setCell ⟨w.heap.size, 3, none⟩ d).setCell ⟨w.heap.size, 4, none⟩ f).setCell ⟨w.heap.size, 5, none⟩ g).setCell ⟨w.heap.size + 1, 0, none⟩ (.int .i64 e)) [a, b, c, d, f, g] e :=
  ⟨(Bl.fill (Nat.le_refl _) [a, b, c, d, f, g] W 0 h.bl).setCell (p := ⟨w.heap.size + 1, 0, none⟩) (Nat.le_succ _) _, (h.r.set6 a b c d f g).other (by omega), (h.t.other6 (by omega) a b c d f g).put _⟩
theorem txGet_results {tmps : Array Value} {w : World} {g0 g1 : Nat} {o num prev : Int} {dd : Option Addr} {dn dc : Nat} {ad : Option Addr} {an ac : Nat} {pd : Option Addr} {pn pc : Nat} {v1 : Int} (h0 : tmps.getD 2 undef = .pointer (some ⟨g0, 0, none⟩)) (h1 : tmps.getD 3 undef = .pointer (some ⟨g1, 0, none⟩))
    (d0 : AC w g0 (txL o num prev dd dn dc ad an ac pd pn pc)) (d1 : AC w g1 [.int .i64 v1]) :
    (results Tryz.f17 tmps).run Tryz.prog w = .ok (.tuple #[.agg #[.int .i64 o, .int .i64 num, .int .i64 prev, .slice dd dn dc, .slice ad an ac, .slice pd pn pc], .int .i64 v1]) w := by
  rw [Array.getD_eq_getD_getElem?] at h0 h1
  have c0 := d0.cell 0 _ rfl
  have c1 := d0.cell 1 _ rfl
  have c2 := d0.cell 2 _ rfl
  have c3 := d0.cell 3 _ rfl
  have c4 := d0.cell 4 _ rfl
  have c5 := d0.cell 5 _ rfl
  have c6 := d1.cell 0 _ rfl
  simp [results, Tryz.results17, go_sem, h0, h1, c0, c1, c2, c3, c4, c5, c6]
def nilAt : TxAt := ⟨none, 0, 0, none, 0, 0, none, 0, 0⟩
/-- what Get comes to -/
def GetPostT (w : World) (l : List UInt8) (e : Ending) (w' : World) : Prop :=
  (∃ (t : TxnL) (s : TxAt), rdTx l = some t ∧ e = .returned (.tuple #[txV t s, .int .i64 0]) ∧ TXF w.heap.size w' s t ∧ Bl w w') ∨
  (rdTx l = none ∧ e = .returned (.tuple #[txV nilTx nilAt, .int .i64 4]) ∧ Bl w w')
set_option maxHeartbeats 1600000 in
set_option maxRecDepth 100000 in
theorem txGet_any (l : List UInt8) (w : World) : Calls Tryz.prog 17 #[.string (strL l)] w (GetPostT w l) := by
  have hmf := hmf
  have H := Lib.hid (fun w => txread_any l w)
  have G := TxG.new w 26 49 zTx 0
  unfold zTx at G
  have hsz : ((w.alloc (.cells #[.int .i64 0, .int .i64 0, .int .i64 0, .slice none 0 0, .slice none 0 0, .slice none 0 0] 26)).alloc (.cells #[.int .i64 0] 49)).heap.size = w.heap.size + 1 + 1 := by simp
  generalize strL l = sl at *
  go_enter_defers Tryz.func17, Tryz.ntmps17
  go_wp2_with fail
  generalize (w.alloc (.cells #[.int .i64 0, .int .i64 0, .int .i64 0, .slice none 0 0, .slice none 0 0, .slice none 0 0] 26)).alloc (.cells #[.int .i64 0] 49) = W at *
  refine (H.out _).mono ?_
  rintro e w1 (⟨⟨o, num, prev, ds, xs, ws⟩, ⟨dd, dn, dc, ad, an, ac, pd, pn, pc⟩, hr, rfl, hF, hb1⟩ | ⟨hr, rfl, hb1⟩)
  · have HR := Lib.hid hr
    have HF := Lib.hid hF
    have G := G.keep hb1
    clear hb1 hr hF
    dsimp only at *
    unfold txV
    dsimp only
    have c0 := G.r.cell 0 _ rfl
    have c1 := G.r.cell 1 _ rfl
    have c2 := G.r.cell 2 _ rfl
    have c3 := G.r.cell 3 _ rfl
    have c4 := G.r.cell 4 _ rfl
    have c5 := G.r.cell 5 _ rfl
    have fr := G.r.frozen
    have H4 := G.t.other6 (g' := w.heap.size) (by omega) (.int .i64 o) (.int .i64 num) (.int .i64 prev) (.slice dd dn dc) (.slice ad an ac) (.slice pd pn pc)
    have e0 := H4.cell 0 _ rfl
    have ef := H4.frozen 0
    go_wp2_with fail
    refine leaves_cons (f := 51) (args := #[.pointer (some ⟨w.heap.size, 0, none⟩), .pointer (some ⟨w.heap.size + 1, 0, none⟩)]) (by simp) (by simp [go_sem]) ?_
    refine (txcatch_idle _ _ _).mono ?_
    rintro e u' w'' ⟨rfl, rfl, rfl⟩
    have G2 := G.set (.int .i64 o) (.int .i64 num) (.int .i64 prev) (.slice dd dn dc) (.slice ad an ac) (.slice pd pn pc) 0
    refine leaves_ret (txGet_results rfl rfl G2.r G2.t) (.inl ⟨⟨o, num, prev, ds, xs, ws⟩, ⟨dd, dn, dc, ad, an, ac, pd, pn, pc⟩, HR.out, rfl, ?_, G2.bl⟩)
    have h1 := HF.out.fill (q := w.heap.size) (by omega) [.int .i64 o, .int .i64 num, .int .i64 prev, .slice dd dn dc, .slice ad an ac, .slice pd pn pc] 0
    exact TXF.mono (h1.fill (q := w.heap.size + 1) (by omega) [.int .i64 0] 0) (by omega)
  · have HR := Lib.hid hr
    have G := G.keep hb1
    clear hb1 hr
    unfold panE
    refine leaves_cons (f := 51) (args := #[.pointer (some ⟨w.heap.size, 0, none⟩), .pointer (some ⟨w.heap.size + 1, 0, none⟩)]) (by simp) (by simp [go_sem]) ?_
    refine (txcatch_code w.heap.size (w.heap.size + 1) 4 _ [] _ _ _ _ _ _ _ G.r G.t (by omega)).mono ?_
    rintro e u' w'' ⟨rfl, rfl, rfl⟩
    have G2 := G.set (.int .i64 0) (.int .i64 0) (.int .i64 0) (.slice none 0 0) (.slice none 0 0) (.slice none 0 0) 4
    exact leaves_back (txGet_results rfl rfl G2.r G2.t) (.inr ⟨HR.out, rfl, G2.bl⟩)
end Go.Proofs.YtfmabjoindlfeaaGreat
end

/- proto.Valid. By an AI agent. -/
section
set_option linter.unusedVariables false
set_option linter.unusedSimpArgs false
namespace Go.Proofs.YtfmabjoindlfeaaGreat
open Go.RowKit

/-- the box of a request -/
def askCs (k s t i m : Int) (ad : Option Addr) (n ca : Nat) (key text : ByteArray) (ak : Int) (ax : Nat) (an : Int) (az : ByteArray) : List Value :=
  [.int .i64 k, .int .i64 s, .int .i64 t, .int .i64 i, .int .i64 m, .slice ad n ca, .string key, .string text, .int .i64 ak, .float .f64 ax, .int .i64 an, .string az]



end Go.Proofs.YtfmabjoindlfeaaGreat
end

/- proto.GetAsk's closure (printed in part by wip/gen/prot7.py). By an AI agent. -/
section
set_option linter.unusedVariables false
set_option linter.unusedSimpArgs false
namespace Go.Proofs.YtfmabjoindlfeaaGreat
open Go.RowKit

def zeroAskCs : List Value := askCs 0 0 0 0 0 none 0 0 ⟨#[]⟩ ⟨#[]⟩ 0 0 0 ⟨#[]⟩
/-- the closure's boxes: the result, the reader -/
structure GS (w W : World) (l : List UInt8) : Prop where
  bl : Bl w W
  r : AC W w.heap.size zeroAskCs
  c : C1 W (w.heap.size + 1) (.string (strL l))
theorem GS.keep {w W W' : World} {l : List UInt8} (h : GS w W l) (k : Bl W W') : GS w W' l := ⟨h.bl.trans k, h.r.keep k, h.c.keep k⟩
theorem GS.set {w W : World} {l : List UInt8} (h : GS w W l) (m : List UInt8) : GS w (W.setCell ⟨w.heap.size + 1, 0, none⟩ (.string (strL m))) m :=
  ⟨h.bl.setCell (p := ⟨w.heap.size + 1, 0, none⟩) (Nat.le_succ _) _, h.r.other (by omega), h.c.set _⟩
theorem GS.new (w : World) (l : List UInt8) (T U : TypeId) : GS w ((w.alloc (.cells zeroAskCs.toArray T)).alloc (.cells #[.string (strL l)] U)) l :=
  ⟨((Bl.refl w).alloc _).alloc _, (AC.new w _ rfl zeroAskCs T).keep ((Bl.refl _).alloc _), C1.new _ (w.heap.size + 1) (by simp) _ U⟩
theorem GS.lt {w W : World} {l : List UInt8} (h : GS w W l) : w.heap.size + 1 < W.heap.size := h.c.lt
/-- the closure's boxes, when the request's own is there too -/
structure G3 (w W : World) (l : List UInt8) (ga : Nat) (cs : List Value) (ad : Option Addr) (n ca : Nat) (xs : List Int) : Prop where
  g : GS w W l
  a : AC W ga cs
  x : FarO (w.heap.size + 1 + 1) W ad n ca xs
  ap : ∀ b off, ad = some ⟨b, off, none⟩ → w.heap.size + 1 + 1 ≤ b ∧ b ≠ ga
  ne1 : ga ≠ w.heap.size + 1
  ne0 : ga ≠ w.heap.size
  le : w.heap.size ≤ ga
theorem G3.keep {w W W' : World} {l : List UInt8} {ga : Nat} {cs : List Value} {ad : Option Addr} {n ca : Nat} {xs : List Int} (h : G3 w W l ga cs ad n ca xs) (k : Bl W W') : G3 w W' l ga cs ad n ca xs := ⟨h.g.keep k, h.a.keep k, h.x.keep k, h.ap, h.ne1, h.ne0, h.le⟩
theorem G3.set {w W : World} {l : List UInt8} {ga : Nat} {cs : List Value} {ad : Option Addr} {n ca : Nat} {xs : List Int} (h : G3 w W l ga cs ad n ca xs) (m : List UInt8) : G3 w (W.setCell ⟨w.heap.size + 1, 0, none⟩ (.string (strL m))) m ga cs ad n ca xs :=
  ⟨h.g.set m, h.a.other h.ne1, h.x.apart (fun b off e => by have := h.ap b off e; omega) _ _, h.ap, h.ne1, h.ne0, h.le⟩
theorem G3.put {w W : World} {l : List UInt8} {ga : Nat} {cs : List Value} {ad : Option Addr} {n ca : Nat} {xs : List Int} (h : G3 w W l ga cs ad n ca xs) (j : Nat) (v : Value) : G3 w (W.setCell ⟨ga, j, none⟩ v) l ga (cs.set j v) ad n ca xs :=
  ⟨⟨h.g.bl.setCell (p := ⟨ga, j, none⟩) h.le v, h.g.r.other (Ne.symm h.ne0), h.g.c.otherj (Ne.symm h.ne1)⟩, h.a.setj j v, h.x.apart (fun b off e => by have := h.ap b off e; omega) _ _, h.ap, h.ne1, h.ne0, h.le⟩
theorem G3.new {w W : World} {l : List UInt8} {ad : Option Addr} {n ca : Nat} {xs : List Int} (g : GS w W l) (x : FarO (w.heap.size + 1 + 1) W ad n ca xs) (cs : List Value) (T : TypeId) : G3 w (W.alloc (.cells cs.toArray T)) l W.heap.size cs ad n ca xs :=
  ⟨g.keep ((Bl.refl W).alloc _), AC.new W _ rfl cs T, x.keep ((Bl.refl W).alloc _), fun b off e => by have h1 := x.block b off e; omega, by have := g.lt; omega, by have := g.lt; omega, by have := g.lt; omega⟩


end Go.Proofs.YtfmabjoindlfeaaGreat
end
