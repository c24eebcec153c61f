/- ikey.Get, ikey.Key. By an AI agent. -/
import Derived.Test.YtgdlcoicejgdkaaDoorIkeyG
namespace Go.Proofs.YtgdlcoicejgdkaaDoor
open Go.RowKit

theorem kcatch_idle (a0 a1 : Addr) (w : World) :
    CallsD Tryd.prog 75 #[.pointer (some a0), .pointer (some a1)] .returning w fun e u' w' => e = .returned (.tuple #[]) ∧ u' = .returning ∧ w' = w := by
  refine callsD_of_wpS Tryd.func75 rfl fun c₀ cs hu => ?_
  apply wpS_seq
  apply wpS_region
  simp [wpOpsS, go_sem, recoverD, hu, Tryd.ntmps75, Exit.thenS]
  apply wpS_seq
  apply wpS_region
  simp [wpOpsS, go_sem, Exit.thenS]
  refine wpS_cond (t := false) (by simp [Act.eval, Array.replicate]) ?_
  simp only [Bool.false_eq_true, if_false]
  refine wpS_of_wp (wp_skip ?_)
  cases c₀
  simp_all [bodyPostS, results, Tryd.results75]

theorem AC.other8 {w : World} {g g' : Nat} {cs : List Value} (h : AC w g cs) (hn : g ≠ g') (c0 c1 c2 c3 c4 c5 c6 c7 : Value) : AC ((((((((w.setCell ⟨g', 0, none⟩ c0).setCell ⟨g', 1, none⟩ c1).setCell ⟨g', 2, none⟩ c2).setCell ⟨g', 3, none⟩ c3).setCell ⟨g', 4, none⟩ c4).setCell ⟨g', 5, none⟩ c5).setCell ⟨g', 6, none⟩ c6).setCell ⟨g', 7, none⟩ c7) g cs :=
  (((((((h.other hn).other hn).other hn).other hn).other hn).other hn).other hn).other hn
theorem AC.set8 {w : World} {g : Nat} {d0 d1 d2 d3 d4 d5 d6 d7 : Value} (h : AC w g [d0, d1, d2, d3, d4, d5, d6, d7]) (c0 c1 c2 c3 c4 c5 c6 c7 : Value) : AC ((((((((w.setCell ⟨g, 0, none⟩ c0).setCell ⟨g, 1, none⟩ c1).setCell ⟨g, 2, none⟩ c2).setCell ⟨g, 3, none⟩ c3).setCell ⟨g, 4, none⟩ c4).setCell ⟨g, 5, none⟩ c5).setCell ⟨g, 6, none⟩ c6).setCell ⟨g, 7, none⟩ c7) g [c0, c1, c2, c3, c4, c5, c6, c7] :=
  (((((((h.setj 0 c0).setj 1 c1).setj 2 c2).setj 3 c3).setj 4 c4).setj 5 c5).setj 6 c6).setj 7 c7
theorem Bl.store8 {w W : World} {g : Nat} (h : Bl w W) (hg : w.heap.size ≤ g) (c0 c1 c2 c3 c4 c5 c6 c7 : Value) : Bl w ((((((((W.setCell ⟨g, 0, none⟩ c0).setCell ⟨g, 1, none⟩ c1).setCell ⟨g, 2, none⟩ c2).setCell ⟨g, 3, none⟩ c3).setCell ⟨g, 4, none⟩ c4).setCell ⟨g, 5, none⟩ c5).setCell ⟨g, 6, none⟩ c6).setCell ⟨g, 7, none⟩ c7) :=
  (((((((h.setCell (p := ⟨g, 0, none⟩) hg c0).setCell (p := ⟨g, 1, none⟩) hg c1).setCell (p := ⟨g, 2, none⟩) hg c2).setCell (p := ⟨g, 3, none⟩) hg c3).setCell (p := ⟨g, 4, none⟩) hg c4).setCell (p := ⟨g, 5, none⟩) hg c5).setCell (p := ⟨g, 6, none⟩) hg c6).setCell (p := ⟨g, 7, none⟩) hg c7
theorem FarIA.set8 {B : Nat} {W : World} {g : Nat} {a : Option Addr} {n : Nat} {xs : List Int} (h : FarIA B W a n xs) (hg : g < B) (c0 c1 c2 c3 c4 c5 c6 c7 : Value) : FarIA B ((((((((W.setCell ⟨g, 0, none⟩ c0).setCell ⟨g, 1, none⟩ c1).setCell ⟨g, 2, none⟩ c2).setCell ⟨g, 3, none⟩ c3).setCell ⟨g, 4, none⟩ c4).setCell ⟨g, 5, none⟩ c5).setCell ⟨g, 6, none⟩ c6).setCell ⟨g, 7, none⟩ c7) a n xs :=
  (((((((h.set hg 0 c0).set hg 1 c1).set hg 2 c2).set hg 3 c3).set hg 4 c4).set hg 5 c5).set hg 6 c6).set hg 7 c7

set_option maxHeartbeats 800000 in
set_option maxRecDepth 100000 in
theorem kcatch_code (g0 g1 : Nat) (c : Int) (v1 : Value) (older : List PanicEntry) (w : World) (d0 d1 d2 d3 d4 d5 d6 d7 : Value) (h0 : AC w g0 [d0, d1, d2, d3, d4, d5, d6, d7]) (h1 : AC w g1 [v1]) (n01 : g0 ≠ g1) :
    CallsD Tryd.prog 75 #[.pointer (some ⟨g0, 0, none⟩), .pointer (some ⟨g1, 0, none⟩)] (.panicking ({ v := .iface 40 (.int .i64 c), recovered := false } :: older)) w fun e u' w' =>
      e = .returned (.tuple #[]) ∧ u' = .panicking ({ v := .iface 40 (.int .i64 c), recovered := true } :: older) ∧ w' = (((((((((w.setCell ⟨g0, 0, none⟩ (.string ⟨#[]⟩)).setCell ⟨g0, 1, none⟩ (.slice none 0 0)).setCell ⟨g0, 2, none⟩ (.int .i64 0)).setCell ⟨g0, 3, none⟩ (.int .i64 0)).setCell ⟨g0, 4, none⟩ (.int .i64 0)).setCell ⟨g0, 5, none⟩ (.float .f64 0)).setCell ⟨g0, 6, none⟩ (.int .i64 0)).setCell ⟨g0, 7, none⟩ (.string ⟨#[]⟩)).setCell ⟨g1, 0, none⟩ (.int .i64 c)) := by
  have hsf := store_float
  have f0 := h0.frozen
  have k0 := h0.cell 0 _ rfl
  have k1 := h0.cell 1 _ rfl
  have k2 := h0.cell 2 _ rfl
  have k3 := h0.cell 3 _ rfl
  have k4 := h0.cell 4 _ rfl
  have k5 := h0.cell 5 _ rfl
  have k6 := h0.cell 6 _ rfl
  have k7 := h0.cell 7 _ rfl
  have H4 := h1.other8 (g' := g0) (Ne.symm n01) (.string ⟨#[]⟩) (.slice none 0 0) (.int .i64 0) (.int .i64 0) (.int .i64 0) (.float .f64 0) (.int .i64 0) (.string ⟨#[]⟩)
  have e0 := H4.cell 0 _ rfl
  have ef := H4.frozen 0
  refine callsD_of_wpS Tryd.func75 rfl fun c₀ cs hu => ?_
  apply wpS_seq
  apply wpS_region
  simp [wpOpsS, go_sem, recoverD, hu, Tryd.ntmps75, Exit.thenS]
  apply wpS_seq
  apply wpS_region
  simp [wpOpsS, go_sem, Exit.thenS]
  refine wpS_cond (t := true) (by simp [Act.eval, Array.replicate]) ?_
  simp only [if_true]
  apply wpS_seq
  apply wpS_region
  simp [wpOpsS, go_sem, Exit.thenS, assert_code, recoverD]
  apply wpS_seq
  apply wpS_seq
  apply wpS_region
  simp [wpOpsS, go_sem, Exit.thenS, recoverD]
  refine wpS_cond (t := false) (by simp [Act.eval, Array.replicate]) ?_
  simp only [Bool.false_eq_true, if_false]
  refine wpS_of_wp (wp_skip ?_)
  simp only [Exit.thenS]
  apply wpS_region
  simp [wpOpsS, go_sem, hsf, f0, k0, k1, k2, k3, k4, k5, k6, k7, e0, ef, recoverD, bodyPostS, results, Tryd.results75]

/-- the two boxes of ikey.Get -/
structure KB (w W : World) (cs : List Value) (e : Int) : Prop where
  bl : Bl w W
  r : AC W w.heap.size cs
  t : AC W (w.heap.size + 1) [.int .i64 e]
theorem KB.keep {w W W' : World} {cs : List Value} {e : Int} (h : KB w W cs e) (k : Bl W W') : KB w W' cs e := ⟨h.bl.trans k, h.r.keep k, h.t.keep k⟩
theorem KB.new (w : World) (T U : TypeId) (cs : List Value) (e : Int) : KB w ((w.alloc (.cells cs.toArray T)).alloc (.cells #[.int .i64 e] U)) cs e :=
  ⟨((Bl.refl w).alloc _).alloc _, (AC.new w _ rfl cs T).keep ((Bl.refl _).alloc _), AC.new _ (w.heap.size + 1) (by simp) [.int .i64 e] U⟩
theorem KB.set {w W : World} {d0 d1 d2 d3 d4 d5 d6 d7 : Value} {e0 : Int} (h : KB w W [d0, d1, d2, d3, d4, d5, d6, d7] e0) (c0 c1 c2 c3 c4 c5 c6 c7 : Value) (e : Int) :
    KB w (((((((((W.setCell ⟨w.heap.size, 0, none⟩ c0).setCell ⟨w.heap.size, 1, none⟩ c1).setCell ⟨w.heap.size, 2, none⟩ c2).setCell ⟨w.heap.size, 3, none⟩ c3).setCell ⟨w.heap.size, 4, none⟩ c4).setCell ⟨w.heap.size, 5, none⟩ c5).setCell ⟨w.heap.size, 6, none⟩ c6).setCell ⟨w.heap.size, 7, none⟩ c7).setCell ⟨w.heap.size + 1, 0, none⟩ (.int .i64 e)) [c0, c1, c2, c3, c4, c5, c6, c7] e :=
  ⟨(h.bl.store8 (Nat.le_refl _) c0 c1 c2 c3 c4 c5 c6 c7).setCell (p := ⟨w.heap.size + 1, 0, none⟩) (Nat.le_succ _) _, (h.r.set8 c0 c1 c2 c3 c4 c5 c6 c7).other (by omega), (h.t.other8 (by omega) c0 c1 c2 c3 c4 c5 c6 c7).setj 0 _⟩
theorem kget_results {tmps : Array Value} {W : World} {g0 g1 : Nat} {c0 c1 c2 c3 c4 c5 c6 c7 : Value} {v1 : Int} (h0 : tmps.getD 2 undef = .pointer (some ⟨g0, 0, none⟩)) (h1 : tmps.getD 3 undef = .pointer (some ⟨g1, 0, none⟩))
    (hc : AC W g0 [c0, c1, c2, c3, c4, c5, c6, c7]) (d1 : AC W g1 [.int .i64 v1]) :
    (results Tryd.f25 tmps).run Tryd.prog W = .ok (.tuple #[.agg #[c0, c1, c2, c3, c4, c5, c6, c7], .int .i64 v1]) W := by
  rw [Array.getD_eq_getD_getElem?] at h0 h1
  have k0 := hc.cell 0 _ rfl
  have k1 := hc.cell 1 _ rfl
  have k2 := hc.cell 2 _ rfl
  have k3 := hc.cell 3 _ rfl
  have k4 := hc.cell 4 _ rfl
  have k5 := hc.cell 5 _ rfl
  have k6 := hc.cell 6 _ rfl
  have k7 := hc.cell 7 _ rfl
  have k8 := d1.cell 0 _ rfl
  simp [results, Tryd.results25, go_sem, h0, h1, k0, k1, k2, k3, k4, k5, k6, k7, k8]

def KGPost (w : World) (l : List UInt8) (e : Ending) (w' : World) : Prop :=
  (∃ (key : ByteArray) (a : Option Addr) (n ca : Nat) (xs : List Int) (o t : Int), e = .returned (.tuple #[.agg #[.string key, .slice a n ca, .int .i64 o, .int .i64 t, .int .i64 0, .float .f64 0, .int .i64 0, .string ⟨#[]⟩], .int .i64 0]) ∧ FarIA w.heap.size w' a n xs ∧ Bl w w' ∧
    ValidK ⟨key, xs, o, t, ⟨0, 0, 0, ⟨#[]⟩⟩⟩ ∧ putK ⟨key, xs, o, t, ⟨0, 0, 0, ⟨#[]⟩⟩⟩ = l) ∨
  (e = .returned (.tuple #[.agg #[.string ⟨#[]⟩, .slice none 0 0, .int .i64 0, .int .i64 0, .int .i64 0, .float .f64 0, .int .i64 0, .string ⟨#[]⟩], .int .i64 4]) ∧ Bl w w' ∧ ∀ V, ValidK V → putK V ≠ l)
set_option maxHeartbeats 1600000 in
set_option maxRecDepth 100000 in
theorem kget_any (s : ByteArray) (l : List UInt8) (w : World) (hs : SB s l) (hz : l.length ≤ 1000000) :
    Calls Tryd.prog 25 #[.string s] w (KGPost w l) := by
  have hmf := hmf
  have hsf := store_float
  have H := Lib.hid (fun w => kread_any s l w hs hz)
  clear hs
  go_enter_defers Tryd.func25, Tryd.ntmps25
  go_wp2_with fail
  have G := KB.new w 30 40 [.string ⟨#[]⟩, .slice none 0 0, .int .i64 0, .int .i64 0, .int .i64 0, .float .f64 0, .int .i64 0, .string ⟨#[]⟩] 0
  have hsz : w.heap.size + 2 ≤ ((w.alloc (.cells #[.string ⟨#[]⟩, .slice none 0 0, .int .i64 0, .int .i64 0, .int .i64 0, .float .f64 0, .int .i64 0, .string ⟨#[]⟩] 30)).alloc (.cells #[.int .i64 0] 40)).heap.size := by simp
  generalize (w.alloc (.cells #[.string ⟨#[]⟩, .slice none 0 0, .int .i64 0, .int .i64 0, .int .i64 0, .float .f64 0, .int .i64 0, .string ⟨#[]⟩] 30)).alloc (.cells #[.int .i64 0] 40) = W at *
  refine (H.out _).mono ?_
  rintro e w1 (⟨key, a, n, ca, xs, o, t, rfl, hF, hb1, hv, hp⟩ | ⟨rfl, hb1, hno⟩)
  · have G := G.keep hb1
    clear hb1
    have fr := G.r.frozen
    have k0 := G.r.cell 0 _ rfl
    have k1 := G.r.cell 1 _ rfl
    have k2 := G.r.cell 2 _ rfl
    have k3 := G.r.cell 3 _ rfl
    have k4 := G.r.cell 4 _ rfl
    have k5 := G.r.cell 5 _ rfl
    have k6 := G.r.cell 6 _ rfl
    have k7 := G.r.cell 7 _ rfl
    have H4 := G.t.other8 (g' := w.heap.size) (by omega) (.string key) (.slice a n ca) (.int .i64 o) (.int .i64 t) (.int .i64 0) (.float .f64 0) (.int .i64 0) (.string ⟨#[]⟩)
    have e0 := H4.cell 0 _ rfl
    have ef := H4.frozen 0
    go_wp2_with fail
    refine leaves_cons (f := 75) (args := #[.pointer (some ⟨w.heap.size, 0, none⟩), .pointer (some ⟨w.heap.size + 1, 0, none⟩)]) (by simp) (by simp [go_sem]) ?_
    refine (kcatch_idle _ _ _).mono ?_
    rintro e u' w'' ⟨rfl, rfl, rfl⟩
    have G2 := G.set (.string key) (.slice a n ca) (.int .i64 o) (.int .i64 t) (.int .i64 0) (.float .f64 0) (.int .i64 0) (.string ⟨#[]⟩) 0
    exact leaves_ret (kget_results rfl rfl G2.r G2.t) (.inl ⟨key, a, n, ca, xs, o, t, rfl, ((hF.set8 (by omega) (.string key) (.slice a n ca) (.int .i64 o) (.int .i64 t) (.int .i64 0) (.float .f64 0) (.int .i64 0) (.string ⟨#[]⟩)).set (by omega) 0 _).mono (by omega), G2.bl, hv, hp⟩)
  · unfold kpanE
    have G := G.keep hb1
    clear hb1
    refine leaves_cons (f := 75) (args := #[.pointer (some ⟨w.heap.size, 0, none⟩), .pointer (some ⟨w.heap.size + 1, 0, none⟩)]) (by simp) (by simp [go_sem]) ?_
    refine (kcatch_code w.heap.size (w.heap.size + 1) 4 _ [] _ _ _ _ _ _ _ _ _ G.r G.t (by omega)).mono ?_
    rintro e u' w'' ⟨rfl, rfl, rfl⟩
    have G := G.set (.string ⟨#[]⟩) (.slice none 0 0) (.int .i64 0) (.int .i64 0) (.int .i64 0) (.float .f64 0) (.int .i64 0) (.string ⟨#[]⟩) 4
    exact leaves_back (kget_results rfl rfl G.r G.t) (.inr ⟨rfl, G.bl, hno⟩)
end Go.Proofs.YtgdlcoicejgdkaaDoor
