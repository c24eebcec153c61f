/- archive.Read. By an AI agent. -/
import Derived.Test.YtechiehbigmjbaaArc5
set_option linter.unusedVariables false
set_option linter.unusedSimpArgs false
namespace Go.Proofs.Ytechiehbigmjbaa
open Go.RowKit

theorem arread_any (l : List UInt8) (w : World) : Calls Try.prog 109 #[.string (strL l)] w (ArcPost w l) := by
  by_cases h : 12 ≤ l.length ∧ l.length ≤ 524288
  · exact arread_long l (l.take (l.length - 4)) (l.drop (l.length - 4)) (l.length - 4) w (by omega) (by omega) (by omega) rfl rfl
  · exact arread_short l w h
theorem arcatch_idle (a0 a1 : Addr) (w : World) :
    CallsD Try.prog 108 #[.pointer (some a0), .pointer (some a1)] .returning w fun e u' w' => e = .returned (.tuple #[]) ∧ u' = .returning ∧ w' = w := by
  refine callsD_of_wpS Try.func108 rfl fun c₀ cs hu => ?_
  apply wpS_seq
  apply wpS_region
  simp [wpOpsS, go_sem, recoverD, hu, Try.ntmps108, Exit.thenS]
  apply wpS_seq
  apply wpS_region
  simp [wpOpsS, go_sem, Exit.thenS]
  refine wpS_cond (t := false) (by simp [Act.eval, Array.replicate]) ?_
  simp only [Bool.false_eq_true, if_false]
  refine wpS_of_wp (wp_skip ?_)
  cases c₀
  simp_all [bodyPostS, results, Try.results108]

set_option maxHeartbeats 800000 in
set_option maxRecDepth 100000 in
theorem arcatch_code (g0 g1 : Nat) (c : Int) (v1 : Value) (older : List PanicEntry) (w : World) (k x n s : Value) (h0 : AC w g0 [k, x, n, s]) (h1 : AC w g1 [v1]) (n01 : g0 ≠ g1) :
    CallsD Try.prog 108 #[.pointer (some ⟨g0, 0, none⟩), .pointer (some ⟨g1, 0, none⟩)] (.panicking ({ v := .iface 26 (.int .i64 c), recovered := false } :: older)) w fun e u' w' =>
      e = .returned (.tuple #[]) ∧ u' = .panicking ({ v := .iface 26 (.int .i64 c), recovered := true } :: older) ∧ w' = (((((w.setCell ⟨g0, 0, none⟩ (.int .i64 0)).setCell ⟨g0, 1, none⟩ (.int .i64 0)).setCell ⟨g0, 2, none⟩ (.slice none 0 0)).setCell ⟨g0, 3, none⟩ (.slice none 0 0)).setCell ⟨g1, 0, none⟩ (.int .i64 c)) := by
  have hsf := store_float
  have f0 := h0.frozen
  have k0 := h0.cell 0 _ rfl
  have k1 := h0.cell 1 _ rfl
  have k2 := h0.cell 2 _ rfl
  have k3 := h0.cell 3 _ rfl
  have H4 := h1.other4 (g' := g0) (Ne.symm n01) (.int .i64 0) (.int .i64 0) (.slice none 0 0) (.slice none 0 0)
  have e0 := H4.cell 0 _ rfl
  have ef := H4.frozen 0
  refine callsD_of_wpS Try.func108 rfl fun c₀ cs hu => ?_
  apply wpS_seq
  apply wpS_region
  simp [wpOpsS, go_sem, recoverD, hu, Try.ntmps108, Exit.thenS]
  apply wpS_seq
  apply wpS_region
  simp [wpOpsS, go_sem, Exit.thenS]
  refine wpS_cond (t := true) (by simp [Act.eval, Array.replicate]) ?_
  simp only [if_true]
  apply wpS_seq
  apply wpS_region
  simp [wpOpsS, go_sem, Exit.thenS, assert_code, recoverD]
  apply wpS_seq
  apply wpS_seq
  apply wpS_region
  simp [wpOpsS, go_sem, Exit.thenS, recoverD]
  refine wpS_cond (t := false) (by simp [Act.eval, Array.replicate]) ?_
  simp only [Bool.false_eq_true, if_false]
  refine wpS_of_wp (wp_skip ?_)
  simp only [Exit.thenS]
  apply wpS_region
  simp [wpOpsS, go_sem, hsf, f0, k0, k1, k2, k3, e0, ef, recoverD, bodyPostS, results, Try.results108]


/-- the two boxes of Read -/
structure RdG (w W : World) (cs : List Value) (e : Int) : Prop where
  bl : Bl w W
  r : AC W w.heap.size cs
  t : AC W (w.heap.size + 1) [.int .i64 e]
theorem RdG.keep {w W W' : World} {cs : List Value} {e : Int} (h : RdG w W cs e) (k : Bl W W') : RdG w W' cs e := ⟨h.bl.trans k, h.r.keep k, h.t.keep k⟩
theorem RdG.new (w : World) (T U : TypeId) (cs : List Value) (e : Int) : RdG w ((w.alloc (.cells cs.toArray T)).alloc (.cells #[.int .i64 e] U)) cs e :=
  ⟨((Bl.refl w).alloc _).alloc _, (AC.new w _ rfl cs T).keep ((Bl.refl _).alloc _), AC.new _ (w.heap.size + 1) (by simp) [.int .i64 e] U⟩
theorem RdG.set {w W : World} {a0 b0 c0 d0 : Value} {e0 : Int} (h : RdG w W [a0, b0, c0, d0] e0) (a b c d : Value) (e : Int) :
    RdG w (((((W.setCell ⟨w.heap.size, 0, none⟩ a).setCell ⟨w.heap.size, 1, none⟩ b).setCell ⟨w.heap.size, 2, none⟩ c).setCell ⟨w.heap.size, 3, none⟩ d).setCell ⟨w.heap.size + 1, 0, none⟩ (.int .i64 e)) [a, b, c, d] e :=
  ⟨(h.bl.store4 (Nat.le_refl _) a b c d).setCell (p := ⟨w.heap.size + 1, 0, none⟩) (Nat.le_succ _) _, (h.r.set4 a b c d).other (by omega), (h.t.other4 (by omega) a b c d).put _⟩
theorem arRead_results {tmps : Array Value} {w : World} {g0 g1 : Nat} {n parts : Int} {ad : Option Addr} {an ac : Nat} {pd : Option Addr} {pn pc : Nat} {v1 : Int} (h0 : tmps.getD 2 undef = .pointer (some ⟨g0, 0, none⟩)) (h1 : tmps.getD 3 undef = .pointer (some ⟨g1, 0, none⟩))
    (d0 : AC w g0 (arcCs n parts ad an ac pd pn pc)) (d1 : AC w g1 [.int .i64 v1]) :
    (results Try.f42 tmps).run Try.prog w = .ok (.tuple #[arcV n parts ad an ac pd pn pc, .int .i64 v1]) w := by
  rw [Array.getD_eq_getD_getElem?] at h0 h1
  obtain ⟨c0, c1, c2, c3⟩ := d0.arc
  have c4 := d1.cell 0 _ rfl
  simp [results, Try.results42, go_sem, h0, h1, c0, c1, c2, c3, c4, arcV]
/-- what Read comes to -/
def RdPostArc (w : World) (l : List UInt8) (e : Ending) (w' : World) : Prop :=
  (∃ (a : ArcL) (ad : Option Addr) (n ca : Nat) (pd : Option Addr) (pn pc : Nat), rdArc l = some a ∧ e = .returned (.tuple #[arcV a.n a.parts ad n ca pd pn pc, .int .i64 0]) ∧ FarIA w.heap.size w' ad n a.at_ ∧ FarPA w.heap.size w' pd pn a.pairs ∧ Bl w w') ∨
  (rdArc l = none ∧ e = .returned (.tuple #[arcV 0 0 none 0 0 none 0 0, .int .i64 70]) ∧ Bl w w')
set_option maxHeartbeats 1600000 in
set_option maxRecDepth 100000 in
theorem arRead_any (l : List UInt8) (w : World) : Calls Try.prog 42 #[.string (strL l)] w (RdPostArc w l) := by
  have hmf := hmf
  have H := Lib.hid (fun w => arread_any l w)
  have G := RdG.new w 75 26 zeroArcCs 0
  unfold zeroArcCs arcCs at G
  have hsz : ((w.alloc (.cells #[.int .i64 0, .int .i64 0, .slice none 0 0, .slice none 0 0] 75)).alloc (.cells #[.int .i64 0] 26)).heap.size = w.heap.size + 1 + 1 := by simp
  generalize strL l = sl at *
  go_enter_defers Try.func42, Try.ntmps42
  go_wp2_with fail
  generalize (w.alloc (.cells #[.int .i64 0, .int .i64 0, .slice none 0 0, .slice none 0 0] 75)).alloc (.cells #[.int .i64 0] 26) = W at *
  refine (H.out _).mono ?_
  rintro e w1 (⟨⟨n, parts, xs, ps⟩, ad, an, ac, pd, pn, pc, hr, rfl, hF, hP, hb1⟩ | ⟨hr, rfl, hb1⟩)
  · have HR := Lib.hid hr
    have HF := Lib.hid hF
    have HP := Lib.hid hP
    have G := G.keep hb1
    clear hb1 hr hF hP
    dsimp only at *
    unfold arcV
    obtain ⟨c0, c1, c2, c3⟩ := AC.arc G.r
    have fr := G.r.frozen
    have H4 := G.t.other4 (g' := w.heap.size) (by omega) (.int .i64 n) (.int .i64 parts) (.slice ad an ac) (.slice pd pn pc)
    have e0 := H4.cell 0 _ rfl
    have ef := H4.frozen 0
    go_wp2_with fail
    refine leaves_cons (f := 108) (args := #[.pointer (some ⟨w.heap.size, 0, none⟩), .pointer (some ⟨w.heap.size + 1, 0, none⟩)]) (by simp) (by simp [go_sem]) ?_
    refine (arcatch_idle _ _ _).mono ?_
    rintro e u' w'' ⟨rfl, rfl, rfl⟩
    have G2 := G.set (.int .i64 n) (.int .i64 parts) (.slice ad an ac) (.slice pd pn pc) 0
    refine leaves_ret (arRead_results rfl rfl G2.r G2.t) (.inl ⟨⟨n, parts, xs, ps⟩, ad, an, ac, pd, pn, pc, HR.out, rfl, ?_, ?_, G2.bl⟩)
    · exact (((HF.out.fill (q := w.heap.size) (by omega) [.int .i64 n, .int .i64 parts, .slice ad an ac, .slice pd pn pc] w1 0).set (q := w.heap.size + 1) (by omega) 0 (.int .i64 0)).mono (by omega))
    · exact (((FarPA.fillA (q := w.heap.size) (by omega) [.int .i64 n, .int .i64 parts, .slice ad an ac, .slice pd pn pc] w1 0 HP.out).set (q := w.heap.size + 1) (by omega) 0 (.int .i64 0)).mono (by omega))
  · have HR := Lib.hid hr
    have G := G.keep hb1
    clear hb1 hr
    unfold panR
    refine leaves_cons (f := 108) (args := #[.pointer (some ⟨w.heap.size, 0, none⟩), .pointer (some ⟨w.heap.size + 1, 0, none⟩)]) (by simp) (by simp [go_sem]) ?_
    refine (arcatch_code w.heap.size (w.heap.size + 1) 70 _ [] _ _ _ _ _ G.r G.t (by omega)).mono ?_
    rintro e u' w'' ⟨rfl, rfl, rfl⟩
    have G2 := G.set (.int .i64 0) (.int .i64 0) (.slice none 0 0) (.slice none 0 0) 70
    exact leaves_back (arRead_results rfl rfl G2.r G2.t) (.inr ⟨HR.out, rfl, G2.bl⟩)
end Go.Proofs.Ytechiehbigmjbaa
