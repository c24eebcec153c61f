/- op.Get. By an AI agent. -/
import Derived.Test.YtafoagllbajfnaaDoorOpRead
namespace Go.Proofs.YtafoagllbajfnaaDoor
open Go.RowKit

theorem gcatch_idle (a0 a1 : Addr) (w : World) :
    CallsD Tryd.prog 98 #[.pointer (some a0), .pointer (some a1)] .returning w fun e u' w' => e = .returned (.tuple #[]) ∧ u' = .returning ∧ w' = w := by
  refine callsD_of_wpS Tryd.func98 rfl fun c₀ cs hu => ?_
  apply wpS_seq
  apply wpS_region
  simp [wpOpsS, go_sem, recoverD, hu, Tryd.ntmps98, Exit.thenS]
  apply wpS_seq
  apply wpS_region
  simp [wpOpsS, go_sem, Exit.thenS]
  refine wpS_cond (t := false) (by simp [Act.eval, Array.replicate]) ?_
  simp only [Bool.false_eq_true, if_false]
  refine wpS_of_wp (wp_skip ?_)
  cases c₀
  simp_all [bodyPostS, results, Tryd.results98]

set_option maxHeartbeats 800000 in
set_option maxRecDepth 100000 in
theorem gcatch_code (g0 g1 : Nat) (c : Int) (v1 : Value) (older : List PanicEntry) (w : World) (k x n s : Value) (h0 : AC w g0 [k, x, n, s]) (h1 : AC w g1 [v1]) (n01 : g0 ≠ g1) :
    CallsD Tryd.prog 98 #[.pointer (some ⟨g0, 0, none⟩), .pointer (some ⟨g1, 0, none⟩)] (.panicking ({ v := .iface 61 (.int .i64 c), recovered := false } :: older)) w fun e u' w' =>
      e = .returned (.tuple #[]) ∧ u' = .panicking ({ v := .iface 61 (.int .i64 c), recovered := true } :: older) ∧ w' = (((((w.setCell ⟨g0, 0, none⟩ (.int .i64 0)).setCell ⟨g0, 1, none⟩ (.float .f64 0)).setCell ⟨g0, 2, none⟩ (.int .i64 0)).setCell ⟨g0, 3, none⟩ (.string ⟨#[]⟩)).setCell ⟨g1, 0, none⟩ (.int .i64 c)) := by
  have hsf := store_float
  have f0 := h0.frozen
  have k0 := h0.cell 0 _ rfl
  have k1 := h0.cell 1 _ rfl
  have k2 := h0.cell 2 _ rfl
  have k3 := h0.cell 3 _ rfl
  have H4 := h1.other4 (g' := g0) (Ne.symm n01) (.int .i64 0) (.float .f64 0) (.int .i64 0) (.string ⟨#[]⟩)
  have e0 := H4.cell 0 _ rfl
  have ef := H4.frozen 0
  refine callsD_of_wpS Tryd.func98 rfl fun c₀ cs hu => ?_
  apply wpS_seq
  apply wpS_region
  simp [wpOpsS, go_sem, recoverD, hu, Tryd.ntmps98, Exit.thenS]
  apply wpS_seq
  apply wpS_region
  simp [wpOpsS, go_sem, Exit.thenS]
  refine wpS_cond (t := true) (by simp [Act.eval, Array.replicate]) ?_
  simp only [if_true]
  apply wpS_seq
  apply wpS_region
  simp [wpOpsS, go_sem, Exit.thenS, assert_code, recoverD]
  apply wpS_seq
  apply wpS_seq
  apply wpS_region
  simp [wpOpsS, go_sem, Exit.thenS, recoverD]
  refine wpS_cond (t := false) (by simp [Act.eval, Array.replicate]) ?_
  simp only [Bool.false_eq_true, if_false]
  refine wpS_of_wp (wp_skip ?_)
  simp only [Exit.thenS]
  apply wpS_region
  simp [wpOpsS, go_sem, hsf, f0, k0, k1, k2, k3, e0, ef, recoverD, bodyPostS, results, Tryd.results98]

/-- the two boxes of op.Get -/
structure GB (w W : World) (cs : List Value) (e : Int) : Prop where
  bl : Bl w W
  r : AC W w.heap.size cs
  t : AC W (w.heap.size + 1) [.int .i64 e]
theorem GB.keep {w W W' : World} {cs : List Value} {e : Int} (h : GB w W cs e) (k : Bl W W') : GB w W' cs e := ⟨h.bl.trans k, h.r.keep k, h.t.keep k⟩
theorem GB.new (w : World) (T U : TypeId) (cs : List Value) (e : Int) : GB w ((w.alloc (.cells cs.toArray T)).alloc (.cells #[.int .i64 e] U)) cs e :=
  ⟨((Bl.refl w).alloc _).alloc _, (AC.new w _ rfl cs T).keep ((Bl.refl _).alloc _), AC.new _ (w.heap.size + 1) (by simp) [.int .i64 e] U⟩
theorem GB.set {w W : World} {a0 b0 c0 d0 : Value} {e0 : Int} (h : GB w W [a0, b0, c0, d0] e0) (a b c d : Value) (e : Int) :
    GB w (((((W.setCell ⟨w.heap.size, 0, none⟩ a).setCell ⟨w.heap.size, 1, none⟩ b).setCell ⟨w.heap.size, 2, none⟩ c).setCell ⟨w.heap.size, 3, none⟩ d).setCell ⟨w.heap.size + 1, 0, none⟩ (.int .i64 e)) [a, b, c, d] e :=
  ⟨(h.bl.store4 (Nat.le_refl _) a b c d).setCell (p := ⟨w.heap.size + 1, 0, none⟩) (Nat.le_succ _) _, (h.r.set4 a b c d).other (by omega), (h.t.other4 (by omega) a b c d).put _⟩
theorem get_results {tmps : Array Value} {w : World} {g0 g1 : Nat} {k n : Int} {x : Nat} {s : ByteArray} {v1 : Int} (h0 : tmps.getD 2 undef = .pointer (some ⟨g0, 0, none⟩)) (h1 : tmps.getD 3 undef = .pointer (some ⟨g1, 0, none⟩))
    (d0 : AC w g0 [.int .i64 k, .float .f64 x, .int .i64 n, .string s]) (d1 : AC w g1 [.int .i64 v1]) :
    (results Tryd.f54 tmps).run Tryd.prog w = .ok (.tuple #[.agg #[.int .i64 k, .float .f64 x, .int .i64 n, .string s], .int .i64 v1]) w := by
  rw [Array.getD_eq_getD_getElem?] at h0 h1
  obtain ⟨c0, c1, c2, c3⟩ := d0.act
  have c4 := d1.cell 0 _ rfl
  simp [results, Tryd.results54, go_sem, h0, h1, c0, c1, c2, c3, c4]

set_option maxHeartbeats 1600000 in
set_option maxRecDepth 100000 in
theorem oget_ok (s : ByteArray) (k : Int) (x : Nat) (n : Int) (z : ByteArray) (w : World) (H : Hid (∀ w, Calls Tryd.prog 99 #[.string s] w fun e w' => e = .returned (.agg #[.int .i64 k, .float .f64 x, .int .i64 n, .string z]) ∧ Bl w w')) :
    Calls Tryd.prog 54 #[.string s] w fun e w' => e = .returned (.tuple #[.agg #[.int .i64 k, .float .f64 x, .int .i64 n, .string z], .int .i64 0]) ∧ Bl w w' := by
  have hmf := hmf
  have hsf := store_float
  go_enter_defers Tryd.func54, Tryd.ntmps54
  go_wp2_with fail
  have G := GB.new w 24 61 [.int .i64 0, .float .f64 0, .int .i64 0, .string ⟨#[]⟩] 0
  generalize (w.alloc (.cells #[.int .i64 0, .float .f64 0, .int .i64 0, .string ⟨#[]⟩] 24)).alloc (.cells #[.int .i64 0] 61) = W at *
  refine (H.out _).mono ?_
  rintro e w1 ⟨rfl, hb1⟩
  have G := G.keep hb1
  clear hb1
  obtain ⟨c0, c1, c2, c3⟩ := G.r.act
  have fr := G.r.frozen
  have H4 := G.t.other4 (g' := w.heap.size) (by omega) (.int .i64 k) (.float .f64 x) (.int .i64 n) (.string z)
  have e0 := H4.cell 0 _ rfl
  have ef := H4.frozen 0
  go_wp2_with fail
  refine leaves_cons (f := 98) (args := #[.pointer (some ⟨w.heap.size, 0, none⟩), .pointer (some ⟨w.heap.size + 1, 0, none⟩)]) (by simp) (by simp [go_sem]) ?_
  refine (gcatch_idle _ _ _).mono ?_
  rintro e u' w'' ⟨rfl, rfl, rfl⟩
  have G := G.set (.int .i64 k) (.float .f64 x) (.int .i64 n) (.string z) 0
  exact leaves_ret (get_results rfl rfl G.r G.t) ⟨rfl, G.bl⟩
set_option maxHeartbeats 1600000 in
set_option maxRecDepth 100000 in
theorem oget_bad (s : ByteArray) (w : World) (H : Hid (∀ w, Calls Tryd.prog 99 #[.string s] w fun e w' => e = panE ∧ Bl w w')) :
    Calls Tryd.prog 54 #[.string s] w fun e w' => e = .returned (.tuple #[.agg #[.int .i64 0, .float .f64 0, .int .i64 0, .string ⟨#[]⟩], .int .i64 4]) ∧ Bl w w' := by
  have hmf := hmf
  have hsf := store_float
  go_enter_defers Tryd.func54, Tryd.ntmps54
  go_wp2_with fail
  have G := GB.new w 24 61 [.int .i64 0, .float .f64 0, .int .i64 0, .string ⟨#[]⟩] 0
  generalize (w.alloc (.cells #[.int .i64 0, .float .f64 0, .int .i64 0, .string ⟨#[]⟩] 24)).alloc (.cells #[.int .i64 0] 61) = W at *
  refine (H.out _).mono ?_
  rintro e w1 ⟨rfl, hb1⟩
  unfold panE
  have G := G.keep hb1
  clear hb1
  refine leaves_cons (f := 98) (args := #[.pointer (some ⟨w.heap.size, 0, none⟩), .pointer (some ⟨w.heap.size + 1, 0, none⟩)]) (by simp) (by simp [go_sem]) ?_
  refine (gcatch_code w.heap.size (w.heap.size + 1) 4 _ [] _ _ _ _ _ G.r G.t (by omega)).mono ?_
  rintro e u' w'' ⟨rfl, rfl, rfl⟩
  have G := G.set (.int .i64 0) (.float .f64 0) (.int .i64 0) (.string ⟨#[]⟩) 4
  exact leaves_back (get_results rfl rfl G.r G.t) ⟨rfl, G.bl⟩
/-- op.Get -/
theorem oget_any (s : ByteArray) (l : List UInt8) (w : World) (hs : SB s l) :
    Calls Tryd.prog 54 #[.string s] w fun e w' => e = .returned (.tuple #[.agg #[.int .i64 (getA l).1.k, .float .f64 (getA l).1.x, .int .i64 (getA l).1.n, .string (getA l).1.s], .int .i64 (getA l).2]) ∧ Bl w w' := by
  have hr := fun w => read_any s l w hs
  have hb : (getA l).2 = 0 ∨ getA l = badA := by
    have hn : ∀ k m, (numA k m).2 = 0 ∨ numA k m = badA := fun k m => by unfold numA; split; exact .inl rfl; exact .inr rfl
    unfold getA setA
    (repeat' split) <;> first | exact .inl rfl | exact .inr rfl | exact hn _ _
  rcases hb with h | h
  · have e : getA l = ((getA l).1, 0) := by rw [← h]
    rw [e] at hr
    rw [h]
    exact oget_ok s _ _ _ _ w (Lib.hid (fun w => by have := hr w; rwa [readE_ok] at this))
  · rw [h] at hr ⊢
    exact oget_bad s w (Lib.hid (fun w => by have := hr w; rwa [readE_bad] at this))
end Go.Proofs.YtafoagllbajfnaaDoor
