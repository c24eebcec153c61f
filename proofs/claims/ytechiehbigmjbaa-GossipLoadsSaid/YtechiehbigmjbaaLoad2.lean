/- gossip.Load. By an AI agent. -/
import Derived.Test.YtechiehbigmjbaaLoad1
set_option linter.unusedVariables false
set_option linter.unusedSimpArgs false
namespace Go.Proofs.Ytechiehbigmjbaa
open Go.RowKit

theorem lcatch_idle (a0 a1 : Addr) (w : World) :
    CallsD Try.prog 67 #[.pointer (some a0), .pointer (some a1)] .returning w fun e u' w' => e = .returned (.tuple #[]) ∧ u' = .returning ∧ w' = w := by
  refine callsD_of_wpS Try.func67 rfl fun c₀ cs hu => ?_
  apply wpS_seq
  apply wpS_region
  simp [wpOpsS, go_sem, recoverD, hu, Try.ntmps67, Exit.thenS]
  apply wpS_seq
  apply wpS_region
  simp [wpOpsS, go_sem, Exit.thenS]
  refine wpS_cond (t := false) (by simp [Act.eval, Array.replicate]) ?_
  simp only [Bool.false_eq_true, if_false]
  refine wpS_of_wp (wp_skip ?_)
  cases c₀
  simp_all [bodyPostS, results, Try.results67]

set_option maxHeartbeats 1600000 in
set_option maxRecDepth 100000 in
theorem lcatch_code (g0 g1 : Nat) (c : Int) (v0 v1 : Value) (older : List PanicEntry) (w : World) (h0 : C1 w g0 v0) (h1 : C1 w g1 v1) (n01 : g0 ≠ g1) :
    CallsD Try.prog 67 #[.pointer (some ⟨g0, 0, none⟩), .pointer (some ⟨g1, 0, none⟩)] (.panicking ({ v := .iface 26 (.int .i64 c), recovered := false } :: older)) w fun e u' w' =>
      e = .returned (.tuple #[]) ∧ u' = .panicking ({ v := .iface 26 (.int .i64 c), recovered := true } :: older) ∧ w' = (w.setCell ⟨g0, 0, none⟩ (.pointer none)).setCell ⟨g1, 0, none⟩ (.int .i64 c) := by
  have k0 := h0.cell
  have f0 := h0.frozen
  have k1 := (h1.other (Ne.symm n01) (.pointer none)).cell
  have f1 := (h1.other (Ne.symm n01) (.pointer none)).frozen
  refine callsD_of_wpS Try.func67 rfl fun c₀ cs hu => ?_
  apply wpS_seq
  apply wpS_region
  simp [wpOpsS, go_sem, recoverD, hu, Try.ntmps67, Exit.thenS]
  apply wpS_seq
  apply wpS_region
  simp [wpOpsS, go_sem, Exit.thenS]
  refine wpS_cond (t := true) (by simp [Act.eval, Array.replicate]) ?_
  simp only [if_true]
  apply wpS_seq
  apply wpS_region
  simp [wpOpsS, go_sem, Exit.thenS, assert_code, recoverD]
  apply wpS_seq
  apply wpS_seq
  apply wpS_region
  simp [wpOpsS, go_sem, Exit.thenS, recoverD]
  refine wpS_cond (t := false) (by simp [Act.eval, Array.replicate]) ?_
  simp only [Bool.false_eq_true, if_false]
  refine wpS_of_wp (wp_skip ?_)
  simp only [Exit.thenS]
  apply wpS_region
  simp [wpOpsS, go_sem, k0, f0, k1, f1, recoverD, bodyPostS, results, Try.results67]

theorem RG.setBelow {B g q : Nat} {w : World} {rows : List (List Int)} (h : RG B w g rows) (hq : q < B) (u : Value) : RG B (w.setCell ⟨q, 0, none⟩ u) g rows := by
  obtain ⟨v, h1, h2, h3⟩ := h
  exact ⟨v, h1.other (by omega) u, h2, h3.below (p := ⟨q, 0, none⟩) (by show q < g + 1; omega) u⟩
theorem RG.mono {B B' g : Nat} {w : World} {rows : List (List Int)} (h : RG B w g rows) (hB : B' ≤ B) : RG B' w g rows := by
  obtain ⟨v, h1, h2, h3⟩ := h
  exact ⟨v, h1, by omega, h3⟩
/-- what Load comes to -/
def LoadPost (w : World) (l : List UInt8) (e : Ending) (w' : World) : Prop :=
  (∃ rows g, rdRows l = some rows ∧ e = .returned (.tuple #[.pointer (some ⟨g, 0, none⟩), .int .i64 0]) ∧ RG w.heap.size w' g rows ∧ Bl w w') ∨
  (rdRows l = none ∧ e = .returned (.tuple #[.pointer none, .int .i64 4]) ∧ Bl w w')
theorem load_results {tmps : Array Value} {W : World} {g0 g1 : Nat} {v0 : Option Addr} {e : Int} (h0 : tmps.getD 2 undef = .pointer (some ⟨g0, 0, none⟩)) (h1 : tmps.getD 3 undef = .pointer (some ⟨g1, 0, none⟩))
    (c0 : C1 W g0 (.pointer v0)) (c1 : C1 W g1 (.int .i64 e)) :
    (results Try.f16 tmps).run Try.prog W = .ok (.tuple #[.pointer v0, .int .i64 e]) W := by
  rw [Array.getD_eq_getD_getElem?] at h0 h1
  have k0 := c0.cell
  have k1 := c1.cell
  simp [results, Try.results16, go_sem, h0, h1, k0, k1]
set_option maxHeartbeats 1600000 in
set_option maxRecDepth 100000 in
theorem gload_any (l : List UInt8) (w : World) (hz : l.length ≤ 900000) :
    Calls Try.prog 16 #[.string (strL l)] w (LoadPost w l) := by
  have hmf := hmf
  have H := Lib.hid (fun w => gread_any l w hz)
  have c0 := (C1.new w w.heap.size rfl (.pointer none) 25).keep ((Bl.refl _).alloc (.cells #[.int .i64 0] 26))
  have c1 := C1.new (w.alloc (.cells #[.pointer none] 25)) (w.heap.size + 1) (by simp) (.int .i64 0) 26
  have hb := ((Bl.refl w).alloc (.cells #[.pointer none] 25)).alloc (.cells #[.int .i64 0] 26)
  have hsz : w.heap.size + 2 ≤ ((w.alloc (.cells #[.pointer none] 25)).alloc (.cells #[.int .i64 0] 26)).heap.size := by simp
  generalize strL l = s at *
  go_enter_defers Try.func16, Try.ntmps16
  go_wp2_with fail
  generalize (w.alloc (.cells #[.pointer none] 25)).alloc (.cells #[.int .i64 0] 26) = W at *
  refine (H.out _).mono ?_
  rintro e w1 (⟨rows, hr, rfl, hg, hb1⟩ | ⟨hr, rfl, hb1⟩)
  · have HR := Lib.hid hr
    have HG := Lib.hid hg
    have HB := Lib.hid (hb.trans hb1)
    have d0 := c0.keep hb1
    have d1 := c1.keep hb1
    have k0 := d0.cell
    have f0 := d0.frozen
    have k1 := (d1.other (by omega) (g' := w.heap.size) (.pointer (some ⟨W.heap.size, 0, none⟩))).cell
    have f1 := (d1.other (by omega) (g' := w.heap.size) (.pointer (some ⟨W.heap.size, 0, none⟩))).frozen
    have HD := Lib.hid (And.intro d0 d1)
    clear hr hg hb1 c0 c1 hb d0 d1
    go_wp2_with fail
    refine leaves_cons (f := 67) (args := #[.pointer (some ⟨w.heap.size, 0, none⟩), .pointer (some ⟨w.heap.size + 1, 0, none⟩)]) (by simp) (by simp [go_sem]) ?_
    refine (lcatch_idle _ _ _).mono ?_
    rintro e u' w'' ⟨rfl, rfl, rfl⟩
    obtain ⟨d0, d1⟩ := HD.out
    refine leaves_ret (load_results rfl rfl ((d0.set (.pointer (some ⟨W.heap.size, 0, none⟩))).other (by omega) (.int .i64 0)) ((d1.other (by omega) (.pointer (some ⟨W.heap.size, 0, none⟩))).set (.int .i64 0))) (.inl ⟨rows, W.heap.size, HR.out, rfl, ?_, ?_⟩)
    · exact ((HG.out.setBelow (q := w.heap.size) (by omega) _).setBelow (q := w.heap.size + 1) (by omega) _).mono (by omega)
    · exact (HB.out.setCell (p := ⟨w.heap.size, 0, none⟩) (Nat.le_refl _) _).setCell (p := ⟨w.heap.size + 1, 0, none⟩) (Nat.le_succ _) _
  · have HB := Lib.hid (hb.trans hb1)
    have d0 := c0.keep hb1
    have d1 := c1.keep hb1
    unfold panE
    clear hb1 c0 c1 hb
    refine leaves_cons (f := 67) (args := #[.pointer (some ⟨w.heap.size, 0, none⟩), .pointer (some ⟨w.heap.size + 1, 0, none⟩)]) (by simp) (by simp [go_sem]) ?_
    refine (lcatch_code w.heap.size (w.heap.size + 1) 4 _ _ [] _ d0 d1 (by omega)).mono ?_
    rintro e u' w'' ⟨rfl, rfl, rfl⟩
    refine leaves_back (load_results rfl rfl ((d0.set (.pointer none)).other (by omega) (.int .i64 4)) ((d1.other (by omega) (.pointer none)).set (.int .i64 4))) (.inr ⟨hr, rfl, ?_⟩)
    exact (HB.out.setCell (p := ⟨w.heap.size, 0, none⟩) (Nat.le_refl _) _).setCell (p := ⟨w.heap.size + 1, 0, none⟩) (Nat.le_succ _) _
end Go.Proofs.Ytechiehbigmjbaa
