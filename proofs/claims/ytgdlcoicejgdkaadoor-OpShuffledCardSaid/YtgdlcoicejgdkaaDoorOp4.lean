/- op.After. By an AI agent. -/
import Derived.Test.YtgdlcoicejgdkaaDoorOp3
namespace Go.Proofs.YtgdlcoicejgdkaaDoor
open Go.RowKit

theorem AC.setAct {w : World} {g : Nat} {k n : Int} {x : Nat} {s : ByteArray} (h : AC w g [.int .i64 k, .float .f64 x, .int .i64 n, .string s]) (k' n' : Int) (x' : Nat) (s' : ByteArray) :
    AC ((((w.setCell ⟨g, 0, none⟩ (.int .i64 k')).setCell ⟨g, 1, none⟩ (.float .f64 x')).setCell ⟨g, 2, none⟩ (.int .i64 n')).setCell ⟨g, 3, none⟩ (.string s')) g [.int .i64 k', .float .f64 x', .int .i64 n', .string s'] := by
  obtain ⟨t, h⟩ := h
  refine ⟨t, ?_⟩
  have h1 := heap_setCell_same w g 0 _ t (.int .i64 k') h
  have h2 := heap_setCell_same _ g 1 _ t (.float .f64 x') h1
  have h3 := heap_setCell_same _ g 2 _ t (.int .i64 n') h2
  have h4 := heap_setCell_same _ g 3 _ t (.string s') h3
  rw [h4]
  simp
theorem AC.other {w : World} {g g' j : Nat} {cs : List Value} {u : Value} (h : AC w g cs) (hn : g ≠ g') : AC (w.setCell ⟨g', j, none⟩ u) g cs := by
  obtain ⟨t, h⟩ := h
  exact ⟨t, by rw [Below.heap_setCell _ _ _ _ hn]; exact h⟩

theorem Bl.store4 {w W : World} (h : Bl w W) {g : Nat} (hg : w.heap.size ≤ g) (a b c d : Value) : Bl w ((((W.setCell ⟨g, 0, none⟩ a).setCell ⟨g, 1, none⟩ b).setCell ⟨g, 2, none⟩ c).setCell ⟨g, 3, none⟩ d) :=
  Below.setCell (p := ⟨g, 3, none⟩) (Below.setCell (p := ⟨g, 2, none⟩) (Below.setCell (p := ⟨g, 1, none⟩) (Below.setCell (p := ⟨g, 0, none⟩) h hg _) hg _) hg _) hg _

/-- the three boxes of op.After -/
structure A3 (w W : World) (vb : Bool) (vx : Nat) (vn : Int) (vs : ByteArray) (k : Int) (x : Nat) (n : Int) (s : ByteArray) : Prop where
  bl : Bl w W
  v : AC W w.heap.size [.bool vb, .float .f64 vx, .int .i64 vn, .string vs]
  a : AC W (w.heap.size + 1) [.int .i64 k, .float .f64 x, .int .i64 n, .string s]
  r : AC W (w.heap.size + 1 + 1) [.bool false, .float .f64 0, .int .i64 0, .string ⟨#[]⟩]
theorem A3.keep {w W W' : World} {vb : Bool} {vx : Nat} {vn : Int} {vs : ByteArray} {k : Int} {x : Nat} {n : Int} {s : ByteArray} (h : A3 w W vb vx vn vs k x n s) (hb : Bl W W') : A3 w W' vb vx vn vs k x n s :=
  ⟨h.bl.trans hb, h.v.keep hb, h.a.keep hb, h.r.keep hb⟩
theorem A3.new (w : World) (vb : Bool) (vx : Nat) (vn : Int) (vs : ByteArray) (k : Int) (x : Nat) (n : Int) (s : ByteArray) (T U V : TypeId) :
    A3 w (((w.alloc (.cells #[.bool vb, .float .f64 vx, .int .i64 vn, .string vs] T)).alloc (.cells #[.int .i64 k, .float .f64 x, .int .i64 n, .string s] U)).alloc (.cells #[.bool false, .float .f64 0, .int .i64 0, .string ⟨#[]⟩] V)) vb vx vn vs k x n s := by
  refine ⟨(((Bl.refl w).alloc _).alloc _).alloc _, ?_, ?_, ?_⟩
  · exact ((AC.new w _ rfl [_, _, _, _] _).keep ((Bl.refl _).alloc _)).keep ((Bl.refl _).alloc _)
  · exact (AC.new _ (w.heap.size + 1) (by simp) [_, _, _, _] _).keep ((Bl.refl _).alloc _)
  · exact AC.new _ (w.heap.size + 1 + 1) (by simp) [_, _, _, _] _

set_option maxHeartbeats 3200000 in
set_option maxRecDepth 100000 in
theorem after_any (key : ByteArray) (v : ValL) (a : ActL) (w : World) (hkey : key.size ≤ 140737488351232) (ov : v.Ok) (oa : a.Ok) :
    Calls Tryd.prog 42 #[.string key, v.v, a.v] w fun e w' => e = .returned (afterL key v a).v ∧ Bl w w' := by
  obtain ⟨k, x, n, s⟩ := a
  obtain ⟨vb, vx, vn, vs⟩ := v
  have OA := Lib.hid oa
  obtain ⟨hk, hx, hn, hs⟩ := oa
  obtain ⟨hvx, hvn, hvs⟩ := ov
  simp only at hk hx hn hs hvx hvn hvs
  show Calls Tryd.prog 42 #[.string key, .agg #[.bool vb, .float .f64 vx, .int .i64 vn, .string vs], .agg #[.int .i64 k, .float .f64 x, .int .i64 n, .string s]] w _
  have hsf := store_float
  go_enter Tryd.func42, Tryd.ntmps42
  go_wp2_with fail
  refine (fits_any key ⟨k, x, n, s⟩ _ hkey OA.out).mono ?_
  rintro e w1 ⟨rfl, hb1⟩
  have G := (A3.new w vb vx vn vs k x n s _ _ _).keep hb1
  clear hb1
  obtain ⟨v0, v1, v2, v3⟩ := G.v.val
  obtain ⟨a0, a1, a2, a3⟩ := G.a.act
  obtain ⟨r0, r1, r2, r3⟩ := G.r.val
  have f0 := G.r.frozen 0
  have f1 := G.r.frozen 1
  have f2 := G.r.frozen 2
  have f3 := G.r.frozen 3
  cases hf : fitsB key ⟨k, x, n, s⟩
  · have HF := Lib.hid (show afterL key ⟨vb, vx, vn, vs⟩ ⟨k, x, n, s⟩ = ⟨vb, vx, vn, vs⟩ by simp [afterL, hf])
    clear hf
    go_wp2_with fail
    rw [HF.out]
    refine bodyPost_ret (v := ValL.v ⟨vb, vx, vn, vs⟩) (by simp [results, Tryd.results42, go_sem, ValL.v, r0, r1, r2, r3]) rfl ⟨rfl, ?_⟩
    exact G.bl.store4 (by omega) _ _ _ _
  · -- the end, from what the act has become
    cases hth : (vb && !regB key)
    · have HF := Lib.hid (show afterL key ⟨vb, vx, vn, vs⟩ ⟨k, x, n, s⟩ = valOf ⟨k, x, n, s⟩ by simp only [afterL, hf, hth]; rfl)
      have HTH := Lib.hid hth
      have hreg : vb = false ∨ regB key = true := by
        cases vb
        · exact .inl rfl
        · right; simpa using hth
      clear hf hth
      by_cases h4 : k = 4
      · subst h4
        rcases hreg with rfl | hreg
        · go_wp2_with fail
          rw [HF.out]
          refine bodyPost_ret (v := (valOf ⟨4, x, n, s⟩).v) (by simp [results, Tryd.results42, go_sem, ValL.v, valOf, noVal, nilS, r0, r1, r2, r3]) rfl ⟨rfl, ?_⟩
          exact G.bl.store4 (by omega) _ _ _ _
        · cases vb
          · go_wp2_with fail
            rw [HF.out]
            refine bodyPost_ret (v := (valOf ⟨4, x, n, s⟩).v) (by simp [results, Tryd.results42, go_sem, ValL.v, valOf, noVal, nilS, r0, r1, r2, r3]) rfl ⟨rfl, ?_⟩
            exact G.bl.store4 (by omega) _ _ _ _
          · go_wp2_with fail
            refine (registers_any key _ hkey).mono ?_
            rintro e w' ⟨rfl, rfl⟩
            rw [hreg]
            go_wp2_with fail
            rw [HF.out]
            refine bodyPost_ret (v := (valOf ⟨4, x, n, s⟩).v) (by simp [results, Tryd.results42, go_sem, ValL.v, valOf, noVal, nilS, r0, r1, r2, r3]) rfl ⟨rfl, ?_⟩
            exact G.bl.store4 (by omega) _ _ _ _
      · have q4 : (k == 4) = false := by simpa using h4
        have HV := Lib.hid (show valOf ⟨k, x, n, s⟩ = ⟨true, x, n, s⟩ by simp [valOf, h4])
        clear h4
        rcases hreg with rfl | hreg
        · go_wp2_with fail
          rw [HF.out, HV.out]
          refine bodyPost_ret (v := ValL.v ⟨true, x, n, s⟩) (by simp [results, Tryd.results42, go_sem, ValL.v, r0, r1, r2, r3]) rfl ⟨rfl, ?_⟩
          exact G.bl.store4 (by omega) _ _ _ _
        · cases vb
          · go_wp2_with fail
            rw [HF.out, HV.out]
            refine bodyPost_ret (v := ValL.v ⟨true, x, n, s⟩) (by simp [results, Tryd.results42, go_sem, ValL.v, r0, r1, r2, r3]) rfl ⟨rfl, ?_⟩
            exact G.bl.store4 (by omega) _ _ _ _
          · go_wp2_with fail
            refine (registers_any key _ hkey).mono ?_
            rintro e w' ⟨rfl, rfl⟩
            rw [hreg]
            go_wp2_with fail
            rw [HF.out, HV.out]
            refine bodyPost_ret (v := ValL.v ⟨true, x, n, s⟩) (by simp [results, Tryd.results42, go_sem, ValL.v, r0, r1, r2, r3]) rfl ⟨rfl, ?_⟩
            exact G.bl.store4 (by omega) _ _ _ _
    · obtain ⟨rfl, hreg⟩ : vb = true ∧ regB key = false := by simpa using hth
      have HF := Lib.hid (show afterL key ⟨true, vx, vn, vs⟩ ⟨k, x, n, s⟩ = valOf (joined ⟨k, vx, vn, nilS⟩ ⟨k, x, n, s⟩) by simp only [afterL, hf, hth]; rfl)
      clear hf hth
      go_wp2_with fail
      refine (registers_any key _ hkey).mono ?_
      rintro e w' ⟨rfl, rfl⟩
      rw [hreg]
      have ca0 := fun o => ((Bl.refl w1).alloc o).cell a0
      have ca1 := fun o => ((Bl.refl w1).alloc o).cell a1
      have ca2 := fun o => ((Bl.refl w1).alloc o).cell a2
      have ca3 := fun o => ((Bl.refl w1).alloc o).cell a3
      go_wp2_with fail
      clear ca0 ca1 ca2 ca3
      refine (joined_any ⟨k, vx, vn, nilS⟩ ⟨k, x, n, s⟩ _ ⟨hk, hvx, hvn, by show (0 : Nat) ≤ _; omega⟩ OA.out).mono ?_
      rintro e w2 ⟨rfl, hb2⟩
      generalize joined ⟨k, vx, vn, nilS⟩ ⟨k, x, n, s⟩ = J at *
      obtain ⟨jk, jx, jn, js⟩ := J
      have G := G.keep (((Bl.refl w1).alloc _).trans hb2)
      clear v0 v1 v2 v3 a0 a1 a2 a3 r0 r1 r2 r3 f0 f1 f2 f3
      obtain ⟨a0, a1, a2, a3⟩ := G.a.act
      obtain ⟨r0, r1, r2, r3⟩ := G.r.val
      have f0 := G.r.frozen 0
      have f1 := G.r.frozen 1
      have f2 := G.r.frozen 2
      have f3 := G.r.frozen 3
      have g0 := G.a.frozen 0
      have g1 := G.a.frozen 1
      have g2 := G.a.frozen 2
      have g3 := G.a.frozen 3
      rw [show ActL.v ⟨jk, jx, jn, js⟩ = .agg #[.int .i64 jk, .float .f64 jx, .int .i64 jn, .string js] from rfl]
      have hbs := (G.bl.store4 (g := w.heap.size + 1) (by omega) (.int .i64 jk) (.float .f64 jx) (.int .i64 jn) (.string js))
      by_cases h4 : jk = 4
      · subst h4
        go_wp2_with fail
        rw [HF.out]
        refine bodyPost_ret (v := (valOf ⟨4, jx, jn, js⟩).v) (by simp [results, Tryd.results42, go_sem, ValL.v, valOf, noVal, nilS, r0, r1, r2, r3]) rfl ⟨rfl, ?_⟩
        exact hbs.store4 (by omega) _ _ _ _
      · have q4 : (jk == 4) = false := by simpa using h4
        have HV := Lib.hid (show valOf ⟨jk, jx, jn, js⟩ = ⟨true, jx, jn, js⟩ by simp [valOf, h4])
        clear h4
        go_wp2_with fail
        rw [HF.out, HV.out]
        refine bodyPost_ret (v := ValL.v ⟨true, jx, jn, js⟩) (by simp [results, Tryd.results42, go_sem, ValL.v, r0, r1, r2, r3]) rfl ⟨rfl, ?_⟩
        exact hbs.store4 (by omega) _ _ _ _

end Go.Proofs.YtgdlcoicejgdkaaDoor
