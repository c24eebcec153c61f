/- op.Both. By an AI agent. -/
import Derived.Test.YtgdlcoicejgdkaaDoorOp4
namespace Go.Proofs.YtgdlcoicejgdkaaDoor
open Go.RowKit

/-- the three boxes of op.Both -/
structure B3 (w W : World) (k : Int) (x : Nat) (n : Int) (s : ByteArray) (l : Int) (y : Nat) (m : Int) (t : ByteArray) : Prop where
  bl : Bl w W
  a : AC W w.heap.size [.int .i64 k, .float .f64 x, .int .i64 n, .string s]
  b : AC W (w.heap.size + 1) [.int .i64 l, .float .f64 y, .int .i64 m, .string t]
  r : AC W (w.heap.size + 1 + 1) [.int .i64 0, .float .f64 0, .int .i64 0, .string ⟨#[]⟩]
theorem B3.keep {w W W' : World} {k : Int} {x : Nat} {n : Int} {s : ByteArray} {l : Int} {y : Nat} {m : Int} {t : ByteArray} (h : B3 w W k x n s l y m t) (hb : Bl W W') : B3 w W' k x n s l y m t :=
  ⟨h.bl.trans hb, h.a.keep hb, h.b.keep hb, h.r.keep hb⟩
theorem B3.new (w : World) (k : Int) (x : Nat) (n : Int) (s : ByteArray) (l : Int) (y : Nat) (m : Int) (t : ByteArray) (T U V : TypeId) :
    B3 w (((w.alloc (.cells #[.int .i64 k, .float .f64 x, .int .i64 n, .string s] T)).alloc (.cells #[.int .i64 l, .float .f64 y, .int .i64 m, .string t] U)).alloc (.cells #[.int .i64 0, .float .f64 0, .int .i64 0, .string ⟨#[]⟩] V)) k x n s l y m t := by
  refine ⟨(((Bl.refl w).alloc _).alloc _).alloc _, ?_, ?_, ?_⟩
  · exact ((AC.new w _ rfl [_, _, _, _] _).keep ((Bl.refl _).alloc _)).keep ((Bl.refl _).alloc _)
  · exact (AC.new _ (w.heap.size + 1) (by simp) [_, _, _, _] _).keep ((Bl.refl _).alloc _)
  · exact AC.new _ (w.heap.size + 1 + 1) (by simp) [_, _, _, _] _

set_option maxHeartbeats 1600000 in
set_option maxRecDepth 100000 in
theorem both_any (key : ByteArray) (a b : ActL) (w : World) (hkey : key.size ≤ 140737488351232) (oa : a.Ok) (ob : b.Ok) :
    Calls Tryd.prog 44 #[.string key, a.v, b.v] w fun e w' => e = .returned (bothL key a b).v ∧ Bl w w' := by
  obtain ⟨k, x, n, s⟩ := a
  obtain ⟨l, y, m, t⟩ := b
  have hsf := store_float
  have OA := Lib.hid oa
  have OB := Lib.hid ob
  clear oa ob
  show Calls Tryd.prog 44 #[.string key, .agg #[.int .i64 k, .float .f64 x, .int .i64 n, .string s], .agg #[.int .i64 l, .float .f64 y, .int .i64 m, .string t]] w _
  cases hr : regB key
  · have HR := Lib.hid hr
    go_enter Tryd.func44, Tryd.ntmps44
    go_wp2_with fail
    refine (registers_any key _ hkey).mono ?_
    rintro e w' ⟨rfl, rfl⟩
    rw [hr]
    clear hr
    go_wp2_with fail
    refine (fits_any key ⟨k, x, n, s⟩ _ hkey OA.out).mono ?_
    rintro e w1 ⟨rfl, hb1⟩
    have G := (B3.new w k x n s l y m t _ _ _).keep hb1
    clear hb1
    obtain ⟨a0, a1, a2, a3⟩ := G.a.act
    obtain ⟨b0, b1, b2, b3⟩ := G.b.act
    obtain ⟨r0, r1, r2, r3⟩ := G.r.act
    have f0 := G.r.frozen 0
    have f1 := G.r.frozen 1
    have f2 := G.r.frozen 2
    have f3 := G.r.frozen 3
    cases hf : fitsB key ⟨k, x, n, s⟩
    · have HF := Lib.hid (show bothL key ⟨k, x, n, s⟩ ⟨l, y, m, t⟩ = ⟨l, y, m, t⟩ by simp [bothL, hf])
      clear hf
      go_wp2_with fail
      rw [HF.out]
      refine bodyPost_ret (v := ActL.v ⟨l, y, m, t⟩) (by simp [results, Tryd.results44, go_sem, ActL.v, r0, r1, r2, r3]) rfl ⟨rfl, ?_⟩
      exact G.bl.store4 (by omega) _ _ _ _
    · have HFA := Lib.hid hf
      clear hf
      go_wp2_with fail
      refine (fits_any key ⟨l, y, m, t⟩ _ hkey OB.out).mono ?_
      rintro e w2 ⟨rfl, hb2⟩
      have G := G.keep hb2
      clear hb2 a0 a1 a2 a3 b0 b1 b2 b3 r0 r1 r2 r3 f0 f1 f2 f3
      obtain ⟨a0, a1, a2, a3⟩ := G.a.act
      obtain ⟨b0, b1, b2, b3⟩ := G.b.act
      obtain ⟨r0, r1, r2, r3⟩ := G.r.act
      have f0 := G.r.frozen 0
      have f1 := G.r.frozen 1
      have f2 := G.r.frozen 2
      have f3 := G.r.frozen 3
      cases hf : fitsB key ⟨l, y, m, t⟩
      · have HF := Lib.hid (show bothL key ⟨k, x, n, s⟩ ⟨l, y, m, t⟩ = ⟨l, y, m, t⟩ by simp [bothL, hf])
        clear hf
        go_wp2_with fail
        rw [HF.out]
        refine bodyPost_ret (v := ActL.v ⟨l, y, m, t⟩) (by simp [results, Tryd.results44, go_sem, ActL.v, r0, r1, r2, r3]) rfl ⟨rfl, ?_⟩
        exact G.bl.store4 (by omega) _ _ _ _
      · have HF := Lib.hid (show bothL key ⟨k, x, n, s⟩ ⟨l, y, m, t⟩ = joined ⟨k, x, n, s⟩ ⟨l, y, m, t⟩ by simp [bothL, hf, HFA.out, HR.out])
        clear hf
        go_wp2_with fail
        refine (joined_any ⟨k, x, n, s⟩ ⟨l, y, m, t⟩ _ OA.out OB.out).mono ?_
        rintro e w3 ⟨rfl, hb3⟩
        have G := G.keep hb3
        clear hb3 a0 a1 a2 a3 b0 b1 b2 b3 r0 r1 r2 r3 f0 f1 f2 f3
        obtain ⟨r0, r1, r2, r3⟩ := G.r.act
        have f0 := G.r.frozen 0
        have f1 := G.r.frozen 1
        have f2 := G.r.frozen 2
        have f3 := G.r.frozen 3
        generalize joined ⟨k, x, n, s⟩ ⟨l, y, m, t⟩ = J at *
        obtain ⟨jk, jx, jn, js⟩ := J
        rw [show ActL.v ⟨jk, jx, jn, js⟩ = .agg #[.int .i64 jk, .float .f64 jx, .int .i64 jn, .string js] from rfl]
        go_wp2_with fail
        rw [HF.out]
        refine bodyPost_ret (v := ActL.v ⟨jk, jx, jn, js⟩) (by simp [results, Tryd.results44, go_sem, ActL.v, r0, r1, r2, r3]) rfl ⟨rfl, ?_⟩
        exact G.bl.store4 (by omega) _ _ _ _
  · have HF := Lib.hid (show bothL key ⟨k, x, n, s⟩ ⟨l, y, m, t⟩ = ⟨l, y, m, t⟩ by simp [bothL, hr])
    go_enter Tryd.func44, Tryd.ntmps44
    go_wp2_with fail
    refine (registers_any key _ hkey).mono ?_
    rintro e w' ⟨rfl, rfl⟩
    rw [hr]
    clear hr
    go_wp2_with fail
    rw [HF.out]
    refine bodyPost_ret (v := ActL.v ⟨l, y, m, t⟩) (by simp [results, Tryd.results44, go_sem, ActL.v]) rfl ⟨rfl, ?_⟩
    exact (((Bl.refl w).alloc _).alloc _).alloc _

end Go.Proofs.YtgdlcoicejgdkaaDoor
