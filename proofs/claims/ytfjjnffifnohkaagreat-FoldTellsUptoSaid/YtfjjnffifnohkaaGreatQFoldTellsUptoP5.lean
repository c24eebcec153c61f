import Derived.Test.YtfjjnffifnohkaaGreatQFoldTellsUptoP3
import Derived.Test.YtfjjnffifnohkaaGreatQFoldTellsUptoP4

/- bedrockref5.IsKey, Right, Fits, SameAct, SameValue. By an AI agent. -/
section
namespace Go.Proofs.YtfjjnffifnohkaaGreat
open Go.RowKit

set_option maxRecDepth 100000 in
theorem refIsKey_any (s : ByteArray) (w : World) (hs : s.size ≤ 140737488351232) : Calls Tryz.prog 36 #[.string s] w fun e w' => e = .returned (.bool (isKeyB s)) ∧ w = w' := by
  by_cases hp : 0 < s.size
  · have HH := Lib.hid (hd_get hp)
    have HE := Lib.hid (filled_of hp)
    go_enter Tryz.func36, Tryz.ntmps36
    go_wp2_with fail
    all_goals (go_ret; refine ⟨ret_bool ?_, rfl⟩)
    all_goals (
      have h := HH.out
      have h2 := HE.out
      clear HH HE
      unfold isKeyB
      rw [h2]
      first
      | (simp_all; done)
      | (simp_all; omega)
      | (rw [Bool.eq_iff_iff]; simp_all; done)
      | (rw [Bool.eq_iff_iff]; simp_all; omega))
  · have HE := Lib.hid (empty_of (s := s) (by omega))
    go_enter Tryz.func36, Tryz.ntmps36
    go_wp2_with fail
    all_goals (go_ret; refine ⟨ret_bool ?_, rfl⟩)
    all_goals (unfold isKeyB; rw [HE.out]; rfl)


set_option maxHeartbeats 1600000 in
set_option maxRecDepth 100000 in
theorem refFits_any (key : ByteArray) (a : ActL) (w : World) (hkey : key.size ≤ 140737488351232) (ok : a.Ok) : Calls Tryz.prog 39 #[.string key, a.v] w fun e w' => e = .returned (.bool (fitsB key a)) ∧ Bl w w' := by
  obtain ⟨k, x, n, s⟩ := a
  have OK := Lib.hid ok
  obtain ⟨hk, hx, hn, hs⟩ := ok
  simp only at hk hx hn hs
  show Calls Tryz.prog 39 #[.string key, .agg #[.int .i64 k, .float .f64 x, .int .i64 n, .string s]] w _
  cases hi : isKeyB key
  · have HI := Lib.hid hi
    go_enter Tryz.func39, Tryz.ntmps39
    go_wp2_with fail
    refine (refIsKey_any key _ hkey).mono ?_
    rintro e w1 ⟨rfl, rfl⟩
    rw [hi]
    clear hi
    go_wp2_with fail
    go_ret
    exact ⟨ret_bool (by simp [fitsB, HI.out]), (Bl.refl w).alloc _⟩
  · have HI := Lib.hid hi
    have hp := key_pos hi
    have HH := Lib.hid (hd_get hp)
    have HLT := Lib.hid (hd_lt key)
    go_enter Tryz.func39, Tryz.ntmps39
    go_wp2_with fail
    refine (refIsKey_any key _ hkey).mono ?_
    rintro e w1 ⟨rfl, rfl⟩
    rw [hi]
    clear hi
    go_wp2_with fail
    refine (refRight_any ⟨k, x, n, s⟩ _ OK.out).mono ?_
    rintro e w1 ⟨rfl, hb1⟩
    obtain ⟨c0, c1, c2, c3⟩ := ((AC.new w _ rfl [_, _, _, _] _).keep hb1).act
    have hbw := ((Bl.refl w).alloc _).trans hb1
    cases hr : rightB ⟨k, x, n, s⟩
    · have HR := Lib.hid hr; clear hr
      go_wp2_with fail
      go_ret
      exact ⟨ret_bool (by simp [fitsB, HR.out]), hbw⟩
    · have HR := Lib.hid hr; clear hr
      clear hb1
      go_wp2_with (first | (refine (refSame_any _ 0 _ hx (by decide)).mono ?_; rintro e w' ⟨rfl, rfl⟩) | fail)
      all_goals (go_ret; refine ⟨ret_bool ?_, hbw⟩)
      all_goals (
        have h1 := HH.out
        have h2 := HR.out
        have h3 := HI.out
        have h4 := key_head h3
        clear HH HR HI HLT OK
        unfold fitsB noughtB
        rcases h4 with h4 | h4 | h4 | h4 | h4 <;> simp_all
        all_goals first | omega | (rw [Bool.eq_iff_iff]; simp) | skip)

set_option maxHeartbeats 1600000 in
set_option maxRecDepth 100000 in
theorem refSameV_any (a d : ValL) (w : World) (oa : a.Ok) (ob : d.Ok) :
    Calls Tryz.prog 13 #[a.v, d.v] w fun e w' => e = .returned (.bool (sameV a d)) ∧ Bl w w' := by
  obtain ⟨b, x, n, s⟩ := a
  obtain ⟨c, y, m, t⟩ := d
  obtain ⟨hx, _, _⟩ := oa
  obtain ⟨hy, _, _⟩ := ob
  simp only at hx hy
  show Calls Tryz.prog 13 #[.agg #[.bool b, .float .f64 x, .int .i64 n, .string s], .agg #[.bool c, .float .f64 y, .int .i64 m, .string t]] w _
  cases b <;> cases c
  case false.true =>
    go_enter Tryz.func13, Tryz.ntmps13
    go_wp2_with fail
    go_ret
    exact ⟨ret_bool (by simp [sameV]), ((Bl.refl w).alloc _).alloc _⟩
  case true.false =>
    go_enter Tryz.func13, Tryz.ntmps13
    go_wp2_with fail
    go_ret
    exact ⟨ret_bool (by simp [sameV]), ((Bl.refl w).alloc _).alloc _⟩
  all_goals
    go_enter Tryz.func13, Tryz.ntmps13
    go_wp2_with fail
    refine (refSame_any x y _ hx hy).mono ?_
    rintro e w1 ⟨rfl, rfl⟩
    by_cases hf : fkey x = fkey y
    · have HF := Lib.hid hf
      rw [decide_eq_true hf]
      clear hf
      go_wp2_with fail
      all_goals (go_ret; refine ⟨ret_bool ?_, ((Bl.refl w).alloc _).alloc _⟩)
      all_goals (have h1 := HF.out; simp_all [sameV])
    · have HF := Lib.hid hf
      rw [decide_eq_false hf]
      clear hf
      go_wp2_with fail
      all_goals (go_ret; refine ⟨ret_bool ?_, ((Bl.refl w).alloc _).alloc _⟩)
      all_goals (have h1 := HF.out; simp [sameV, h1])
end Go.Proofs.YtfjjnffifnohkaaGreat
end

/- op.Both. By an AI agent. -/
section
namespace Go.Proofs.YtfjjnffifnohkaaGreat
open Go.RowKit

/-- the three boxes of op.Both -/
structure B3 (w W : World) (k : Int) (x : Nat) (n : Int) (s : ByteArray) (l : Int) (y : Nat) (m : Int) (t : ByteArray) : Prop where
  bl : Bl w W
  a : AC W w.heap.size [.int .i64 k, .float .f64 x, .int .i64 n, .string s]
  b : AC W (w.heap.size + 1) [.int .i64 l, .float .f64 y, .int .i64 m, .string t]
  r : AC W (w.heap.size + 1 + 1) [.int .i64 0, .float .f64 0, .int .i64 0, .string ⟨#[]⟩]
theorem B3.keep {w W W' : World} {k : Int} {x : Nat} {n : Int} {s : ByteArray} {l : Int} {y : Nat} {m : Int} {t : ByteArray} (h : B3 w W k x n s l y m t) (hb : Bl W W') : B3 w W' k x n s l y m t :=
  ⟨h.bl.trans hb, h.a.keep hb, h.b.keep hb, h.r.keep hb⟩
theorem B3.new (w : World) (k : Int) (x : Nat) (n : Int) (s : ByteArray) (l : Int) (y : Nat) (m : Int) (t : ByteArray) (T U V : TypeId) :
    B3 w (((w.alloc (.cells #[.int .i64 k, .float .f64 x, .int .i64 n, .string s] T)).alloc (.cells #[.int .i64 l, .float .f64 y, .int .i64 m, .string t] U)).alloc (.cells #[.int .i64 0, .float .f64 0, .int .i64 0, .string ⟨#[]⟩] V)) k x n s l y m t := by
  refine ⟨(((Bl.refl w).alloc _).alloc _).alloc _, ?_, ?_, ?_⟩
  · exact ((AC.new w _ rfl [_, _, _, _] _).keep ((Bl.refl _).alloc _)).keep ((Bl.refl _).alloc _)
  · exact (AC.new _ (w.heap.size + 1) (by simp) [_, _, _, _] _).keep ((Bl.refl _).alloc _)
  · exact AC.new _ (w.heap.size + 1 + 1) (by simp) [_, _, _, _] _

set_option maxHeartbeats 1600000 in
set_option maxRecDepth 100000 in
theorem both_any (key : ByteArray) (a b : ActL) (w : World) (hkey : key.size ≤ 140737488351232) (oa : a.Ok) (ob : b.Ok) :
    Calls Tryz.prog 129 #[.string key, a.v, b.v] w fun e w' => e = .returned (bothL key a b).v ∧ Bl w w' := by
  obtain ⟨k, x, n, s⟩ := a
  obtain ⟨l, y, m, t⟩ := b
  have hsf := store_float
  have OA := Lib.hid oa
  have OB := Lib.hid ob
  clear oa ob
  show Calls Tryz.prog 129 #[.string key, .agg #[.int .i64 k, .float .f64 x, .int .i64 n, .string s], .agg #[.int .i64 l, .float .f64 y, .int .i64 m, .string t]] w _
  cases hr : regB key
  · have HR := Lib.hid hr
    go_enter Tryz.func129, Tryz.ntmps129
    go_wp2_with fail
    refine (registers_any key _ hkey).mono ?_
    rintro e w' ⟨rfl, rfl⟩
    rw [hr]
    clear hr
    go_wp2_with fail
    refine (fits_any key ⟨k, x, n, s⟩ _ hkey OA.out).mono ?_
    rintro e w1 ⟨rfl, hb1⟩
    have G := (B3.new w k x n s l y m t _ _ _).keep hb1
    clear hb1
    obtain ⟨a0, a1, a2, a3⟩ := G.a.act
    obtain ⟨b0, b1, b2, b3⟩ := G.b.act
    obtain ⟨r0, r1, r2, r3⟩ := G.r.act
    have f0 := G.r.frozen 0
    have f1 := G.r.frozen 1
    have f2 := G.r.frozen 2
    have f3 := G.r.frozen 3
    cases hf : fitsB key ⟨k, x, n, s⟩
    · have HF := Lib.hid (show bothL key ⟨k, x, n, s⟩ ⟨l, y, m, t⟩ = ⟨l, y, m, t⟩ by simp [bothL, hf])
      clear hf
      go_wp2_with fail
      rw [HF.out]
      refine bodyPost_ret (v := ActL.v ⟨l, y, m, t⟩) (by simp [results, Tryz.results129, go_sem, ActL.v, r0, r1, r2, r3]) rfl ⟨rfl, ?_⟩
      exact G.bl.store4 (by omega) _ _ _ _
    · have HFA := Lib.hid hf
      clear hf
      go_wp2_with fail
      refine (fits_any key ⟨l, y, m, t⟩ _ hkey OB.out).mono ?_
      rintro e w2 ⟨rfl, hb2⟩
      have G := G.keep hb2
      clear hb2 a0 a1 a2 a3 b0 b1 b2 b3 r0 r1 r2 r3 f0 f1 f2 f3
      obtain ⟨a0, a1, a2, a3⟩ := G.a.act
      obtain ⟨b0, b1, b2, b3⟩ := G.b.act
      obtain ⟨r0, r1, r2, r3⟩ := G.r.act
      have f0 := G.r.frozen 0
      have f1 := G.r.frozen 1
      have f2 := G.r.frozen 2
      have f3 := G.r.frozen 3
      cases hf : fitsB key ⟨l, y, m, t⟩
      · have HF := Lib.hid (show bothL key ⟨k, x, n, s⟩ ⟨l, y, m, t⟩ = ⟨l, y, m, t⟩ by simp [bothL, hf])
        clear hf
        go_wp2_with fail
        rw [HF.out]
        refine bodyPost_ret (v := ActL.v ⟨l, y, m, t⟩) (by simp [results, Tryz.results129, go_sem, ActL.v, r0, r1, r2, r3]) rfl ⟨rfl, ?_⟩
        exact G.bl.store4 (by omega) _ _ _ _
      · have HF := Lib.hid (show bothL key ⟨k, x, n, s⟩ ⟨l, y, m, t⟩ = joined ⟨k, x, n, s⟩ ⟨l, y, m, t⟩ by simp [bothL, hf, HFA.out, HR.out])
        clear hf
        go_wp2_with fail
        refine (joined_any ⟨k, x, n, s⟩ ⟨l, y, m, t⟩ _ OA.out OB.out).mono ?_
        rintro e w3 ⟨rfl, hb3⟩
        have G := G.keep hb3
        clear hb3 a0 a1 a2 a3 b0 b1 b2 b3 r0 r1 r2 r3 f0 f1 f2 f3
        obtain ⟨r0, r1, r2, r3⟩ := G.r.act
        have f0 := G.r.frozen 0
        have f1 := G.r.frozen 1
        have f2 := G.r.frozen 2
        have f3 := G.r.frozen 3
        generalize joined ⟨k, x, n, s⟩ ⟨l, y, m, t⟩ = J at *
        obtain ⟨jk, jx, jn, js⟩ := J
        rw [show ActL.v ⟨jk, jx, jn, js⟩ = .agg #[.int .i64 jk, .float .f64 jx, .int .i64 jn, .string js] from rfl]
        go_wp2_with fail
        rw [HF.out]
        refine bodyPost_ret (v := ActL.v ⟨jk, jx, jn, js⟩) (by simp [results, Tryz.results129, go_sem, ActL.v, r0, r1, r2, r3]) rfl ⟨rfl, ?_⟩
        exact G.bl.store4 (by omega) _ _ _ _
  · have HF := Lib.hid (show bothL key ⟨k, x, n, s⟩ ⟨l, y, m, t⟩ = ⟨l, y, m, t⟩ by simp [bothL, hr])
    go_enter Tryz.func129, Tryz.ntmps129
    go_wp2_with fail
    refine (registers_any key _ hkey).mono ?_
    rintro e w' ⟨rfl, rfl⟩
    rw [hr]
    clear hr
    go_wp2_with fail
    rw [HF.out]
    refine bodyPost_ret (v := ActL.v ⟨l, y, m, t⟩) (by simp [results, Tryz.results129, go_sem, ActL.v]) rfl ⟨rfl, ?_⟩
    exact (((Bl.refl w).alloc _).alloc _).alloc _

end Go.Proofs.YtfjjnffifnohkaaGreat
end
