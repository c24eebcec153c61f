import Derived.Test.YtfjjnffifnohkaaGreatQFoldTellsUptoP5
import Derived.Test.YtfjjnffifnohkaaGreatQFoldTellsUptoP28
import Derived.Test.YtfjjnffifnohkaaGreatQFoldTellsUptoP10
import Derived.Test.YtfjjnffifnohkaaGreatQFoldTellsUptoP11
import Derived.Test.YtfjjnffifnohkaaGreatQRMin
import Derived.Test.YtfjjnffifnohkaaGreatQFoldTellsUptoP6

/- bedrockref5.After. · bedrockref5.Both. By an AI agent. -/
section
namespace Go.Proofs.YtfjjnffifnohkaaGreat
open Go.RowKit

theorem reg_of {key : ByteArray} {a : ActL} (h : fitsB key a = true) (k : a.k = 0 ∨ a.k = 4) : regB key = true := by
  have hk := key_head (fits_key h).1
  simp only [fitsB, Bool.and_eq_true] at h
  have h2 := h.2.2
  unfold regB
  rcases hk with e | e | e | e | e
  · simp [e]
  · simp [e]
  · rw [e] at h2; simp at h2; omega
  · rw [e] at h2; simp at h2; omega
  · rw [e] at h2; simp at h2; omega
theorem not_reg {key : ByteArray} {a : ActL} (h : fitsB key a = true) (k : a.k = 1 ∨ a.k = 2 ∨ a.k = 3) : regB key = false := by
  have hk := key_head (fits_key h).1
  simp only [fitsB, Bool.and_eq_true] at h
  have h2 := h.2.2
  unfold regB
  rcases hk with e | e | e | e | e
  · rw [e] at h2; simp at h2; omega
  · rw [e] at h2; simp at h2; omega
  · simp [e]
  · simp [e]
  · simp [e]
theorem rafter_no {key : ByteArray} {v : ValL} {a : ActL} (h : fitsB key a = false) : afterL key v a = v := by
  unfold afterL; rw [h]; rfl
theorem rafter_clear {key : ByteArray} {v : ValL} {a : ActL} (h : fitsB key a = true) (k : a.k = 4) : afterL key v a = noVal := by
  unfold afterL
  rw [h, reg_of h (.inr k)]
  simp [valOf, k]
theorem rafter_set {key : ByteArray} {v : ValL} {a : ActL} (ok : a.Ok) (h : fitsB key a = true) (k : a.k = 0) : afterL key v a = ⟨true, a.x, 0, a.s⟩ := by
  have hr := right_kind ok (fits_key h).2
  have hn : a.n = 0 := by
    rcases hr with ⟨_, h, _⟩ | ⟨h, _⟩ | ⟨h, _⟩ | ⟨h, _⟩
    · exact h
    · omega
    · omega
    · omega
  unfold afterL
  rw [h, reg_of h (.inl k)]
  simp [valOf, k, hn]
theorem rafter_add {key : ByteArray} {v : ValL} {a : ActL} (ok : a.Ok) (h : fitsB key a = true) (k : a.k = 1) : afterL key v a = ⟨true, 0, if v.there then wrap64 (v.n + a.n) else a.n, nilS⟩ := by
  have hr := right_kind ok (fits_key h).2
  have hx : a.x = 0 ∧ a.s = nilS := by
    rcases hr with ⟨h, _⟩ | ⟨_, h1, h2⟩ | ⟨h, _⟩ | ⟨h, _⟩
    · omega
    · exact ⟨h1, h2⟩
    · omega
    · omega
  unfold afterL
  rw [h, not_reg h (.inl k)]
  cases v.there
  · simp [valOf, k, hx.1, hx.2]
  · simp [valOf, joined, k]
theorem rafter_max {key : ByteArray} {v : ValL} {a : ActL} (ok : a.Ok) (h : fitsB key a = true) (k : a.k = 2) : afterL key v a = ⟨true, if v.there then rmax v.x a.x else a.x, 0, nilS⟩ := by
  have hr := right_kind ok (fits_key h).2
  have hx : a.n = 0 ∧ a.s = nilS := by
    rcases hr with ⟨h, _⟩ | ⟨h, _⟩ | ⟨_, h1, h2⟩ | ⟨h, _⟩
    · omega
    · omega
    · exact ⟨h1, h2⟩
    · omega
  unfold afterL
  rw [h, not_reg h (.inr (.inl k))]
  cases v.there
  · simp [valOf, k, hx.1, hx.2]
  · simp [valOf, joined, k]
theorem rafter_min {key : ByteArray} {v : ValL} {a : ActL} (ok : a.Ok) (h : fitsB key a = true) (k : a.k = 3) : afterL key v a = ⟨true, if v.there then rmin v.x a.x else a.x, 0, nilS⟩ := by
  have hr := right_kind ok (fits_key h).2
  have hx : a.n = 0 ∧ a.s = nilS := by
    rcases hr with ⟨h, _⟩ | ⟨h, _⟩ | ⟨_, h1, h2⟩ | ⟨h, _⟩
    · omega
    · omega
    · exact ⟨h1, h2⟩
    · omega
  unfold afterL
  rw [h, not_reg h (.inr (.inr k))]
  cases v.there
  · simp [valOf, k, hx.1, hx.2]
  · simp [valOf, joined, k]

theorem refFits_agg (key : ByteArray) (k : Int) (x : Nat) (n : Int) (s : ByteArray) (r : Bool) (w : World) (h : Hid (fitsB key ⟨k, x, n, s⟩ = r)) (hkey : key.size ≤ 140737488351232) (oa : Hid (ActL.Ok ⟨k, x, n, s⟩)) :
    Calls Tryz.prog 39 #[.string key, .agg #[.int .i64 k, .float .f64 x, .int .i64 n, .string s]] w fun e w' => e = .returned (.bool r) ∧ Bl w w' := by
  refine (refFits_any key ⟨k, x, n, s⟩ w hkey oa.out).mono ?_
  rintro e w' ⟨rfl, hb⟩
  rw [h.out]
  exact ⟨rfl, hb⟩

set_option maxHeartbeats 3200000 in
set_option maxRecDepth 100000 in
theorem refAfter_any (key : ByteArray) (v : ValL) (a : ActL) (w : World) (hkey : key.size ≤ 140737488351232) (ov : v.Ok) (oa : a.Ok) :
    Calls Tryz.prog 134 #[.string key, v.v, a.v] w fun e w' => e = .returned (afterL key v a).v ∧ Bl w w' := by
  obtain ⟨R, hR⟩ : ∃ R, afterL key v a = R := ⟨_, rfl⟩
  have hsf := store_float
  have OA := Lib.hid oa
  obtain ⟨k, x, n, s⟩ := a
  obtain ⟨vb, vx, vn, vs⟩ := v
  obtain ⟨_, hx, _, _⟩ := oa
  obtain ⟨hvx, _, _⟩ := ov
  simp only at hx hvx
  rw [hR]
  show Calls Tryz.prog 134 #[.string key, .agg #[.bool vb, .float .f64 vx, .int .i64 vn, .string vs], .agg #[.int .i64 k, .float .f64 x, .int .i64 n, .string s]] w _
  cases hf : fitsB key ⟨k, x, n, s⟩
  · rw [rafter_no hf] at hR
    subst hR
    have HF := Lib.hid hf
    clear hf
    go_enter Tryz.func134, Tryz.ntmps134
    go_wp2_with fail
    refine (refFits_agg key k x n s false _ HF hkey OA).mono ?_
    rintro e w1 ⟨rfl, hb1⟩
    have G := (A3.new w vb vx vn vs k x n s _ _ _).keep hb1
    clear hb1
    obtain ⟨v0, v1, v2, v3⟩ := G.v.val
    obtain ⟨r0, r1, r2, r3⟩ := G.r.val
    have f0 := G.r.frozen 0
    have f1 := G.r.frozen 1
    have f2 := G.r.frozen 2
    have f3 := G.r.frozen 3
    go_wp2_with fail
    refine bodyPost_ret (v := ValL.v ⟨vb, vx, vn, vs⟩) (by simp [results, Tryz.results134, go_sem, ValL.v, r0, r1, r2, r3]) rfl ⟨rfl, ?_⟩
    exact G.bl.store4 (by omega) _ _ _ _
  · have hk := right_kind OA.out (fits_key hf).2
    have HF := Lib.hid hf
    have hk2 : k = 0 ∨ k = 1 ∨ k = 2 ∨ k = 3 ∨ k = 4 := by
      rcases hk with ⟨h, _⟩ | ⟨h, _⟩ | ⟨h, _⟩ | ⟨h, _⟩
      · exact .inl h
      · exact .inr (.inl h)
      · rcases h with h | h
        · exact .inr (.inr (.inl h))
        · exact .inr (.inr (.inr (.inl h)))
      · exact .inr (.inr (.inr (.inr h)))
    clear hk
    rcases hk2 with rfl | rfl | rfl | rfl | rfl
    · rw [rafter_set OA.out hf rfl] at hR
      subst hR
      clear hf
      go_enter Tryz.func134, Tryz.ntmps134
      go_wp2_with fail
      refine (refFits_agg key 0 x n s true _ HF hkey OA).mono ?_
      rintro e w1 ⟨rfl, hb1⟩
      have G := (A3.new w vb vx vn vs 0 x n s _ _ _).keep hb1
      clear hb1
      obtain ⟨v0, v1, v2, v3⟩ := G.v.val
      obtain ⟨a0, a1, a2, a3⟩ := G.a.act
      obtain ⟨r0, r1, r2, r3⟩ := G.r.val
      have f0 := G.r.frozen 0
      have f1 := G.r.frozen 1
      have f2 := G.r.frozen 2
      have f3 := G.r.frozen 3
      go_wp2_with fail
      refine bodyPost_ret (v := ValL.v ⟨true, x, 0, s⟩) (by simp [results, Tryz.results134, go_sem, ValL.v, r0, r1, r2, r3]) rfl ⟨rfl, ?_⟩
      exact G.bl.store4 (by omega) _ _ _ _
    · rw [rafter_add OA.out hf rfl] at hR
      subst hR
      clear hf
      cases vb
      all_goals
        go_enter Tryz.func134, Tryz.ntmps134
        go_wp2_with fail
        refine (refFits_agg key 1 x n s true _ HF hkey OA).mono ?_
        rintro e w1 ⟨rfl, hb1⟩
        have G := (A3.new w _ vx vn vs 1 x n s _ _ _).keep hb1
        clear hb1
        obtain ⟨v0, v1, v2, v3⟩ := G.v.val
        obtain ⟨a0, a1, a2, a3⟩ := G.a.act
        obtain ⟨r0, r1, r2, r3⟩ := G.r.val
        have f0 := G.r.frozen 0
        have f1 := G.r.frozen 1
        have f2 := G.r.frozen 2
        have f3 := G.r.frozen 3
        go_wp2_with fail
        refine bodyPost_ret (v := ValL.v ⟨true, 0, _, nilS⟩) (by simp [results, Tryz.results134, go_sem, ValL.v, nilS, r0, r1, r2, r3]; try rfl) rfl ⟨rfl, ?_⟩
        exact G.bl.store4 (by omega) _ _ _ _
    · rw [rafter_max OA.out hf rfl] at hR
      subst hR
      clear hf
      cases vb
      all_goals
        go_enter Tryz.func134, Tryz.ntmps134
        go_wp2_with fail
        refine (refFits_agg key 2 x n s true _ HF hkey OA).mono ?_
        rintro e w1 ⟨rfl, hb1⟩
        have G := (A3.new w _ vx vn vs 2 x n s _ _ _).keep hb1
        clear hb1
        obtain ⟨v0, v1, v2, v3⟩ := G.v.val
        obtain ⟨a0, a1, a2, a3⟩ := G.a.act
        obtain ⟨r0, r1, r2, r3⟩ := G.r.val
        have f0 := G.r.frozen 0
        have f1 := G.r.frozen 1
        have f2 := G.r.frozen 2
        have f3 := G.r.frozen 3
        go_wp2_with (first | (refine (refMax_any vx x _ hvx hx).mono ?_; rintro e w2 ⟨rfl, rfl⟩) | fail)
        refine bodyPost_ret (v := ValL.v ⟨true, _, 0, nilS⟩) (by simp [results, Tryz.results134, go_sem, ValL.v, nilS, r0, r1, r2, r3]; try rfl) rfl ⟨rfl, ?_⟩
        exact G.bl.store4 (by omega) _ _ _ _
    · rw [rafter_min OA.out hf rfl] at hR
      subst hR
      clear hf
      cases vb
      all_goals
        go_enter Tryz.func134, Tryz.ntmps134
        go_wp2_with fail
        refine (refFits_agg key 3 x n s true _ HF hkey OA).mono ?_
        rintro e w1 ⟨rfl, hb1⟩
        have G := (A3.new w _ vx vn vs 3 x n s _ _ _).keep hb1
        clear hb1
        obtain ⟨v0, v1, v2, v3⟩ := G.v.val
        obtain ⟨a0, a1, a2, a3⟩ := G.a.act
        obtain ⟨r0, r1, r2, r3⟩ := G.r.val
        have f0 := G.r.frozen 0
        have f1 := G.r.frozen 1
        have f2 := G.r.frozen 2
        have f3 := G.r.frozen 3
        go_wp2_with (first | (refine (refMin_any vx x _ hvx hx).mono ?_; rintro e w2 ⟨rfl, rfl⟩) | fail)
        refine bodyPost_ret (v := ValL.v ⟨true, _, 0, nilS⟩) (by simp [results, Tryz.results134, go_sem, ValL.v, nilS, r0, r1, r2, r3]; try rfl) rfl ⟨rfl, ?_⟩
        exact G.bl.store4 (by omega) _ _ _ _
    · rw [rafter_clear hf rfl] at hR
      subst hR
      clear hf
      go_enter Tryz.func134, Tryz.ntmps134
      go_wp2_with fail
      refine (refFits_agg key 4 x n s true _ HF hkey OA).mono ?_
      rintro e w1 ⟨rfl, hb1⟩
      have G := (A3.new w vb vx vn vs 4 x n s _ _ _).keep hb1
      clear hb1
      obtain ⟨v0, v1, v2, v3⟩ := G.v.val
      obtain ⟨a0, a1, a2, a3⟩ := G.a.act
      obtain ⟨r0, r1, r2, r3⟩ := G.r.val
      have f0 := G.r.frozen 0
      have f1 := G.r.frozen 1
      have f2 := G.r.frozen 2
      have f3 := G.r.frozen 3
      go_wp2_with fail
      refine bodyPost_ret (v := ValL.v noVal) (by simp [results, Tryz.results134, go_sem, ValL.v, noVal, nilS, r0, r1, r2, r3]) rfl ⟨rfl, ?_⟩
      exact G.bl.store4 (by omega) _ _ _ _
end Go.Proofs.YtfjjnffifnohkaaGreat

namespace Go.Proofs.YtfjjnffifnohkaaGreat
open Go.RowKit
attribute [local go_sem] eOp eOper eUpon

theorem kinds_same {key : ByteArray} {a b : ActL} (ha : fitsB key a = true) (hb : fitsB key b = true) (hr : regB key = false) : a.k = b.k ∧ (a.k = 1 ∨ a.k = 2 ∨ a.k = 3) := by
  have hk := key_head (fits_key ha).1
  simp only [fitsB, Bool.and_eq_true] at ha hb
  have h1 := ha.2.2
  have h2 := hb.2.2
  rcases hk with e | e | e | e | e
  · simp [regB, e] at hr
  · simp [regB, e] at hr
  all_goals
    rw [e] at h1 h2
    simp at h1 h2
    omega
theorem both_plain {key : ByteArray} {a b : ActL} {ub vb : Bool} {ux vx : Nat} {un vn : Int} {uz vz : ByteArray} (oa : a.Ok) (ob : b.Ok) (ha : fitsB key a = true) (hb : fitsB key b = true) (hr : regB key = false)
    (E1 : afterL key ⟨false, 0, 0, nilS⟩ a = ⟨ub, ux, un, uz⟩) (E2 : afterL key ⟨ub, ux, un, uz⟩ b = ⟨vb, vx, vn, vz⟩) : bothL key a b = ⟨a.k, vx, vn, nilS⟩ := by
  obtain ⟨hk, hc⟩ := kinds_same ha hb hr
  have e : bothL key a b = joined a b := by unfold bothL; rw [hr, ha, hb]; rfl
  rw [e]
  rcases hc with h | h | h
  · rw [rafter_add oa ha h] at E1
    rw [rafter_add ob hb (by omega)] at E2
    injection E1 with a1 a2 a3 a4
    subst a1; subst a2; subst a3; subst a4
    injection E2 with a1 a2 a3 a4
    subst a2; subst a3
    simp [joined, h, ← hk]
  · rw [rafter_max oa ha h] at E1
    rw [rafter_max ob hb (by omega)] at E2
    injection E1 with a1 a2 a3 a4
    subst a1; subst a2; subst a3; subst a4
    injection E2 with a1 a2 a3 a4
    subst a2; subst a3
    simp [joined, h, ← hk]
  · rw [rafter_min oa ha h] at E1
    rw [rafter_min ob hb (by omega)] at E2
    injection E1 with a1 a2 a3 a4
    subst a1; subst a2; subst a3; subst a4
    injection E2 with a1 a2 a3 a4
    subst a2; subst a3
    simp [joined, h, ← hk]

theorem refAfter_agg (key : ByteArray) (vb : Bool) (vx : Nat) (vn : Int) (vs : ByteArray) (k : Int) (x : Nat) (n : Int) (s : ByteArray) (rb : Bool) (rx : Nat) (rn : Int) (rs : ByteArray) (w : World)
    (h : Hid (afterL key ⟨vb, vx, vn, vs⟩ ⟨k, x, n, s⟩ = ⟨rb, rx, rn, rs⟩)) (hkey : key.size ≤ 140737488351232) (ov : Hid (ValL.Ok ⟨vb, vx, vn, vs⟩)) (oa : Hid (ActL.Ok ⟨k, x, n, s⟩)) :
    Calls Tryz.prog 134 #[.string key, .agg #[.bool vb, .float .f64 vx, .int .i64 vn, .string vs], .agg #[.int .i64 k, .float .f64 x, .int .i64 n, .string s]] w fun e w' => e = .returned (.agg #[.bool rb, .float .f64 rx, .int .i64 rn, .string rs]) ∧ Bl w w' := by
  refine (refAfter_any key ⟨vb, vx, vn, vs⟩ ⟨k, x, n, s⟩ w hkey ov.out oa.out).mono ?_
  rintro e w' ⟨rfl, hb⟩
  rw [h.out]
  exact ⟨rfl, hb⟩

set_option maxHeartbeats 1600000 in
set_option maxRecDepth 100000 in
theorem refBoth_second (key : ByteArray) (k : Int) (x : Nat) (n : Int) (s : ByteArray) (l : Int) (y : Nat) (m : Int) (t : ByteArray) (w : World) (hkey : key.size ≤ 140737488351232) (OA : Hid (ActL.Ok ⟨k, x, n, s⟩)) (OB : Hid (ActL.Ok ⟨l, y, m, t⟩))
    (fa fb : Bool) (FA : Hid (fitsB key ⟨k, x, n, s⟩ = fa)) (FB : Hid (fitsB key ⟨l, y, m, t⟩ = fb)) (h : fa = false ∨ (fa = true ∧ fb = false)) :
    Calls Tryz.prog 45 #[.string key, .agg #[.int .i64 k, .float .f64 x, .int .i64 n, .string s], .agg #[.int .i64 l, .float .f64 y, .int .i64 m, .string t]] w fun e w' => e = .returned (ActL.v ⟨l, y, m, t⟩) ∧ Bl w w' := by
  have hsf := store_float
  rcases h with rfl | ⟨rfl, rfl⟩
  · go_enter Tryz.func45, Tryz.ntmps45
    go_wp2_with fail
    refine (refFits_agg key k x n s false _ FA hkey OA).mono ?_
    rintro e w1 ⟨rfl, hb1⟩
    have G := (B3.new w k x n s l y m t _ _ _).keep hb1
    clear hb1
    obtain ⟨b0, b1, b2, b3⟩ := G.b.act
    obtain ⟨r0, r1, r2, r3⟩ := G.r.act
    have f0 := G.r.frozen 0
    have f1 := G.r.frozen 1
    have f2 := G.r.frozen 2
    have f3 := G.r.frozen 3
    go_wp2_with fail
    refine bodyPost_ret (v := ActL.v ⟨l, y, m, t⟩) (by simp [results, Tryz.results45, go_sem, ActL.v, r0, r1, r2, r3]) rfl ⟨rfl, ?_⟩
    exact G.bl.store4 (by omega) _ _ _ _
  · go_enter Tryz.func45, Tryz.ntmps45
    go_wp2_with fail
    refine (refFits_agg key k x n s true _ FA hkey OA).mono ?_
    rintro e w1 ⟨rfl, hb1⟩
    have G := (B3.new w k x n s l y m t _ _ _).keep hb1
    clear hb1
    obtain ⟨b0, b1, b2, b3⟩ := G.b.act
    go_wp2_with fail
    refine (refFits_agg key l y m t false _ FB hkey OB).mono ?_
    rintro e w2 ⟨rfl, hb2⟩
    have G := G.keep hb2
    clear hb2 b0 b1 b2 b3
    obtain ⟨b0, b1, b2, b3⟩ := G.b.act
    obtain ⟨r0, r1, r2, r3⟩ := G.r.act
    have f0 := G.r.frozen 0
    have f1 := G.r.frozen 1
    have f2 := G.r.frozen 2
    have f3 := G.r.frozen 3
    go_wp2_with fail
    refine bodyPost_ret (v := ActL.v ⟨l, y, m, t⟩) (by simp [results, Tryz.results45, go_sem, ActL.v, r0, r1, r2, r3]) rfl ⟨rfl, ?_⟩
    exact G.bl.store4 (by omega) _ _ _ _
set_option maxHeartbeats 1600000 in
set_option maxRecDepth 100000 in
theorem refBoth_reg (key : ByteArray) (k : Int) (x : Nat) (n : Int) (s : ByteArray) (l : Int) (y : Nat) (m : Int) (t : ByteArray) (w : World) (hkey : key.size ≤ 140737488351232) (OA : Hid (ActL.Ok ⟨k, x, n, s⟩)) (OB : Hid (ActL.Ok ⟨l, y, m, t⟩))
    (FA : Hid (fitsB key ⟨k, x, n, s⟩ = true)) (FB : Hid (fitsB key ⟨l, y, m, t⟩ = true)) (hp : 0 < key.size) (h : ((key[0].toNat : Int) == 114) = true ∨ (((key[0].toNat : Int) == 114) = false ∧ ((key[0].toNat : Int) == 116) = true)) :
    Calls Tryz.prog 45 #[.string key, .agg #[.int .i64 k, .float .f64 x, .int .i64 n, .string s], .agg #[.int .i64 l, .float .f64 y, .int .i64 m, .string t]] w fun e w' => e = .returned (ActL.v ⟨l, y, m, t⟩) ∧ Bl w w' := by
  have hsf := store_float
  rcases h with q1 | ⟨q1, q2⟩
  all_goals
    go_enter Tryz.func45, Tryz.ntmps45
    go_wp2_with fail
    refine (refFits_agg key k x n s true _ FA hkey OA).mono ?_
    rintro e w1 ⟨rfl, hb1⟩
    have G := (B3.new w k x n s l y m t _ _ _).keep hb1
    clear hb1
    obtain ⟨b0, b1, b2, b3⟩ := G.b.act
    go_wp2_with fail
    refine (refFits_agg key l y m t true _ FB hkey OB).mono ?_
    rintro e w2 ⟨rfl, hb2⟩
    have G := G.keep hb2
    clear hb2 b0 b1 b2 b3
    obtain ⟨b0, b1, b2, b3⟩ := G.b.act
    obtain ⟨r0, r1, r2, r3⟩ := G.r.act
    have f0 := G.r.frozen 0
    have f1 := G.r.frozen 1
    have f2 := G.r.frozen 2
    have f3 := G.r.frozen 3
    go_wp2_with fail
    refine bodyPost_ret (v := ActL.v ⟨l, y, m, t⟩) (by simp [results, Tryz.results45, go_sem, ActL.v, r0, r1, r2, r3]) rfl ⟨rfl, ?_⟩
    exact G.bl.store4 (by omega) _ _ _ _
set_option maxHeartbeats 1600000 in
set_option maxRecDepth 100000 in
theorem refBoth_add (key : ByteArray) (k : Int) (x : Nat) (n : Int) (s : ByteArray) (l : Int) (y : Nat) (m : Int) (t : ByteArray) (ub : Bool) (ux : Nat) (un : Int) (uz : ByteArray) (vb : Bool) (vx : Nat) (vn : Int) (vz : ByteArray) (w : World) (hkey : key.size ≤ 140737488351232) (OA : Hid (ActL.Ok ⟨k, x, n, s⟩)) (OB : Hid (ActL.Ok ⟨l, y, m, t⟩))
    (FA : Hid (fitsB key ⟨k, x, n, s⟩ = true)) (FB : Hid (fitsB key ⟨l, y, m, t⟩ = true)) (hp : 0 < key.size) (q1 : ((key[0].toNat : Int) == 114) = false) (q2 : ((key[0].toNat : Int) == 116) = false)
    (On : Hid (ValL.Ok ⟨false, 0, 0, nilS⟩)) (Ou : Hid (ValL.Ok ⟨ub, ux, un, uz⟩))
    (E1 : Hid (afterL key ⟨false, 0, 0, nilS⟩ ⟨k, x, n, s⟩ = ⟨ub, ux, un, uz⟩)) (E2 : Hid (afterL key ⟨ub, ux, un, uz⟩ ⟨l, y, m, t⟩ = ⟨vb, vx, vn, vz⟩)) :
    Calls Tryz.prog 45 #[.string key, .agg #[.int .i64 k, .float .f64 x, .int .i64 n, .string s], .agg #[.int .i64 l, .float .f64 y, .int .i64 m, .string t]] w fun e w' => e = .returned (ActL.v ⟨k, vx, vn, nilS⟩) ∧ Bl w w' := by
  have hsf := store_float
  go_enter Tryz.func45, Tryz.ntmps45
  go_wp2_with fail
  refine (refFits_agg key k x n s true _ FA hkey OA).mono ?_
  rintro e w1 ⟨rfl, hb1⟩
  have G := (B3.new w k x n s l y m t _ _ _).keep hb1
  clear hb1
  obtain ⟨b0, b1, b2, b3⟩ := G.b.act
  go_wp2_with fail
  refine (refFits_agg key l y m t true _ FB hkey OB).mono ?_
  rintro e w2 ⟨rfl, hb2⟩
  have G := G.keep hb2
  clear hb2 b0 b1 b2 b3
  go_upto_region 3 with fail
  refine wp_region_ext 7 2 (by kernel_rfl) rfl (by kernel_rfl) (by kernel_rfl) ?_
  have G1 := G.keep ((Bl.refl w2).drew)
  clear G
  generalize w2.drew = W at *
  obtain ⟨a0, a1, a2, a3⟩ : (∀ n : Ext W, _) ∧ (∀ n : Ext W, _) ∧ (∀ n : Ext W, _) ∧ (∀ n : Ext W, _) := ⟨fun n => (G1.keep n.bl).a.act.1, fun n => (G1.keep n.bl).a.act.2.1, fun n => (G1.keep n.bl).a.act.2.2.1, fun n => (G1.keep n.bl).a.act.2.2.2⟩
  obtain ⟨b0, b1, b2, b3⟩ : (∀ n : Ext W, _) ∧ (∀ n : Ext W, _) ∧ (∀ n : Ext W, _) ∧ (∀ n : Ext W, _) := ⟨fun n => (G1.keep n.bl).b.act.1, fun n => (G1.keep n.bl).b.act.2.1, fun n => (G1.keep n.bl).b.act.2.2.1, fun n => (G1.keep n.bl).b.act.2.2.2⟩
  simp only [List.take_succ_cons, List.take_zero]
  repeat (refine wpE_step (fun K hK => ?_); go_simp; first | (refine hK _ ?_; clear hK K) | (apply Exists.intro; refine ⟨fun n => ?_, hK _ ?_⟩; (first | with_reducible exact refAfter_agg _ _ _ _ _ _ _ _ _ _ _ _ _ _ E2 hkey Ou OB | exact refAfter_agg _ _ _ _ _ _ _ _ _ _ _ _ _ _ E1 hkey On OA); clear hK K))
  refine wpE_nil ?_
  clear a0 a1 a2 a3 b0 b1 b2 b3
  refine wpAnyE_one (i := 7) (by kernel_rfl) ?_
  intro W1 hb1
  go_simp
  obtain ⟨g, hg⟩ : ∃ g, g = W1.heap.size := ⟨_, rfl⟩
  rw [← hg]
  have hzg : W.heap.size ≤ g := by rw [hg]; exact hb1.size
  have cg := AC.new W1 g hg [.bool false, .float .f64 0, .int .i64 0, .string ⟨#[]⟩] 51
  replace hb1 := hb1.alloc (.cells #[.bool false, .float .f64 0, .int .i64 0, .string ⟨#[]⟩] 51)
  clear hg
  refine ⟨hb1, ?_⟩
  generalize W1.alloc (.cells #[.bool false, .float .f64 0, .int .i64 0, .string ⟨#[]⟩] 51) = X1 at *
  refine wpAnyE_one (i := 8) (by kernel_rfl) ?_
  intro W2 hbn
  replace cg := cg.keep hbn
  replace hb1 := hb1.trans hbn
  clear hbn
  obtain ⟨g0, g1, g2, g3⟩ := cg.val
  have f0 := cg.frozen 0
  have f1 := cg.frozen 1
  have f2 := cg.frozen 2
  have f3 := cg.frozen 3
  go_simp
  clear g0 g1 g2 g3 f0 f1 f2 f3
  replace hb1 := hb1.store4 hzg (.bool vb) (.float .f64 vx) (.int .i64 vn) (.string vz)
  replace cg := cg.set4 (.bool vb) (.float .f64 vx) (.int .i64 vn) (.string vz)
  refine ⟨hb1, ?_⟩
  generalize ((((W2.setCell ⟨g, 0, none⟩ (.bool vb)).setCell ⟨g, 1, none⟩ (.float .f64 vx)).setCell ⟨g, 2, none⟩ (.int .i64 vn)).setCell ⟨g, 3, none⟩ (.string vz)) = X2 at *
  refine wpAnyE_done (by kernel_rfl) ?_
  intro WE hbn
  replace cg := cg.keep hbn
  replace hb1 := hb1.trans hbn
  clear hbn
  have G2 := G1.keep hb1
  obtain ⟨a0, a1, a2, a3⟩ := G2.a.act
  obtain ⟨r0, r1, r2, r3⟩ := G2.r.act
  obtain ⟨g0, g1, g2, g3⟩ := cg.val
  have f0 := G2.r.frozen 0
  have f1 := G2.r.frozen 1
  have f2 := G2.r.frozen 2
  have f3 := G2.r.frozen 3
  go_wp2_with fail
  refine bodyPost_ret (v := ActL.v ⟨k, vx, vn, nilS⟩) (by simp [results, Tryz.results45, go_sem, ActL.v, nilS, r0, r1, r2, r3]) rfl ⟨rfl, ?_⟩
  exact G2.bl.store4 (by omega) _ _ _ _
/-- bedrockref5.Both is op.Both -/
theorem refBoth_any (key : ByteArray) (a b : ActL) (w : World) (hkey : key.size ≤ 140737488351232) (oa : a.Ok) (ob : b.Ok) :
    Calls Tryz.prog 45 #[.string key, a.v, b.v] w fun e w' => e = .returned (bothL key a b).v ∧ Bl w w' := by
  cases ha : fitsB key a
  · have e : bothL key a b = b := by unfold bothL; rw [ha]; simp
    rw [e]
    exact refBoth_second key a.k a.x a.n a.s b.k b.x b.n b.s w hkey (Lib.hid oa) (Lib.hid ob) _ _ (Lib.hid ha) (Lib.hid rfl) (.inl rfl)
  · cases hb : fitsB key b
    · have e : bothL key a b = b := by unfold bothL; rw [hb]; simp
      rw [e]
      exact refBoth_second key a.k a.x a.n a.s b.k b.x b.n b.s w hkey (Lib.hid oa) (Lib.hid ob) _ _ (Lib.hid ha) (Lib.hid hb) (.inr ⟨rfl, rfl⟩)
    · have hp := key_pos (fits_key ha).1
      have HH := hd_get hp
      cases hr : regB key
      · have h2 : hd key ≠ 114 ∧ hd key ≠ 116 := by simpa [regB] using hr
        obtain ⟨⟨ub, ux, un, uz⟩, hu⟩ : ∃ u, afterL key ⟨false, 0, 0, nilS⟩ a = u := ⟨_, rfl⟩
        obtain ⟨⟨vb, vx, vn, vz⟩, hv⟩ : ∃ v, afterL key ⟨ub, ux, un, uz⟩ b = v := ⟨_, rfl⟩
        have ou : ValL.Ok ⟨ub, ux, un, uz⟩ := by rw [← hu]; exact after_ok noVal_ok oa
        rw [both_plain oa ob ha hb hr hu hv]
        exact refBoth_add key a.k a.x a.n a.s b.k b.x b.n b.s ub ux un uz vb vx vn vz w hkey (Lib.hid oa) (Lib.hid ob) (Lib.hid ha) (Lib.hid hb) hp (by rw [HH]; simp; omega) (by rw [HH]; simp; omega) (Lib.hid noVal_ok) (Lib.hid ou) (Lib.hid hu) (Lib.hid hv)
      · have e : bothL key a b = b := by unfold bothL; rw [hr]; simp
        rw [e]
        refine refBoth_reg key a.k a.x a.n a.s b.k b.x b.n b.s w hkey (Lib.hid oa) (Lib.hid ob) (Lib.hid ha) (Lib.hid hb) hp ?_
        have h2 : hd key = 114 ∨ hd key = 116 := by simpa [regB] using hr
        rw [HH]
        rcases h2 with h | h <;> rw [h] <;> simp
theorem refBoth_agg (key : ByteArray) (k : Int) (x : Nat) (n : Int) (s : ByteArray) (l : Int) (y : Nat) (m : Int) (t : ByteArray) (rk : Int) (rx : Nat) (rn : Int) (rs : ByteArray) (w : World)
    (h : Hid (bothL key ⟨k, x, n, s⟩ ⟨l, y, m, t⟩ = ⟨rk, rx, rn, rs⟩)) (hkey : key.size ≤ 140737488351232) (oa : Hid (ActL.Ok ⟨k, x, n, s⟩)) (ob : Hid (ActL.Ok ⟨l, y, m, t⟩)) :
    Calls Tryz.prog 45 #[.string key, .agg #[.int .i64 k, .float .f64 x, .int .i64 n, .string s], .agg #[.int .i64 l, .float .f64 y, .int .i64 m, .string t]] w fun e w' => e = .returned (.agg #[.int .i64 rk, .float .f64 rx, .int .i64 rn, .string rs]) ∧ Bl w w' := by
  refine (refBoth_any key ⟨k, x, n, s⟩ ⟨l, y, m, t⟩ w hkey oa.out ob.out).mono ?_
  rintro e w' ⟨rfl, hb⟩
  rw [h.out]
  exact ⟨rfl, hb⟩
end Go.Proofs.YtfjjnffifnohkaaGreat
end

/- Regions that draw their order, where the class of worlds holds until a given operation is listed: stores may stand at the end. By an AI agent. -/
section
namespace Go.Proofs.YtfjjnffifnohkaaGreat
open Go.RowKit
section
variable {P : Program} {ops : Array Oper} {md : Region.Mode} {C : World → Prop}
/-- as wpAnyE, but the class is asked for only while operation k is not listed -/
def wpAnyK (P : Program) (md : Region.Mode) (ops : Array Oper) (k : Nat) (C : World → Prop) (Q : Act → World → Prop) : Nat → Array Bool → Act → World → Prop
  | 0, listed, a, w => Region.ready md ops listed = [] ∧ ∀ w', Bl w w' → Q a w'
  | fuel + 1, listed, a, w =>
    (Region.ready md ops listed = [] → ∀ w', Bl w w' → Q a w') ∧
    ∀ i ∈ Region.ready md ops listed, ∀ w', Bl w w' → eOp P ops i (fun a'' w'' => ((listed.setIfInBounds i true).getD k false = false → C w'') ∧ wpAnyK P md ops k C Q fuel (listed.setIfInBounds i true) a'' w'') a w'
theorem wpAnyK_ext {k : Nat} {Q : Act → World → Prop} : ∀ {fuel : Nat} {listed : Array Bool} {a : Act} {w w' : World}, Bl w w' → wpAnyK P md ops k C Q fuel listed a w → wpAnyK P md ops k C Q fuel listed a w'
  | 0, _, _, _, _, hb, h => ⟨h.1, fun w'' h2 => h.2 w'' (hb.trans h2)⟩
  | _ + 1, _, _, _, _, hb, h => ⟨fun h0 w'' h2 => h.1 h0 w'' (hb.trans h2), fun i hi w'' h2 => h.2 i hi w'' (hb.trans h2)⟩
theorem wpAny_of_K {k : Nat} {Q : Act → World → Prop} {Q' : Exit → Act → World → Prop} (hQ : ∀ a w, Q a w → Q' .normal a w) : ∀ (fuel : Nat) (listed : Array Bool) (a : Act) (w : World),
    wpAnyK P md ops k C Q fuel listed a w → wpAny P md ops Q' fuel listed a w
  | 0, _, _, _, h => ⟨h.1, hQ _ _ (h.2 _ (Bl.refl _))⟩
  | fuel + 1, _, _, _, h => ⟨fun h0 => hQ _ _ (h.1 h0 _ (Bl.refl _)), fun i hi => wpOp_mono (fun _ _ j => wpAny_of_K hQ fuel _ _ _ j.2) (wpOp_of_eOp (h.2 i hi _ (Bl.refl _)))⟩
theorem wpAnyE_subK {C C' : World → Prop} (h : ∀ w, C' w → C w) {Q : Act → World → Prop} : ∀ {fuel : Nat} {listed : Array Bool} {a : Act} {w : World}, wpAnyE P md ops C' Q fuel listed a w → wpAnyE P md ops C Q fuel listed a w
  | 0, _, _, _, hh => hh
  | _ + 1, _, _, _, hh => ⟨hh.1, fun i hi w' hb => eOp_mono (fun _ _ k => ⟨h _ k.1, wpAnyE_subK h k.2⟩) (hh.2 i hi w' hb)⟩
/-- what is listed has what it waits for listed -/
def Down (md : Region.Mode) (ops : Array Oper) (listed : Array Bool) : Prop := ∀ j oj, ops[j]? = some oj → listed.getD j false = true → ∀ e ∈ oj.after, Region.binds md e = true → listed.getD e.on false = true
theorem Down.none (n : Nat) : Down md ops (Array.replicate n false) := fun j oj _ h => by
  rw [Array.getD_eq_getD_getElem?, Array.getElem?_replicate] at h
  split at h <;> cases h
theorem Down.set {listed : Array Bool} (h : Down md ops listed) {i : Nat} (hi : i ∈ Region.ready md ops listed) : Down md ops (listed.setIfInBounds i true) := fun j oj hj hl e he hb => by
  by_cases hij : i = j
  · subst hij
    obtain ⟨_, o, ho, hall⟩ := mem_ready.1 hi
    rw [hj] at ho; cases ho
    exact getD_set_true (hall e he hb)
  · rw [getD_set_ne false hij] at hl
    exact getD_set_true (h j oj hj hl e he hb)
def leadsB (md : Region.Mode) (ops : Array Oper) (k : Nat) : Nat → Nat → Bool
  | 0, i => i == k
  | f + 1, i => i == k || (List.range ops.size).any fun j => (match ops[j]? with | some o => o.after.any (fun e => Region.binds md e && e.on == i) | none => false) && leadsB md ops k f j
theorem leads_spec {k : Nat} {listed : Array Bool} (hd : Down md ops listed) (hk : listed.getD k false = true) : ∀ (f i : Nat), leadsB md ops k f i = true → listed.getD i false = true
  | 0, i, h => by
    have : i = k := by simpa [leadsB] using h
    rw [this]; exact hk
  | f + 1, i, h => by
    unfold leadsB at h
    rcases Bool.or_eq_true _ _ ▸ h with h | h
    · have : i = k := by simpa using h
      rw [this]; exact hk
    · rw [List.any_eq_true] at h
      obtain ⟨j, _, h⟩ := h
      rw [Bool.and_eq_true] at h
      obtain ⟨h1, h2⟩ := h
      have hj := leads_spec hd hk f j h2
      cases ho : ops[j]? with
      | none => rw [ho] at h1; cases h1
      | some o =>
        rw [ho] at h1
        obtain ⟨e, he, h3⟩ := Array.any_eq_true'.1 h1
        rw [Bool.and_eq_true] at h3
        have : e.on = i := by simpa using h3.2
        rw [← this]
        exact hd j o ho hj e he h3.1
theorem not_false_of {listed : Array Bool} {i : Nat} (h : listed.getD i true = false) : listed.getD i false = false := by
  rw [Array.getD_eq_getD_getElem?] at h ⊢
  cases hi : listed[i]? with
  | none => rw [hi] at h; cases h
  | some b => rw [hi] at h; simpa using h
theorem wpAnyK_first (hcl : ∀ w w', C w → Bl w w' → C w') {Q : Act → World → Prop} {i k f : Nat} {oi : Oper} {v : Value} (hi : ops[i]? = some oi) (hsel : ∀ (j : Nat) (o : Oper) cs b, ops[j]? = some o → o.op ≠ .select cs b) (hik : i ≠ k) (hle : leadsB md ops k f i = true) :
    ∀ (fuel : Nat) (listed : Array Bool) (a : Act) (w : World), Down md ops listed → C w →
      (∀ j oj, ops[j]? = some oj → j ≠ i → listed.getD j true = false → (∀ e ∈ oj.after, Region.binds md e = true → e.on ≠ i) → oi.apart ops oj = true) →
      i ∈ Region.ready md ops listed → YE P ops C oi v a →
      wpAnyK P md ops k C Q fuel (listed.setIfInBounds i true) (a.put oi.dst v) w → wpAnyK P md ops k C Q (fuel + 1) listed a w := by
  intro fuel
  induction fuel with
  | zero =>
    intro listed a w hd hb _ hr hy H
    refine ⟨fun h => (by rw [h] at hr; cases hr), fun j hj w' hb' => ?_⟩
    by_cases hji : j = i
    · subst hji; exact hy.eOp hi (hcl _ _ hb hb') fun w'' hb'' => ⟨fun _ => hcl _ _ hb (hb'.trans hb''), wpAnyK_ext (hb'.trans hb'') H⟩
    · have := ready_mono hj hji
      rw [H.1] at this
      cases this
  | succ fuel ih =>
    intro listed a w hd hb hfree hr hy H
    refine ⟨fun h => (by rw [h] at hr; cases hr), fun j hj w' hb' => ?_⟩
    by_cases hji : j = i
    · subst hji; exact hy.eOp hi (hcl _ _ hb hb') fun w'' hb'' => ⟨fun _ => hcl _ _ hb (hb'.trans hb''), wpAnyK_ext (hb'.trans hb'') H⟩
    · have h1 := H.2 j (ready_mono hj hji) w' hb'
      obtain ⟨hjun, oj, hoj, hall⟩ := mem_ready.1 hj
      have hnot : ∀ e ∈ oj.after, Region.binds md e = true → e.on ≠ i := fun e he hb heq => by
        have h1 := hall e he hb
        have h0 := not_false_of (mem_ready.1 hr).1
        rw [heq, h0] at h1
        cases h1
      have h2 := eOp_put hoj (hfree j oj hoj hji hjun hnot) (fun cs b => hsel i oi cs b hi) (fun cs b => hsel j oj cs b hoj) hy h1
      have hfree' : ∀ q oq, ops[q]? = some oq → q ≠ i → (listed.setIfInBounds j true).getD q true = false →
          (∀ e ∈ oq.after, Region.binds md e = true → e.on ≠ i) → oi.apart ops oq = true := fun q oq hq hqi hun hno => by
        refine hfree q oq hq hqi ?_ hno
        by_cases hjq : j = q
        · subst hjq; exact hjun
        · rw [getD_set_ne true hjq] at hun; exact hun
      have hd' := hd.set hj
      have hk : ((listed.setIfInBounds i true).setIfInBounds j true).getD k false = false := by
        rw [Array.setIfInBounds_comm _ _ (Ne.symm hji), getD_set_ne false hik]
        cases hkk : (listed.setIfInBounds j true).getD k false with
        | false => rfl
        | true =>
          have h3 := leads_spec hd' hkk f i hle
          rw [getD_set_ne false hji, not_false_of (mem_ready.1 hr).1] at h3
          cases h3
      refine eOp_mono (fun a' w'' h3 => ⟨fun _ => h3.2.1 hk, ih (listed.setIfInBounds j true) a' w'' hd' (h3.2.1 hk) hfree' (ready_mono hr (Ne.symm hji)) h3.1 ?_⟩) h2
      rw [Array.setIfInBounds_comm _ _ hji]
      exact h3.2.2
theorem wpAnyK_all {k : Nat} {Q : Act → World → Prop} {rs : List Nat} {fuel : Nat} {listed : Array Bool} {a : Act} {w : World} (hr : Region.ready md ops listed = rs) (hne : rs ≠ [])
    (h : ∀ i ∈ rs, ∀ w', Bl w w' → eOp P ops i (fun a'' w'' => ((listed.setIfInBounds i true).getD k false = false → C w'') ∧ wpAnyK P md ops k C Q fuel (listed.setIfInBounds i true) a'' w'') a w') : wpAnyK P md ops k C Q (fuel + 1) listed a w :=
  ⟨fun h0 => absurd (hr.symm.trans h0) hne, fun i hi => h i (hr ▸ hi)⟩
/-- one operation, the class kept -/
theorem wpAnyK_one {k : Nat} {Q : Act → World → Prop} {i fuel : Nat} {listed : Array Bool} {a : Act} {w : World} (hr : Region.ready md ops listed = [i])
    (h : ∀ w', Bl w w' → eOp P ops i (fun a'' w'' => C w'' ∧ wpAnyK P md ops k C Q fuel (listed.setIfInBounds i true) a'' w'') a w') : wpAnyK P md ops k C Q (fuel + 1) listed a w :=
  wpAnyK_all hr (by simp) fun j hj w' hb => by
    rw [List.mem_singleton] at hj; subst hj; exact eOp_mono (fun _ _ h => ⟨fun _ => h.1, h.2⟩) (h w' hb)
/-- operation k is listed: no class any more -/
theorem wpAnyK_late {k : Nat} {Q : Act → World → Prop} : ∀ {fuel : Nat} {listed : Array Bool} {a : Act} {w : World}, listed.getD k false = true → wpAnyE P md ops (fun _ => True) Q fuel listed a w → wpAnyK P md ops k C Q fuel listed a w
  | 0, _, _, _, _, h => h
  | _ + 1, _, _, _, hk, h => ⟨h.1, fun i hi w' hb => eOp_mono (fun _ _ h3 => ⟨fun h4 => (by rw [getD_set_true hk] at h4; cases h4), wpAnyK_late (getD_set_true hk) h3.2⟩) (h.2 i hi w' hb)⟩
/-- operation k itself -/
theorem wpAnyK_turn {k : Nat} {Q : Act → World → Prop} {fuel : Nat} {listed : Array Bool} {a : Act} {w : World} (hr : Region.ready md ops listed = [k]) (hlt : k < listed.size)
    (h : ∀ w', Bl w w' → eOp P ops k (fun a'' w'' => wpAnyE P md ops (fun _ => True) Q fuel (listed.setIfInBounds k true) a'' w'') a w') : wpAnyK P md ops k C Q (fuel + 1) listed a w :=
  wpAnyK_all hr (by simp) fun j hj w' hb => by
    rw [List.mem_singleton] at hj; subst hj
    have hl : (listed.setIfInBounds j true).getD j false = true := by simp [hlt]
    exact eOp_mono (fun _ _ h => ⟨fun h4 => (by rw [hl] at h4; cases h4), wpAnyK_late hl h⟩) (h w' hb)
def preK (md : Region.Mode) (ops : Array Oper) (k f : Nat) (is : List Nat) : Bool := is.all fun i => i != k && leadsB md ops k f i
theorem wpAnyK_idx (hcl : ∀ w w', C w → Bl w w' → C w') {Q : Act → World → Prop} (hs : Region.noSelect ops = true) (k f m : Nat) (w : World) (hw : C w) : ∀ (is : List Nat) (listed : Array Bool) (a : Act), Down md ops listed →
    preB md ops is listed = true → preK md ops k f is = true → wpI P ops C (fun a' => wpAnyK P md ops k C Q m (setAll is listed) a' w) is a → wpAnyK P md ops k C Q (is.length + m) listed a w
  | [], _, _, _, _, _, h => by rw [List.length_nil, Nat.zero_add]; exact h
  | i :: is, listed, a, hd, hB, hK, h => by
    simp only [preB, Bool.and_eq_true] at hB
    obtain ⟨⟨hr, hf⟩, hB'⟩ := hB
    simp only [preK, List.all_cons, Bool.and_eq_true, bne_iff_ne] at hK
    obtain ⟨⟨hik, hle⟩, hK'⟩ := hK
    obtain ⟨o, h0, h⟩ := h
    rw [List.length_cons, show is.length + 1 + m = (is.length + m) + 1 by omega]
    have hr' : i ∈ Region.ready md ops listed := by simpa using hr
    have key : ∀ v, YE P ops C o v a → wpI P ops C (fun a' => wpAnyK P md ops k C Q m (setAll (i :: is) listed) a' w) is (a.put o.dst v) → wpAnyK P md ops k C Q (is.length + m + 1) listed a w := fun v hy hK =>
      wpAnyK_first hcl h0 (Region.noSelect_spec hs) hik hle (is.length + m) listed a w hd hw (Region.free_spec h0 hf) hr' hy
        (wpAnyK_idx hcl hs k f m w hw is _ _ (hd.set hr') hB' hK' hK)
    split at h
    · rename_i hw
      obtain ⟨v, hv, hK⟩ := h
      exact key v (.inl ⟨hw, fun w hb => hv ⟨w, hb⟩⟩) hK
    · rename_i hw
      exact key undef (.inr ⟨by simpa using hw, rfl⟩) h
/-- a region of which the named operations only tell or call and may be taken first; the class holds until operation k -/
theorem wp_region_idxK {id : Nat} {Q : Exit → Act → World → Prop} {a : Act} {w : World} {l : List Oper} (is : List Nat) (k f m : Nat) (C : World → Prop) (hcl : ∀ w w', C w → Bl w w' → C w') (hw : C w.drew) (hm : P.follows .mixedOrders = true) (hn : l.length = is.length + m)
    (hs : Region.noSelect l.toArray = true) (hB : preB .any l.toArray is (Array.replicate l.length false) = true) (hK : preK .any l.toArray k f is = true)
    (h : wpI P l.toArray C (fun a' => wpAnyK P .any l.toArray k C (fun a w => Q .normal a w) m (setAll is (Array.replicate l.length false)) a' w.drew) is a) :
    (Code.region id l.toArray true).wp P Q a w := by
  refine wp_region_any hm (wpAny_of_K (k := k) (C := C) (Q := fun a w => Q .normal a w) (fun _ _ h => h) _ _ _ _ ?_)
  have hk := wpAnyK_idx (md := .any) hcl (Q := fun a w => Q .normal a w) hs k f m w.drew hw is (Array.replicate l.length false) a (Down.none _) hB hK h
  have e : is.length + m = l.toArray.size := by simp; omega
  rw [e] at hk
  simpa using hk
end
end Go.Proofs.YtfjjnffifnohkaaGreat
end
