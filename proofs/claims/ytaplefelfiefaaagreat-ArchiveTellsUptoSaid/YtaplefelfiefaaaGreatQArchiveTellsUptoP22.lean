import Derived.Test.YtaplefelfiefaaaGreatQArchiveTellsUptoP19
import Derived.Test.YtaplefelfiefaaaGreatQArchiveTellsUptoP20
import Derived.Test.YtaplefelfiefaaaGreatQArchiveTellsUptoP7
import Derived.Test.YtaplefelfiefaaaGreatQArchiveTellsUptoP12
import Derived.Test.YtaplefelfiefaaaGreatQArchiveTellsUptoP2

/- bedrockref2.Max. By an AI agent. -/
section
set_option linter.unusedVariables false
namespace Go.Proofs.YtaplefelfiefaaaGreat
open Go.RowKit

theorem refMax_any (x y : Nat) (w : World) (hx : x < two64) (hy : y < two64) : Calls Tryz.prog 124 #[.float .f64 x, .float .f64 y] w fun e w' => e = .returned (.float .f64 (rmax x y)) ∧ w = w' := by
  by_cases h : cmpN (fkey x) (fkey y) < 0
  · have HR := Lib.hid (show rmax x y = y from if_pos h)
    go_enter Tryz.func124, Tryz.ntmps124
    go_wp2_with fail
    refine (refCompare_any x y _ hx hy).mono ?_
    rintro e w1 ⟨rfl, rfl⟩
    go_wp2_with fail
    go_ret
    exact ⟨congrArg (fun b => Ending.returned (.float .f64 b)) HR.out.symm, rfl⟩
  · have HR := Lib.hid (show rmax x y = x from if_neg h)
    go_enter Tryz.func124, Tryz.ntmps124
    go_wp2_with fail
    refine (refCompare_any x y _ hx hy).mono ?_
    rintro e w1 ⟨rfl, rfl⟩
    go_wp2_with fail
    go_ret
    exact ⟨congrArg (fun b => Ending.returned (.float .f64 b)) HR.out.symm, rfl⟩
end Go.Proofs.YtaplefelfiefaaaGreat
end

/- bedrockref2.Min. By an AI agent. -/
section
set_option linter.unusedVariables false
namespace Go.Proofs.YtaplefelfiefaaaGreat
open Go.RowKit

theorem refMin_any (x y : Nat) (w : World) (hx : x < two64) (hy : y < two64) : Calls Tryz.prog 125 #[.float .f64 x, .float .f64 y] w fun e w' => e = .returned (.float .f64 (rmin x y)) ∧ w = w' := by
  by_cases h : 0 < cmpN (fkey x) (fkey y)
  · have HR := Lib.hid (show rmin x y = y from if_pos h)
    go_enter Tryz.func125, Tryz.ntmps125
    go_wp2_with fail
    refine (refCompare_any x y _ hx hy).mono ?_
    rintro e w1 ⟨rfl, rfl⟩
    go_wp2_with fail
    go_ret
    exact ⟨congrArg (fun b => Ending.returned (.float .f64 b)) HR.out.symm, rfl⟩
  · have HR := Lib.hid (show rmin x y = x from if_neg h)
    go_enter Tryz.func125, Tryz.ntmps125
    go_wp2_with fail
    refine (refCompare_any x y _ hx hy).mono ?_
    rintro e w1 ⟨rfl, rfl⟩
    go_wp2_with fail
    go_ret
    exact ⟨congrArg (fun b => Ending.returned (.float .f64 b)) HR.out.symm, rfl⟩
end Go.Proofs.YtaplefelfiefaaaGreat
end

/- bedrockref5.After. · bedrockref5.Both. By an AI agent. -/
section
namespace Go.Proofs.YtaplefelfiefaaaGreat
open Go.RowKit

theorem reg_of {key : ByteArray} {a : ActL} (h : fitsB key a = true) (k : a.k = 0 ∨ a.k = 4) : regB key = true := by
  have hk := key_head (fits_key h).1
  simp only [fitsB, Bool.and_eq_true] at h
  have h2 := h.2.2
  unfold regB
  rcases hk with e | e | e | e | e
  · simp [e]
  · simp [e]
  · rw [e] at h2; simp at h2; omega
  · rw [e] at h2; simp at h2; omega
  · rw [e] at h2; simp at h2; omega
theorem not_reg {key : ByteArray} {a : ActL} (h : fitsB key a = true) (k : a.k = 1 ∨ a.k = 2 ∨ a.k = 3) : regB key = false := by
  have hk := key_head (fits_key h).1
  simp only [fitsB, Bool.and_eq_true] at h
  have h2 := h.2.2
  unfold regB
  rcases hk with e | e | e | e | e
  · rw [e] at h2; simp at h2; omega
  · rw [e] at h2; simp at h2; omega
  · simp [e]
  · simp [e]
  · simp [e]
theorem rafter_no {key : ByteArray} {v : ValL} {a : ActL} (h : fitsB key a = false) : afterL key v a = v := by
  unfold afterL; rw [h]; rfl
theorem rafter_clear {key : ByteArray} {v : ValL} {a : ActL} (h : fitsB key a = true) (k : a.k = 4) : afterL key v a = noVal := by
  unfold afterL
  rw [h, reg_of h (.inr k)]
  simp [valOf, k]
theorem rafter_set {key : ByteArray} {v : ValL} {a : ActL} (ok : a.Ok) (h : fitsB key a = true) (k : a.k = 0) : afterL key v a = ⟨true, a.x, 0, a.s⟩ := by
  have hr := right_kind ok (fits_key h).2
  have hn : a.n = 0 := by
    rcases hr with ⟨_, h, _⟩ | ⟨h, _⟩ | ⟨h, _⟩ | ⟨h, _⟩
    · exact h
    · omega
    · omega
    · omega
  unfold afterL
  rw [h, reg_of h (.inl k)]
  simp [valOf, k, hn]
theorem rafter_add {key : ByteArray} {v : ValL} {a : ActL} (ok : a.Ok) (h : fitsB key a = true) (k : a.k = 1) : afterL key v a = ⟨true, 0, if v.there then wrap64 (v.n + a.n) else a.n, nilS⟩ := by
  have hr := right_kind ok (fits_key h).2
  have hx : a.x = 0 ∧ a.s = nilS := by
    rcases hr with ⟨h, _⟩ | ⟨_, h1, h2⟩ | ⟨h, _⟩ | ⟨h, _⟩
    · omega
    · exact ⟨h1, h2⟩
    · omega
    · omega
  unfold afterL
  rw [h, not_reg h (.inl k)]
  cases v.there
  · simp [valOf, k, hx.1, hx.2]
  · simp [valOf, joined, k]
theorem rafter_max {key : ByteArray} {v : ValL} {a : ActL} (ok : a.Ok) (h : fitsB key a = true) (k : a.k = 2) : afterL key v a = ⟨true, if v.there then rmax v.x a.x else a.x, 0, nilS⟩ := by
  have hr := right_kind ok (fits_key h).2
  have hx : a.n = 0 ∧ a.s = nilS := by
    rcases hr with ⟨h, _⟩ | ⟨h, _⟩ | ⟨_, h1, h2⟩ | ⟨h, _⟩
    · omega
    · omega
    · exact ⟨h1, h2⟩
    · omega
  unfold afterL
  rw [h, not_reg h (.inr (.inl k))]
  cases v.there
  · simp [valOf, k, hx.1, hx.2]
  · simp [valOf, joined, k]
theorem rafter_min {key : ByteArray} {v : ValL} {a : ActL} (ok : a.Ok) (h : fitsB key a = true) (k : a.k = 3) : afterL key v a = ⟨true, if v.there then rmin v.x a.x else a.x, 0, nilS⟩ := by
  have hr := right_kind ok (fits_key h).2
  have hx : a.n = 0 ∧ a.s = nilS := by
    rcases hr with ⟨h, _⟩ | ⟨h, _⟩ | ⟨_, h1, h2⟩ | ⟨h, _⟩
    · omega
    · omega
    · exact ⟨h1, h2⟩
    · omega
  unfold afterL
  rw [h, not_reg h (.inr (.inr k))]
  cases v.there
  · simp [valOf, k, hx.1, hx.2]
  · simp [valOf, joined, k]

theorem refFits_agg (key : ByteArray) (k : Int) (x : Nat) (n : Int) (s : ByteArray) (r : Bool) (w : World) (h : Hid (fitsB key ⟨k, x, n, s⟩ = r)) (hkey : key.size ≤ 140737488351232) (oa : Hid (ActL.Ok ⟨k, x, n, s⟩)) :
    Calls Tryz.prog 53 #[.string key, .agg #[.int .i64 k, .float .f64 x, .int .i64 n, .string s]] w fun e w' => e = .returned (.bool r) ∧ Bl w w' := by
  refine (refFits_any key ⟨k, x, n, s⟩ w hkey oa.out).mono ?_
  rintro e w' ⟨rfl, hb⟩
  rw [h.out]
  exact ⟨rfl, hb⟩

set_option maxHeartbeats 3200000 in
set_option maxRecDepth 100000 in
theorem refAfter_any (key : ByteArray) (v : ValL) (a : ActL) (w : World) (hkey : key.size ≤ 140737488351232) (ov : v.Ok) (oa : a.Ok) :
    Calls Tryz.prog 31 #[.string key, v.v, a.v] w fun e w' => e = .returned (afterL key v a).v ∧ Bl w w' := by
  obtain ⟨R, hR⟩ : ∃ R, afterL key v a = R := ⟨_, rfl⟩
  have hsf := store_float
  have OA := Lib.hid oa
  obtain ⟨k, x, n, s⟩ := a
  obtain ⟨vb, vx, vn, vs⟩ := v
  obtain ⟨_, hx, _, _⟩ := oa
  obtain ⟨hvx, _, _⟩ := ov
  simp only at hx hvx
  rw [hR]
  show Calls Tryz.prog 31 #[.string key, .agg #[.bool vb, .float .f64 vx, .int .i64 vn, .string vs], .agg #[.int .i64 k, .float .f64 x, .int .i64 n, .string s]] w _
  cases hf : fitsB key ⟨k, x, n, s⟩
  · rw [rafter_no hf] at hR
    subst hR
    have HF := Lib.hid hf
    clear hf
    go_enter Tryz.func31, Tryz.ntmps31
    go_wp2_with fail
    refine (refFits_agg key k x n s false _ HF hkey OA).mono ?_
    rintro e w1 ⟨rfl, hb1⟩
    have G := (A3.new w vb vx vn vs k x n s _ _ _).keep hb1
    clear hb1
    obtain ⟨v0, v1, v2, v3⟩ := G.v.val
    obtain ⟨r0, r1, r2, r3⟩ := G.r.val
    have f0 := G.r.frozen 0
    have f1 := G.r.frozen 1
    have f2 := G.r.frozen 2
    have f3 := G.r.frozen 3
    go_wp2_with fail
    refine bodyPost_ret (v := ValL.v ⟨vb, vx, vn, vs⟩) (by simp [results, Tryz.results31, go_sem, ValL.v, r0, r1, r2, r3]) rfl ⟨rfl, ?_⟩
    exact G.bl.store4 (by omega) _ _ _ _
  · have hk := right_kind OA.out (fits_key hf).2
    have HF := Lib.hid hf
    have hk2 : k = 0 ∨ k = 1 ∨ k = 2 ∨ k = 3 ∨ k = 4 := by
      rcases hk with ⟨h, _⟩ | ⟨h, _⟩ | ⟨h, _⟩ | ⟨h, _⟩
      · exact .inl h
      · exact .inr (.inl h)
      · rcases h with h | h
        · exact .inr (.inr (.inl h))
        · exact .inr (.inr (.inr (.inl h)))
      · exact .inr (.inr (.inr (.inr h)))
    clear hk
    rcases hk2 with rfl | rfl | rfl | rfl | rfl
    · rw [rafter_set OA.out hf rfl] at hR
      subst hR
      clear hf
      go_enter Tryz.func31, Tryz.ntmps31
      go_wp2_with fail
      refine (refFits_agg key 0 x n s true _ HF hkey OA).mono ?_
      rintro e w1 ⟨rfl, hb1⟩
      have G := (A3.new w vb vx vn vs 0 x n s _ _ _).keep hb1
      clear hb1
      obtain ⟨v0, v1, v2, v3⟩ := G.v.val
      obtain ⟨a0, a1, a2, a3⟩ := G.a.act
      obtain ⟨r0, r1, r2, r3⟩ := G.r.val
      have f0 := G.r.frozen 0
      have f1 := G.r.frozen 1
      have f2 := G.r.frozen 2
      have f3 := G.r.frozen 3
      go_wp2_with fail
      refine bodyPost_ret (v := ValL.v ⟨true, x, 0, s⟩) (by simp [results, Tryz.results31, go_sem, ValL.v, r0, r1, r2, r3]) rfl ⟨rfl, ?_⟩
      exact G.bl.store4 (by omega) _ _ _ _
    · rw [rafter_add OA.out hf rfl] at hR
      subst hR
      clear hf
      cases vb
      all_goals
        go_enter Tryz.func31, Tryz.ntmps31
        go_wp2_with fail
        refine (refFits_agg key 1 x n s true _ HF hkey OA).mono ?_
        rintro e w1 ⟨rfl, hb1⟩
        have G := (A3.new w _ vx vn vs 1 x n s _ _ _).keep hb1
        clear hb1
        obtain ⟨v0, v1, v2, v3⟩ := G.v.val
        obtain ⟨a0, a1, a2, a3⟩ := G.a.act
        obtain ⟨r0, r1, r2, r3⟩ := G.r.val
        have f0 := G.r.frozen 0
        have f1 := G.r.frozen 1
        have f2 := G.r.frozen 2
        have f3 := G.r.frozen 3
        go_wp2_with fail
        refine bodyPost_ret (v := ValL.v ⟨true, 0, _, nilS⟩) (by simp [results, Tryz.results31, go_sem, ValL.v, nilS, r0, r1, r2, r3]; try rfl) rfl ⟨rfl, ?_⟩
        exact G.bl.store4 (by omega) _ _ _ _
    · rw [rafter_max OA.out hf rfl] at hR
      subst hR
      clear hf
      cases vb
      all_goals
        go_enter Tryz.func31, Tryz.ntmps31
        go_wp2_with fail
        refine (refFits_agg key 2 x n s true _ HF hkey OA).mono ?_
        rintro e w1 ⟨rfl, hb1⟩
        have G := (A3.new w _ vx vn vs 2 x n s _ _ _).keep hb1
        clear hb1
        obtain ⟨v0, v1, v2, v3⟩ := G.v.val
        obtain ⟨a0, a1, a2, a3⟩ := G.a.act
        obtain ⟨r0, r1, r2, r3⟩ := G.r.val
        have f0 := G.r.frozen 0
        have f1 := G.r.frozen 1
        have f2 := G.r.frozen 2
        have f3 := G.r.frozen 3
        go_wp2_with (first | (refine (refMax_any vx x _ hvx hx).mono ?_; rintro e w2 ⟨rfl, rfl⟩) | fail)
        refine bodyPost_ret (v := ValL.v ⟨true, _, 0, nilS⟩) (by simp [results, Tryz.results31, go_sem, ValL.v, nilS, r0, r1, r2, r3]; try rfl) rfl ⟨rfl, ?_⟩
        exact G.bl.store4 (by omega) _ _ _ _
    · rw [rafter_min OA.out hf rfl] at hR
      subst hR
      clear hf
      cases vb
      all_goals
        go_enter Tryz.func31, Tryz.ntmps31
        go_wp2_with fail
        refine (refFits_agg key 3 x n s true _ HF hkey OA).mono ?_
        rintro e w1 ⟨rfl, hb1⟩
        have G := (A3.new w _ vx vn vs 3 x n s _ _ _).keep hb1
        clear hb1
        obtain ⟨v0, v1, v2, v3⟩ := G.v.val
        obtain ⟨a0, a1, a2, a3⟩ := G.a.act
        obtain ⟨r0, r1, r2, r3⟩ := G.r.val
        have f0 := G.r.frozen 0
        have f1 := G.r.frozen 1
        have f2 := G.r.frozen 2
        have f3 := G.r.frozen 3
        go_wp2_with (first | (refine (refMin_any vx x _ hvx hx).mono ?_; rintro e w2 ⟨rfl, rfl⟩) | fail)
        refine bodyPost_ret (v := ValL.v ⟨true, _, 0, nilS⟩) (by simp [results, Tryz.results31, go_sem, ValL.v, nilS, r0, r1, r2, r3]; try rfl) rfl ⟨rfl, ?_⟩
        exact G.bl.store4 (by omega) _ _ _ _
    · rw [rafter_clear hf rfl] at hR
      subst hR
      clear hf
      go_enter Tryz.func31, Tryz.ntmps31
      go_wp2_with fail
      refine (refFits_agg key 4 x n s true _ HF hkey OA).mono ?_
      rintro e w1 ⟨rfl, hb1⟩
      have G := (A3.new w vb vx vn vs 4 x n s _ _ _).keep hb1
      clear hb1
      obtain ⟨v0, v1, v2, v3⟩ := G.v.val
      obtain ⟨a0, a1, a2, a3⟩ := G.a.act
      obtain ⟨r0, r1, r2, r3⟩ := G.r.val
      have f0 := G.r.frozen 0
      have f1 := G.r.frozen 1
      have f2 := G.r.frozen 2
      have f3 := G.r.frozen 3
      go_wp2_with fail
      refine bodyPost_ret (v := ValL.v noVal) (by simp [results, Tryz.results31, go_sem, ValL.v, noVal, nilS, r0, r1, r2, r3]) rfl ⟨rfl, ?_⟩
      exact G.bl.store4 (by omega) _ _ _ _
end Go.Proofs.YtaplefelfiefaaaGreat

namespace Go.Proofs.YtaplefelfiefaaaGreat
open Go.RowKit
attribute [local go_sem] eOp eOper eUpon


theorem refAfter_agg (key : ByteArray) (vb : Bool) (vx : Nat) (vn : Int) (vs : ByteArray) (k : Int) (x : Nat) (n : Int) (s : ByteArray) (rb : Bool) (rx : Nat) (rn : Int) (rs : ByteArray) (w : World)
    (h : Hid (afterL key ⟨vb, vx, vn, vs⟩ ⟨k, x, n, s⟩ = ⟨rb, rx, rn, rs⟩)) (hkey : key.size ≤ 140737488351232) (ov : Hid (ValL.Ok ⟨vb, vx, vn, vs⟩)) (oa : Hid (ActL.Ok ⟨k, x, n, s⟩)) :
    Calls Tryz.prog 31 #[.string key, .agg #[.bool vb, .float .f64 vx, .int .i64 vn, .string vs], .agg #[.int .i64 k, .float .f64 x, .int .i64 n, .string s]] w fun e w' => e = .returned (.agg #[.bool rb, .float .f64 rx, .int .i64 rn, .string rs]) ∧ Bl w w' := by
  refine (refAfter_any key ⟨vb, vx, vn, vs⟩ ⟨k, x, n, s⟩ w hkey ov.out oa.out).mono ?_
  rintro e w' ⟨rfl, hb⟩
  rw [h.out]
  exact ⟨rfl, hb⟩

end Go.Proofs.YtaplefelfiefaaaGreat
end
