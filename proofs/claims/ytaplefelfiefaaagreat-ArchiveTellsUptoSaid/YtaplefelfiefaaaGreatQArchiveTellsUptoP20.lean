import Derived.Test.YtaplefelfiefaaaGreatQArchiveTellsUptoP12
import Derived.Test.YtaplefelfiefaaaGreatQArchiveTellsUptoP19
import Derived.Test.YtaplefelfiefaaaGreatQArchiveTellsUptoP13
import Derived.Test.YtaplefelfiefaaaGreatQArchiveTellsUptoP9
import Derived.Lib.Bytealg

/- bedrockref5.IsKey, Right, Fits, SameAct, SameValue. By an AI agent. -/
section
namespace Go.Proofs.YtaplefelfiefaaaGreat
open Go.RowKit

set_option maxRecDepth 100000 in
theorem refIsKey_any (s : ByteArray) (w : World) (hs : s.size ≤ 140737488351232) : Calls Tryz.prog 52 #[.string s] w fun e w' => e = .returned (.bool (isKeyB s)) ∧ w = w' := by
  by_cases hp : 0 < s.size
  · have HH := Lib.hid (hd_get hp)
    have HE := Lib.hid (filled_of hp)
    go_enter Tryz.func52, Tryz.ntmps52
    go_wp2_with fail
    all_goals (go_ret; refine ⟨ret_bool ?_, rfl⟩)
    all_goals (
      have h := HH.out
      have h2 := HE.out
      clear HH HE
      unfold isKeyB
      rw [h2]
      first
      | (simp_all; done)
      | (simp_all; omega)
      | (rw [Bool.eq_iff_iff]; simp_all; done)
      | (rw [Bool.eq_iff_iff]; simp_all; omega))
  · have HE := Lib.hid (empty_of (s := s) (by omega))
    go_enter Tryz.func52, Tryz.ntmps52
    go_wp2_with fail
    all_goals (go_ret; refine ⟨ret_bool ?_, rfl⟩)
    all_goals (unfold isKeyB; rw [HE.out]; rfl)


set_option maxHeartbeats 1600000 in
set_option maxRecDepth 100000 in
theorem refFits_any (key : ByteArray) (a : ActL) (w : World) (hkey : key.size ≤ 140737488351232) (ok : a.Ok) : Calls Tryz.prog 53 #[.string key, a.v] w fun e w' => e = .returned (.bool (fitsB key a)) ∧ Bl w w' := by
  obtain ⟨k, x, n, s⟩ := a
  have OK := Lib.hid ok
  obtain ⟨hk, hx, hn, hs⟩ := ok
  simp only at hk hx hn hs
  show Calls Tryz.prog 53 #[.string key, .agg #[.int .i64 k, .float .f64 x, .int .i64 n, .string s]] w _
  cases hi : isKeyB key
  · have HI := Lib.hid hi
    go_enter Tryz.func53, Tryz.ntmps53
    go_wp2_with fail
    refine (refIsKey_any key _ hkey).mono ?_
    rintro e w1 ⟨rfl, rfl⟩
    rw [hi]
    clear hi
    go_wp2_with fail
    go_ret
    exact ⟨ret_bool (by simp [fitsB, HI.out]), (Bl.refl w).alloc _⟩
  · have HI := Lib.hid hi
    have hp := key_pos hi
    have HH := Lib.hid (hd_get hp)
    have HLT := Lib.hid (hd_lt key)
    go_enter Tryz.func53, Tryz.ntmps53
    go_wp2_with fail
    refine (refIsKey_any key _ hkey).mono ?_
    rintro e w1 ⟨rfl, rfl⟩
    rw [hi]
    clear hi
    go_wp2_with fail
    refine (refRight_any ⟨k, x, n, s⟩ _ OK.out).mono ?_
    rintro e w1 ⟨rfl, hb1⟩
    obtain ⟨c0, c1, c2, c3⟩ := ((AC.new w _ rfl [_, _, _, _] _).keep hb1).act
    have hbw := ((Bl.refl w).alloc _).trans hb1
    cases hr : rightB ⟨k, x, n, s⟩
    · have HR := Lib.hid hr; clear hr
      go_wp2_with fail
      go_ret
      exact ⟨ret_bool (by simp [fitsB, HR.out]), hbw⟩
    · have HR := Lib.hid hr; clear hr
      clear hb1
      go_wp2_with (first | (refine (refSame_any _ 0 _ hx (by decide)).mono ?_; rintro e w' ⟨rfl, rfl⟩) | fail)
      all_goals (go_ret; refine ⟨ret_bool ?_, hbw⟩)
      all_goals (
        have h1 := HH.out
        have h2 := HR.out
        have h3 := HI.out
        have h4 := key_head h3
        clear HH HR HI HLT OK
        unfold fitsB noughtB
        rcases h4 with h4 | h4 | h4 | h4 | h4 <;> simp_all
        all_goals first | omega | (rw [Bool.eq_iff_iff]; simp) | skip)

set_option maxHeartbeats 1600000 in
set_option maxRecDepth 100000 in
theorem refSameV_any (a d : ValL) (w : World) (oa : a.Ok) (ob : d.Ok) :
    Calls Tryz.prog 55 #[a.v, d.v] w fun e w' => e = .returned (.bool (sameV a d)) ∧ Bl w w' := by
  obtain ⟨b, x, n, s⟩ := a
  obtain ⟨c, y, m, t⟩ := d
  obtain ⟨hx, _, _⟩ := oa
  obtain ⟨hy, _, _⟩ := ob
  simp only at hx hy
  show Calls Tryz.prog 55 #[.agg #[.bool b, .float .f64 x, .int .i64 n, .string s], .agg #[.bool c, .float .f64 y, .int .i64 m, .string t]] w _
  cases b <;> cases c
  case false.true =>
    go_enter Tryz.func55, Tryz.ntmps55
    go_wp2_with fail
    go_ret
    exact ⟨ret_bool (by simp [sameV]), ((Bl.refl w).alloc _).alloc _⟩
  case true.false =>
    go_enter Tryz.func55, Tryz.ntmps55
    go_wp2_with fail
    go_ret
    exact ⟨ret_bool (by simp [sameV]), ((Bl.refl w).alloc _).alloc _⟩
  all_goals
    go_enter Tryz.func55, Tryz.ntmps55
    go_wp2_with fail
    refine (refSame_any x y _ hx hy).mono ?_
    rintro e w1 ⟨rfl, rfl⟩
    by_cases hf : fkey x = fkey y
    · have HF := Lib.hid hf
      rw [decide_eq_true hf]
      clear hf
      go_wp2_with fail
      all_goals (go_ret; refine ⟨ret_bool ?_, ((Bl.refl w).alloc _).alloc _⟩)
      all_goals (have h1 := HF.out; simp_all [sameV])
    · have HF := Lib.hid hf
      rw [decide_eq_false hf]
      clear hf
      go_wp2_with fail
      all_goals (go_ret; refine ⟨ret_bool ?_, ((Bl.refl w).alloc _).alloc _⟩)
      all_goals (have h1 := HF.out; simp [sameV, h1])
end Go.Proofs.YtaplefelfiefaaaGreat
end

/- bedrockref24.Act (printed by gen/r24act.py). By an AI agent. -/
section
set_option linter.unusedVariables false
set_option linter.unusedSimpArgs false
namespace Go.Proofs.YtaplefelfiefaaaGreat
open Go.RowKit
attribute [local go_sem] eOp eOper eUpon

theorem r24act_results {tmps : Array Value} {W : World} {g : Nat} {k : Int} {x : Nat} {n : Int} {s : ByteArray} (h : tmps.getD 4 undef = .pointer (some ⟨g, 0, none⟩)) (hc : AC W g [.int .i64 k, .float .f64 x, .int .i64 n, .string s]) :
    (results Tryz.f17 tmps).run Tryz.prog W = .ok (.agg #[.int .i64 k, .float .f64 x, .int .i64 n, .string s]) W := by
  rw [Array.getD_eq_getD_getElem?] at h
  obtain ⟨c0, c1, c2, c3⟩ := hc.act
  simp [results, Tryz.results17, go_sem, h, c0, c1, c2, c3]
set_option maxHeartbeats 1600000 in
set_option maxRecDepth 100000 in
theorem r24Act_agg (key : ByteArray) (vb : Bool) (vx : Nat) (vn : Int) (vs : ByteArray) (k : Int) (x : Nat) (n : Int) (s : ByteArray) (w : World) (hkey : key.size ≤ 140737488351232) (h : Hid (actOf key ⟨vb, vx, vn, vs⟩ = ⟨k, x, n, s⟩)) :
    Calls Tryz.prog 17 #[.string key, .agg #[.bool vb, .float .f64 vx, .int .i64 vn, .string vs]] w fun e w' => e = .returned (.agg #[.int .i64 k, .float .f64 x, .int .i64 n, .string s]) ∧ Bl w w' := by
  have hsf := store_float
  have h' := h.out
  unfold actOf at h'
  have G := AG.new w vb vx vn vs 29 66
  go_enter Tryz.func17, Tryz.ntmps17
  go_wp2_with fail
  generalize (w.alloc (.cells #[.bool vb, .float .f64 vx, .int .i64 vn, .string vs] 29)).alloc (.cells #[.int .i64 0, .float .f64 0, .int .i64 0, .string ⟨#[]⟩] 66) = W at *
  obtain ⟨v0, v1, v2, v3⟩ := G.v.val
  obtain ⟨r0, r1, r2, r3⟩ := G.r.act
  have f0 := G.r.frozen 0
  have f1 := G.r.frozen 1
  have f2 := G.r.frozen 2
  have f3 := G.r.frozen 3
  have HG := Lib.hid G
  clear G
  refine (refIsKey_any key _ hkey).mono ?_
  rintro e w1 ⟨rfl, rfl⟩
  cases hi : isKeyB key
  · rw [hi] at h'
    simp only [Bool.false_eq_true, if_false, ActL.mk.injEq] at h'
    obtain ⟨rfl, rfl, rfl, rfl⟩ := h'
    clear hi
    go_wp2_with fail
    refine bodyPost_ret (r24act_results rfl (HG.out.r.set4 (.int .i64 0) (.float .f64 0) (.int .i64 0) (.string ⟨#[]⟩))) rfl ?_
    exact ⟨rfl, HG.out.bl.store4 (Nat.le_succ _) _ _ _ _⟩
  · have hp := key_pos hi
    have HH := Lib.hid (hd_get hp)
    rw [hi] at h'
    have HI := Lib.hid hi
    simp only [if_true] at h'
    rcases key_head hi with q | q | q | q | q
    · rw [if_pos q, ActL.mk.injEq] at h'
      obtain ⟨rfl, rfl, rfl, rfl⟩ := h'
      have hq := HH.out.trans q
      clear hi q
      go_wp2_with fail
      refine bodyPost_ret (r24act_results rfl (HG.out.r.set4 (.int .i64 0) (.float .f64 vx) (.int .i64 0) (.string ⟨#[]⟩))) rfl ?_
      exact ⟨rfl, HG.out.bl.store4 (Nat.le_succ _) _ _ _ _⟩
    · rw [if_neg (by omega), if_pos q, ActL.mk.injEq] at h'
      obtain ⟨rfl, rfl, rfl, rfl⟩ := h'
      have hq := HH.out.trans q
      clear hi q
      go_wp2_with fail
      refine bodyPost_ret (r24act_results rfl (HG.out.r.set4 (.int .i64 0) (.float .f64 0) (.int .i64 0) (.string vs))) rfl ?_
      exact ⟨rfl, HG.out.bl.store4 (Nat.le_succ _) _ _ _ _⟩
    · rw [if_neg (by omega), if_neg (by omega), if_pos q, ActL.mk.injEq] at h'
      obtain ⟨rfl, rfl, rfl, rfl⟩ := h'
      have hq := HH.out.trans q
      clear hi q
      go_wp2_with fail
      refine bodyPost_ret (r24act_results rfl (HG.out.r.set4 (.int .i64 1) (.float .f64 0) (.int .i64 vn) (.string ⟨#[]⟩))) rfl ?_
      exact ⟨rfl, HG.out.bl.store4 (Nat.le_succ _) _ _ _ _⟩
    · rw [if_neg (by omega), if_neg (by omega), if_neg (by omega), if_pos q, ActL.mk.injEq] at h'
      obtain ⟨rfl, rfl, rfl, rfl⟩ := h'
      have hq := HH.out.trans q
      clear hi q
      go_wp2_with fail
      refine bodyPost_ret (r24act_results rfl (HG.out.r.set4 (.int .i64 2) (.float .f64 vx) (.int .i64 0) (.string ⟨#[]⟩))) rfl ?_
      exact ⟨rfl, HG.out.bl.store4 (Nat.le_succ _) _ _ _ _⟩
    · rw [if_neg (by omega), if_neg (by omega), if_neg (by omega), if_neg (by omega), ActL.mk.injEq] at h'
      obtain ⟨rfl, rfl, rfl, rfl⟩ := h'
      have hq := HH.out.trans q
      clear hi q
      go_wp2_with fail
      refine bodyPost_ret (r24act_results rfl (HG.out.r.set4 (.int .i64 3) (.float .f64 vx) (.int .i64 0) (.string ⟨#[]⟩))) rfl ?_
      exact ⟨rfl, HG.out.bl.store4 (Nat.le_succ _) _ _ _ _⟩
end Go.Proofs.YtaplefelfiefaaaGreat
end

/- bedrockref1.Compare: the order of two texts. By an AI agent. -/
section
set_option linter.unusedVariables false
set_option linter.unusedSimpArgs false
namespace Go.Proofs.YtaplefelfiefaaaGreat
open Go.RowKit

theorem cmp_go {s t : ByteArray} {k : Nat} (h1 : k < s.size) (h2 : k < t.size) :
    Lib.compareBytes (s.data.toList.drop k) (t.data.toList.drop k) = if s[k].toNat < t[k].toNat then -1 else if t[k].toNat < s[k].toNat then 1 else Lib.compareBytes (s.data.toList.drop (k + 1)) (t.data.toList.drop (k + 1)) := by
  rw [List.drop_eq_getElem_cons (show k < s.data.toList.length by rw [Array.length_toList]; exact h1), List.drop_eq_getElem_cons (show k < t.data.toList.length by rw [Array.length_toList]; exact h2)]
  simp only [Lib.compareBytes, UInt8.lt_iff_toNat_lt]
  rfl
theorem cmp_end {s t : ByteArray} {k : Nat} (h1 : k ≤ s.size) (h2 : k ≤ t.size) (h : k = s.size ∨ k = t.size) :
    Lib.compareBytes (s.data.toList.drop k) (t.data.toList.drop k) = if s.size < t.size then -1 else if t.size < s.size then 1 else 0 := by
  have e1 : (s.data.toList.drop k).length = s.size - k := by rw [List.length_drop, Array.length_toList]; rfl
  have e2 : (t.data.toList.drop k).length = t.size - k := by rw [List.length_drop, Array.length_toList]; rfl
  generalize s.data.toList.drop k = a at *
  generalize t.data.toList.drop k = b at *
  cases a with
  | nil =>
    cases b with
    | nil => simp only [List.length_nil] at e1 e2; rw [if_neg (by omega), if_neg (by omega)]; rfl
    | cons y r => simp only [List.length_nil, List.length_cons] at e1 e2; rw [if_pos (by omega)]; rfl
  | cons x l =>
    cases b with
    | nil => simp only [List.length_nil, List.length_cons] at e1 e2; rw [if_neg (by omega), if_pos (by omega)]; rfl
    | cons y r => simp only [List.length_cons] at e1 e2; omega
theorem ret_intC {a b : Int} (h : a = b) : Ending.returned (.int .i64 a) = Ending.returned (.int .i64 b) := by rw [h]
set_option maxHeartbeats 1600000 in
set_option maxRecDepth 100000 in
theorem refCmp_any (s t : ByteArray) (c : Int) (w : World) (hs : s.size ≤ 140737488351232) (ht : t.size ≤ 140737488351232) (h : Hid (Lib.compareBytes s.data.toList t.data.toList = c)) :
    Calls Tryz.prog 54 #[.string s, .string t] w fun e w' => e = .returned (.int .i64 c) ∧ Bl w w' := by
  go_enter Tryz.func54, Tryz.ntmps54
  go_wp2_with fail
  go_loopw [5] (fun i wr => ∃ k : Nat, k ≤ s.size ∧ k ≤ t.size ∧ i = .int .i64 k ∧ Bl w wr ∧ Hid (Lib.compareBytes (s.data.toList.drop k) (t.data.toList.drop k) = c)) (fun i _ => s.size - (intOf i).toNat)
  case atStart => exact ⟨0, Nat.zero_le _, Nat.zero_le _, rfl, Bl.refl _, h⟩
  case round =>
    obtain ⟨k, hk1, hk2, rfl, hb, hc⟩ := hrel
    have HBL := Lib.hid hb
    clear h hb
    by_cases hl1 : k < s.size
    · by_cases hl2 : k < t.size
      · have HG := Lib.hid (cmp_go hl1 hl2)
        by_cases p1 : s[k].toNat < t[k].toNat
        · have HR : Hid ((-1 : Int) = c) := Lib.hid (by rw [← hc.out, HG.out, if_pos p1])
          go_upto_region 4 with fail
          refine wp_region_allS (by kernel_rfl) (by kernel_rfl) ?_
          replace HBL := Lib.hid HBL.out.drew
          generalize World.drew _ = Z at *
          repeat (refine wpS_step (fun K hK => ?_); go_simp; (refine hK _ ?_; clear hK K))
          refine wpS_nil ?_
          intro q1
          replace HBL := Lib.hid (HBL.out.trans q1.bl)
          generalize ExtC.at q1 = W1 at *
          clear q1
          go_wp2_with fail
          go_ret
          exact ⟨ret_intC HR.out, HBL.out⟩
        go_upto_region 4 with fail
        refine wp_region_allS (by kernel_rfl) (by kernel_rfl) ?_
        replace HBL := Lib.hid HBL.out.drew
        generalize World.drew _ = Z at *
        repeat (refine wpS_step (fun K hK => ?_); go_simp; (refine hK _ ?_; clear hK K))
        refine wpS_nil ?_
        intro q1
        replace HBL := Lib.hid (HBL.out.trans q1.bl)
        generalize ExtC.at q1 = W1 at *
        clear q1
        by_cases p2 : t[k].toNat < s[k].toNat
        · have HR : Hid ((1 : Int) = c) := Lib.hid (by rw [← hc.out, HG.out, if_neg p1, if_pos p2])
          go_upto_region 6 with fail
          refine wp_region_allS (by kernel_rfl) (by kernel_rfl) ?_
          replace HBL := Lib.hid HBL.out.drew
          generalize World.drew _ = Z at *
          repeat (refine wpS_step (fun K hK => ?_); go_simp; (refine hK _ ?_; clear hK K))
          refine wpS_nil ?_
          intro q1
          replace HBL := Lib.hid (HBL.out.trans q1.bl)
          generalize ExtC.at q1 = W1 at *
          clear q1
          go_wp2_with fail
          go_ret
          exact ⟨ret_intC HR.out, HBL.out⟩
        · have HR := Lib.hid (show Lib.compareBytes (s.data.toList.drop (k + 1)) (t.data.toList.drop (k + 1)) = c by rw [← hc.out, HG.out, if_neg p1, if_neg p2])
          go_upto_region 6 with fail
          refine wp_region_allS (by kernel_rfl) (by kernel_rfl) ?_
          replace HBL := Lib.hid HBL.out.drew
          generalize World.drew _ = Z at *
          repeat (refine wpS_step (fun K hK => ?_); go_simp; (refine hK _ ?_; clear hK K))
          refine wpS_nil ?_
          intro q1
          replace HBL := Lib.hid (HBL.out.trans q1.bl)
          generalize ExtC.at q1 = W1 at *
          clear q1
          go_wp2_with fail
          go_roundw
          case rel => exact ⟨k + 1, by omega, by omega, by go_num, HBL.out, HR⟩
          case measure => simp [intOf]; omega
      · have HE := Lib.hid (cmp_end hk1 hk2 (.inr (by omega)))
        have h3 : ¬ s.size < t.size := by omega
        have h4 : t.size < s.size := by omega
        have HR : Hid ((1 : Int) = c) := Lib.hid (by rw [← hc.out, HE.out, if_neg h3, if_pos h4])
        go_wp2_with fail
        go_ret
        exact ⟨ret_intC HR.out, HBL.out⟩
    · have HE := Lib.hid (cmp_end hk1 hk2 (.inl (by omega)))
      by_cases h3 : s.size < t.size
      · have HR : Hid ((-1 : Int) = c) := Lib.hid (by rw [← hc.out, HE.out, if_pos h3])
        go_wp2_with fail
        go_ret
        exact ⟨ret_intC HR.out, HBL.out⟩
      · have h4 : ¬ t.size < s.size := by omega
        have HR : Hid ((0 : Int) = c) := Lib.hid (by rw [← hc.out, HE.out, if_neg h3, if_neg h4])
        go_wp2_with fail
        go_ret
        exact ⟨ret_intC HR.out, HBL.out⟩
end Go.Proofs.YtaplefelfiefaaaGreat
end
