/- bedrockref5.IsKey, Right, Fits, SameAct, SameValue. By an AI agent. -/
import Derived.Test.YtaokennbpgdngaaCore18
import Derived.Test.YtaokennbpgdngaaQRefCmp

namespace Go.Proofs.Ytaokennbpgdngaa
open Go.RowKit

theorem empty_of {s : ByteArray} (h : s.size = 0) : s.toList.isEmpty = true := by
  rw [ByteArray.toList_eq]
  obtain ⟨⟨l⟩⟩ := s
  cases l with
  | nil => rfl
  | cons a l => simp [ByteArray.size] at h
theorem filled_of {s : ByteArray} (h : 0 < s.size) : s.toList.isEmpty = false := by
  rw [ByteArray.toList_eq]
  obtain ⟨⟨l⟩⟩ := s
  cases l with
  | nil => exact absurd h (by decide)
  | cons a l => rfl
theorem small_of {s : ByteArray} (h : s.toList = []) : s.size ≤ 1024 := by
  rw [nil_of h]; decide
set_option maxRecDepth 100000 in
theorem refIsKey_any (s : ByteArray) (w : World) (hs : s.size ≤ 140737488351232) : Calls Try.prog 62 #[.string s] w fun e w' => e = .returned (.bool (isKeyB s)) ∧ w = w' := by
  by_cases hp : 0 < s.size
  · have HH := Lib.hid (hd_get hp)
    have HE := Lib.hid (filled_of hp)
    go_enter Try.func62, Try.ntmps62
    go_wp2_with fail
    all_goals (go_ret; refine ⟨ret_bool ?_, rfl⟩)
    all_goals (
      have h := HH.out
      have h2 := HE.out
      clear HH HE
      unfold isKeyB
      rw [h2]
      first
      | (simp_all; done)
      | (simp_all; omega)
      | (rw [Bool.eq_iff_iff]; simp_all; done)
      | (rw [Bool.eq_iff_iff]; simp_all; omega))
  · have HE := Lib.hid (empty_of (s := s) (by omega))
    go_enter Try.func62, Try.ntmps62
    go_wp2_with fail
    all_goals (go_ret; refine ⟨ret_bool ?_, rfl⟩)
    all_goals (unfold isKeyB; rw [HE.out]; rfl)

set_option maxHeartbeats 800000 in
set_option maxRecDepth 100000 in
theorem refRight_any (a : ActL) (w : World) (ok : a.Ok) : Calls Try.prog 63 #[a.v] w fun e w' => e = .returned (.bool (rightB a)) ∧ Bl w w' := by
  obtain ⟨k, x, n, s⟩ := a
  obtain ⟨hk, hx, hn, hs⟩ := ok
  simp only at hk hx hn hs
  show Calls Try.prog 63 #[.agg #[.int .i64 k, .float .f64 x, .int .i64 n, .string s]] w _
  go_enter Try.func63, Try.ntmps63
  go_wp2_with fail
  refine (refSame_any x 0 _ hx (by decide)).mono ?_
  rintro e w' ⟨rfl, rfl⟩
  rw [show decide (fkey x = fkey 0) = noughtB x from rfl]
  cases hN : noughtB x
  all_goals
    go_wp2_with fail
    all_goals (go_ret; refine ⟨ret_bool ?_, (Bl.refl w).alloc _⟩)
    all_goals (unfold rightB; simp_all; try omega)
    all_goals exact small_of

set_option maxHeartbeats 1600000 in
set_option maxRecDepth 100000 in
theorem refFits_any (key : ByteArray) (a : ActL) (w : World) (hkey : key.size ≤ 140737488351232) (ok : a.Ok) : Calls Try.prog 25 #[.string key, a.v] w fun e w' => e = .returned (.bool (fitsB key a)) ∧ Bl w w' := by
  obtain ⟨k, x, n, s⟩ := a
  have OK := Lib.hid ok
  obtain ⟨hk, hx, hn, hs⟩ := ok
  simp only at hk hx hn hs
  show Calls Try.prog 25 #[.string key, .agg #[.int .i64 k, .float .f64 x, .int .i64 n, .string s]] w _
  cases hi : isKeyB key
  · have HI := Lib.hid hi
    go_enter Try.func25, Try.ntmps25
    go_wp2_with fail
    refine (refIsKey_any key _ hkey).mono ?_
    rintro e w1 ⟨rfl, rfl⟩
    rw [hi]
    clear hi
    go_wp2_with fail
    go_ret
    exact ⟨ret_bool (by simp [fitsB, HI.out]), (Bl.refl w).alloc _⟩
  · have HI := Lib.hid hi
    have hp := key_pos hi
    have HH := Lib.hid (hd_get hp)
    have HLT := Lib.hid (hd_lt key)
    go_enter Try.func25, Try.ntmps25
    go_wp2_with fail
    refine (refIsKey_any key _ hkey).mono ?_
    rintro e w1 ⟨rfl, rfl⟩
    rw [hi]
    clear hi
    go_wp2_with fail
    refine (refRight_any ⟨k, x, n, s⟩ _ OK.out).mono ?_
    rintro e w1 ⟨rfl, hb1⟩
    obtain ⟨c0, c1, c2, c3⟩ := ((AC.new w _ rfl [_, _, _, _] _).keep hb1).act
    have hbw := ((Bl.refl w).alloc _).trans hb1
    cases hr : rightB ⟨k, x, n, s⟩
    · have HR := Lib.hid hr; clear hr
      go_wp2_with fail
      go_ret
      exact ⟨ret_bool (by simp [fitsB, HR.out]), hbw⟩
    · have HR := Lib.hid hr; clear hr
      clear hb1
      go_wp2_with (first | (refine (refSame_any _ 0 _ hx (by decide)).mono ?_; rintro e w' ⟨rfl, rfl⟩) | fail)
      all_goals (go_ret; refine ⟨ret_bool ?_, hbw⟩)
      all_goals (
        have h1 := HH.out
        have h2 := HR.out
        have h3 := HI.out
        have h4 := key_head h3
        clear HH HR HI HLT OK
        unfold fitsB noughtB
        rcases h4 with h4 | h4 | h4 | h4 | h4 <;> simp_all
        all_goals first | omega | (rw [Bool.eq_iff_iff]; simp) | skip)

set_option maxHeartbeats 1600000 in
set_option maxRecDepth 100000 in
theorem refSameV_any (a d : ValL) (w : World) (oa : a.Ok) (ob : d.Ok) :
    Calls Try.prog 27 #[a.v, d.v] w fun e w' => e = .returned (.bool (sameV a d)) ∧ Bl w w' := by
  obtain ⟨b, x, n, s⟩ := a
  obtain ⟨c, y, m, t⟩ := d
  obtain ⟨hx, _, _⟩ := oa
  obtain ⟨hy, _, _⟩ := ob
  simp only at hx hy
  show Calls Try.prog 27 #[.agg #[.bool b, .float .f64 x, .int .i64 n, .string s], .agg #[.bool c, .float .f64 y, .int .i64 m, .string t]] w _
  cases b <;> cases c
  case false.true =>
    go_enter Try.func27, Try.ntmps27
    go_wp2_with fail
    go_ret
    exact ⟨ret_bool (by simp [sameV]), ((Bl.refl w).alloc _).alloc _⟩
  case true.false =>
    go_enter Try.func27, Try.ntmps27
    go_wp2_with fail
    go_ret
    exact ⟨ret_bool (by simp [sameV]), ((Bl.refl w).alloc _).alloc _⟩
  all_goals
    go_enter Try.func27, Try.ntmps27
    go_wp2_with fail
    refine (refSame_any x y _ hx hy).mono ?_
    rintro e w1 ⟨rfl, rfl⟩
    by_cases hf : fkey x = fkey y
    · have HF := Lib.hid hf
      rw [decide_eq_true hf]
      clear hf
      go_wp2_with fail
      all_goals (go_ret; refine ⟨ret_bool ?_, ((Bl.refl w).alloc _).alloc _⟩)
      all_goals (have h1 := HF.out; simp_all [sameV])
    · have HF := Lib.hid hf
      rw [decide_eq_false hf]
      clear hf
      go_wp2_with fail
      all_goals (go_ret; refine ⟨ret_bool ?_, ((Bl.refl w).alloc _).alloc _⟩)
      all_goals (have h1 := HF.out; simp [sameV, h1])
set_option maxHeartbeats 1600000 in
set_option maxRecDepth 100000 in
theorem refSameA_any (a d : ActL) (w : World) (oa : a.Ok) (ob : d.Ok) :
    Calls Try.prog 67 #[a.v, d.v] w fun e w' => e = .returned (.bool (sameA a d)) ∧ Bl w w' := by
  obtain ⟨k, x, n, s⟩ := a
  obtain ⟨l, y, m, t⟩ := d
  obtain ⟨_, hx, _, _⟩ := oa
  obtain ⟨_, hy, _, _⟩ := ob
  simp only at hx hy
  show Calls Try.prog 67 #[.agg #[.int .i64 k, .float .f64 x, .int .i64 n, .string s], .agg #[.int .i64 l, .float .f64 y, .int .i64 m, .string t]] w _
  by_cases hk : k = l
  · subst hk
    by_cases hf : fkey x = fkey y
    · have HF := Lib.hid hf
      go_enter Try.func67, Try.ntmps67
      go_wp2_with fail
      refine (refSame_any x y _ hx hy).mono ?_
      rintro e w1 ⟨rfl, rfl⟩
      rw [decide_eq_true hf]
      clear hf
      go_wp2_with fail
      all_goals (go_ret; refine ⟨ret_bool ?_, ((Bl.refl w).alloc _).alloc _⟩)
      all_goals (have h1 := HF.out; simp_all [sameA])
    · have HF := Lib.hid hf
      go_enter Try.func67, Try.ntmps67
      go_wp2_with fail
      refine (refSame_any x y _ hx hy).mono ?_
      rintro e w1 ⟨rfl, rfl⟩
      rw [decide_eq_false hf]
      clear hf
      go_wp2_with fail
      go_ret
      refine ⟨ret_bool ?_, ((Bl.refl w).alloc _).alloc _⟩
      have h1 := HF.out
      simp [sameA, h1]
  · have q : (k == l) = false := by simpa using hk
    have HK := Lib.hid hk
    clear hk
    go_enter Try.func67, Try.ntmps67
    go_wp2_with fail
    go_ret
    refine ⟨ret_bool ?_, ((Bl.refl w).alloc _).alloc _⟩
    have h1 := HK.out
    simp [sameA, h1]
end Go.Proofs.Ytaokennbpgdngaa
