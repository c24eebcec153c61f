import Derived.Test.YtkpikmfijcffiaaGreatQOpA
import Derived.Test.YtkpikmfijcffiaaGreatQRefCmp

/- parts of other texts. By an AI agent. -/
section
set_option linter.unusedVariables false
set_option linter.unusedSimpArgs false
namespace Go.Proofs.YtkpikmfijcffiaaGreat
open Go.RowKit

theorem small_of {s : ByteArray} (h : s.toList = []) : s.size ≤ 1024 := by
  rw [nil_of h]; decide
theorem empty_of {s : ByteArray} (h : s.size = 0) : s.toList.isEmpty = true := by
  rw [ByteArray.toList_eq]
  obtain ⟨⟨l⟩⟩ := s
  cases l with
  | nil => rfl
  | cons a l => simp [ByteArray.size] at h
theorem filled_of {s : ByteArray} (h : 0 < s.size) : s.toList.isEmpty = false := by
  rw [ByteArray.toList_eq]
  obtain ⟨⟨l⟩⟩ := s
  cases l with
  | nil => exact absurd h (by decide)
  | cons a l => rfl
set_option maxHeartbeats 800000 in
set_option maxRecDepth 100000 in
theorem refRight_any (a : ActL) (w : World) (ok : a.Ok) : Calls Tryz.prog 116 #[a.v] w fun e w' => e = .returned (.bool (rightB a)) ∧ Bl w w' := by
  obtain ⟨k, x, n, s⟩ := a
  obtain ⟨hk, hx, hn, hs⟩ := ok
  simp only at hk hx hn hs
  show Calls Tryz.prog 116 #[.agg #[.int .i64 k, .float .f64 x, .int .i64 n, .string s]] w _
  go_enter Tryz.func116, Tryz.ntmps116
  go_wp2_with fail
  refine (refSame_any x 0 _ hx (by decide)).mono ?_
  rintro e w' ⟨rfl, rfl⟩
  rw [show decide (fkey x = fkey 0) = noughtB x from rfl]
  cases hN : noughtB x
  all_goals
    go_wp2_with fail
    all_goals (go_ret; refine ⟨ret_bool ?_, (Bl.refl w).alloc _⟩)
    all_goals (unfold rightB; simp_all; try omega)
    all_goals exact small_of
set_option maxHeartbeats 1600000 in
set_option maxRecDepth 100000 in
theorem refSameA_any (a d : ActL) (w : World) (oa : a.Ok) (ob : d.Ok) :
    Calls Tryz.prog 29 #[a.v, d.v] w fun e w' => e = .returned (.bool (sameA a d)) ∧ Bl w w' := by
  obtain ⟨k, x, n, s⟩ := a
  obtain ⟨l, y, m, t⟩ := d
  obtain ⟨_, hx, _, _⟩ := oa
  obtain ⟨_, hy, _, _⟩ := ob
  simp only at hx hy
  show Calls Tryz.prog 29 #[.agg #[.int .i64 k, .float .f64 x, .int .i64 n, .string s], .agg #[.int .i64 l, .float .f64 y, .int .i64 m, .string t]] w _
  by_cases hk : k = l
  · subst hk
    by_cases hf : fkey x = fkey y
    · have HF := Lib.hid hf
      go_enter Tryz.func29, Tryz.ntmps29
      go_wp2_with fail
      refine (refSame_any x y _ hx hy).mono ?_
      rintro e w1 ⟨rfl, rfl⟩
      rw [decide_eq_true hf]
      clear hf
      go_wp2_with fail
      all_goals (go_ret; refine ⟨ret_bool ?_, ((Bl.refl w).alloc _).alloc _⟩)
      all_goals (have h1 := HF.out; simp_all [sameA])
    · have HF := Lib.hid hf
      go_enter Tryz.func29, Tryz.ntmps29
      go_wp2_with fail
      refine (refSame_any x y _ hx hy).mono ?_
      rintro e w1 ⟨rfl, rfl⟩
      rw [decide_eq_false hf]
      clear hf
      go_wp2_with fail
      go_ret
      refine ⟨ret_bool ?_, ((Bl.refl w).alloc _).alloc _⟩
      have h1 := HF.out
      simp [sameA, h1]
  · have q : (k == l) = false := by simpa using hk
    have HK := Lib.hid hk
    clear hk
    go_enter Tryz.func29, Tryz.ntmps29
    go_wp2_with fail
    go_ret
    refine ⟨ret_bool ?_, ((Bl.refl w).alloc _).alloc _⟩
    have h1 := HK.out
    simp [sameA, h1]
end Go.Proofs.YtkpikmfijcffiaaGreat
end
