/- op.SameValue, Same. By an AI agent. -/
import Derived.Test.YtechiehbigmjbaaOp4
namespace Go.Proofs.Ytechiehbigmjbaa
open Go.RowKit

/-- two boxes -/
structure V2 (w W : World) (b : Bool) (x : Nat) (n : Int) (s : ByteArray) (c : Bool) (y : Nat) (m : Int) (t : ByteArray) : Prop where
  bl : Bl w W
  a : AC W w.heap.size [.bool b, .float .f64 x, .int .i64 n, .string s]
  b : AC W (w.heap.size + 1) [.bool c, .float .f64 y, .int .i64 m, .string t]
theorem V2.new (w : World) (b : Bool) (x : Nat) (n : Int) (s : ByteArray) (c : Bool) (y : Nat) (m : Int) (t : ByteArray) (T U : TypeId) {W : World}
    (hb : Bl ((w.alloc (.cells #[.bool b, .float .f64 x, .int .i64 n, .string s] T)).alloc (.cells #[.bool c, .float .f64 y, .int .i64 m, .string t] U)) W) : V2 w W b x n s c y m t := by
  have h1 := (AC.new w _ rfl [.bool b, .float .f64 x, .int .i64 n, .string s] T).keep ((Bl.refl _).alloc (.cells #[.bool c, .float .f64 y, .int .i64 m, .string t] U))
  have h2 := AC.new (w.alloc (.cells #[.bool b, .float .f64 x, .int .i64 n, .string s] T)) (w.heap.size + 1) (by simp) [.bool c, .float .f64 y, .int .i64 m, .string t] U
  exact ⟨(((Bl.refl w).alloc _).alloc _).trans hb, h1.keep hb, h2.keep hb⟩

set_option maxHeartbeats 1600000 in
set_option maxRecDepth 100000 in
theorem sameV_any (a d : ValL) (w : World) (oa : a.Ok) (ob : d.Ok) :
    Calls Try.prog 48 #[a.v, d.v] w fun e w' => e = .returned (.bool (sameV a d)) ∧ Bl w w' := by
  obtain ⟨b, x, n, s⟩ := a
  obtain ⟨c, y, m, t⟩ := d
  obtain ⟨hx, _, _⟩ := oa
  obtain ⟨hy, _, _⟩ := ob
  simp only at hx hy
  show Calls Try.prog 48 #[.agg #[.bool b, .float .f64 x, .int .i64 n, .string s], .agg #[.bool c, .float .f64 y, .int .i64 m, .string t]] w _
  cases b <;> cases c
  case false.true =>
    go_enter Try.func48, Try.ntmps48
    go_wp2_with fail
    go_ret
    exact ⟨ret_bool (by simp [sameV]), ((Bl.refl w).alloc _).alloc _⟩
  case true.false =>
    go_enter Try.func48, Try.ntmps48
    go_wp2_with fail
    go_ret
    exact ⟨ret_bool (by simp [sameV]), ((Bl.refl w).alloc _).alloc _⟩
  all_goals
    go_enter Try.func48, Try.ntmps48
    go_wp2_with fail
    refine (rsameF_any x y _ hx hy).mono ?_
    rintro e w1 ⟨rfl, hb1⟩
    have G := V2.new w _ x n s _ y m t _ _ hb1
    clear hb1
    obtain ⟨a0, a1, a2, a3⟩ := G.a.val
    obtain ⟨b0, b1, b2, b3⟩ := G.b.val
    by_cases hf : fkey x = fkey y
    · have HF := Lib.hid hf
      rw [decide_eq_true hf]
      clear hf
      go_wp2_with fail
      all_goals (go_ret; refine ⟨ret_bool ?_, G.bl⟩)
      all_goals (have h1 := HF.out; simp_all [sameV])
    · have HF := Lib.hid hf
      rw [decide_eq_false hf]
      clear hf
      go_wp2_with fail
      all_goals (go_ret; refine ⟨ret_bool ?_, G.bl⟩)
      all_goals (have h1 := HF.out; simp [sameV, h1])
end Go.Proofs.Ytechiehbigmjbaa
