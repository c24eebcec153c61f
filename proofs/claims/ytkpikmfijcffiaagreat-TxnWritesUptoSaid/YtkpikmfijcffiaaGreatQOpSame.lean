import Derived.Test.YtkpikmfijcffiaaGreatQOpA
import Derived.Test.YtkpikmfijcffiaaGreatQOpPut

/- op.Same. By an AI agent. -/
section
namespace Go.Proofs.YtkpikmfijcffiaaGreat
open Go.RowKit

/-- two boxes -/
structure A2 (w W : World) (b : Int) (x : Nat) (n : Int) (s : ByteArray) (c : Int) (y : Nat) (m : Int) (t : ByteArray) : Prop where
  bl : Bl w W
  a : AC W w.heap.size [.int .i64 b, .float .f64 x, .int .i64 n, .string s]
  b : AC W (w.heap.size + 1) [.int .i64 c, .float .f64 y, .int .i64 m, .string t]
theorem A2.new (w : World) (b : Int) (x : Nat) (n : Int) (s : ByteArray) (c : Int) (y : Nat) (m : Int) (t : ByteArray) (T U : TypeId) {W : World}
    (hb : Bl ((w.alloc (.cells #[.int .i64 b, .float .f64 x, .int .i64 n, .string s] T)).alloc (.cells #[.int .i64 c, .float .f64 y, .int .i64 m, .string t] U)) W) : A2 w W b x n s c y m t := by
  have h1 := (AC.new w _ rfl [.int .i64 b, .float .f64 x, .int .i64 n, .string s] T).keep ((Bl.refl _).alloc (.cells #[.int .i64 c, .float .f64 y, .int .i64 m, .string t] U))
  have h2 := AC.new (w.alloc (.cells #[.int .i64 b, .float .f64 x, .int .i64 n, .string s] T)) (w.heap.size + 1) (by simp) [.int .i64 c, .float .f64 y, .int .i64 m, .string t] U
  exact ⟨(((Bl.refl w).alloc _).alloc _).trans hb, h1.keep hb, h2.keep hb⟩

set_option maxHeartbeats 1600000 in
set_option maxRecDepth 100000 in
theorem sameA_any (a d : ActL) (w : World) (oa : a.Ok) (ob : d.Ok) :
    Calls Tryz.prog 110 #[.agg #[.int .i64 a.k, .float .f64 a.x, .int .i64 a.n, .string a.s], .agg #[.int .i64 d.k, .float .f64 d.x, .int .i64 d.n, .string d.s]] w fun e w' => e = .returned (.bool (sameA a d)) ∧ Bl w w' := by
  obtain ⟨b, x, n, s⟩ := a
  obtain ⟨c, y, m, t⟩ := d
  obtain ⟨_, hx, _, _⟩ := oa
  obtain ⟨_, hy, _, _⟩ := ob
  simp only at hx hy ⊢
  by_cases hk : b = c
  · subst hk
    go_enter Tryz.func110, Tryz.ntmps110
    go_wp2_with fail
    refine (rsameF_any x y _ hx hy).mono ?_
    rintro e w1 ⟨rfl, hb1⟩
    have G := A2.new w _ x n s _ y m t _ _ hb1
    clear hb1
    obtain ⟨a0, a1, a2, a3⟩ := G.a.act
    obtain ⟨b0, b1, b2, b3⟩ := G.b.act
    by_cases hf : fkey x = fkey y
    · have HF := Lib.hid hf
      rw [decide_eq_true hf]
      clear hf
      go_wp2_with fail
      all_goals (go_ret; refine ⟨ret_bool ?_, G.bl⟩)
      all_goals (have h1 := HF.out; simp_all [sameA])
    · have HF := Lib.hid hf
      rw [decide_eq_false hf]
      clear hf
      go_wp2_with fail
      all_goals (go_ret; refine ⟨ret_bool ?_, G.bl⟩)
      all_goals (have h1 := HF.out; simp [sameA, h1])
  · have q : (b == c) = false := by simpa using hk
    have HK := Lib.hid hk
    clear hk
    go_enter Tryz.func110, Tryz.ntmps110
    go_wp2_with fail
    go_ret
    exact ⟨ret_bool (by have := HK.out; simp [sameA, this]), ((Bl.refl w).alloc _).alloc _⟩
theorem sameA_agg (l : Int) (y : Nat) (m : Int) (t : ByteArray) (k : Int) (x : Nat) (n : Int) (s : ByteArray) (r : Bool) (w : World)
    (h : Hid (sameA ⟨l, y, m, t⟩ ⟨k, x, n, s⟩ = r)) (ob : Hid (ActL.Ok ⟨l, y, m, t⟩)) (oa : Hid (ActL.Ok ⟨k, x, n, s⟩)) :
    Calls Tryz.prog 110 #[.agg #[.int .i64 l, .float .f64 y, .int .i64 m, .string t], .agg #[.int .i64 k, .float .f64 x, .int .i64 n, .string s]] w fun e w' => e = .returned (.bool r) ∧ Bl w w' := by
  refine (sameA_any ⟨l, y, m, t⟩ ⟨k, x, n, s⟩ w ob.out oa.out).mono ?_
  rintro e w' ⟨rfl, hb⟩
  rw [h.out]
  exact ⟨rfl, hb⟩
theorem put_agg (k : Int) (x : Nat) (n : Int) (s : ByteArray) (b : ByteArray) (c : Int) (w : World) (oa : Hid (ActL.Ok ⟨k, x, n, s⟩)) (h : Hid (SB b (putS ⟨k, x, n, s⟩) ∧ putC ⟨k, x, n, s⟩ = c)) :
    Calls Tryz.prog 100 #[.agg #[.int .i64 k, .float .f64 x, .int .i64 n, .string s]] w fun e w' => e = .returned (.tuple #[.string b, .int .i64 c]) ∧ Bl w w' := by
  refine (opPut_any ⟨k, x, n, s⟩ w oa.out).mono ?_
  rintro e w' ⟨rfl, hb⟩
  rw [h.out.2, SB.eq h.out.1 (SB.mk _)]
  exact ⟨rfl, hb⟩
end Go.Proofs.YtkpikmfijcffiaaGreat
end
