import Derived.Test.YtaplefelfiefaaaGreatQArchiveTellsUptoP2
import Derived.Test.YtaplefelfiefaaaGreatQArchiveTellsUptoP12

/- parts of other texts. By an AI agent. -/
section
set_option linter.unusedVariables false
set_option linter.unusedSimpArgs false
namespace Go.Proofs.YtaplefelfiefaaaGreat
open Go.RowKit

/-- two boxes -/
structure V2 (w W : World) (b : Bool) (x : Nat) (n : Int) (s : ByteArray) (c : Bool) (y : Nat) (m : Int) (t : ByteArray) : Prop where
  bl : Bl w W
  a : AC W w.heap.size [.bool b, .float .f64 x, .int .i64 n, .string s]
  b : AC W (w.heap.size + 1) [.bool c, .float .f64 y, .int .i64 m, .string t]
theorem V2.new (w : World) (b : Bool) (x : Nat) (n : Int) (s : ByteArray) (c : Bool) (y : Nat) (m : Int) (t : ByteArray) (T U : TypeId) {W : World}
    (hb : Bl ((w.alloc (.cells #[.bool b, .float .f64 x, .int .i64 n, .string s] T)).alloc (.cells #[.bool c, .float .f64 y, .int .i64 m, .string t] U)) W) : V2 w W b x n s c y m t := by
  have h1 := (AC.new w _ rfl [.bool b, .float .f64 x, .int .i64 n, .string s] T).keep ((Bl.refl _).alloc (.cells #[.bool c, .float .f64 y, .int .i64 m, .string t] U))
  have h2 := AC.new (w.alloc (.cells #[.bool b, .float .f64 x, .int .i64 n, .string s] T)) (w.heap.size + 1) (by simp) [.bool c, .float .f64 y, .int .i64 m, .string t] U
  exact ⟨(((Bl.refl w).alloc _).alloc _).trans hb, h1.keep hb, h2.keep hb⟩
end Go.Proofs.YtaplefelfiefaaaGreat
end

/- op.SameValue, Same. By an AI agent. -/
section
namespace Go.Proofs.YtaplefelfiefaaaGreat
open Go.RowKit


set_option maxHeartbeats 1600000 in
set_option maxRecDepth 100000 in
theorem sameV_any (a d : ValL) (w : World) (oa : a.Ok) (ob : d.Ok) :
    Calls Tryz.prog 48 #[a.v, d.v] w fun e w' => e = .returned (.bool (sameV a d)) ∧ Bl w w' := by
  obtain ⟨b, x, n, s⟩ := a
  obtain ⟨c, y, m, t⟩ := d
  obtain ⟨hx, _, _⟩ := oa
  obtain ⟨hy, _, _⟩ := ob
  simp only at hx hy
  show Calls Tryz.prog 48 #[.agg #[.bool b, .float .f64 x, .int .i64 n, .string s], .agg #[.bool c, .float .f64 y, .int .i64 m, .string t]] w _
  cases b <;> cases c
  case false.true =>
    go_enter Tryz.func48, Tryz.ntmps48
    go_wp2_with fail
    go_ret
    exact ⟨ret_bool (by simp [sameV]), ((Bl.refl w).alloc _).alloc _⟩
  case true.false =>
    go_enter Tryz.func48, Tryz.ntmps48
    go_wp2_with fail
    go_ret
    exact ⟨ret_bool (by simp [sameV]), ((Bl.refl w).alloc _).alloc _⟩
  all_goals
    go_enter Tryz.func48, Tryz.ntmps48
    go_wp2_with fail
    refine (rsameF_any x y _ hx hy).mono ?_
    rintro e w1 ⟨rfl, hb1⟩
    have G := V2.new w _ x n s _ y m t _ _ hb1
    clear hb1
    obtain ⟨a0, a1, a2, a3⟩ := G.a.val
    obtain ⟨b0, b1, b2, b3⟩ := G.b.val
    by_cases hf : fkey x = fkey y
    · have HF := Lib.hid hf
      rw [decide_eq_true hf]
      clear hf
      go_wp2_with fail
      all_goals (go_ret; refine ⟨ret_bool ?_, G.bl⟩)
      all_goals (have h1 := HF.out; simp_all [sameV])
    · have HF := Lib.hid hf
      rw [decide_eq_false hf]
      clear hf
      go_wp2_with fail
      all_goals (go_ret; refine ⟨ret_bool ?_, G.bl⟩)
      all_goals (have h1 := HF.out; simp [sameV, h1])
end Go.Proofs.YtaplefelfiefaaaGreat
end

/- op.SameValue with structs taken apart. By an AI agent. -/
section
namespace Go.Proofs.YtaplefelfiefaaaGreat
open Go.RowKit

theorem same_agg (vb : Bool) (vx : Nat) (vn : Int) (vs : ByteArray) (rb : Bool) (rx : Nat) (rn : Int) (rs : ByteArray) (r : Bool) (w : World)
    (h : Hid (sameV ⟨vb, vx, vn, vs⟩ ⟨rb, rx, rn, rs⟩ = r)) (ov : Hid (ValL.Ok ⟨vb, vx, vn, vs⟩)) (oa : Hid (ValL.Ok ⟨rb, rx, rn, rs⟩)) :
    Calls Tryz.prog 48 #[.agg #[.bool vb, .float .f64 vx, .int .i64 vn, .string vs], .agg #[.bool rb, .float .f64 rx, .int .i64 rn, .string rs]] w fun e w' => e = .returned (.bool r) ∧ Bl w w' := by
  refine (sameV_any ⟨vb, vx, vn, vs⟩ ⟨rb, rx, rn, rs⟩ w ov.out oa.out).mono ?_
  rintro e w' ⟨rfl, hb⟩
  rw [h.out]
  exact ⟨rfl, hb⟩
end Go.Proofs.YtaplefelfiefaaaGreat
end
