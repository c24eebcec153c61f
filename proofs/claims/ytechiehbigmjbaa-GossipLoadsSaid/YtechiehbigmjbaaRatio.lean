/- real.Ratio, math.NaN. By an AI agent. -/
import Derived.Test.YtechiehbigmjbaaReal3
import Derived.Laws.FloatArith
namespace Go.Proofs.Ytechiehbigmjbaa
open Go.RowKit

theorem nan_tape (t : Nat) : ((t % 2) * 2 ^ 63 + 0x7ff0000000000000 + 1 + (t / 2) % (2 ^ 52 - 1)) < two64 ∧ nanB ((t % 2) * 2 ^ 63 + 0x7ff0000000000000 + 1 + (t / 2) % (2 ^ 52 - 1)) = true := by
  have h1 : (t / 2) % (2 ^ 52 - 1) < 2 ^ 52 - 1 := Nat.mod_lt _ (by decide)
  generalize (t / 2) % (2 ^ 52 - 1) = u at *
  have h2 : t % 2 = 0 ∨ t % 2 = 1 := by omega
  unfold nanB two64 two63 infR
  rcases h2 with h2 | h2 <;> rw [h2]
  · exact ⟨by omega, by simp; omega⟩
  · exact ⟨by omega, by simp; omega⟩

theorem nan_cut (x y t : Nat) : (Question.cut (.nanBits .f64 x y) t) < two64 ∧ nanB (Question.cut (.nanBits .f64 x y) t) = true := nan_tape t

/-- an operation that has no answer gives some NaN -/
theorem run_float_nan (op : BinOp) (hop : op = .quo ∨ op = .sub) (t : TypeId) (x y : Nat) (h : floatBits op .f64 x y = none) (w : World) :
    ∃ r, nanB r = true ∧ r < two64 ∧ (binOp op t (.float .f64 x) (.float .f64 y)).run Try.prog w = .ok (.float .f64 r) w.drew := by
  refine ⟨Question.cut (.nanBits .f64 x y) (w.tape w.drawn (.nanBits .f64 x y)), (nan_cut _ _ _).2, (nan_cut _ _ _).1, ?_⟩
  generalize hc : Question.cut (.nanBits .f64 x y) (w.tape w.drawn (.nanBits .f64 x y)) = c
  rcases hop with rfl | rfl
  · have h' : FloatKind.f64.format.div x y = none := h
    simp [binOp, Op.floatArith, h', go_sem, hc]
  · have h' : FloatKind.f64.format.sub x y = none := h
    simp [binOp, Op.floatArith, h', go_sem, hc]
/-- what an operation gives: its answer, or some NaN -/
def FRes (o : Option Nat) (x : Nat) : Prop := x < two64 ∧ ((∃ r, o = some r ∧ x = r) ∨ (o = none ∧ nanB x = true))
theorem run_float (op : BinOp) (hop : op = .quo ∨ op = .sub) (t : TypeId) (x y : Nat) (w : World) :
    ∃ r w', FRes (floatBits op .f64 x y) r ∧ (binOp op t (.float .f64 x) (.float .f64 y)).run Try.prog w = .ok (.float .f64 r) w' ∧ Bl w w' := by
  cases h : floatBits op .f64 x y with
  | none =>
    obtain ⟨r, h1, h2, h3⟩ := run_float_nan op hop t x y h w
    exact ⟨r, _, ⟨h2, .inr ⟨rfl, h1⟩⟩, h3, (Bl.refl w).drew⟩
  | some r =>
    have hw := floatBits_wf h
    have hl : r < two64 := by
      simp [Lit.wf] at hw
      exact hw
    exact ⟨r, _, ⟨hl, .inl ⟨r, rfl, rfl⟩⟩, run_float_arith w op t .f64 x y r h, Bl.refl w⟩

theorem ratio_any (a b : Int) (w : World) :
    Calls Try.prog 83 #[.int .i64 a, .int .i64 b] w fun e w' => ∃ x, e = .returned (.float .f64 x) ∧ FRes (floatBits .quo .f64 (floatOfInt .f64 a) (floatOfInt .f64 b)) x ∧ Bl w w' := by
  obtain ⟨r, w1, hr, hrun, hb⟩ := run_float .quo (.inl rfl) 40 (floatOfInt .f64 a) (floatOfInt .f64 b) w
  have HR := Lib.hid hr; clear hr
  go_enter Try.func83, Try.ntmps83
  go_wp2_with fail
  go_ret
  exact ⟨r, rfl, HR.out, hb⟩

theorem nan_any (w : World) :
    Calls Try.prog 81 #[] w fun e w' => ∃ x, e = .returned (.float .f64 x) ∧ FRes none x ∧ Bl w w' := by
  have hrb := run_frombits
  have HN := Lib.hid (show FRes none 9221120237041090561 from ⟨by decide, .inr ⟨rfl, by decide⟩⟩)
  go_enter Try.func81, Try.ntmps81
  go_wp2_with fail
  go_ret
  exact ⟨_, rfl, HN.out, Bl.refl _⟩
end Go.Proofs.Ytechiehbigmjbaa
