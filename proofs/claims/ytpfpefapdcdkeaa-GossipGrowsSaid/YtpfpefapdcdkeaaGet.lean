/- vec.take, vec.Get. By an AI agent. -/
import Derived.Test.YtpfpefapdcdkeaaVec2
import Derived.Test.YtpfpefapdcdkeaaRaw
import Derived.Lib.Strings
import Derived.Recover
import Derived.Laws.Pointers
import Derived.WalkLawsBesides
namespace Go.Proofs.Ytpfpefapdcdkeaa
open Go.RowKit

theorem take_some (b : Nat) (s : ByteArray) (n : Nat) (w : World) (hc : w.cell? ⟨b, 0, none⟩ = some (.string s)) (hz : w.frozen? ⟨b, 0, none⟩ = false) (hn : n ≤ s.size) :
    Calls Try.prog 56 #[.pointer (some ⟨b, 0, none⟩), .int .i64 n] w fun e w' => e = .returned (.string (s.extract 0 n)) ∧ w' = w.setCell ⟨b, 0, none⟩ (.string (s.extract n s.size)) := by
  go_enter Try.func56, Try.ntmps56
  go_wp2
  go_ret
  exact ⟨rfl, rfl⟩
theorem take_short (b : Nat) (s : ByteArray) (n : Nat) (w : World) (hc : w.cell? ⟨b, 0, none⟩ = some (.string s)) (hn : s.size < n) :
    Calls Try.prog 56 #[.pointer (some ⟨b, 0, none⟩), .int .i64 n] w fun e w' => e = .panicked [{ v := .iface 28 (.int .i64 3), recovered := false }] ∧ w' = w := by
  go_enter Try.func56, Try.ntmps56
  go_wp2
  exact ⟨rfl, rfl, rfl⟩

theorem assert_code (c : Int) (w : World) : (Instr.typeAssert (.iface 28 (.int .i64 c)) 20 28 true).run Try.prog w = .ok (.tuple #[.int .i64 c, .bool true]) w := by
  simp [Instr.typeAssert, run_underlying Try.underlying28]

theorem catch_idle (a0 a1 a2 : Addr) (w : World) :
    CallsD Try.prog 55 #[.pointer (some a0), .pointer (some a1), .pointer (some a2)] .returning w fun e u' w' => e = .returned (.tuple #[]) ∧ u' = .returning ∧ w' = w := by
  refine callsD_of_wpS Try.func55 rfl fun c₀ cs hu => ?_
  apply wpS_seq
  apply wpS_region
  simp [wpOpsS, go_sem, recoverD, hu, Try.ntmps55, Exit.thenS]
  apply wpS_seq
  apply wpS_region
  simp [wpOpsS, go_sem, Exit.thenS]
  refine wpS_cond (t := false) (by simp [Act.eval, Array.replicate]) ?_
  simp only [Bool.false_eq_true, if_false]
  refine wpS_of_wp (wp_skip ?_)
  cases c₀
  simp_all [bodyPostS, results, Try.results55]

set_option maxRecDepth 100000 in
theorem catch_code (a0 a1 a2 : Addr) (c : Int) (v0 v1 v2 : Value) (older : List PanicEntry) (w : World) (h0 : w.cell? a0 = some v0) (h1 : w.cell? a1 = some v1) (h2 : w.cell? a2 = some v2)
    (f0 : w.frozen? a0 = false) (f1 : w.frozen? a1 = false) (f2 : w.frozen? a2 = false) (n01 : a0 ≠ a1) (n02 : a0 ≠ a2) (n12 : a1 ≠ a2) :
    CallsD Try.prog 55 #[.pointer (some a0), .pointer (some a1), .pointer (some a2)] (.panicking ({ v := .iface 28 (.int .i64 c), recovered := false } :: older)) w fun e u' w' =>
      e = .returned (.tuple #[]) ∧ u' = .panicking ({ v := .iface 28 (.int .i64 c), recovered := true } :: older) ∧ w' = ((w.setCell a0 (.slice none 0 0)).setCell a1 (.int .i64 0)).setCell a2 (.int .i64 c) := by
  refine callsD_of_wpS Try.func55 rfl fun c₀ cs hu => ?_
  apply wpS_seq
  apply wpS_region
  simp [wpOpsS, go_sem, recoverD, hu, Try.ntmps55, Exit.thenS]
  apply wpS_seq
  apply wpS_region
  simp [wpOpsS, go_sem, Exit.thenS]
  refine wpS_cond (t := true) (by simp [Act.eval, Array.replicate]) ?_
  simp only [if_true]
  apply wpS_seq
  apply wpS_region
  simp [wpOpsS, go_sem, Exit.thenS, assert_code, recoverD]
  apply wpS_seq
  apply wpS_seq
  apply wpS_region
  simp [wpOpsS, go_sem, Exit.thenS, recoverD]
  refine wpS_cond (t := false) (by simp [Act.eval, Array.replicate]) ?_
  simp only [Bool.false_eq_true, if_false]
  refine wpS_of_wp (wp_skip ?_)
  simp only [Exit.thenS]
  apply wpS_region
  have c1 : (w.setCell a0 (.slice none 0 0)).cell? a1 = some v1 := (World.cell?_setCell_other _ _ _ _ n01).trans h1
  have c2 : ((w.setCell a0 (.slice none 0 0)).setCell a1 (.int .i64 0)).cell? a2 = some v2 := (World.cell?_setCell_other _ _ _ _ n12).trans ((World.cell?_setCell_other _ _ _ _ n02).trans h2)
  simp [wpOpsS, go_sem, h0, f0, c1, f1, c2, f2, recoverD, bodyPostS, results, Try.results55]
end Go.Proofs.Ytpfpefapdcdkeaa
