/- gossip: a nil pointer to rows, and rows that are none. By an AI agent. -/
import Derived.Test.YtechiehbigmjbaaLoad1
import Derived.Test.YtechiehbigmjbaaNanIs
import Derived.Test.YtechiehbigmjbaaGossip6
set_option linter.unusedVariables false
set_option linter.unusedSimpArgs false
namespace Go.Proofs.Ytechiehbigmjbaa
open Go.RowKit

/-- a pointer behind which there are no rows -/
def NoRows (w : World) (p : Option Addr) : Prop := p = none ∨ ∃ g, p = some ⟨g, 0, none⟩ ∧ C1 w g (.slice none 0 0)
theorem NoRows.keep {w w' : World} {p : Option Addr} (h : NoRows w p) (hb : Bl w w') : NoRows w' p := by
  rcases h with h | ⟨g, h, hc⟩
  · exact .inl h
  · exact .inr ⟨g, h, hc.keep hb⟩
theorem none_yes (p : Option Addr) (w : World) (h : NoRows w p) : Calls Try.prog 71 #[.pointer p] w fun e w' => e = .returned (.bool true) ∧ w = w' := by
  rcases h with rfl | ⟨g, rfl, hc⟩
  · exact none_nil w
  · exact none_any g 0 0 none w hc
theorem setN_any (p : Option Addr) (i : Int) (v : Value) (w : World) (h : NoRows w p) : Calls Try.prog 22 #[.pointer p, .int .i64 i, v] w fun e w' => e = .returned (.int .i64 1) ∧ w = w' := by
  go_enter Try.func22, Try.ntmps22
  go_wp2_with fail
  refine (none_yes p _ h).mono ?_
  rintro e w1 ⟨rfl, rfl⟩
  go_wp2_with fail
  go_ret
  exact ⟨rfl, rfl⟩
theorem rowN_any (p : Option Addr) (i : Int) (w : World) (h : NoRows w p) : Calls Try.prog 23 #[.pointer p, .int .i64 i] w fun e w' => e = .returned (.slice none 0 0) ∧ w = w' := by
  go_enter Try.func23, Try.ntmps23
  go_wp2_with fail
  refine (none_yes p _ h).mono ?_
  rintro e w1 ⟨rfl, rfl⟩
  go_wp2_with fail
  go_ret
  exact ⟨rfl, rfl⟩
theorem allN_any (p : Option Addr) (f : Value) (w : World) (h : NoRows w p) : Calls Try.prog 74 #[.pointer p, f] w fun e w' => e = .returned (.slice none 0 0) ∧ w = w' := by
  go_enter Try.func74, Try.ntmps74
  go_wp2_with fail
  refine (none_yes p _ h).mono ?_
  rintro e w1 ⟨rfl, rfl⟩
  go_wp2_with fail
  go_ret
  exact ⟨rfl, rfl⟩
theorem stableN_any (p : Option Addr) (w : World) (h : NoRows w p) : Calls Try.prog 20 #[.pointer p] w fun e w' => e = .returned (.slice none 0 0) ∧ w = w' := by
  go_enter Try.func20, Try.ntmps20
  go_wp2_with fail
  refine (allN_any p _ _ h).mono ?_
  rintro e w1 ⟨rfl, rfl⟩
  go_wp2_with fail
  go_ret
  exact ⟨rfl, rfl⟩
theorem bestN_any (p : Option Addr) (w : World) (h : NoRows w p) : Calls Try.prog 24 #[.pointer p] w fun e w' => e = .returned (.slice none 0 0) ∧ w = w' := by
  go_enter Try.func24, Try.ntmps24
  go_wp2_with fail
  refine (allN_any p _ _ h).mono ?_
  rintro e w1 ⟨rfl, rfl⟩
  go_wp2_with fail
  go_ret
  exact ⟨rfl, rfl⟩
theorem putN_none (p : Option Addr) (w : World) (h : NoRows w p) : Calls Try.prog 18 #[.pointer p] w fun e w' => e = .returned (.string ⟨#[]⟩) ∧ w = w' := by
  go_enter Try.func18, Try.ntmps18
  go_wp2_with fail
  refine (none_yes p _ h).mono ?_
  rintro e w1 ⟨rfl, rfl⟩
  go_wp2_with fail
  go_ret
  exact ⟨rfl, rfl⟩
theorem lagN_any (p : Option Addr) (w : World) (h : NoRows w p) : Calls Try.prog 25 #[.pointer p] w fun e w' => e = .returned (.float .f64 nanW) ∧ w = w' := by
  go_enter Try.func25, Try.ntmps25
  go_wp2_with fail
  refine (nan_is _).mono ?_
  rintro e w1 ⟨rfl, rfl⟩
  go_wp2_with fail
  refine (bestN_any p _ h).mono ?_
  rintro e w1 ⟨rfl, rfl⟩
  go_wp2_with fail
  refine (stableN_any p _ h).mono ?_
  rintro e w1 ⟨rfl, rfl⟩
  go_wp2_with fail
  go_loop [3, 13] (fun v i => v = .float .f64 nanW ∧ i = .int .i64 0) (fun _ _ => 0)
  case atStart => exact ⟨rfl, rfl⟩
  case round =>
    obtain ⟨rfl, rfl⟩ := hrel
    go_wp2_with fail
    go_ret
    exact ⟨rfl, rfl⟩
end Go.Proofs.Ytechiehbigmjbaa
