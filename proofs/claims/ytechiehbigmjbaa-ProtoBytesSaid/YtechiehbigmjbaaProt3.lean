/- proto.of: what a kind of request uses. By an AI agent. -/
import Derived.Test.YtechiehbigmjbaaProt1
import Derived.Test.YtechiehbigmjbaaFill
import Derived.Deep.DeepCutAuto
set_option linter.unusedVariables false
set_option linter.unusedSimpArgs false
namespace Go.Proofs.Ytechiehbigmjbaa
open Go.RowKit

/-- what a kind uses, as the program has it -/
def usesV (k : Int) : List Value := [.bool (uSes k), .bool (uAt k), .bool (uTx k), .bool (uKey k), .bool (uAct k), .bool (uText k), .bool (uNum k), .bool (uId k)]
theorem of_results {tmps : Array Value} {W : World} {g : Nat} {b : Bool} {c0 c1 c2 c3 c4 c5 c6 c7 : Value} (h : tmps.getD 2 undef = .pointer (some ⟨g, 0, none⟩)) (h3 : tmps.getD 3 undef = .bool b) (hc : AC W g [c0, c1, c2, c3, c4, c5, c6, c7]) :
    (results Try.f94 tmps).run Try.prog W = .ok (.tuple #[.agg #[c0, c1, c2, c3, c4, c5, c6, c7], .bool b]) W := by
  rw [Array.getD_eq_getD_getElem?] at h h3
  have k0 := hc.cell 0 _ rfl
  have k1 := hc.cell 1 _ rfl
  have k2 := hc.cell 2 _ rfl
  have k3 := hc.cell 3 _ rfl
  have k4 := hc.cell 4 _ rfl
  have k5 := hc.cell 5 _ rfl
  have k6 := hc.cell 6 _ rfl
  have k7 := hc.cell 7 _ rfl
  simp [results, Try.results94, go_sem, h, h3, k0, k1, k2, k3, k4, k5, k6, k7]

/-- what all kinds use -/
def usesT : List Value := [.bool false, .bool false, .bool false, .bool false, .bool false, .bool false, .bool false, .bool false, .bool true, .bool false, .bool false, .bool false, .bool false, .bool false, .bool false, .bool false, .bool true, .bool true, .bool false, .bool false, .bool false, .bool false, .bool false, .bool false, .bool true, .bool false, .bool true, .bool true, .bool false, .bool false, .bool false, .bool false, .bool true, .bool false, .bool true, .bool true, .bool true, .bool false, .bool false, .bool false, .bool true, .bool false, .bool true, .bool false, .bool false, .bool false, .bool false, .bool false, .bool true, .bool false, .bool true, .bool false, .bool false, .bool false, .bool false, .bool false, .bool true, .bool false, .bool true, .bool true, .bool false, .bool true, .bool true, .bool false, .bool true, .bool true, .bool false, .bool false, .bool false, .bool false, .bool true, .bool false, .bool true, .bool false, .bool false, .bool false, .bool false, .bool false, .bool true, .bool true, .bool true, .bool false, .bool false, .bool false, .bool false, .bool false, .bool false, .bool true, .bool true, .bool false, .bool false, .bool false, .bool false, .bool false, .bool false, .bool false, .bool true, .bool false, .bool false, .bool false, .bool false, .bool false, .bool false, .bool false, .bool true, .bool false, .bool false, .bool false, .bool false, .bool false, .bool false, .bool false, .bool true, .bool true, .bool false, .bool false, .bool false, .bool false, .bool false, .bool false, .bool true, .bool false, .bool false, .bool false, .bool false, .bool true, .bool false, .bool false]
theorem usesT_get (k : Nat) (h : k < 16) : usesT[k * 8]? = some (.bool (uSes k)) ∧ usesT[k * 8 + 1]? = some (.bool (uAt k)) ∧ usesT[k * 8 + 2]? = some (.bool (uTx k)) ∧ usesT[k * 8 + 3]? = some (.bool (uKey k)) ∧
    usesT[k * 8 + 4]? = some (.bool (uAct k)) ∧ usesT[k * 8 + 5]? = some (.bool (uText k)) ∧ usesT[k * 8 + 6]? = some (.bool (uNum k)) ∧ usesT[k * 8 + 7]? = some (.bool (uId k)) := by
  have hk : k = 0 ∨ k = 1 ∨ k = 2 ∨ k = 3 ∨ k = 4 ∨ k = 5 ∨ k = 6 ∨ k = 7 ∨ k = 8 ∨ k = 9 ∨ k = 10 ∨ k = 11 ∨ k = 12 ∨ k = 13 ∨ k = 14 ∨ k = 15 := by omega
  rcases hk with rfl | rfl | rfl | rfl | rfl | rfl | rfl | rfl | rfl | rfl | rfl | rfl | rfl | rfl | rfl | rfl <;> exact ⟨rfl, rfl, rfl, rfl, rfl, rfl, rfl, rfl⟩
theorem AC.uses {W : World} {g : Nat} (h : AC W g usesT) (k : Nat) (hk : k < 16) : W.cell? ⟨g, k * 8, none⟩ = some (.bool (uSes k)) ∧ W.cell? ⟨g, k * 8 + 1, none⟩ = some (.bool (uAt k)) ∧ W.cell? ⟨g, k * 8 + 2, none⟩ = some (.bool (uTx k)) ∧ W.cell? ⟨g, k * 8 + 3, none⟩ = some (.bool (uKey k)) ∧ W.cell? ⟨g, k * 8 + 4, none⟩ = some (.bool (uAct k)) ∧ W.cell? ⟨g, k * 8 + 5, none⟩ = some (.bool (uText k)) ∧ W.cell? ⟨g, k * 8 + 6, none⟩ = some (.bool (uNum k)) ∧ W.cell? ⟨g, k * 8 + 7, none⟩ = some (.bool (uId k)) := by
  obtain ⟨h0, h1, h2, h3, h4, h5, h6, h7⟩ := usesT_get k hk
  exact ⟨h.cell _ _ h0, h.cell _ _ h1, h.cell _ _ h2, h.cell _ _ h3, h.cell _ _ h4, h.cell _ _ h5, h.cell _ _ h6, h.cell _ _ h7⟩
set_option maxHeartbeats 1600000 in
set_option maxRecDepth 100000 in
theorem of_yes (k : Nat) (w : World) (hk : k < 16) :
    Calls Try.prog 94 #[.int .i64 k] w fun e w' => e = .returned (.tuple #[.agg (usesV k).toArray, .bool true]) ∧ Bl w w' := by
  go_enter Try.func94, Try.ntmps94
  go_upto_region 1 with fail
  go_cut [4] (fun s4 W => s4 = .slice (some ⟨w.heap.size + 1, 0, none⟩) 16 16 ∧ Bl w W ∧ AC W w.heap.size [.bool false, .bool false, .bool false, .bool false, .bool false, .bool false, .bool false, .bool false] ∧ AC W (w.heap.size + 1) usesT)
  case first =>
    go_wp2_with fail
    go_meet
    case rel => exact ⟨rfl, ((Bl.refl w).alloc _).alloc _, (AC.new w _ rfl [.bool false, .bool false, .bool false, .bool false, .bool false, .bool false, .bool false, .bool false] _).keep ((Bl.refl _).alloc _), AC.new _ (w.heap.size + 1) (by simp) usesT _⟩
  case rest =>
    obtain ⟨rfl, hb, hr, ht⟩ := hcut
    obtain ⟨d0, d1, d2, d3, d4, d5, d6, d7⟩ := ht.uses k hk
    have fr := hr.frozen
    have k0 := hr.cell 0 _ rfl
    have k1 := hr.cell 1 _ rfl
    have k2 := hr.cell 2 _ rfl
    have k3 := hr.cell 3 _ rfl
    have k4 := hr.cell 4 _ rfl
    have k5 := hr.cell 5 _ rfl
    have k6 := hr.cell 6 _ rfl
    have k7 := hr.cell 7 _ rfl
    have HR := Lib.hid hr
    have HB := Lib.hid hb
    clear hr hb ht
    have HU := Lib.hid (show usesV k = [.bool (uSes k), .bool (uAt k), .bool (uTx k), .bool (uKey k), .bool (uAct k), .bool (uText k), .bool (uNum k), .bool (uId k)] from rfl)
    generalize uSes k = b0 at *
    generalize uAt k = b1 at *
    generalize uTx k = b2 at *
    generalize uKey k = b3 at *
    generalize uAct k = b4 at *
    generalize uText k = b5 at *
    generalize uNum k = b6 at *
    generalize uId k = b7 at *
    go_wp2_with fail
    refine bodyPost_ret (of_results rfl rfl (HR.out.fill [.bool b0, .bool b1, .bool b2, .bool b3, .bool b4, .bool b5, .bool b6, .bool b7] rfl)) rfl ⟨by rw [HU.out], ?_⟩
    exact Bl.fill (Nat.le_refl _) [.bool b0, .bool b1, .bool b2, .bool b3, .bool b4, .bool b5, .bool b6, .bool b7] wc 0 HB.out
set_option maxHeartbeats 1600000 in
set_option maxRecDepth 100000 in
theorem of_no (k : Int) (w : World) (hk : k < 0 ∨ 16 ≤ k) :
    Calls Try.prog 94 #[.int .i64 k] w fun e w' => e = .returned (.tuple #[.agg #[.bool false, .bool false, .bool false, .bool false, .bool false, .bool false, .bool false, .bool false], .bool false]) ∧ Bl w w' := by
  go_enter Try.func94, Try.ntmps94
  go_upto_region 1 with fail
  go_cut [4] (fun s4 W => s4 = .slice (some ⟨w.heap.size + 1, 0, none⟩) 16 16 ∧ Bl w W ∧ AC W w.heap.size [.bool false, .bool false, .bool false, .bool false, .bool false, .bool false, .bool false, .bool false])
  case first =>
    go_wp2_with fail
    go_meet
    case rel => exact ⟨rfl, ((Bl.refl w).alloc _).alloc _, (AC.new w _ rfl [.bool false, .bool false, .bool false, .bool false, .bool false, .bool false, .bool false, .bool false] _).keep ((Bl.refl _).alloc _)⟩
  case rest =>
    obtain ⟨rfl, hb, hr⟩ := hcut
    have fr := hr.frozen
    have k0 := hr.cell 0 _ rfl
    have k1 := hr.cell 1 _ rfl
    have k2 := hr.cell 2 _ rfl
    have k3 := hr.cell 3 _ rfl
    have k4 := hr.cell 4 _ rfl
    have k5 := hr.cell 5 _ rfl
    have k6 := hr.cell 6 _ rfl
    have k7 := hr.cell 7 _ rfl
    have HR := Lib.hid hr
    have HB := Lib.hid hb
    clear hr hb
    by_cases hk0 : k < 0
    · go_wp2_with fail
      refine bodyPost_ret (of_results rfl rfl (HR.out.fill [.bool false, .bool false, .bool false, .bool false, .bool false, .bool false, .bool false, .bool false] rfl)) rfl ⟨rfl, ?_⟩
      exact Bl.fill (Nat.le_refl _) [.bool false, .bool false, .bool false, .bool false, .bool false, .bool false, .bool false, .bool false] wc 0 HB.out
    · have hk1 : 16 ≤ k := by omega
      clear hk
      go_wp2_with fail
      refine bodyPost_ret (of_results rfl rfl (HR.out.fill [.bool false, .bool false, .bool false, .bool false, .bool false, .bool false, .bool false, .bool false] rfl)) rfl ⟨rfl, ?_⟩
      exact Bl.fill (Nat.le_refl _) [.bool false, .bool false, .bool false, .bool false, .bool false, .bool false, .bool false, .bool false] wc 0 HB.out
end Go.Proofs.Ytechiehbigmjbaa
