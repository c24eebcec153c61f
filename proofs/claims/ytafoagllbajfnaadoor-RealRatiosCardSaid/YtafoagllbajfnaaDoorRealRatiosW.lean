/- the walk of RealRatios. By an AI agent. -/
import Derived.Test.YtafoagllbajfnaaDoorAlive2
import Derived.Test.YtafoagllbajfnaaDoorRat0
namespace Go.Proofs.YtafoagllbajfnaaDoor
open Go.RowKit

theorem ratio_self {a : Int} (h0 : a ≠ 0) (ha : a.natAbs ≤ two63) (w : World) :
    Calls Tryd.prog 38 #[.int .i64 a, .int .i64 a] w fun e w' => e = .returned (.float .f64 4607182418800017408) ∧ Bl w w' := by
  refine (ratio_any a a w).mono ?_
  rintro e w' ⟨x, rfl, hx, hb⟩
  rw [quoSelf h0 ha] at hx
  rw [fres_some hx]
  exact ⟨rfl, hb⟩

set_option maxHeartbeats 3200000 in
set_option maxRecDepth 100000 in
theorem realRatios_walk (a b : Int) (w : World) (ha : -9223372036854775808 ≤ a ∧ a ≤ 9223372036854775807) (hb : -9223372036854775808 ≤ b ∧ b ≤ 9223372036854775807) (hT : Tab w) :
    Calls Tryd.prog 10 #[.int .i64 a, .int .i64 b] w fun e w' => e = .returned (.bool true) ∧ Bl w w' := by
  have Na : a.natAbs ≤ two63 := by unfold two63; omega
  have Nb : b.natAbs ≤ two63 := by unfold two63; omega
  have NA := Lib.hid Na
  rcases (show a < 0 ∨ a = 0 ∨ 0 < a by omega) with hA | hA | hA <;> rcases (show b < 0 ∨ b = 0 ∨ 0 < b by omega) with hB | hB | hB
  all_goals
    (have HA := Lib.hid hA
     have HB1 := Lib.hid hB
     first | have fa0 : (a == 0) = false := beq_eq_false_iff_ne.2 (by omega) | have fa0 : (a == 0) = true := beq_iff_eq.2 (by omega)
     first | have fb0 : (b == 0) = false := beq_eq_false_iff_ne.2 (by omega) | have fb0 : (b == 0) = true := beq_iff_eq.2 (by omega)
     first | have fa9 : (a != 0) = true := bne_iff_ne.2 (by omega) | have fa9 : (a != 0) = false := (bne_eq_false_iff_eq).2 (by omega)
     first | have fa1 : decide (a < 0) = false := decide_eq_false (by omega) | have fa1 : decide (a < 0) = true := decide_eq_true (by omega)
     first | have fa2 : decide (0 < a) = false := decide_eq_false (by omega) | have fa2 : decide (0 < a) = true := decide_eq_true (by omega)
     first | have fa3 : decide (a ≤ 0) = false := decide_eq_false (by omega) | have fa3 : decide (a ≤ 0) = true := decide_eq_true (by omega)
     first | have fa4 : decide (0 ≤ a) = false := decide_eq_false (by omega) | have fa4 : decide (0 ≤ a) = true := decide_eq_true (by omega)
     first | have fb1 : decide (b ≤ 0) = false := decide_eq_false (by omega) | have fb1 : decide (b ≤ 0) = true := decide_eq_true (by omega)
     first | have fb2 : decide (0 < b) = false := decide_eq_false (by omega) | have fb2 : decide (0 < b) = true := decide_eq_true (by omega)
     have G0 := fun x y (hx : FRes (floatBits .quo .f64 (floatOfInt .f64 a) (floatOfInt .f64 b)) x) (hy : FRes (floatBits .quo .f64 (floatOfInt .f64 a) (floatOfInt .f64 0)) y) => Lib.hid (ratG Na Nb hx hy 0)
     have GG := Lib.hid G0
     clear G0
     have K1 : Hid (a = 0 ∨ a ≠ 0) := Lib.hid (by omega)
     have HB0 : Hid (b = 0 ∨ b ≠ 0) := Lib.hid (by omega)
     clear hA hB ha hb Na Nb K1 HB0
     go_enter Tryd.func10, Tryd.ntmps10
     go_wp2_with fail
     refine (ratio_any a b _).mono ?_
     rintro e w1 ⟨x, rfl, hx, hb1⟩
     have HX := Lib.hid hx
     clear hx
     go_wp2_with fail
     refine (ratio_any a 0 _).mono ?_
     rintro e w2 ⟨y, rfl, hy, hb2⟩
     have HB := hb1.trans hb2
     have G := GG.out x y HX.out hy
     clear hy hb1 hb2 HX GG
     first | have g1 := G.out.y1 HA.out | skip
     first | have g2 := G.out.y2 HA.out | skip
     first | have g3 := G.out.y3 HA.out | skip
     first | have g4 := G.out.x1 (by have := HB1.out; omega) | skip
     first | have g5 := G.out.x2 HA.out (by have := HB1.out; omega) | skip
     first | have g6 := G.out.x3 HA.out HB1.out | skip
     first | have g7 := G.out.x4 HA.out HB1.out | skip
     clear G
     go_wp2_with (first | (refine (alive2_any _ (hT.keep HB)).mono ?_; rintro e w3 ⟨rfl, hb3⟩; replace HB := HB.trans hb3; clear hb3) | (refine (ratio_self (by have := HA.out; omega) NA.out _).mono ?_; rintro e w3 ⟨rfl, hb3⟩; replace HB := HB.trans hb3; clear hb3) | fail)
     go_ret
     exact ⟨rfl, HB⟩)
end Go.Proofs.YtafoagllbajfnaaDoor
