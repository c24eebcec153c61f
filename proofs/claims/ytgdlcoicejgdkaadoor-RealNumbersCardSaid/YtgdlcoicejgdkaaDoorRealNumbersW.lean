/- the walk of RealNumbers. By an AI agent. -/
import Derived.Test.YtgdlcoicejgdkaaDoorAlive2
import Derived.Test.YtgdlcoicejgdkaaDoorRefT2
import Derived.Test.YtgdlcoicejgdkaaDoorRefS
namespace Go.Proofs.YtgdlcoicejgdkaaDoor
open Go.RowKit

theorem fres_same {o : Option Nat} {x y : Nat} (hx : FRes o x) (hy : FRes o y) : fkey x = fkey y := by
  rcases hx.2 with ⟨r, e, rfl⟩ | ⟨e, hn⟩
  · rcases hy.2 with ⟨r', e', rfl⟩ | ⟨e', _⟩
    · rw [e] at e'; cases e'; rfl
    · rw [e] at e'; cases e'
  · rcases hy.2 with ⟨r', e', rfl⟩ | ⟨e', hn'⟩
    · rw [e] at e'; cases e'
    · have a : fkey x = 0 := by unfold fkey; rw [hn]; rfl
      have b : fkey y = 0 := by unfold fkey; rw [hn']; rfl
      rw [a, b]
theorem refSame_yes (x y : Nat) (w : World) (hx : x < two64) (hy : y < two64) (h : fkey x = fkey y) : Calls Tryd.prog 33 #[.float .f64 x, .float .f64 y] w fun e w' => e = .returned (.bool true) ∧ w = w' := by
  refine (refSame_any x y w hx hy).mono ?_
  rintro e w' ⟨rfl, rfl⟩
  exact ⟨by rw [decide_eq_true h], rfl⟩
set_option maxHeartbeats 3200000 in
set_option maxRecDepth 100000 in
theorem realNumbers_walk (a b : Nat) (n m : Int) (w : World) (ha : a < two64) (hb : b < two64) (hn : -9223372036854775808 ≤ n ∧ n ≤ 9223372036854775807) (_hm : -9223372036854775808 ≤ m ∧ m ≤ 9223372036854775807) (hT : Tab w) :
    Calls Tryd.prog 11 #[.float .f64 a, .float .f64 b, .int .i64 n, .int .i64 m] w fun e w' => e = .returned (.bool true) ∧ Bl w w' := by
  have HM := Lib.hid (rmax_lt' ha hb)
  have HN := Lib.hid (rmin_lt ha hb)
  have HB := Bl.refl w
  go_enter Tryd.func11, Tryd.ntmps11
  go_wp2_with fail
  refine (rput_any a _ ha).mono ?_
  rintro e w1 ⟨rfl, hb1⟩; replace HB := HB.trans hb1; clear hb1
  go_wp2_with fail
  refine (refPutF_any a _ ha).mono ?_
  rintro e w1 ⟨rfl, hb1⟩; replace HB := HB.trans hb1; clear hb1
  go_wp2_with fail
  refine (rcompare_any a b _ ha hb).mono ?_
  rintro e w1 ⟨rfl, hb1⟩; replace HB := HB.trans hb1; clear hb1
  go_wp2_with fail
  refine (refCompare_any a b _ ha hb).mono ?_
  rintro e w1 ⟨rfl, rfl⟩
  go_wp2_with fail
  refine (rsameF_any a b _ ha hb).mono ?_
  rintro e w1 ⟨rfl, hb1⟩; replace HB := HB.trans hb1; clear hb1
  go_wp2_with fail
  refine (refSame_any a b _ ha hb).mono ?_
  rintro e w1 ⟨rfl, rfl⟩
  go_wp2_with fail
  refine (rtext_any a _ ha (hT.keep HB)).mono ?_
  rintro e w1 ⟨s, rfl, hs, hb1⟩; replace HB := HB.trans hb1; clear hb1
  go_wp2_with fail
  refine (refText_any a _ ha).mono ?_
  rintro e w1 ⟨s2, rfl, hs2, hb1⟩; replace HB := HB.trans hb1; clear hb1
  obtain rfl := hs.eq hs2
  clear hs hs2
  go_wp2_with fail
  refine (alive2_any _ (hT.keep HB)).mono ?_
  rintro e w1 ⟨rfl, hb1⟩; replace HB := HB.trans hb1; clear hb1
  go_wp2_with fail
  refine (rmax_any a b _ ha hb).mono ?_
  rintro e w1 ⟨rfl, hb1⟩; replace HB := HB.trans hb1; clear hb1
  go_wp2_with fail
  refine (refMax_any a b _ ha hb).mono ?_
  rintro e w1 ⟨rfl, rfl⟩
  go_wp2_with fail
  refine (refSame_yes _ _ _ HM.out HM.out rfl).mono ?_
  rintro e w1 ⟨rfl, rfl⟩
  go_wp2_with fail
  refine (rmin_any a b _ ha hb).mono ?_
  rintro e w1 ⟨rfl, hb1⟩; replace HB := HB.trans hb1; clear hb1
  go_wp2_with fail
  refine (refMin_any a b _ ha hb).mono ?_
  rintro e w1 ⟨rfl, rfl⟩
  go_wp2_with fail
  refine (refSame_yes _ _ _ HN.out HN.out rfl).mono ?_
  rintro e w1 ⟨rfl, rfl⟩
  go_wp2_with fail
  refine (ratio_any n m _).mono ?_
  rintro e w1 ⟨x, rfl, hx, hb1⟩; replace HB := HB.trans hb1; clear hb1
  go_wp2_with fail
  refine (refRatio_any n m _).mono ?_
  rintro e w1 ⟨y, rfl, hy, hb1⟩; replace HB := HB.trans hb1; clear hb1
  have HX := Lib.hid hx
  have HY := Lib.hid hy
  clear hx hy
  go_wp2_with fail
  refine (refSame_yes x y _ HX.out.1 HY.out.1 (fres_same HX.out HY.out)).mono ?_
  rintro e w1 ⟨rfl, rfl⟩
  go_wp2_with fail
  refine (scale_any n a _ hn ha).mono ?_
  rintro e w1 ⟨rfl, rfl⟩
  go_wp2_with fail
  refine (refScale_any n a _ ha).mono ?_
  rintro e w1 ⟨rfl, rfl⟩
  go_wp2_with fail
  go_ret
  exact ⟨rfl, HB⟩
end Go.Proofs.YtgdlcoicejgdkaaDoor
