/- the walk of RealMeets. By an AI agent. -/
import Derived.Test.YtafoagllbajfnaaDoorAlive2
import Derived.Test.YtafoagllbajfnaaDoorRealOrder0
namespace Go.Proofs.YtafoagllbajfnaaDoor
open Go.RowKit

set_option maxHeartbeats 3200000 in
set_option maxRecDepth 100000 in
theorem realMeets_walk (a b c : Nat) (w : World) (ha : a < two64) (hb : b < two64) (hc : c < two64) (hT : Tab w) :
    Calls Tryd.prog 15 #[.float .f64 a, .float .f64 b, .float .f64 c] w fun e w' => e = .returned (.bool true) ∧ Bl w w' := by
  have HB := Bl.refl w
  have hbc := rmax_lt' hb hc
  have hm := rmax_lt' ha hbc
  have kbc := rmin_lt hb hc
  have hn := rmin_lt ha kbc
  have hca := rmax_lt' hc ha
  have kca := rmin_lt hc ha
  have S1 := Lib.hid (same_max3 a b c)
  have S2 := Lib.hid (same_min3 a b c)
  have S3 := Lib.hid (same_max_self a)
  have S4 := Lib.hid (max3_one a b c)
  have S5 := Lib.hid (min_le_max3 a b c)
  have S6 := Lib.hid (max_min_self a b)
  have S7 := Lib.hid (max_nan a nanW (by decide +kernel))
  go_enter Tryd.func15, Tryd.ntmps15
  go_wp2_with fail
  refine (rmax_any b c _ hb hc).mono ?_
  rintro e w1 ⟨rfl, hb1⟩
  have HB := HB.trans hb1
  clear hb1
  go_wp2_with fail
  refine (rmax_any a _ _ ha hbc).mono ?_
  rintro e w1 ⟨rfl, hb1⟩
  have HB := HB.trans hb1
  clear hb1
  go_wp2_with fail
  refine (rmin_any b c _ hb hc).mono ?_
  rintro e w1 ⟨rfl, hb1⟩
  have HB := HB.trans hb1
  clear hb1
  go_wp2_with fail
  refine (rmin_any a _ _ ha kbc).mono ?_
  rintro e w1 ⟨rfl, hb1⟩
  have HB := HB.trans hb1
  clear hb1
  go_wp2_with fail
  refine (rmax_any c a _ hc ha).mono ?_
  rintro e w1 ⟨rfl, hb1⟩
  have HB := HB.trans hb1
  clear hb1
  go_wp2_with fail
  refine (rmax_any _ b _ hca hb).mono ?_
  rintro e w1 ⟨rfl, hb1⟩
  have HB := HB.trans hb1
  clear hb1
  go_wp2_with fail
  refine (rsameF_any _ _ _ hm (rmax_lt' hca hb)).mono ?_
  rintro e w1 ⟨rfl, hb1⟩
  rw [decide_eq_true S1.out]
  have HB := HB.trans hb1
  clear hb1
  go_wp2_with fail
  refine (rmin_any c a _ hc ha).mono ?_
  rintro e w1 ⟨rfl, hb1⟩
  have HB := HB.trans hb1
  clear hb1
  go_wp2_with fail
  refine (rmin_any _ b _ kca hb).mono ?_
  rintro e w1 ⟨rfl, hb1⟩
  have HB := HB.trans hb1
  clear hb1
  go_wp2_with fail
  refine (rsameF_any _ _ _ hn (rmin_lt kca hb)).mono ?_
  rintro e w1 ⟨rfl, hb1⟩
  rw [decide_eq_true S2.out]
  have HB := HB.trans hb1
  clear hb1
  go_wp2_with fail
  refine (rmax_any a a _ ha ha).mono ?_
  rintro e w1 ⟨rfl, hb1⟩
  have HB := HB.trans hb1
  clear hb1
  go_wp2_with fail
  refine (rsameF_any _ _ _ (rmax_lt' ha ha) ha).mono ?_
  rintro e w1 ⟨rfl, hb1⟩
  rw [decide_eq_true S3.out]
  have HB := HB.trans hb1
  clear hb1
  go_wp2_with fail
  refine (alive2_any _ (hT.keep HB)).mono ?_
  rintro e w1 ⟨rfl, hb1⟩
  have HB := HB.trans hb1
  clear hb1
  go_wp2_with fail
  by_cases k1 : fkey (rmax a (rmax b c)) = fkey a
  · have K1 := Lib.hid k1
    clear k1
    refine (rsameF_any _ a _ hm ha).mono ?_
    rintro e w1 ⟨rfl, hb1⟩
    rw [decide_eq_true K1.out]
    have HB := HB.trans hb1
    clear hb1
    go_wp2_with fail
    refine (rcompare_any _ _ _ hn hm).mono ?_
    rintro e w1 ⟨rfl, hb1⟩
    have HB := HB.trans hb1
    clear hb1
    have hx := S5.out
    generalize cmpN (fkey (rmin a (rmin b c))) (fkey (rmax a (rmax b c))) = x at *
    have q5 : decide (x ≤ 0) = true := decide_eq_true hx
    go_wp2_with fail
    refine (rmin_any a b _ ha hb).mono ?_
    rintro e w1 ⟨rfl, hb1⟩
    have HB := HB.trans hb1
    clear hb1
    go_wp2_with fail
    refine (rmax_any a _ _ ha (rmin_lt ha hb)).mono ?_
    rintro e w1 ⟨rfl, hb1⟩
    have HB := HB.trans hb1
    clear hb1
    go_wp2_with fail
    refine (rsameF_any _ _ _ (rmax_lt' ha (rmin_lt ha hb)) ha).mono ?_
    rintro e w1 ⟨rfl, hb1⟩
    rw [decide_eq_true S6.out]
    have HB := HB.trans hb1
    clear hb1
    go_wp2_with fail
    refine (nan_is _).mono ?_
    rintro e w1 ⟨rfl, rfl⟩
    go_wp2_with fail
    refine (rmax_any a nanW _ ha (by decide)).mono ?_
    rintro e w1 ⟨rfl, hb1⟩
    have HB := HB.trans hb1
    clear hb1
    go_wp2_with fail
    refine (rsameF_any _ _ _ (rmax_lt' ha (by decide)) ha).mono ?_
    rintro e w1 ⟨rfl, hb1⟩
    rw [decide_eq_true S7.out]
    have HB := HB.trans hb1
    clear hb1
    go_wp2_with fail
    go_ret
    exact ⟨rfl, HB⟩
  · have K1 := Lib.hid k1
    clear k1
    refine (rsameF_any _ a _ hm ha).mono ?_
    rintro e w1 ⟨rfl, hb1⟩
    rw [decide_eq_false K1.out]
    have HB := HB.trans hb1
    clear hb1
    go_wp2_with fail
    by_cases k2 : fkey (rmax a (rmax b c)) = fkey b
    · have K2 := Lib.hid k2
      clear k2
      refine (rsameF_any _ b _ hm hb).mono ?_
      rintro e w1 ⟨rfl, hb1⟩
      rw [decide_eq_true K2.out]
      have HB := HB.trans hb1
      clear hb1
      go_wp2_with fail
      refine (rcompare_any _ _ _ hn hm).mono ?_
      rintro e w1 ⟨rfl, hb1⟩
      have HB := HB.trans hb1
      clear hb1
      have hx := S5.out
      generalize cmpN (fkey (rmin a (rmin b c))) (fkey (rmax a (rmax b c))) = x at *
      have q5 : decide (x ≤ 0) = true := decide_eq_true hx
      go_wp2_with fail
      refine (rmin_any a b _ ha hb).mono ?_
      rintro e w1 ⟨rfl, hb1⟩
      have HB := HB.trans hb1
      clear hb1
      go_wp2_with fail
      refine (rmax_any a _ _ ha (rmin_lt ha hb)).mono ?_
      rintro e w1 ⟨rfl, hb1⟩
      have HB := HB.trans hb1
      clear hb1
      go_wp2_with fail
      refine (rsameF_any _ _ _ (rmax_lt' ha (rmin_lt ha hb)) ha).mono ?_
      rintro e w1 ⟨rfl, hb1⟩
      rw [decide_eq_true S6.out]
      have HB := HB.trans hb1
      clear hb1
      go_wp2_with fail
      refine (nan_is _).mono ?_
      rintro e w1 ⟨rfl, rfl⟩
      go_wp2_with fail
      refine (rmax_any a nanW _ ha (by decide)).mono ?_
      rintro e w1 ⟨rfl, hb1⟩
      have HB := HB.trans hb1
      clear hb1
      go_wp2_with fail
      refine (rsameF_any _ _ _ (rmax_lt' ha (by decide)) ha).mono ?_
      rintro e w1 ⟨rfl, hb1⟩
      rw [decide_eq_true S7.out]
      have HB := HB.trans hb1
      clear hb1
      go_wp2_with fail
      go_ret
      exact ⟨rfl, HB⟩
    · have K2 := Lib.hid k2
      clear k2
      refine (rsameF_any _ b _ hm hb).mono ?_
      rintro e w1 ⟨rfl, hb1⟩
      rw [decide_eq_false K2.out]
      have HB := HB.trans hb1
      clear hb1
      go_wp2_with fail
      have K3 := Lib.hid (show fkey (rmax a (rmax b c)) = fkey c from by
        rcases S4.out with h | h | h
        · exact absurd h K1.out
        · exact absurd h K2.out
        · exact h)
      refine (rsameF_any _ c _ hm hc).mono ?_
      rintro e w1 ⟨rfl, hb1⟩
      rw [decide_eq_true K3.out]
      have HB := HB.trans hb1
      clear hb1
      go_wp2_with fail
      refine (rcompare_any _ _ _ hn hm).mono ?_
      rintro e w1 ⟨rfl, hb1⟩
      have HB := HB.trans hb1
      clear hb1
      have hx := S5.out
      generalize cmpN (fkey (rmin a (rmin b c))) (fkey (rmax a (rmax b c))) = x at *
      have q5 : decide (x ≤ 0) = true := decide_eq_true hx
      go_wp2_with fail
      refine (rmin_any a b _ ha hb).mono ?_
      rintro e w1 ⟨rfl, hb1⟩
      have HB := HB.trans hb1
      clear hb1
      go_wp2_with fail
      refine (rmax_any a _ _ ha (rmin_lt ha hb)).mono ?_
      rintro e w1 ⟨rfl, hb1⟩
      have HB := HB.trans hb1
      clear hb1
      go_wp2_with fail
      refine (rsameF_any _ _ _ (rmax_lt' ha (rmin_lt ha hb)) ha).mono ?_
      rintro e w1 ⟨rfl, hb1⟩
      rw [decide_eq_true S6.out]
      have HB := HB.trans hb1
      clear hb1
      go_wp2_with fail
      refine (nan_is _).mono ?_
      rintro e w1 ⟨rfl, rfl⟩
      go_wp2_with fail
      refine (rmax_any a nanW _ ha (by decide)).mono ?_
      rintro e w1 ⟨rfl, hb1⟩
      have HB := HB.trans hb1
      clear hb1
      go_wp2_with fail
      refine (rsameF_any _ _ _ (rmax_lt' ha (by decide)) ha).mono ?_
      rintro e w1 ⟨rfl, hb1⟩
      rw [decide_eq_true S7.out]
      have HB := HB.trans hb1
      clear hb1
      go_wp2_with fail
      go_ret
      exact ⟨rfl, HB⟩
end Go.Proofs.YtafoagllbajfnaaDoor
