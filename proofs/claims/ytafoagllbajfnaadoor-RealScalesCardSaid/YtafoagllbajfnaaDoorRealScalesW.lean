/- the walk of RealScales. By an AI agent. -/
import Derived.Test.YtafoagllbajfnaaDoorAlive2
namespace Go.Proofs.YtafoagllbajfnaaDoor
open Go.RowKit

theorem inf_neg (w : World) : Calls Tryd.prog 36 #[.int .i64 (-1)] w fun e w' => e = .returned (.float .f64 (infR + two63)) ∧ w = w' := by
  have hfb := run_frombits
  go_enter Tryd.func36, Tryd.ntmps36
  go_wp2_with fail
  go_ret
  exact ⟨rfl, rfl⟩
theorem scale_negz (n : Int) : scaleV n (0 + two63) = 0 := by
  unfold scaleV
  rw [show nanB (0 + two63) = false from by decide +kernel, if_neg (by simp), show underB (0 + two63) = true from by decide +kernel, if_pos (.inr rfl)]
theorem scale_neginf (n : Int) : scaleV n (infR + two63) = 0 := by
  unfold scaleV
  rw [show nanB (infR + two63) = false from by decide +kernel, if_neg (by simp), show underB (infR + two63) = true from by decide +kernel, if_pos (.inr rfl)]
theorem scale_nan (n : Int) : scaleV n nanW = clampT n := by
  unfold scaleV
  rw [show nanB nanW = true from by decide +kernel, if_pos rfl]
theorem scale_inf : scaleV 1 infR = 281474976710656 := by decide +kernel

/-- what the law asks of the order of two numbers -/
theorem scale_ord (n : Int) {a b : Nat} (ha : a < two64) (hb : b < two64) (h : FloatKind.f64.format.order a b = some .lt ∨ FloatKind.f64.format.order a b = some .eq) : scaleV n a ≤ scaleV n b := by
  have hn : nanB a = false ∧ nanB b = false := by
    cases na : nanB a
    · cases nb : nanB b
      · exact ⟨rfl, rfl⟩
      · have : FloatKind.f64.format.order a b = none := order_nan (.inr nb)
        rw [this] at h; simp at h
    · have : FloatKind.f64.format.order a b = none := order_nan (.inl na)
      rw [this] at h; simp at h
  have e : FloatKind.f64.format.order a b = some (compare (sval a) (sval b)) := order_eq ha hb hn.1 hn.2
  refine scaleV_mono_y n hn.1 hn.2 ?_
  rw [e] at h
  rcases h with h | h
  · exact Int.le_of_lt (Int.compare_eq_lt.1 (Option.some.inj h))
  · exact Int.le_of_eq (Int.compare_eq_eq.1 (Option.some.inj h))

structure ScaleG (n m : Int) (a b : Nat) (x y z : Int) : Prop where
  ex : scaleV n a = x
  ey : scaleV m a = y
  ez : scaleV n b = z
  x0 : 0 ≤ x
  x1 : x ≤ 281474976710656
  y0 : 0 ≤ y
  y1 : y ≤ 281474976710656
  z0 : 0 ≤ z
  z1 : z ≤ 281474976710656
  nm : n ≤ m → x ≤ y
  ab : FloatKind.f64.format.order a b = some .lt ∨ FloatKind.f64.format.order a b = some .eq → x ≤ z
theorem scaleG (n m : Int) {a b : Nat} (ha : a < two64) (hb : b < two64) : ∃ x y z, ScaleG n m a b x y z :=
  ⟨_, _, _, rfl, rfl, rfl, (scaleV_bd n a).1, (scaleV_bd n a).2, (scaleV_bd m a).1, (scaleV_bd m a).2, (scaleV_bd n b).1, (scaleV_bd n b).2, fun h => scaleV_mono_n h a, scale_ord n ha hb⟩

set_option maxHeartbeats 3200000 in
set_option maxRecDepth 100000 in
theorem realScales_walk (n m : Int) (a b : Nat) (w : World) (hn : -9223372036854775808 ≤ n ∧ n ≤ 9223372036854775807) (hm : -9223372036854775808 ≤ m ∧ m ≤ 9223372036854775807) (ha : a < two64) (hb : b < two64) (hT : Tab w) :
    Calls Tryd.prog 6 #[.int .i64 n, .int .i64 m, .float .f64 a, .float .f64 b] w fun e w' => e = .returned (.bool true) ∧ Bl w w' := by
  obtain ⟨x, y, z, G0⟩ := scaleG n m ha hb
  have G := Lib.hid G0
  clear G0
  have x0 := G.out.x0
  have x1 := G.out.x1
  have q1 : decide (x < 0) = false := decide_eq_false (by omega)
  have q2 : decide (281474976710656 < x) = false := decide_eq_false (by omega)
  have HN := Lib.hid hn
  have HM := Lib.hid hm
  have HA := Lib.hid ha
  have HB := Lib.hid hb
  obtain ⟨o, ho⟩ : ∃ o, FloatKind.f64.format.order a b = o := ⟨_, rfl⟩
  clear hn hm
  go_enter Tryd.func6, Tryd.ntmps6
  go_wp2_with fail
  refine (scale_any n a _ HN.out HA.out).mono ?_
  rintro e w1 ⟨rfl, rfl⟩
  rw [G.out.ex]
  by_cases hnm : n ≤ m
  · have q3 : decide (y < x) = false := decide_eq_false (by have := G.out.nm hnm; omega)
    go_wp2_with fail
    refine (scale_any m a _ HM.out HA.out).mono ?_
    rintro e w1 ⟨rfl, rfl⟩
    rw [G.out.ey]
    rcases o with _ | _ | _ | _
    · go_wp2_with fail
      refine (alive2_any _ hT).mono ?_
      rintro e w1 ⟨rfl, hb1⟩
      go_wp2_with fail
      refine (scale_any n 4607182418800017408 _ HN.out (by decide)).mono ?_
      rintro e w1 ⟨rfl, rfl⟩
      rw [scaleV_one]
      go_wp2_with fail
      refine (copysign_neg 0 _ (by decide)).mono ?_
      rintro e w1 ⟨rfl, rfl⟩
      go_wp2_with fail
      refine (scale_any n (0 + two63) _ HN.out (by decide)).mono ?_
      rintro e w1 ⟨rfl, rfl⟩
      rw [scale_negz]
      go_wp2_with fail
      refine (nan_is _).mono ?_
      rintro e w1 ⟨rfl, rfl⟩
      go_wp2_with fail
      refine (scale_any n nanW _ HN.out (by decide)).mono ?_
      rintro e w1 ⟨rfl, rfl⟩
      rw [scale_nan]
      go_wp2_with fail
      refine (scale_any n 4607182418800017408 _ HN.out (by decide)).mono ?_
      rintro e w1 ⟨rfl, rfl⟩
      rw [scaleV_one]
      go_wp2_with fail
      refine (inf_neg _).mono ?_
      rintro e w1 ⟨rfl, rfl⟩
      go_wp2_with fail
      refine (scale_any n (infR + two63) _ HN.out (by decide)).mono ?_
      rintro e w1 ⟨rfl, rfl⟩
      rw [scale_neginf]
      go_wp2_with fail
      refine (inf_pos _).mono ?_
      rintro e w1 ⟨rfl, rfl⟩
      go_wp2_with fail
      refine (scale_any 1 infR _ (by decide) (by decide)).mono ?_
      rintro e w1 ⟨rfl, rfl⟩
      rw [scale_inf]
      go_wp2_with fail
      go_ret
      exact ⟨rfl, hb1⟩
    · have q4 : decide (z < x) = false := decide_eq_false (by have := G.out.ab (.inl ho); omega)
      go_wp2_with fail
      refine (scale_any n b _ HN.out HB.out).mono ?_
      rintro e w1 ⟨rfl, rfl⟩
      rw [G.out.ez]
      go_wp2_with fail
      refine (alive2_any _ hT).mono ?_
      rintro e w1 ⟨rfl, hb1⟩
      go_wp2_with fail
      refine (scale_any n 4607182418800017408 _ HN.out (by decide)).mono ?_
      rintro e w1 ⟨rfl, rfl⟩
      rw [scaleV_one]
      go_wp2_with fail
      refine (copysign_neg 0 _ (by decide)).mono ?_
      rintro e w1 ⟨rfl, rfl⟩
      go_wp2_with fail
      refine (scale_any n (0 + two63) _ HN.out (by decide)).mono ?_
      rintro e w1 ⟨rfl, rfl⟩
      rw [scale_negz]
      go_wp2_with fail
      refine (nan_is _).mono ?_
      rintro e w1 ⟨rfl, rfl⟩
      go_wp2_with fail
      refine (scale_any n nanW _ HN.out (by decide)).mono ?_
      rintro e w1 ⟨rfl, rfl⟩
      rw [scale_nan]
      go_wp2_with fail
      refine (scale_any n 4607182418800017408 _ HN.out (by decide)).mono ?_
      rintro e w1 ⟨rfl, rfl⟩
      rw [scaleV_one]
      go_wp2_with fail
      refine (inf_neg _).mono ?_
      rintro e w1 ⟨rfl, rfl⟩
      go_wp2_with fail
      refine (scale_any n (infR + two63) _ HN.out (by decide)).mono ?_
      rintro e w1 ⟨rfl, rfl⟩
      rw [scale_neginf]
      go_wp2_with fail
      refine (inf_pos _).mono ?_
      rintro e w1 ⟨rfl, rfl⟩
      go_wp2_with fail
      refine (scale_any 1 infR _ (by decide) (by decide)).mono ?_
      rintro e w1 ⟨rfl, rfl⟩
      rw [scale_inf]
      go_wp2_with fail
      go_ret
      exact ⟨rfl, hb1⟩
    · have q4 : decide (z < x) = false := decide_eq_false (by have := G.out.ab (.inr ho); omega)
      go_wp2_with fail
      refine (scale_any n b _ HN.out HB.out).mono ?_
      rintro e w1 ⟨rfl, rfl⟩
      rw [G.out.ez]
      go_wp2_with fail
      refine (alive2_any _ hT).mono ?_
      rintro e w1 ⟨rfl, hb1⟩
      go_wp2_with fail
      refine (scale_any n 4607182418800017408 _ HN.out (by decide)).mono ?_
      rintro e w1 ⟨rfl, rfl⟩
      rw [scaleV_one]
      go_wp2_with fail
      refine (copysign_neg 0 _ (by decide)).mono ?_
      rintro e w1 ⟨rfl, rfl⟩
      go_wp2_with fail
      refine (scale_any n (0 + two63) _ HN.out (by decide)).mono ?_
      rintro e w1 ⟨rfl, rfl⟩
      rw [scale_negz]
      go_wp2_with fail
      refine (nan_is _).mono ?_
      rintro e w1 ⟨rfl, rfl⟩
      go_wp2_with fail
      refine (scale_any n nanW _ HN.out (by decide)).mono ?_
      rintro e w1 ⟨rfl, rfl⟩
      rw [scale_nan]
      go_wp2_with fail
      refine (scale_any n 4607182418800017408 _ HN.out (by decide)).mono ?_
      rintro e w1 ⟨rfl, rfl⟩
      rw [scaleV_one]
      go_wp2_with fail
      refine (inf_neg _).mono ?_
      rintro e w1 ⟨rfl, rfl⟩
      go_wp2_with fail
      refine (scale_any n (infR + two63) _ HN.out (by decide)).mono ?_
      rintro e w1 ⟨rfl, rfl⟩
      rw [scale_neginf]
      go_wp2_with fail
      refine (inf_pos _).mono ?_
      rintro e w1 ⟨rfl, rfl⟩
      go_wp2_with fail
      refine (scale_any 1 infR _ (by decide) (by decide)).mono ?_
      rintro e w1 ⟨rfl, rfl⟩
      rw [scale_inf]
      go_wp2_with fail
      go_ret
      exact ⟨rfl, hb1⟩
    · go_wp2_with fail
      refine (alive2_any _ hT).mono ?_
      rintro e w1 ⟨rfl, hb1⟩
      go_wp2_with fail
      refine (scale_any n 4607182418800017408 _ HN.out (by decide)).mono ?_
      rintro e w1 ⟨rfl, rfl⟩
      rw [scaleV_one]
      go_wp2_with fail
      refine (copysign_neg 0 _ (by decide)).mono ?_
      rintro e w1 ⟨rfl, rfl⟩
      go_wp2_with fail
      refine (scale_any n (0 + two63) _ HN.out (by decide)).mono ?_
      rintro e w1 ⟨rfl, rfl⟩
      rw [scale_negz]
      go_wp2_with fail
      refine (nan_is _).mono ?_
      rintro e w1 ⟨rfl, rfl⟩
      go_wp2_with fail
      refine (scale_any n nanW _ HN.out (by decide)).mono ?_
      rintro e w1 ⟨rfl, rfl⟩
      rw [scale_nan]
      go_wp2_with fail
      refine (scale_any n 4607182418800017408 _ HN.out (by decide)).mono ?_
      rintro e w1 ⟨rfl, rfl⟩
      rw [scaleV_one]
      go_wp2_with fail
      refine (inf_neg _).mono ?_
      rintro e w1 ⟨rfl, rfl⟩
      go_wp2_with fail
      refine (scale_any n (infR + two63) _ HN.out (by decide)).mono ?_
      rintro e w1 ⟨rfl, rfl⟩
      rw [scale_neginf]
      go_wp2_with fail
      refine (inf_pos _).mono ?_
      rintro e w1 ⟨rfl, rfl⟩
      go_wp2_with fail
      refine (scale_any 1 infR _ (by decide) (by decide)).mono ?_
      rintro e w1 ⟨rfl, rfl⟩
      rw [scale_inf]
      go_wp2_with fail
      go_ret
      exact ⟨rfl, hb1⟩
  · rcases o with _ | _ | _ | _
    · go_wp2_with fail
      refine (alive2_any _ hT).mono ?_
      rintro e w1 ⟨rfl, hb1⟩
      go_wp2_with fail
      refine (scale_any n 4607182418800017408 _ HN.out (by decide)).mono ?_
      rintro e w1 ⟨rfl, rfl⟩
      rw [scaleV_one]
      go_wp2_with fail
      refine (copysign_neg 0 _ (by decide)).mono ?_
      rintro e w1 ⟨rfl, rfl⟩
      go_wp2_with fail
      refine (scale_any n (0 + two63) _ HN.out (by decide)).mono ?_
      rintro e w1 ⟨rfl, rfl⟩
      rw [scale_negz]
      go_wp2_with fail
      refine (nan_is _).mono ?_
      rintro e w1 ⟨rfl, rfl⟩
      go_wp2_with fail
      refine (scale_any n nanW _ HN.out (by decide)).mono ?_
      rintro e w1 ⟨rfl, rfl⟩
      rw [scale_nan]
      go_wp2_with fail
      refine (scale_any n 4607182418800017408 _ HN.out (by decide)).mono ?_
      rintro e w1 ⟨rfl, rfl⟩
      rw [scaleV_one]
      go_wp2_with fail
      refine (inf_neg _).mono ?_
      rintro e w1 ⟨rfl, rfl⟩
      go_wp2_with fail
      refine (scale_any n (infR + two63) _ HN.out (by decide)).mono ?_
      rintro e w1 ⟨rfl, rfl⟩
      rw [scale_neginf]
      go_wp2_with fail
      refine (inf_pos _).mono ?_
      rintro e w1 ⟨rfl, rfl⟩
      go_wp2_with fail
      refine (scale_any 1 infR _ (by decide) (by decide)).mono ?_
      rintro e w1 ⟨rfl, rfl⟩
      rw [scale_inf]
      go_wp2_with fail
      go_ret
      exact ⟨rfl, hb1⟩
    · have q4 : decide (z < x) = false := decide_eq_false (by have := G.out.ab (.inl ho); omega)
      go_wp2_with fail
      refine (scale_any n b _ HN.out HB.out).mono ?_
      rintro e w1 ⟨rfl, rfl⟩
      rw [G.out.ez]
      go_wp2_with fail
      refine (alive2_any _ hT).mono ?_
      rintro e w1 ⟨rfl, hb1⟩
      go_wp2_with fail
      refine (scale_any n 4607182418800017408 _ HN.out (by decide)).mono ?_
      rintro e w1 ⟨rfl, rfl⟩
      rw [scaleV_one]
      go_wp2_with fail
      refine (copysign_neg 0 _ (by decide)).mono ?_
      rintro e w1 ⟨rfl, rfl⟩
      go_wp2_with fail
      refine (scale_any n (0 + two63) _ HN.out (by decide)).mono ?_
      rintro e w1 ⟨rfl, rfl⟩
      rw [scale_negz]
      go_wp2_with fail
      refine (nan_is _).mono ?_
      rintro e w1 ⟨rfl, rfl⟩
      go_wp2_with fail
      refine (scale_any n nanW _ HN.out (by decide)).mono ?_
      rintro e w1 ⟨rfl, rfl⟩
      rw [scale_nan]
      go_wp2_with fail
      refine (scale_any n 4607182418800017408 _ HN.out (by decide)).mono ?_
      rintro e w1 ⟨rfl, rfl⟩
      rw [scaleV_one]
      go_wp2_with fail
      refine (inf_neg _).mono ?_
      rintro e w1 ⟨rfl, rfl⟩
      go_wp2_with fail
      refine (scale_any n (infR + two63) _ HN.out (by decide)).mono ?_
      rintro e w1 ⟨rfl, rfl⟩
      rw [scale_neginf]
      go_wp2_with fail
      refine (inf_pos _).mono ?_
      rintro e w1 ⟨rfl, rfl⟩
      go_wp2_with fail
      refine (scale_any 1 infR _ (by decide) (by decide)).mono ?_
      rintro e w1 ⟨rfl, rfl⟩
      rw [scale_inf]
      go_wp2_with fail
      go_ret
      exact ⟨rfl, hb1⟩
    · have q4 : decide (z < x) = false := decide_eq_false (by have := G.out.ab (.inr ho); omega)
      go_wp2_with fail
      refine (scale_any n b _ HN.out HB.out).mono ?_
      rintro e w1 ⟨rfl, rfl⟩
      rw [G.out.ez]
      go_wp2_with fail
      refine (alive2_any _ hT).mono ?_
      rintro e w1 ⟨rfl, hb1⟩
      go_wp2_with fail
      refine (scale_any n 4607182418800017408 _ HN.out (by decide)).mono ?_
      rintro e w1 ⟨rfl, rfl⟩
      rw [scaleV_one]
      go_wp2_with fail
      refine (copysign_neg 0 _ (by decide)).mono ?_
      rintro e w1 ⟨rfl, rfl⟩
      go_wp2_with fail
      refine (scale_any n (0 + two63) _ HN.out (by decide)).mono ?_
      rintro e w1 ⟨rfl, rfl⟩
      rw [scale_negz]
      go_wp2_with fail
      refine (nan_is _).mono ?_
      rintro e w1 ⟨rfl, rfl⟩
      go_wp2_with fail
      refine (scale_any n nanW _ HN.out (by decide)).mono ?_
      rintro e w1 ⟨rfl, rfl⟩
      rw [scale_nan]
      go_wp2_with fail
      refine (scale_any n 4607182418800017408 _ HN.out (by decide)).mono ?_
      rintro e w1 ⟨rfl, rfl⟩
      rw [scaleV_one]
      go_wp2_with fail
      refine (inf_neg _).mono ?_
      rintro e w1 ⟨rfl, rfl⟩
      go_wp2_with fail
      refine (scale_any n (infR + two63) _ HN.out (by decide)).mono ?_
      rintro e w1 ⟨rfl, rfl⟩
      rw [scale_neginf]
      go_wp2_with fail
      refine (inf_pos _).mono ?_
      rintro e w1 ⟨rfl, rfl⟩
      go_wp2_with fail
      refine (scale_any 1 infR _ (by decide) (by decide)).mono ?_
      rintro e w1 ⟨rfl, rfl⟩
      rw [scale_inf]
      go_wp2_with fail
      go_ret
      exact ⟨rfl, hb1⟩
    · go_wp2_with fail
      refine (alive2_any _ hT).mono ?_
      rintro e w1 ⟨rfl, hb1⟩
      go_wp2_with fail
      refine (scale_any n 4607182418800017408 _ HN.out (by decide)).mono ?_
      rintro e w1 ⟨rfl, rfl⟩
      rw [scaleV_one]
      go_wp2_with fail
      refine (copysign_neg 0 _ (by decide)).mono ?_
      rintro e w1 ⟨rfl, rfl⟩
      go_wp2_with fail
      refine (scale_any n (0 + two63) _ HN.out (by decide)).mono ?_
      rintro e w1 ⟨rfl, rfl⟩
      rw [scale_negz]
      go_wp2_with fail
      refine (nan_is _).mono ?_
      rintro e w1 ⟨rfl, rfl⟩
      go_wp2_with fail
      refine (scale_any n nanW _ HN.out (by decide)).mono ?_
      rintro e w1 ⟨rfl, rfl⟩
      rw [scale_nan]
      go_wp2_with fail
      refine (scale_any n 4607182418800017408 _ HN.out (by decide)).mono ?_
      rintro e w1 ⟨rfl, rfl⟩
      rw [scaleV_one]
      go_wp2_with fail
      refine (inf_neg _).mono ?_
      rintro e w1 ⟨rfl, rfl⟩
      go_wp2_with fail
      refine (scale_any n (infR + two63) _ HN.out (by decide)).mono ?_
      rintro e w1 ⟨rfl, rfl⟩
      rw [scale_neginf]
      go_wp2_with fail
      refine (inf_pos _).mono ?_
      rintro e w1 ⟨rfl, rfl⟩
      go_wp2_with fail
      refine (scale_any 1 infR _ (by decide) (by decide)).mono ?_
      rintro e w1 ⟨rfl, rfl⟩
      rw [scale_inf]
      go_wp2_with fail
      go_ret
      exact ⟨rfl, hb1⟩
end Go.Proofs.YtafoagllbajfnaaDoor
