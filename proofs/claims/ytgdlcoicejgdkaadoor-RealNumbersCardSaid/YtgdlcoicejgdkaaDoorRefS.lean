/- bedrockref2.Ratio, Scale; math.Floor below 2 to the 48th. By an AI agent. -/
import Derived.Test.YtgdlcoicejgdkaaDoorRefN2
import Derived.Test.YtgdlcoicejgdkaaDoorParse1
import Derived.Test.YtgdlcoicejgdkaaDoorRefW2
import Derived.Test.YtgdlcoicejgdkaaDoorRatio
namespace Go.Proofs.YtgdlcoicejgdkaaDoor
open Go.RowKit Ieee

theorem refRatio_any (a b : Int) (w : World) :
    Calls Tryd.prog 60 #[.int .i64 a, .int .i64 b] w fun e w' => ∃ x, e = .returned (.float .f64 x) ∧ FRes (floatBits .quo .f64 (floatOfInt .f64 a) (floatOfInt .f64 b)) x ∧ Bl w w' := by
  obtain ⟨r, w1, hr, hrun, hb⟩ := run_float .quo (.inl rfl) 26 (floatOfInt .f64 a) (floatOfInt .f64 b) w
  have HR := Lib.hid hr; clear hr
  go_enter Tryd.func60, Tryd.ntmps60
  go_wp2_with fail
  go_ret
  exact ⟨r, rfl, HR.out, hb⟩

theorem run_archFloor (r : Nat) (h : r < w48) (w : World) : (callFunc 140 #[.float .f64 r]).run Tryd.prog w = .ok (.value (.float .f64 (rung (floorR r) 0))) w := by
  rw [run_callFunc_extern Tryd.func140 (by kernel_rfl) (by kernel_rfl) (by kernel_rfl) (e := Extern.MathFloor.toIntegral "math.archFloor" .down) (by kernel_rfl)]
  have hinf : r < infR := by unfold w48 at h; unfold infR; omega
  have hd : FloatKind.f64.decode r = .number false (digS r) (digP r) := read_rung hinf
  have hw := floor_word h
  rw [hd] at hw
  have e : Extern.MathFloor.toIntegral "math.archFloor" .down #[.float .f64 r] = pure (.float .f64 (FloatKind.f64.encode ((Datum.number false (digS r) (digP r)).integral .down))) := by
    have key : ∀ D, FloatKind.f64.decode r = D → ∃ A : Bool → Nat → Sem Value, Extern.MathFloor.toIntegral "math.archFloor" .down #[.float .f64 r] = (match D with
      | .nan s t => A s t
      | d => pure (.float .f64 (FloatKind.f64.encode (d.integral .down)))) := by
      rintro D rfl; exact ⟨_, rfl⟩
    obtain ⟨A, e⟩ := key _ hd
    exact e
  rw [e, hw]
  rfl
theorem floor_any (r : Nat) (h : r < w48) (w : World) : Calls Tryd.prog 109 #[.float .f64 r] w fun e w' => e = .returned (.float .f64 (rung (floorR r) 0)) ∧ w = w' := by
  have ha := run_archFloor r h
  clear h
  generalize rung (floorR r) 0 = x at *
  go_enter Tryd.func109, Tryd.ntmps109
  go_wp2_with fail
  go_ret
  exact ⟨rfl, rfl⟩

/-- how a time is brought into its range -/
inductive ClampOf (n : Int) : Nat → Prop where
  | low (q : decide (n < 0) = true) : ClampOf n 0
  | high (q : decide (n < 0) = false) (q2 : decide ((281474976710656 : Int) < n) = true) : ClampOf n 281474976710656
  | here (c : Nat) (e : n = c) (q2 : decide ((281474976710656 : Int) < (c : Int)) = false) : ClampOf n c
theorem clampOf (n : Int) : ∃ c : Nat, clampT n = c ∧ ClampOf n c := by
  by_cases h : n < 0
  · exact ⟨0, by unfold clampT; omega, .low (decide_eq_true h)⟩
  · by_cases h2 : 281474976710656 < n
    · exact ⟨281474976710656, by unfold clampT; omega, .high (decide_eq_false h) (decide_eq_true h2)⟩
    · exact ⟨n.toNat, by unfold clampT; omega, .here _ (by omega) (decide_eq_false (by omega))⟩
theorem refScale_nan (n : Int) (c y : Nat) (w : World) (hC : ClampOf n c) (N : Hid (∀ w, Calls Tryd.prog 82 #[.float .f64 y] w fun e w' => e = .returned (.bool true) ∧ w = w')) :
    Calls Tryd.prog 62 #[.int .i64 n, .float .f64 y] w fun e w' => e = .returned (.int .i64 c) ∧ w = w' := by
  cases hC with
  | low q =>
    go_enter Tryd.func62, Tryd.ntmps62
    go_wp2_with fail
    refine (N.out _).mono ?_
    rintro e w1 ⟨rfl, rfl⟩
    go_wp2_with fail
    go_ret
    exact ⟨rfl, rfl⟩
  | high q q2 =>
    go_enter Tryd.func62, Tryd.ntmps62
    go_wp2_with fail
    refine (N.out _).mono ?_
    rintro e w1 ⟨rfl, rfl⟩
    go_wp2_with fail
    go_ret
    exact ⟨rfl, rfl⟩
  | here c e q2 =>
    subst e
    have q : decide ((c : Int) < 0) = false := by simp
    go_enter Tryd.func62, Tryd.ntmps62
    go_wp2_with fail
    refine (N.out _).mono ?_
    rintro e w1 ⟨rfl, rfl⟩
    go_wp2_with fail
    go_ret
    exact ⟨rfl, rfl⟩
/-- the ways to nought -/
theorem refScale_zero (n : Int) (c y : Nat) (w : World) (hC : ClampOf n c) (N : Hid (∀ w, Calls Tryd.prog 82 #[.float .f64 y] w fun e w' => e = .returned (.bool false) ∧ w = w'))
    (hq : ((FloatKind.f64.format.order y 0 == some .lt) = true ∨ ((FloatKind.f64.format.order y 0 == some .lt) = false ∧ (FloatKind.f64.format.order y 0 == some .eq) = true)) ∨
      (((FloatKind.f64.format.order y 0 == some .lt) = false ∧ (FloatKind.f64.format.order y 0 == some .eq) = false) ∧ c = 0)) :
    Calls Tryd.prog 62 #[.int .i64 n, .float .f64 y] w fun e w' => e = .returned (.int .i64 0) ∧ w = w' := by
  cases hC with
  | low q =>
    rcases hq with (h1 | ⟨h1, h2⟩) | ⟨⟨h1, h2⟩, h3⟩
    all_goals
      go_enter Tryd.func62, Tryd.ntmps62
      go_wp2_with fail
      refine (N.out _).mono ?_
      rintro e w1 ⟨rfl, rfl⟩
      go_wp2_with fail
      go_ret
      exact ⟨rfl, rfl⟩
  | high q q2 =>
    rcases hq with (h1 | ⟨h1, h2⟩) | ⟨⟨h1, h2⟩, h3⟩
    · go_enter Tryd.func62, Tryd.ntmps62
      go_wp2_with fail
      refine (N.out _).mono ?_
      rintro e w1 ⟨rfl, rfl⟩
      go_wp2_with fail
      go_ret
      exact ⟨rfl, rfl⟩
    · go_enter Tryd.func62, Tryd.ntmps62
      go_wp2_with fail
      refine (N.out _).mono ?_
      rintro e w1 ⟨rfl, rfl⟩
      go_wp2_with fail
      go_ret
      exact ⟨rfl, rfl⟩
    · omega
  | here c e q2 =>
    subst e
    have q : decide ((c : Int) < 0) = false := by simp
    rcases hq with (h1 | ⟨h1, h2⟩) | ⟨⟨h1, h2⟩, h3⟩
    · go_enter Tryd.func62, Tryd.ntmps62
      go_wp2_with fail
      refine (N.out _).mono ?_
      rintro e w1 ⟨rfl, rfl⟩
      go_wp2_with fail
      go_ret
      exact ⟨rfl, rfl⟩
    · go_enter Tryd.func62, Tryd.ntmps62
      go_wp2_with fail
      refine (N.out _).mono ?_
      rintro e w1 ⟨rfl, rfl⟩
      go_wp2_with fail
      go_ret
      exact ⟨rfl, rfl⟩
    · subst h3
      go_enter Tryd.func62, Tryd.ntmps62
      go_wp2_with fail
      refine (N.out _).mono ?_
      rintro e w1 ⟨rfl, rfl⟩
      go_wp2_with fail
      go_ret
      exact ⟨rfl, rfl⟩
/-- a time that goes on: far, or to its whole part -/
structure FarTo (c y F r : Nat) : Prop where
  fl : floatOfInt .f64 (c : Int) = F
  mul : ∀ W : World, (binOp .mul 26 (.float .f64 F) (.float .f64 y)).run Tryd.prog W = .ok (.float .f64 r) W
theorem refScale_far (n : Int) (c y F r : Nat) (w : World) (hC : ClampOf n c) (hc : c ≠ 0) (N : Hid (∀ w, Calls Tryd.prog 82 #[.float .f64 y] w fun e w' => e = .returned (.bool false) ∧ w = w'))
    (h1 : (FloatKind.f64.format.order y 0 == some .lt) = false) (h2 : (FloatKind.f64.format.order y 0 == some .eq) = false) (G : FarTo c y F r)
    (hq : ((FloatKind.f64.format.order r 4823355200913801216 == some .gt) || (FloatKind.f64.format.order r 4823355200913801216 == some .eq)) = true) :
    Calls Tryd.prog 62 #[.int .i64 n, .float .f64 y] w fun e w' => e = .returned (.int .i64 281474976710656) ∧ w = w' := by
  obtain ⟨fl, mul⟩ := G
  cases hC with
  | low q => exact absurd rfl hc
  | high q q2 =>
    have fl2 : floatOfInt .f64 281474976710656 = F := fl
    go_enter Tryd.func62, Tryd.ntmps62
    go_wp2_with fail
    refine (N.out _).mono ?_
    rintro e w1 ⟨rfl, rfl⟩
    go_wp2_with fail
    go_ret
    exact ⟨rfl, rfl⟩
  | here c e q2 =>
    subst e
    have q : decide ((c : Int) < 0) = false := by simp
    have q0 : ((c : Int) == 0) = false := by simp; omega
    go_enter Tryd.func62, Tryd.ntmps62
    go_wp2_with fail
    refine (N.out _).mono ?_
    rintro e w1 ⟨rfl, rfl⟩
    go_wp2_with fail
    go_ret
    exact ⟨rfl, rfl⟩
theorem refScale_near (n : Int) (c y F r R x : Nat) (w : World) (hC : ClampOf n c) (hc : c ≠ 0) (N : Hid (∀ w, Calls Tryd.prog 82 #[.float .f64 y] w fun e w' => e = .returned (.bool false) ∧ w = w'))
    (h1 : (FloatKind.f64.format.order y 0 == some .lt) = false) (h2 : (FloatKind.f64.format.order y 0 == some .eq) = false) (G : FarTo c y F r)
    (h3 : (FloatKind.f64.format.order r 4823355200913801216 == some .gt) = false) (h4 : (FloatKind.f64.format.order r 4823355200913801216 == some .eq) = false)
    (L : Hid (∀ w, Calls Tryd.prog 109 #[.float .f64 r] w fun e w' => e = .returned (.float .f64 x) ∧ w = w'))
    (hcv : ∀ W, (convert 26 3 (.float .f64 x)).run Tryd.prog W = .ok (.int .i64 R) W) :
    Calls Tryd.prog 62 #[.int .i64 n, .float .f64 y] w fun e w' => e = .returned (.int .i64 R) ∧ w = w' := by
  obtain ⟨fl, mul⟩ := G
  cases hC with
  | low q => exact absurd rfl hc
  | high q q2 =>
    have fl2 : floatOfInt .f64 281474976710656 = F := fl
    go_enter Tryd.func62, Tryd.ntmps62
    go_wp2_with fail
    refine (N.out _).mono ?_
    rintro e w1 ⟨rfl, rfl⟩
    go_wp2_with fail
    refine (L.out _).mono ?_
    rintro e w1 ⟨rfl, rfl⟩
    go_wp2_with fail
    go_ret
    exact ⟨rfl, rfl⟩
  | here c e q2 =>
    subst e
    have q : decide ((c : Int) < 0) = false := by simp
    have q0 : ((c : Int) == 0) = false := by simp; omega
    go_enter Tryd.func62, Tryd.ntmps62
    go_wp2_with fail
    refine (N.out _).mono ?_
    rintro e w1 ⟨rfl, rfl⟩
    go_wp2_with fail
    refine (L.out _).mono ?_
    rintro e w1 ⟨rfl, rfl⟩
    go_wp2_with fail
    go_ret
    exact ⟨rfl, rfl⟩
/-- bedrockref2.Scale is real.Scale -/
theorem refScale_any (n : Int) (y : Nat) (w : World) (hy : y < two64) :
    Calls Tryd.prog 62 #[.int .i64 n, .float .f64 y] w fun e w' => e = .returned (.int .i64 (scaleV n y)) ∧ w = w' := by
  have N := fun w => refNan_any y w hy
  obtain ⟨c, hcn, hC⟩ := clampOf n
  cases hnan : nanB y
  · rw [hnan] at N
    obtain ⟨qlt, qeq⟩ := zero_cmp hy hnan
    have hc := clampT_bd n
    by_cases hz : c = 0
    · have HS : scaleV n y = 0 := by unfold scaleV; rw [hnan, if_neg (by simp), if_pos (.inl (by rw [hcn, hz]; rfl))]
      rw [HS]
      refine refScale_zero n c y w hC (Lib.hid N) ?_
      cases e1 : (FloatKind.f64.format.order y 0 == some .lt)
      · cases e2 : (FloatKind.f64.format.order y 0 == some .eq)
        · exact .inr ⟨⟨rfl, rfl⟩, hz⟩
        · exact .inl (.inr ⟨rfl, rfl⟩)
      · exact .inl (.inl rfl)
    · cases hu : underB y
      · have hp : y % two63 ≠ 0 ∧ ¬ two63 ≤ y := by
          simp only [underB, Bool.or_eq_false_iff, decide_eq_false_iff_not] at hu
          exact hu
        have hm : y % two63 = y := Nat.mod_eq_of_lt (by omega)
        have hyi : y ≤ infR := by simpa [nanB, hm] using hnan
        rw [decide_eq_false hp.2, Bool.and_false] at qlt
        rw [decide_eq_false hp.1] at qeq
        have hc53 : c < 2 ^ 53 := by omega
        have hcz : clampT n ≠ 0 := by omega
        obtain ⟨r, hr, hri, hsr⟩ : ∃ r, floatBits .mul .f64 (rung c 0) y = some r ∧ r ≤ infR ∧ scaleV n y = if w48 ≤ r then 281474976710656 else (floorR r : Int) := by
          by_cases hi : y = infR
          · refine ⟨infR, by rw [hi]; exact mul_inf hz hc53, Nat.le_refl _, ?_⟩
            unfold scaleV
            rw [hnan, if_neg (by simp), hu, if_neg (by simp [hcz]), if_pos (.inl hi), if_pos (by decide)]
          · refine ⟨farR c y, mul_far hz hc53 (by omega), rung_le_inf _ _, ?_⟩
            unfold scaleV
            rw [hnan, if_neg (by simp), hu, if_neg (by simp [hcz]), hcn, Int.toNat_natCast]
            by_cases k : w48 ≤ farR c y
            · rw [if_pos (.inr k), if_pos k]
            · rw [if_neg (by rintro (k2 | k2); · exact hi k2
                             · exact k k2), if_neg k]
        obtain ⟨qg, qe⟩ := far_order hri
        have G : FarTo c y (rung c 0) r := ⟨float_rung c, fun W => run_float_arith W .mul 26 .f64 _ y r hr⟩
        by_cases k : w48 ≤ r
        · rw [hsr, if_pos k]
          exact refScale_far n c y _ r w hC hz (Lib.hid N) qlt qeq G (by rw [qg, qe]; simp; omega)
        · rw [hsr, if_neg k]
          refine refScale_near n c y _ r (floorR r) (rung (floorR r) 0) w hC hz (Lib.hid N) qlt qeq G (by rw [qg]; simp; omega) (by rw [qe]; simp; omega) (Lib.hid fun w => floor_any r (by omega) w) fun W => ?_
          exact run_convert_float_int W 26 3 .f64 .i64 _ _ (by rw [Tryd.underlying26]; rfl) Tryd.underlying3 (floor_back (by omega))
      · have HS : scaleV n y = 0 := by unfold scaleV; rw [hnan, if_neg (by simp), if_pos (.inr hu)]
        rw [HS]
        refine refScale_zero n c y w hC (Lib.hid N) (.inl ?_)
        cases e1 : (FloatKind.f64.format.order y 0 == some .lt)
        · refine .inr ⟨rfl, ?_⟩
          rw [qlt] at e1
          rw [qeq]
          simp only [underB, Bool.or_eq_true, decide_eq_true_eq] at hu
          by_cases k : y % two63 = 0
          · simp [k]
          · simp [k] at e1; omega
        · exact .inl rfl
  · rw [hnan] at N
    have HS : scaleV n y = clampT n := by unfold scaleV; rw [hnan]; rfl
    rw [HS, hcn]
    exact refScale_nan n c y w hC (Lib.hid N)
end Go.Proofs.YtgdlcoicejgdkaaDoor
