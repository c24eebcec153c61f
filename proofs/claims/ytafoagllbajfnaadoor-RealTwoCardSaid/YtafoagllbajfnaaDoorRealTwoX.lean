/- the walk of RealTwo, every way. By an AI agent. -/
import Derived.Test.YtafoagllbajfnaaDoorRealTwoW
import Derived.Test.YtafoagllbajfnaaDoorScale0
namespace Go.Proofs.YtafoagllbajfnaaDoor
open Go.RowKit Ieee

set_option maxHeartbeats 1600000 in
set_option maxRecDepth 100000 in
theorem two_out (m e : Int) (b : Bool) (w : World) (hT : Tab w) (h : m < 0 ∨ (0 ≤ m ∧ 9007199254740992 ≤ m) ∨ (0 ≤ m ∧ m < 9007199254740992 ∧ e < -2000) ∨ (0 ≤ m ∧ m < 9007199254740992 ∧ -2000 ≤ e ∧ 2000 < e)) :
    Calls Tryd.prog 13 #[.int .i64 m, .int .i64 e, .bool b] w fun e w' => e = .returned (.bool true) ∧ Bl w w' := by
  rcases h with h | ⟨h0, h⟩ | ⟨h0, h1, h⟩ | ⟨h0, h1, h2, h⟩
  all_goals
    go_enter Tryd.func13, Tryd.ntmps13
    go_wp2_with fail
    refine (alive2_any _ hT).mono ?_
    rintro x w1 ⟨rfl, hb1⟩
    go_wp2_with fail
    go_ret
    exact ⟨rfl, hb1⟩

theorem order_eqN {x y : Nat} (hx : x ≤ infR) (hy : y ≤ infR) : (FloatKind.f64.format.order x y == some .eq) = decide (x = y) := by
  rw [order_pos (by unfold infR two63 at *; omega) (by unfold infR two63 at *; omega) (nan_small hx) (nan_small hy)]
  rcases Nat.lt_trichotomy x y with h | h | h
  · rw [Nat.compare_eq_lt.2 h, decide_eq_false (by omega)]; rfl
  · subst h; rw [Nat.compare_eq_eq.2 rfl, decide_eq_true rfl]; rfl
  · rw [Nat.compare_eq_gt.2 h, decide_eq_false (by omega)]; rfl
theorem withS_sW (b : Bool) (r : Nat) : withS b r = sW b r := by
  unfold withS sW; rw [Nat.add_comm]
theorem whole_word {S : Nat} (h1 : two52 ≤ S) (h2 : S < 2 * two52) : rung S 0 = 1074 * two52 + S := rung_exact h1 h2 (by decide) (by decide)
theorem whole_bd {S : Nat} (h1 : two52 ≤ S) (h2 : S < 2 * two52) : rung S 0 ≠ 0 ∧ rung S 0 < infR := by
  rw [whole_word h1 h2]
  unfold two52 infR at *; omega
theorem abs_sW (b : Bool) {y : Nat} (h : y ≤ infR) (w : World) : Calls Tryd.prog 48 #[.float .f64 (sW b y)] w fun x w' => x = .returned (.float .f64 y) ∧ w = w' := by
  have h63 : y < two63 := by unfold infR two63 at *; omega
  have := abs_any (sW b y) w (sW_lt h63)
  rwa [sW_mod h63] at this

theorem realTwo_walk (m e : Int) (b : Bool) (w : World) (hm : -9223372036854775808 ≤ m ∧ m ≤ 9223372036854775807) (_he : -9223372036854775808 ≤ e ∧ e ≤ 9223372036854775807) (hT : Tab w) :
    Calls Tryd.prog 13 #[.int .i64 m, .int .i64 e, .bool b] w fun e w' => e = .returned (.bool true) ∧ Bl w w' := by
  by_cases ho : m < 0 ∨ (0 ≤ m ∧ 9007199254740992 ≤ m) ∨ (0 ≤ m ∧ m < 9007199254740992 ∧ e < -2000) ∨ (0 ≤ m ∧ m < 9007199254740992 ∧ -2000 ≤ e ∧ 2000 < e)
  · exact two_out m e b w hT ho
  obtain ⟨n, rfl⟩ : ∃ n : Nat, m = n := ⟨m.toNat, by omega⟩
  have hn : n < 2 ^ 53 := by omega
  have he : -2000 ≤ e ∧ e ≤ 2000 := by omega
  clear ho hm _he
  have hp := parse_mp (n := n) (e := e) b hn he
  by_cases h0 : n = 0
  · subst h0
    have hr : rung 0 0 = 0 := rfl
    have ez : (FloatKind.f64.format.order 0 0 == some .eq) = true := by decide +kernel
    refine two_core 0 e b 0 0 0 0 0 0 0 true ((0 : Int) == e + ((0 : Nat) : Int)) true false (sW b 0) 0 w hT (by omega) (by decide) he (by omega)
      (Lib.hid ⟨fun w => ldexp_zero e w, fun w => frexp_zero b w, fun w => abs_sW b (by decide) w, fun w => ldexp_zero 53 w, fun w => bits_any 0 w (by decide), fun w => ldexp_zero _ w⟩)
      (by rw [float_rung]; rfl) ez rfl rfl (Lib.hid ?_) (Lib.hid ⟨?_, ?_, fun _ => ⟨rfl, rfl⟩, sW_lt (by decide), sW_lt (by decide)⟩)
    · rw [sW_inf (by decide)]; decide
    · rw [hp, show numF 0 e = (0, 0) from rfl, if_pos rfl, withS_sW]
    · intro h; simp at h
  · obtain ⟨b1, b2, b3, b4⟩ := bitsN_bd h0 hn
    have hle := rung_le_inf n e
    have hF : floatOfInt .f64 (n : Int) = rung n 0 := float_rung n
    have hq : rung n (53 - ((bitsN n : Nat) : Int)) = rung (n * 2 ^ (53 - bitsN n)) 0 := by
      rw [rung_shift]; congr 1; omega
    obtain ⟨q1, q2⟩ := whole_bd b3 b4
    have hl3 : ∀ w, Calls Tryd.prog 46 #[.float .f64 (rung n 0), .int .i64 (53 - ((bitsN n : Nat) : Int))] w fun x w' => x = .returned (.float .f64 (rung (n * 2 ^ (53 - bitsN n)) 0)) ∧ w = w' := fun w => by
      have := ldexp_nat n (53 - ((bitsN n : Nat) : Int)) w h0 hn (by omega)
      rwa [hq] at this
    have hl1 : ∀ w, Calls Tryd.prog 46 #[.float .f64 (rung n 0), .int .i64 e] w fun x w' => x = .returned (.float .f64 (rung n e)) ∧ w = w' := fun w => ldexp_nat n e w h0 hn (by omega)
    have hbt : ∀ w, Calls Tryd.prog 49 #[.int .i64 n] w fun x w' => x = .returned (.int .i64 (bitsN n)) ∧ w = w' := fun w => bits_any n w (by omega)
    have t3 : ((n : Int) == 0) = false := by simpa using h0
    by_cases ri : rung n e = infR
    · rw [numF_edge h0 (.inr ri)] at hp
      replace hp := hp.trans (if_neg (show ¬ ((11 : Int) = 0) by decide))
      rw [ri] at hl1
      refine two_core n e b (rung n 0) infR infR infR (rung (n * 2 ^ (53 - bitsN n)) 0) (bitsN n) 0 false _ false true 0 11 w hT (by omega) (by decide) he b2
        (Lib.hid ⟨hl1, fun w => frexp_inf b w, fun w => abs_sW b (Nat.le_refl _) w, fun w => ldexp_inf 53 w, hbt, hl3⟩) hF ?_ rfl t3 (Lib.hid ?_) (Lib.hid ⟨hp, fun _ => rfl, fun h => by simp at h, by decide, sW_lt (by decide)⟩)
      · rw [order_eqN (Nat.le_refl _) (Nat.le_of_lt q2)]; exact decide_eq_false (by omega)
      · rw [sW_inf (Nat.le_refl _)]; exact decide_eq_true rfl
    · by_cases r0 : rung n e = 0
      · rw [numF_edge h0 (.inl r0)] at hp
        replace hp := hp.trans (if_neg (show ¬ ((11 : Int) = 0) by decide))
        rw [r0] at hl1
        refine two_core n e b (rung n 0) 0 0 0 (rung (n * 2 ^ (53 - bitsN n)) 0) (bitsN n) 0 false _ false false 0 11 w hT (by omega) (by decide) he b2
          (Lib.hid ⟨hl1, fun w => frexp_zero b w, fun w => abs_sW b (by decide) w, fun w => ldexp_zero 53 w, hbt, hl3⟩) hF ?_ rfl t3 (Lib.hid ?_) (Lib.hid ⟨hp, fun _ => rfl, fun h => by simp at h, by decide, sW_lt (by decide)⟩)
        · rw [order_eqN (by decide) (Nat.le_of_lt q2)]; exact decide_eq_false (by omega)
        · rw [sW_inf (by decide)]; decide
      · have hlt : rung n e < infR := by omega
        have h63 : rung n e < two63 := by unfold infR two63 at *; omega
        rw [numF_exact h0 hn r0 ri] at hp
        have s1 := normS_ge r0
        have s2 := normS_lt r0
        obtain ⟨p1, p2⟩ := whole_bd s1 s2
        have et : (FloatKind.f64.format.order (rung (normS (rung n e)) 0) (rung (n * 2 ^ (53 - bitsN n)) 0) == some .eq) = decide (normS (rung n e) = n * 2 ^ (53 - bitsN n)) := by
          rw [order_eqN (Nat.le_of_lt p2) (Nat.le_of_lt q2), whole_word s1 s2, whole_word b3 b4]
          congr 1
          apply propext
          omega
        have et2 : (normP (rung n e) + 53 == e + ((bitsN n : Nat) : Int)) = decide (normP (rung n e) + 53 = e + bitsN n) := rfl
        have hx : exactB n e (rung n e) = (decide (normS (rung n e) = n * 2 ^ (53 - bitsN n)) && decide (normP (rung n e) + 53 = e + bitsN n)) := rfl
        have hy : 4602678819172646912 + (normS (rung n e) - two52) ≤ infR := by unfold two52 infR at *; omega
        refine two_core n e b (rung n 0) (rung n e) (4602678819172646912 + (normS (rung n e) - two52)) (rung (normS (rung n e)) 0) (rung (n * 2 ^ (53 - bitsN n)) 0) (bitsN n) (normP (rung n e) + 53) _ _ false false
          (if exactB n e (rung n e) then sW b (rung n e) else 0) (if exactB n e (rung n e) then 0 else 11) w hT (by omega) h63 he b2
          (Lib.hid ⟨hl1, fun w => frexp_sign b _ w r0 hlt, fun w => abs_sW b hy w, fun w => ldexp_digits _ w r0, hbt, hl3⟩) hF et et2 t3 (Lib.hid ?_) (Lib.hid ⟨?_, ?_, ?_, ?_, sW_lt h63⟩)
        · rw [sW_inf hle]; exact decide_eq_false ri
        · rw [hp]
          cases exactB n e (rung n e)
          · rfl
          · simp [withS_sW]
        · intro h
          rw [← hx] at h
          cases hxx : exactB n e (rung n e)
          · rfl
          · rw [hxx] at h; simp at h
        · intro h
          rw [← hx] at h
          cases hxx : exactB n e (rung n e)
          · rw [hxx] at h; simp at h
          · exact ⟨rfl, rfl⟩
        · split
          · exact sW_lt h63
          · decide
end Go.Proofs.YtafoagllbajfnaaDoor
