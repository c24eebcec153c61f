/- the law's own first call, of chapter 20. By an AI agent. -/
import Derived.Test.YtechiehbigmjbaaGossip5
import Derived.Test.YtechiehbigmjbaaRef3
import Derived.Test.YtechiehbigmjbaaVecP
import Derived.Test.YtechiehbigmjbaaIaLit
namespace Go.Proofs.Ytechiehbigmjbaa
open Go.RowKit

theorem fkey_inj {x y : Nat} (hx : x < two64) (hy : y < two64) (h : fkey x = fkey y) (h0 : fkey y ≠ 0) : x = y := by
  unfold fkey at h h0
  unfold two63 two64 at *
  split at h <;> split at h <;> (try split at h) <;> (try split at h) <;> simp_all <;> omega
theorem fkey_zero {x : Nat} (hx : x < two64) (h : fkey x = 0) : nanB x = true := by
  cases hn : nanB x
  · exfalso
    rw [fkey_num hn] at h
    have h2 : x % two63 ≤ infR := by simpa [nanB] using hn
    unfold two63 two64 infR at *
    split at h <;> omega
  · rfl

set_option maxHeartbeats 1600000 in
set_option maxRecDepth 100000 in
theorem alive20_any (w : World) : Calls Try.prog 15 #[] w fun e w' => e = .returned (.bool true) ∧ Bl w w' := by
  go_enter Try.func15, Try.ntmps15
  go_wp2_with fail
  refine (new_yes 2 _ (by decide) (by decide)).mono ?_
  rintro e w1 ⟨g, rfl, hr, hb1⟩
  go_wp2_with fail
  refine (set_yes _ g 2 _ _ 0 _ [5, 2] _ (hr.keep ((Bl.refl _).alloc _)) (by decide) (by decide) (by decide) (IA.lit w1 [5, 2] _ (by decide) (by decide)) (by decide)).mono ?_
  rintro e w2 ⟨rfl, hr2, hb2⟩
  have hb2 : Bl w w2 := Below.trans (hb1.alloc _) hb2
  rw [show (List.replicate 2 (zeroL 2)).set 0 (joinL (nthR (List.replicate 2 (zeroL 2)) 0) [5, 2]) = [[5, 2], [0, 0]] from by decide] at hr2
  go_wp2_with fail
  refine (set_yes _ g 2 _ _ 1 _ [3, 4] _ (hr2.keep ((Bl.refl _).alloc _)) (by decide) (by decide) (by decide) (IA.lit w2 [3, 4] _ (by decide) (by decide)) (by decide)).mono ?_
  rintro e w3 ⟨rfl, hr3, hb3⟩
  have hb3 : Bl w w3 := Below.trans (hb2.alloc _) hb3
  rw [show List.set [[5, 2], [0, 0]] 1 (joinL (nthR [[5, 2], [0, 0]] 1) [3, 4]) = [[5, 2], [3, 4]] from by decide] at hr3
  clear hb1 hr hr2
  go_wp2_with fail
  refine (new_yes 1 _ (by decide) (by decide)).mono ?_
  rintro e w4 ⟨g4, rfl, hr4, hb4⟩
  go_wp2_with fail
  refine (lag_yes _ g4 _ _ hr4 (by decide) (by decide) (by decide)).mono ?_
  rintro e w5 ⟨x, rfl, hx, hxk, hb5⟩
  rw [show lagK (allL min (List.replicate 1 (zeroL 1))) (allL max (List.replicate 1 (zeroL 1))) (allL min (List.replicate 1 (zeroL 1))).length = 0 from by decide +kernel] at hxk
  have hxn : (FloatKind.f64.format.order x x != some .eq) = true := (self_nan hx).trans (fkey_zero hx hxk)
  have hr5 := hr3.keep (hb4.trans hb5)
  have hb5 := hb3.trans (hb4.trans hb5)
  clear hxk hx hr3 hr4 hb4
  go_wp2_with fail
  refine (stable_yes _ g _ _ hr5 (by decide) (by decide)).mono ?_
  rintro e w6 ⟨v6, rfl, hf6, hb6⟩
  rw [show allL min [[5, 2], [3, 4]] = [3, 2] from by decide] at hf6
  obtain ⟨a6, n6, c6, rfl, hI6⟩ := hf6.si
  have hr6 := hr5.keep hb6
  have hb6 := hb5.trans hb6
  clear hf6 hr5
  go_wp2_with fail
  refine (rsame_any _ _ _ _ _ _ [3, 2] [3, 2] _ ?_ ?_).mono ?_
  · exact hI6.keep ((Bl.refl _).alloc _)
  · exact IA.lit w6 [3, 2] _ (by decide) (by decide)
  rintro e w7 ⟨rfl, hb7⟩
  rw [show decide (([3, 2] : List Int) = [3, 2]) = true from by decide]
  have hb7 := ((Bl.refl w6).alloc _).trans hb7
  have hr7 := hr6.keep hb7
  have hb7 := hb6.trans hb7
  clear hr6 hI6
  go_wp2_with fail
  refine (best_yes _ g _ _ hr7 (by decide) (by decide)).mono ?_
  rintro e w8 ⟨v8, rfl, hf8, hb8⟩
  rw [show allL max [[5, 2], [3, 4]] = [5, 4] from by decide] at hf8
  obtain ⟨a8, n8, c8, rfl, hI8⟩ := hf8.si
  have hr8 := hr7.keep hb8
  have hb8 := hb7.trans hb8
  clear hf8 hr7
  go_wp2_with fail
  refine (rsame_any _ _ _ _ _ _ [5, 4] [5, 4] _ ?_ ?_).mono ?_
  · exact hI8.keep ((Bl.refl _).alloc _)
  · exact IA.lit w8 [5, 4] _ (by decide) (by decide)
  rintro e w9 ⟨rfl, hb9⟩
  rw [show decide (([5, 4] : List Int) = [5, 4]) = true from by decide]
  have hb9 := ((Bl.refl w8).alloc _).trans hb9
  have hr9 := hr8.keep hb9
  have hb9 := hb8.trans hb9
  clear hr8 hI8
  go_wp2_with fail
  refine (lag_yes _ g _ _ hr9 (by decide) (by decide) (by decide)).mono ?_
  rintro e w10 ⟨y, rfl, hy, hyk, hb10⟩
  rw [show lagK (allL min [[5, 2], [3, 4]]) (allL max [[5, 2], [3, 4]]) (allL min [[5, 2], [3, 4]]).length = fkey 4602678819172646912 from by decide +kernel] at hyk
  obtain rfl := fkey_inj hy (by decide) hyk (by decide)
  have hyh : (FloatKind.f64.format.order 4602678819172646912 4602678819172646912 == some .eq) = true := by decide +kernel
  have hb10 := hb9.trans hb10
  clear hyk hy hr9
  go_wp2_with fail
  go_ret
  exact ⟨rfl, hb10⟩
end Go.Proofs.Ytechiehbigmjbaa
