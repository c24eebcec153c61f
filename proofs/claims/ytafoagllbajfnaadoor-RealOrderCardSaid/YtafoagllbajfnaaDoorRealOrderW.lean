/- the walk of RealOrder. By an AI agent. -/
import Derived.Test.YtafoagllbajfnaaDoorAlive2
import Derived.Test.YtafoagllbajfnaaDoorRealOrder0
namespace Go.Proofs.YtafoagllbajfnaaDoor
open Go.RowKit

/-- what the order of three numbers is in Go's words -/
structure OrdG (a b c : Nat) (x y z : Int) : Prop where
  ex : cmpN (fkey a) (fkey b) = x
  ey : cmpN (fkey b) (fkey c) = y
  ez : cmpN (fkey a) (fkey c) = z
  t : cmpN (fkey b) (fkey a) = -x
  p : Lib.compareBytes (strOfNums (putN (fkey a) 8 8)).data.toList (strOfNums (putN (fkey b) 8 8)).data.toList = x
  lt : FloatKind.f64.format.order a b = some .lt → x < 0
  gt : FloatKind.f64.format.order a b = some .gt → 0 < x
  na : nanB a = true → ¬ nanB b = true → x < 0
  sm : decide (fkey a = fkey b) = (x == 0)
theorem ordG (a b c : Nat) (ha : a < two64) (hb : b < two64) : ∃ x y z, Ord3 (fkey a) (fkey b) (fkey c) x y z ∧ OrdG a b c x y z := by
  refine ⟨_, _, _, ord3 _ _ _, rfl, rfl, rfl, cmp_turn _ _, cmp_put8 _ _ (fkey_lt ha) (fkey_lt hb), fun h => ?_, fun h => ?_, fun h1 h2 => ?_, ?_⟩
  · have h2 := key_lt ha hb h
    unfold cmpN; rw [if_pos h2]; decide
  · have h2 := key_gt ha hb h
    unfold cmpN; rw [if_neg (by omega), if_pos h2]; decide
  · have k1 := key_nan h1
    have k2 := key_pos hb (by simpa using h2)
    unfold cmpN; rw [if_pos (by omega)]; decide
  · exact (cmpN_zero _ _).symm

set_option maxHeartbeats 1600000 in
set_option maxRecDepth 100000 in
theorem realOrder_walk (a b c : Nat) (w : World) (ha : a < two64) (hb : b < two64) (hc : c < two64) (hT : Tab w) :
    Calls Tryd.prog 12 #[.float .f64 a, .float .f64 b, .float .f64 c] w fun e w' => e = .returned (.bool true) ∧ Bl w w' := by
  have qa : (FloatKind.f64.format.order a a == some .eq) = !nanB a := by
    have := self_nan ha
    rw [← this]; simp [bne]; rfl
  have qb : (FloatKind.f64.format.order b b != some .eq) = nanB b := self_nan hb
  obtain ⟨x, y, z, O0, G0⟩ := ordG a b c ha hb
  have O := Lib.hid O0
  have G := Lib.hid G0
  clear O0 G0
  go_enter Tryd.func12, Tryd.ntmps12
  go_wp2_with fail
  refine (rcompare_any a b _ ha hb).mono ?_
  rintro e w1 ⟨rfl, hb1⟩
  rw [G.out.ex]
  go_wp2_with fail
  refine (rcompare_any b c _ hb hc).mono ?_
  rintro e w2 ⟨rfl, hb2⟩
  rw [G.out.ey]
  have HB := hb1.trans hb2
  clear hb1 hb2
  go_wp2_with fail
  refine (rcompare_any a c _ ha hc).mono ?_
  rintro e w3 ⟨rfl, hb3⟩
  rw [G.out.ez]
  have HB := HB.trans hb3
  clear hb3
  go_wp2_with fail
  refine (rput_any a _ ha).mono ?_
  rintro e w4 ⟨rfl, hb4⟩
  have HB := HB.trans hb4
  clear hb4
  go_wp2_with fail
  refine (rput_any b _ hb).mono ?_
  rintro e w5 ⟨rfl, hb5⟩
  have HB := HB.trans hb5
  clear hb5
  go_wp2_with fail
  refine (rawCompare_any _ _ _).mono ?_
  rintro e w6 ⟨rfl, rfl⟩
  rw [G.out.p]
  have x1 := O.out.x1
  have x2 := O.out.x2
  go_wp2_with fail
  refine (rcompare_any b a _ hb ha).mono ?_
  rintro e w7 ⟨rfl, hb7⟩
  rw [G.out.t]
  have HB := HB.trans hb7
  clear hb7
  go_wp2_with (first | (refine (alive2_any _ (hT.keep HB)).mono ?_; rintro e w8 ⟨rfl, hb8⟩) | (refine (rsameF_any a b _ ha hb).mono ?_; rintro e w9 ⟨rfl, hb9⟩; rw [G.out.sm]) | fail)
  all_goals (go_ret; refine ⟨ret_bool ?_, ?_⟩)
  all_goals first
    | exact (HB.trans (by assumption)).trans (by assumption)
    | exact HB.trans (by assumption)
    | exact HB
    | rfl
    | (exfalso; have h1 := O.out.le; have h2 := O.out.lt; omega)
    | (exfalso; have h1 := G.out.lt (by assumption); omega)
    | (exfalso; have h1 := G.out.gt (by assumption); omega)
    | (exfalso; have h1 := G.out.na (by assumption) (by assumption); omega)
    | skip
end Go.Proofs.YtafoagllbajfnaaDoor
