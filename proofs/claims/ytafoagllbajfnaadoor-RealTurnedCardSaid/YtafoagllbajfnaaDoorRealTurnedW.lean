/- the walk of RealTurned. By an AI agent. -/
import Derived.Test.YtafoagllbajfnaaDoorAlive2
import Derived.Test.YtafoagllbajfnaaDoorRealOrder0
namespace Go.Proofs.YtafoagllbajfnaaDoor
open Go.RowKit

theorem neg_bits {x : Nat} (hx : x < two64) : Op.negFloat .f64 x = negW x := by
  have e0 : Op.negFloat .f64 x = x ^^^ 2 ^ 63 := rfl
  rw [e0]
  have key : ∀ r, r < 2 ^ 63 → r ^^^ 2 ^ 63 = 2 ^ 63 * 1 + r := by
    intro r hr
    rw [Nat.two_pow_add_eq_or_of_lt hr]
    apply Nat.eq_of_testBit_eq
    intro i
    rw [Nat.testBit_xor, Nat.testBit_or, Nat.mul_one, Nat.testBit_two_pow]
    by_cases h : 63 = i
    · subst h
      rw [Nat.testBit_lt_two_pow hr]; simp
    · rw [decide_eq_false h]; simp
  unfold negW
  by_cases h : two63 ≤ x
  · rw [if_pos h]
    have hr : x - two63 < 2 ^ 63 := by unfold two63 two64 at *; omega
    have h2 := key _ hr
    have h3 : 2 ^ 63 * 1 + (x - two63) = x := by unfold two63 at *; omega
    rw [h3] at h2
    have h4 : ((x - two63) ^^^ 2 ^ 63) ^^^ 2 ^ 63 = x - two63 := by rw [Nat.xor_assoc, Nat.xor_self, Nat.xor_zero]
    rw [h2] at h4
    exact h4
  · rw [if_neg h, key x (by unfold two63 at h; omega)]
    unfold two63; omega
theorem run_neg {x : Nat} (hx : x < two64) (W : World) : (Op.unary .neg (.float .f64 x)).run Tryd.prog W = .ok (.float .f64 (negW x)) W := by
  rw [← neg_bits hx]; rfl
/-- a number's text without its sign -/
def bodyF (r : Nat) : List UInt8 := if r = 0 then [48] else if r = infR then infL else numL (oddM r) (oddE r)
theorem textF_body {x : Nat} (h : nanB x = false) : textF x = signL x ++ bodyF (x % two63) := by
  unfold textF bodyF
  rw [h]
  simp only [Bool.false_eq_true, if_false]
  split
  · rfl
  · split
    · rfl
    · rfl
theorem body_len (x : Nat) (h : nanB x = false) : (bodyF (x % two63)).length ≤ 24 := by
  have h1 := textF_len x
  rw [textF_body h, List.length_append] at h1
  omega
theorem body_ne (l : List UInt8) : l ≠ 45 :: 45 :: l := by
  intro h
  have := congrArg List.length h
  simp at this
  omega
/-- one of the two has the sign -/
theorem sign_one {a : Nat} (ha : a < two64) (h : nanB a = false) :
    (textF a = 45 :: textF (negW a)) ∨ (textF a ≠ 45 :: textF (negW a) ∧ textF (negW a) = 45 :: textF a) := by
  rw [textF_body h, textF_body (by rw [negW_nan ha]; exact h), negW_mod ha]
  unfold signL negW
  by_cases k : two63 ≤ a
  · left
    rw [if_pos k, if_pos k, if_neg (by unfold two63 two64 at *; omega)]; rfl
  · right
    rw [if_neg k, if_neg k, if_pos (by omega)]
    exact ⟨body_ne _, rfl⟩

set_option maxHeartbeats 1600000 in
set_option maxRecDepth 100000 in
theorem realTurned_walk (a b : Nat) (w : World) (ha : a < two64) (hb : b < two64) (hT : Tab w) :
    Calls Tryd.prog 14 #[.float .f64 a, .float .f64 b] w fun e w' => e = .returned (.bool true) ∧ Bl w w' := by
  have qa : (FloatKind.f64.format.order a a != some .eq) = nanB a := self_nan ha
  have qb : (FloatKind.f64.format.order b b != some .eq) = nanB b := self_nan hb
  have HB := Bl.refl w
  by_cases hn : nanB a = true ∨ nanB b = true
  · cases na : nanB a
    · have nb : nanB b = true := by
        rcases hn with h | h
        · rw [na] at h; cases h
        · exact h
      clear hn
      go_enter Tryd.func14, Tryd.ntmps14
      go_wp2_with fail
      refine (alive2_any _ (hT.keep HB)).mono ?_
      rintro e w1 ⟨rfl, hb1⟩
      go_wp2_with fail
      go_ret
      exact ⟨rfl, hb1⟩
    · clear hn
      go_enter Tryd.func14, Tryd.ntmps14
      go_wp2_with fail
      refine (alive2_any _ (hT.keep HB)).mono ?_
      rintro e w1 ⟨rfl, hb1⟩
      go_wp2_with fail
      go_ret
      exact ⟨rfl, hb1⟩
  · have na : nanB a = false := by
      cases e : nanB a
      · rfl
      · exact absurd (.inl e) hn
    have nb : nanB b = false := by
      cases e : nanB b
      · rfl
      · exact absurd (.inr e) hn
    clear hn
    rw [na] at qa
    rw [nb] at qb
    have hna := negW_lt ha
    have hnb := negW_lt hb
    have hga := run_neg ha
    have hgb := run_neg hb
    have C := Lib.hid (neg_cmp ha hb na nb)
    have M := Lib.hid (min_neg ha hb na nb)
    have S := Lib.hid (sign_one ha na)
    have hmx := rmax_lt' hna hnb
    have hgm := run_neg hmx
    clear na nb
    go_enter Tryd.func14, Tryd.ntmps14
    go_wp2_with fail
    refine (rtext_any a _ ha (hT.keep HB)).mono ?_
    rintro e w1 ⟨s, rfl, hs, hb1⟩
    have HB := HB.trans hb1
    have HS := Lib.hid hs
    clear hb1 hs
    go_wp2_with fail
    refine (rtext_any (negW a) _ hna (hT.keep HB)).mono ?_
    rintro e w1 ⟨t, rfl, ht, hb1⟩
    have HB := HB.trans hb1
    have HT := Lib.hid ht
    clear hb1 ht
    go_wp2_with fail
    refine (alive2_any _ (hT.keep HB)).mono ?_
    rintro e w1 ⟨rfl, hb1⟩
    have HB := HB.trans hb1
    clear hb1
    go_wp2_with fail
    refine (rcompare_any (negW a) (negW b) _ hna hnb).mono ?_
    rintro e w1 ⟨rfl, hb1⟩
    have HB := HB.trans hb1
    clear hb1
    rw [C.out]
    generalize hx : cmpN (fkey b) (fkey a) = x
    have HX := Lib.hid hx
    clear hx
    go_wp2_with fail
    refine (rcompare_any b a _ hb ha).mono ?_
    rintro e w1 ⟨rfl, hb1⟩
    have HB := HB.trans hb1
    clear hb1
    rw [HX.out]
    have t1 : s.size ≤ 24 := by rw [HS.out.size]; exact textF_len a
    have t2 : t.size ≤ 24 := by rw [HT.out.size]; exact textF_len _
    have A1 : SB (ByteArray.mk #[45] ++ t) (45 :: textF (negW a)) := SB.append (SB.mk [45]) HT.out
    have A2 : SB (ByteArray.mk #[45] ++ s) (45 :: textF a) := SB.append (SB.mk [45]) HS.out
    have B1 := HS.out.beq A1
    have B2 := HT.out.beq A2
    rcases S.out with S | ⟨S, S2⟩
    · rw [decide_eq_true S] at B1
      clear B2 A1 A2 S
      go_wp2_with fail
      refine (rmin_any a b _ ha hb).mono ?_
      rintro e w1 ⟨rfl, hb1⟩
      have HB := HB.trans hb1
      clear hb1
      go_wp2_with fail
      refine (rmax_any (negW a) (negW b) _ hna hnb).mono ?_
      rintro e w1 ⟨rfl, hb1⟩
      have HB := HB.trans hb1
      clear hb1
      go_wp2_with fail
      refine (rsameF_any _ _ _ (rmin_lt ha hb) (negW_lt hmx)).mono ?_
      rintro e w1 ⟨rfl, hb1⟩
      have HB := HB.trans hb1
      clear hb1
      rw [decide_eq_true M.out]
      go_wp2_with fail
      go_ret
      exact ⟨rfl, HB⟩
    · rw [decide_eq_false S] at B1
      rw [decide_eq_true S2] at B2
      clear A1 A2 S S2
      go_wp2_with fail
      refine (rmin_any a b _ ha hb).mono ?_
      rintro e w1 ⟨rfl, hb1⟩
      have HB := HB.trans hb1
      clear hb1
      go_wp2_with fail
      refine (rmax_any (negW a) (negW b) _ hna hnb).mono ?_
      rintro e w1 ⟨rfl, hb1⟩
      have HB := HB.trans hb1
      clear hb1
      go_wp2_with fail
      refine (rsameF_any _ _ _ (rmin_lt ha hb) (negW_lt hmx)).mono ?_
      rintro e w1 ⟨rfl, hb1⟩
      have HB := HB.trans hb1
      clear hb1
      rw [decide_eq_true M.out]
      go_wp2_with fail
      go_ret
      exact ⟨rfl, HB⟩
end Go.Proofs.YtafoagllbajfnaaDoor
