/- the walk of RealTwo. By an AI agent. -/
import Derived.Test.YtafoagllbajfnaaDoorTwo1
import Derived.Test.YtafoagllbajfnaaDoorAlive2
import Derived.Outline
namespace Go.Proofs.YtafoagllbajfnaaDoor
open Go.RowKit

/-- the law's own count of digits -/
theorem bits_any (n : Nat) (w : World) (h : n < 2 ^ 62) : Calls Tryd.prog 49 #[.int .i64 n] w fun e w' => e = .returned (.int .i64 (bitsN n)) ∧ w = w' := by
  go_enter Tryd.func49, Tryd.ntmps49
  go_wp2
  go_loop [0, 3] (fun a c => ∃ m k : Nat, a = .int .i64 m ∧ c = .int .i64 k ∧ bitsN m + k = bitsN n ∧ m ≤ n ∧ k ≤ n - m) (fun a _ => (intOf a).toNat)
  case atStart => exact ⟨n, 0, rfl, rfl, rfl, Nat.le_refl _, by omega⟩
  case round =>
    obtain ⟨m, k, rfl, rfl, hb, hm, hk⟩ := hrel
    have HB := Lib.hid hb
    clear hb
    by_cases h0 : 0 < m
    · have HS := Lib.hid (bits_step (n := m) (by omega))
      have ht : wrap64 ((m : Int).tdiv 2) = ((m / 2 : Nat) : Int) := by rw [tdiv_two, if_pos (by omega)]
      have hpos : (0 : Int) < (m : Int) := by omega
      go_wp2
      go_round
      case rel => exact ⟨m / 2, k + 1, by go_num, by go_num, by have := HB.out; have := HS.out; omega, by omega, by omega⟩
      case measure => simp [intOf]; omega
    · obtain rfl : m = 0 := by omega
      go_wp2
      go_ret
      refine ⟨?_, rfl⟩
      have := HB.out
      rw [show bitsN 0 = 0 from rfl] at this
      exact ret_int (by omega)

theorem negF_bits {r : Nat} (hr : r < two63) : Op.negFloat .f64 r = two63 + r := by
  have e0 : Op.negFloat .f64 r = r ^^^ 2 ^ 63 := rfl
  have hr' : r < 2 ^ 63 := hr
  rw [e0, show two63 + r = 2 ^ 63 * 1 + r from rfl, Nat.two_pow_add_eq_or_of_lt hr']
  apply Nat.eq_of_testBit_eq
  intro i
  rw [Nat.testBit_xor, Nat.testBit_or, Nat.mul_one, Nat.testBit_two_pow]
  by_cases h : 63 = i
  · subst h
    rw [Nat.testBit_lt_two_pow hr']; simp
  · rw [decide_eq_false h]; simp
theorem run_negF {r : Nat} (hr : r < two63) (W : World) : (Op.unary .neg (.float .f64 r)).run Tryd.prog W = .ok (.float .f64 (two63 + r)) W := by
  rw [← negF_bits hr]; rfl

theorem sb_mp {d s : ByteArray} {n : Nat} {e : Int} (h : SB d (bytesD (n : Int))) (k : SB s (bytesD e)) : SB ((d ++ ⟨#[112]⟩) ++ s) (mpL n e) := by
  have h1 := SB.append (SB.append h (SB.mk [112])) k
  rw [List.append_assoc] at h1
  exact h1

/-- what the calls of RealTwo tell -/
structure TwoC (n : Nat) (e : Int) (b : Bool) (F r y p q L : Nat) (k : Int) : Prop where
  l1 : ∀ w, Calls Tryd.prog 46 #[.float .f64 F, .int .i64 e] w fun x w' => x = .returned (.float .f64 r) ∧ w = w'
  fx : ∀ w, Calls Tryd.prog 47 #[.float .f64 (sW b r)] w fun x w' => x = .returned (.tuple #[.float .f64 (sW b y), .int .i64 k]) ∧ w = w'
  ab : ∀ w, Calls Tryd.prog 48 #[.float .f64 (sW b y)] w fun x w' => x = .returned (.float .f64 y) ∧ w = w'
  l2 : ∀ w, Calls Tryd.prog 46 #[.float .f64 y, .int .i64 53] w fun x w' => x = .returned (.float .f64 p) ∧ w = w'
  bt : ∀ w, Calls Tryd.prog 49 #[.int .i64 n] w fun x w' => x = .returned (.int .i64 L) ∧ w = w'
  l3 : ∀ w, Calls Tryd.prog 46 #[.float .f64 F, .int .i64 (53 - (L : Int))] w fun x w' => x = .returned (.float .f64 q) ∧ w = w'
/-- what is told of the text -/
structure TwoP (b : Bool) (l : List UInt8) (f : Nat) (g : Int) (r : Nat) (bad : Bool) : Prop where
  parse : parseP l = (f, g)
  no : bad = true → g = 11
  yes : bad = false → g = 0 ∧ f = sW b r
  f64 : f < two64
  r64 : sW b r < two64

set_option maxHeartbeats 6400000 in
set_option maxRecDepth 100000 in
theorem two_core (n : Nat) (e : Int) (b : Bool) (F r y p q L : Nat) (k : Int) (t1 t2 t3 t4 : Bool) (f : Nat) (g : Int) (w : World) (hT : Tab w) (hn : n < 9007199254740992) (hr63 : r < two63) (he : -2000 ≤ e ∧ e ≤ 2000) (hL : L ≤ 53) (C : Hid (TwoC n e b F r y p q L k))
    (hfl : floatOfInt .f64 (n : Int) = F) (q1 : (FloatKind.f64.format.order p q == some .eq) = t1) (q2 : (k == e + (L : Int)) = t2) (q3 : ((n : Int) == 0) = t3) (Q4 : Hid (infB (sW b r) = t4))
    (P : Hid (TwoP b ((if b then [45] else []) ++ mpL n e) f g r (t4 || !((t1 && t2) || t3)))) :
    Calls Tryd.prog 13 #[.int .i64 n, .int .i64 e, .bool b] w fun e w' => e = .returned (.bool true) ∧ Bl w w' := by
  have s1 : (0 : Int) ≤ (n : Int) := by omega
  have s2 : ¬ ((n : Int) < 0) := by omega
  have s3 : ¬ ((9007199254740992 : Int) ≤ (n : Int)) := by omega
  have s4 : ¬ (e < -2000) := by omega
  have s5 : ¬ ((2000 : Int) < e) := by omega
  have hrn := run_negF hr63
  cases b
  · have HPP : Hid (parseP (mpL n e) = (f, g)) := Lib.hid P.out.parse
    have hr64 : r < two64 := P.out.r64
    have hq4 : infB r = t4 := Q4.out
    go_enter Tryd.func13, Tryd.ntmps13
    go_wp2_with fail
    refine (digits_any (n : Int) _ (by omega) (by omega)).mono ?_
    rintro x w1 ⟨rfl, hb1⟩
    have hds := SB.dig (n : Int)
    have hdz := dig_size (n : Int) (by omega) (by omega)
    generalize strOfNums (digL (n : Int)) = ds at hds hdz ⊢
    have hds := Lib.hid hds
    have HB := hb1
    clear hb1
    go_wp2_with fail
    refine (digits_any e _ (by omega) (by omega)).mono ?_
    rintro x w1 ⟨rfl, hb1⟩
    have hes := SB.dig e
    have hez := dig_size e (by omega) (by omega)
    generalize strOfNums (digL e) = es at hes hez ⊢
    have hes := Lib.hid hes
    have HB := HB.trans hb1
    clear hb1
    go_wp2_with fail
    refine (parse_any _ (mpL n e) _ (sb_mp hds.out hes.out) ?_ (hT.keep HB)).mono ?_
    · have z1 : (ByteArray.mk #[112]).size = 1 := rfl; simp; omega
    rintro x w1 ⟨rfl, hb1⟩
    have HB := HB.trans hb1
    clear hb1
    rw [HPP.out]
    go_wp2_with fail
    refine (C.out.l1 _).mono ?_
    rintro x w1 ⟨rfl, rfl⟩
    go_wp2_with fail
    refine (C.out.fx _).mono ?_
    rintro x w1 ⟨rfl, rfl⟩
    go_wp2_with fail
    refine (C.out.ab _).mono ?_
    rintro x w1 ⟨rfl, rfl⟩
    go_wp2_with fail
    refine (C.out.l2 _).mono ?_
    rintro x w1 ⟨rfl, rfl⟩
    go_wp2_with fail
    refine (C.out.bt _).mono ?_
    rintro x w1 ⟨rfl, rfl⟩
    go_wp2_with fail
    refine (C.out.l3 _).mono ?_
    rintro x w1 ⟨rfl, rfl⟩
    obtain ⟨t5, ht5⟩ : ∃ t5, (t1 && t2) = t5 := ⟨_, rfl⟩
    rw [ht5] at P
    cases t1
    · obtain rfl : t5 = false := ht5.symm
      go_wp2_with fail
      refine (isInf_any r _ hr64).mono ?_
      rintro x w1 ⟨rfl, rfl⟩
      rw [hq4]
      cases t4
      · cases t3
        · have hg : g = 11 := P.out.no rfl
          subst hg
          go_wp2_with (first | (refine (alive2_any _ (hT.keep HB)).mono ?_; rintro x w1 ⟨rfl, hb1⟩; replace HB := HB.trans hb1; clear hb1) | fail)
          go_ret
          exact ⟨rfl, HB⟩
        · have hg : g = 0 := (P.out.yes rfl).1
          have hf : f = r := (P.out.yes rfl).2
          subst hg
          subst hf
          go_wp2_with (first | (refine (alive2_any _ (hT.keep HB)).mono ?_; rintro x w1 ⟨rfl, hb1⟩; replace HB := HB.trans hb1; clear hb1) | (refine (rsameF_any _ _ _ hr64 hr64).mono ?_; rintro x w1 ⟨rfl, hb1⟩; rw [decide_eq_true rfl]; replace HB := HB.trans hb1; clear hb1) | fail)
          go_ret
          exact ⟨rfl, HB⟩
      · have hg : g = 11 := P.out.no rfl
        subst hg
        go_wp2_with (first | (refine (alive2_any _ (hT.keep HB)).mono ?_; rintro x w1 ⟨rfl, hb1⟩; replace HB := HB.trans hb1; clear hb1) | fail)
        go_ret
        exact ⟨rfl, HB⟩
    · obtain rfl : t5 = t2 := by rw [← ht5]; rfl
      go_wp2_with fail
      refine (C.out.bt _).mono ?_
      rintro x w1 ⟨rfl, rfl⟩
      cases t5
      · go_wp2_with fail
        refine (isInf_any r _ hr64).mono ?_
        rintro x w1 ⟨rfl, rfl⟩
        rw [hq4]
        cases t4
        · cases t3
          · have hg : g = 11 := P.out.no rfl
            subst hg
            go_wp2_with (first | (refine (alive2_any _ (hT.keep HB)).mono ?_; rintro x w1 ⟨rfl, hb1⟩; replace HB := HB.trans hb1; clear hb1) | fail)
            go_ret
            exact ⟨rfl, HB⟩
          · have hg : g = 0 := (P.out.yes rfl).1
            have hf : f = r := (P.out.yes rfl).2
            subst hg
            subst hf
            go_wp2_with (first | (refine (alive2_any _ (hT.keep HB)).mono ?_; rintro x w1 ⟨rfl, hb1⟩; replace HB := HB.trans hb1; clear hb1) | (refine (rsameF_any _ _ _ hr64 hr64).mono ?_; rintro x w1 ⟨rfl, hb1⟩; rw [decide_eq_true rfl]; replace HB := HB.trans hb1; clear hb1) | fail)
            go_ret
            exact ⟨rfl, HB⟩
        · have hg : g = 11 := P.out.no rfl
          subst hg
          go_wp2_with (first | (refine (alive2_any _ (hT.keep HB)).mono ?_; rintro x w1 ⟨rfl, hb1⟩; replace HB := HB.trans hb1; clear hb1) | fail)
          go_ret
          exact ⟨rfl, HB⟩
      · go_wp2_with fail
        refine (isInf_any r _ hr64).mono ?_
        rintro x w1 ⟨rfl, rfl⟩
        rw [hq4]
        cases t4
        · have hg : g = 0 := (P.out.yes rfl).1
          have hf : f = r := (P.out.yes rfl).2
          subst hg
          subst hf
          go_wp2_with (first | (refine (alive2_any _ (hT.keep HB)).mono ?_; rintro x w1 ⟨rfl, hb1⟩; replace HB := HB.trans hb1; clear hb1) | (refine (rsameF_any _ _ _ hr64 hr64).mono ?_; rintro x w1 ⟨rfl, hb1⟩; rw [decide_eq_true rfl]; replace HB := HB.trans hb1; clear hb1) | fail)
          go_ret
          exact ⟨rfl, HB⟩
        · have hg : g = 11 := P.out.no rfl
          subst hg
          go_wp2_with (first | (refine (alive2_any _ (hT.keep HB)).mono ?_; rintro x w1 ⟨rfl, hb1⟩; replace HB := HB.trans hb1; clear hb1) | fail)
          go_ret
          exact ⟨rfl, HB⟩
  · have HPP : Hid (parseP (45 :: mpL n e) = (f, g)) := Lib.hid P.out.parse
    have hr64 : (two63 + r) < two64 := P.out.r64
    have hq4 : infB (two63 + r) = t4 := Q4.out
    go_enter Tryd.func13, Tryd.ntmps13
    go_wp2_with fail
    refine (digits_any (n : Int) _ (by omega) (by omega)).mono ?_
    rintro x w1 ⟨rfl, hb1⟩
    have hds := SB.dig (n : Int)
    have hdz := dig_size (n : Int) (by omega) (by omega)
    generalize strOfNums (digL (n : Int)) = ds at hds hdz ⊢
    have hds := Lib.hid hds
    have HB := hb1
    clear hb1
    go_wp2_with fail
    refine (digits_any e _ (by omega) (by omega)).mono ?_
    rintro x w1 ⟨rfl, hb1⟩
    have hes := SB.dig e
    have hez := dig_size e (by omega) (by omega)
    generalize strOfNums (digL e) = es at hes hez ⊢
    have hes := Lib.hid hes
    have HB := HB.trans hb1
    clear hb1
    go_wp2_with fail
    refine (parse_any _ (45 :: mpL n e) _ (SB.append (SB.mk [45]) (sb_mp hds.out hes.out)) ?_ (hT.keep HB)).mono ?_
    · have z1 : (ByteArray.mk #[112]).size = 1 := rfl; have z2 : (ByteArray.mk #[45]).size = 1 := rfl; simp; omega
    rintro x w1 ⟨rfl, hb1⟩
    have HB := HB.trans hb1
    clear hb1
    rw [HPP.out]
    go_wp2_with fail
    refine (C.out.l1 _).mono ?_
    rintro x w1 ⟨rfl, rfl⟩
    go_wp2_with fail
    refine (C.out.fx _).mono ?_
    rintro x w1 ⟨rfl, rfl⟩
    go_wp2_with fail
    refine (C.out.ab _).mono ?_
    rintro x w1 ⟨rfl, rfl⟩
    go_wp2_with fail
    refine (C.out.l2 _).mono ?_
    rintro x w1 ⟨rfl, rfl⟩
    go_wp2_with fail
    refine (C.out.bt _).mono ?_
    rintro x w1 ⟨rfl, rfl⟩
    go_wp2_with fail
    refine (C.out.l3 _).mono ?_
    rintro x w1 ⟨rfl, rfl⟩
    obtain ⟨t5, ht5⟩ : ∃ t5, (t1 && t2) = t5 := ⟨_, rfl⟩
    rw [ht5] at P
    cases t1
    · obtain rfl : t5 = false := ht5.symm
      go_wp2_with fail
      refine (isInf_any (two63 + r) _ hr64).mono ?_
      rintro x w1 ⟨rfl, rfl⟩
      rw [hq4]
      cases t4
      · cases t3
        · have hg : g = 11 := P.out.no rfl
          subst hg
          go_wp2_with (first | (refine (alive2_any _ (hT.keep HB)).mono ?_; rintro x w1 ⟨rfl, hb1⟩; replace HB := HB.trans hb1; clear hb1) | fail)
          go_ret
          exact ⟨rfl, HB⟩
        · have hg : g = 0 := (P.out.yes rfl).1
          have hf : f = (two63 + r) := (P.out.yes rfl).2
          subst hg
          subst hf
          go_wp2_with (first | (refine (alive2_any _ (hT.keep HB)).mono ?_; rintro x w1 ⟨rfl, hb1⟩; replace HB := HB.trans hb1; clear hb1) | (refine (rsameF_any _ _ _ hr64 hr64).mono ?_; rintro x w1 ⟨rfl, hb1⟩; rw [decide_eq_true rfl]; replace HB := HB.trans hb1; clear hb1) | fail)
          go_ret
          exact ⟨rfl, HB⟩
      · have hg : g = 11 := P.out.no rfl
        subst hg
        go_wp2_with (first | (refine (alive2_any _ (hT.keep HB)).mono ?_; rintro x w1 ⟨rfl, hb1⟩; replace HB := HB.trans hb1; clear hb1) | fail)
        go_ret
        exact ⟨rfl, HB⟩
    · obtain rfl : t5 = t2 := by rw [← ht5]; rfl
      go_wp2_with fail
      refine (C.out.bt _).mono ?_
      rintro x w1 ⟨rfl, rfl⟩
      cases t5
      · go_wp2_with fail
        refine (isInf_any (two63 + r) _ hr64).mono ?_
        rintro x w1 ⟨rfl, rfl⟩
        rw [hq4]
        cases t4
        · cases t3
          · have hg : g = 11 := P.out.no rfl
            subst hg
            go_wp2_with (first | (refine (alive2_any _ (hT.keep HB)).mono ?_; rintro x w1 ⟨rfl, hb1⟩; replace HB := HB.trans hb1; clear hb1) | fail)
            go_ret
            exact ⟨rfl, HB⟩
          · have hg : g = 0 := (P.out.yes rfl).1
            have hf : f = (two63 + r) := (P.out.yes rfl).2
            subst hg
            subst hf
            go_wp2_with (first | (refine (alive2_any _ (hT.keep HB)).mono ?_; rintro x w1 ⟨rfl, hb1⟩; replace HB := HB.trans hb1; clear hb1) | (refine (rsameF_any _ _ _ hr64 hr64).mono ?_; rintro x w1 ⟨rfl, hb1⟩; rw [decide_eq_true rfl]; replace HB := HB.trans hb1; clear hb1) | fail)
            go_ret
            exact ⟨rfl, HB⟩
        · have hg : g = 11 := P.out.no rfl
          subst hg
          go_wp2_with (first | (refine (alive2_any _ (hT.keep HB)).mono ?_; rintro x w1 ⟨rfl, hb1⟩; replace HB := HB.trans hb1; clear hb1) | fail)
          go_ret
          exact ⟨rfl, HB⟩
      · go_wp2_with fail
        refine (isInf_any (two63 + r) _ hr64).mono ?_
        rintro x w1 ⟨rfl, rfl⟩
        rw [hq4]
        cases t4
        · have hg : g = 0 := (P.out.yes rfl).1
          have hf : f = (two63 + r) := (P.out.yes rfl).2
          subst hg
          subst hf
          go_wp2_with (first | (refine (alive2_any _ (hT.keep HB)).mono ?_; rintro x w1 ⟨rfl, hb1⟩; replace HB := HB.trans hb1; clear hb1) | (refine (rsameF_any _ _ _ hr64 hr64).mono ?_; rintro x w1 ⟨rfl, hb1⟩; rw [decide_eq_true rfl]; replace HB := HB.trans hb1; clear hb1) | fail)
          go_ret
          exact ⟨rfl, HB⟩
        · have hg : g = 11 := P.out.no rfl
          subst hg
          go_wp2_with (first | (refine (alive2_any _ (hT.keep HB)).mono ?_; rintro x w1 ⟨rfl, hb1⟩; replace HB := HB.trans hb1; clear hb1) | fail)
          go_ret
          exact ⟨rfl, HB⟩
end Go.Proofs.YtafoagllbajfnaaDoor
