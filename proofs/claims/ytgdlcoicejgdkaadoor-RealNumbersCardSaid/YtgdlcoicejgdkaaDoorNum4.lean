/- real.number, the rest. By an AI agent. -/
import Derived.Test.YtgdlcoicejgdkaaDoorNum3
namespace Go.Proofs.YtgdlcoicejgdkaaDoor
open Go.RowKit

set_option maxHeartbeats 1600000 in
set_option maxRecDepth 100000 in
theorem number_zero (s d p : ByteArray) (is : Bool) (np k : Int) (w : World) (C : Hid (NumRest s d p is 0 np k)) (h3 : d.size ≤ 16) (hp : p.size ≤ 140737488351232) :
    Calls Tryd.prog 86 #[.string s] w fun e w' => e = numE 0 0 ∧ Bl w w' := by
  have HE := Lib.hid (numE_ok 0)
  have hfl : floatOfInt .f64 0 = 0 := by decide +kernel
  have q3 : decide ((16 : Int) < (d.size : Int)) = false := decide_eq_false (by omega)
  cases is
  · go_enter Tryd.func86, Tryd.ntmps86
    go_wp2_with fail
    refine (C.out.c.cut _).mono ?_
    rintro e w1 ⟨rfl, hb1⟩
    go_wp2_with fail
    refine (C.out.c.nd _).mono ?_
    rintro e w' ⟨rfl, rfl⟩
    go_wp2_with fail
    refine (C.out.c.sg _).mono ?_
    rintro e w' ⟨rfl, rfl⟩
    go_wp2_with fail
    refine (ldexp_zero _ _).mono ?_
    rintro e w' ⟨rfl, rfl⟩
    go_wp2_with fail
    go_ret
    exact ⟨HE.out.symm, hb1⟩
  · have q5 : decide ((5 : Int) < (p.size : Int)) = false := decide_eq_false (by have := C.out.p5 rfl; omega)
    go_enter Tryd.func86, Tryd.ntmps86
    go_wp2_with fail
    refine (C.out.c.cut _).mono ?_
    rintro e w1 ⟨rfl, hb1⟩
    go_wp2_with fail
    refine (C.out.c.nd _).mono ?_
    rintro e w' ⟨rfl, rfl⟩
    go_wp2_with fail
    refine (C.out.c.sg _).mono ?_
    rintro e w' ⟨rfl, rfl⟩
    go_wp2_with fail
    refine (C.out.c.np rfl _).mono ?_
    rintro e w' ⟨rfl, rfl⟩
    go_wp2_with fail
    refine (ldexp_zero _ _).mono ?_
    rintro e w' ⟨rfl, rfl⟩
    go_wp2_with fail
    go_ret
    exact ⟨HE.out.symm, hb1⟩

/-- the float of the digits and the power, and what is asked of it -/
structure FarOf (n : Nat) (k : Int) (F f : Nat) (z M : Nat) (E : Int) (w : World) : Prop where
  ld : ∀ w, Calls Tryd.prog 88 #[.float .f64 F, .int .i64 k] w fun r w' => r = .returned (.float .f64 f) ∧ w = w'
  inf : ∀ w, Calls Tryd.prog 106 #[.float .f64 f, .int .i64 0] w fun e w' => e = .returned (.bool (decide (f = infR))) ∧ w = w'
  parts : f ≠ 0 → f ≠ infR → ∀ w, Tab w → Calls Tryd.prog 107 #[.float .f64 f] w fun e w' => e = .returned (.tuple #[.int .i64 M, .int .i64 E]) ∧ w = w'
  tz : ∀ w, Tab w → Calls Tryd.prog 131 #[.int .u64 n] w fun e w' => e = .returned (.int .i64 z) ∧ w = w'
  tab : Tab w

theorem shift_nat (n z : Nat) (hz : z < 64) : (n : Int).fdiv (2 ^ min ((z : Nat) : Int).toNat IntKind.i64.bits) = ((n / 2 ^ z : Nat) : Int) := by
  rw [Int.toNat_natCast, show IntKind.i64.bits = 64 from rfl, Nat.min_eq_left (by omega), Int.fdiv_eq_ediv_of_nonneg _ (by exact_mod_cast Nat.zero_le _)]
  simp

set_option maxHeartbeats 3200000 in
set_option maxRecDepth 100000 in
theorem number_fin (s d p : ByteArray) (is : Bool) (n : Nat) (np k : Int) (w : World) (C : Hid (NumRest s d p is n np k)) (h3 : d.size ≤ 16) (hp : p.size ≤ 140737488351232)
    (h0 : n ≠ 0) (h53 : n < 9007199254740992) (F f z M : Nat) (E : Int) (G : Hid (FarOf n k F f z M E w)) (hfl : floatOfInt .f64 (n : Int) = F) (hfi : f ≤ infR) (hz : z < 64)
    (hk : -1000000 ≤ k ∧ k ≤ 1000000) (fo : Nat) (co : Int)
    (HO : Hid ((f = 0 ∨ f = infR → fo = 0 ∧ co = 11) ∧ (f ≠ 0 → f ≠ infR → M ≠ n / 2 ^ z ∨ E ≠ k + z → fo = 0 ∧ co = 11) ∧ (f ≠ 0 → f ≠ infR → M = n / 2 ^ z → E = k + z → fo = f ∧ co = 0))) :
    Calls Tryd.prog 86 #[.string s] w fun e w' => e = numE fo co ∧ Bl w w' := by
  have q3 : decide ((16 : Int) < (d.size : Int)) = false := decide_eq_false (by omega)
  have qn : ((n : Int) == 0) = false := by simpa using h0
  have q2 : decide ((n : Int) < 0) = false := decide_eq_false (by omega)
  have q4 : decide ((9007199254740992 : Int) ≤ (n : Int)) = false := decide_eq_false (by omega)
  have HZ := Lib.hid (zero_of hfi)
  obtain ⟨hk1, hk2⟩ := hk
  have hsh := shift_nat n z hz
  have hsh2 : (n : Int) / 2 ^ z = ((n / 2 ^ z : Nat) : Int) := by simp
  generalize n / 2 ^ z = Q at *
  cases is
  · have HK := Lib.hid (show k = 0 from C.out.k)
    obtain rfl : k = 0 := HK.out
    by_cases h1 : f = 0
    · have q0 : (FloatKind.f64.format.order f 0 == some .eq) = true := by rw [HZ.out, h1]; rfl
      have HE := Lib.hid (HO.out.1 (.inl h1))
      have HN := Lib.hid (numE_bad 0 11 (by decide))
      clear h1
      go_enter Tryd.func86, Tryd.ntmps86
      go_wp2_with fail
      refine (C.out.c.cut _).mono ?_
      rintro e w1 ⟨rfl, hb1⟩
      go_wp2_with fail
      refine (C.out.c.nd _).mono ?_
      rintro e w' ⟨rfl, rfl⟩
      go_wp2_with fail
      refine (C.out.c.sg _).mono ?_
      rintro e w' ⟨rfl, rfl⟩
      go_wp2_with fail
      refine (G.out.ld _).mono ?_
      rintro e w' ⟨rfl, rfl⟩
      go_wp2_with fail
      exact ⟨rfl, by rw [HE.out.1, HE.out.2]; exact HN.out.symm, hb1⟩
    · have q0 : (FloatKind.f64.format.order f 0 == some .eq) = false := by rw [HZ.out]; exact decide_eq_false h1
      have H0 := Lib.hid h1
      clear h1
      by_cases h1 : f = infR
      · have QI := Lib.hid (show decide (f = infR) = true from decide_eq_true h1)
        have HE := Lib.hid (HO.out.1 (.inr h1))
        have HN := Lib.hid (numE_bad 0 11 (by decide))
        clear h1
        go_enter Tryd.func86, Tryd.ntmps86
        go_wp2_with fail
        refine (C.out.c.cut _).mono ?_
        rintro e w1 ⟨rfl, hb1⟩
        go_wp2_with fail
        refine (C.out.c.nd _).mono ?_
        rintro e w' ⟨rfl, rfl⟩
        go_wp2_with fail
        refine (C.out.c.sg _).mono ?_
        rintro e w' ⟨rfl, rfl⟩
        go_wp2_with fail
        refine (G.out.ld _).mono ?_
        rintro e w' ⟨rfl, rfl⟩
        go_wp2_with fail
        refine (G.out.inf _).mono ?_
        rintro e w' ⟨rfl, rfl⟩
        rw [QI.out]
        go_wp2_with fail
        exact ⟨rfl, by rw [HE.out.1, HE.out.2]; exact HN.out.symm, hb1⟩
      · have QI := Lib.hid (show decide (f = infR) = false from decide_eq_false h1)
        have HI := Lib.hid h1
        clear h1
        by_cases h2 : M = Q
        · skip
          by_cases h4 : E = (0 : Int) + z
          · have q7 : (E != (z : Int)) = false := by rw [h4]; simp
            have HE := Lib.hid (HO.out.2.2 H0.out HI.out h2 h4)
            have HN := Lib.hid (numE_ok f)
            clear h4
            subst h2
            go_enter Tryd.func86, Tryd.ntmps86
            go_wp2_with fail
            refine (C.out.c.cut _).mono ?_
            rintro e w1 ⟨rfl, hb1⟩
            go_wp2_with fail
            refine (C.out.c.nd _).mono ?_
            rintro e w' ⟨rfl, rfl⟩
            go_wp2_with fail
            refine (C.out.c.sg _).mono ?_
            rintro e w' ⟨rfl, rfl⟩
            go_wp2_with fail
            refine (G.out.ld _).mono ?_
            rintro e w' ⟨rfl, rfl⟩
            go_wp2_with fail
            refine (G.out.inf _).mono ?_
            rintro e w' ⟨rfl, rfl⟩
            rw [QI.out]
            go_wp2_with fail
            refine (G.out.parts H0.out HI.out _ (G.out.tab.keep hb1)).mono ?_
            rintro e w' ⟨rfl, rfl⟩
            go_wp2_with fail
            refine (G.out.tz _ (G.out.tab.keep hb1)).mono ?_
            rintro e w' ⟨rfl, rfl⟩
            go_wp2_with fail
            go_ret
            exact ⟨by rw [HE.out.1, HE.out.2]; exact HN.out.symm, hb1⟩
          · have q7 : (E != (z : Int)) = true := by simp; omega
            have HE := Lib.hid (HO.out.2.1 H0.out HI.out (.inr h4))
            have HN := Lib.hid (numE_bad 0 11 (by decide))
            clear h4
            subst h2
            go_enter Tryd.func86, Tryd.ntmps86
            go_wp2_with fail
            refine (C.out.c.cut _).mono ?_
            rintro e w1 ⟨rfl, hb1⟩
            go_wp2_with fail
            refine (C.out.c.nd _).mono ?_
            rintro e w' ⟨rfl, rfl⟩
            go_wp2_with fail
            refine (C.out.c.sg _).mono ?_
            rintro e w' ⟨rfl, rfl⟩
            go_wp2_with fail
            refine (G.out.ld _).mono ?_
            rintro e w' ⟨rfl, rfl⟩
            go_wp2_with fail
            refine (G.out.inf _).mono ?_
            rintro e w' ⟨rfl, rfl⟩
            rw [QI.out]
            go_wp2_with fail
            refine (G.out.parts H0.out HI.out _ (G.out.tab.keep hb1)).mono ?_
            rintro e w' ⟨rfl, rfl⟩
            go_wp2_with fail
            refine (G.out.tz _ (G.out.tab.keep hb1)).mono ?_
            rintro e w' ⟨rfl, rfl⟩
            go_wp2_with fail
            exact ⟨rfl, by rw [HE.out.1, HE.out.2]; exact HN.out.symm, hb1⟩
        · have q6 : (M != Q) = true := by simpa using h2
          have HE := Lib.hid (HO.out.2.1 H0.out HI.out (.inl h2))
          have HN := Lib.hid (numE_bad 0 11 (by decide))
          clear h2
          go_enter Tryd.func86, Tryd.ntmps86
          go_wp2_with fail
          refine (C.out.c.cut _).mono ?_
          rintro e w1 ⟨rfl, hb1⟩
          go_wp2_with fail
          refine (C.out.c.nd _).mono ?_
          rintro e w' ⟨rfl, rfl⟩
          go_wp2_with fail
          refine (C.out.c.sg _).mono ?_
          rintro e w' ⟨rfl, rfl⟩
          go_wp2_with fail
          refine (G.out.ld _).mono ?_
          rintro e w' ⟨rfl, rfl⟩
          go_wp2_with fail
          refine (G.out.inf _).mono ?_
          rintro e w' ⟨rfl, rfl⟩
          rw [QI.out]
          go_wp2_with fail
          refine (G.out.parts H0.out HI.out _ (G.out.tab.keep hb1)).mono ?_
          rintro e w' ⟨rfl, rfl⟩
          go_wp2_with fail
          refine (G.out.tz _ (G.out.tab.keep hb1)).mono ?_
          rintro e w' ⟨rfl, rfl⟩
          go_wp2_with fail
          exact ⟨rfl, by rw [HE.out.1, HE.out.2]; exact HN.out.symm, hb1⟩
  · obtain rfl : k = np := C.out.k
    have q5 : decide ((5 : Int) < (p.size : Int)) = false := decide_eq_false (by have := C.out.p5 rfl; omega)
    by_cases h1 : f = 0
    · have q0 : (FloatKind.f64.format.order f 0 == some .eq) = true := by rw [HZ.out, h1]; rfl
      have HE := Lib.hid (HO.out.1 (.inl h1))
      have HN := Lib.hid (numE_bad 0 11 (by decide))
      clear h1
      go_enter Tryd.func86, Tryd.ntmps86
      go_wp2_with fail
      refine (C.out.c.cut _).mono ?_
      rintro e w1 ⟨rfl, hb1⟩
      go_wp2_with fail
      refine (C.out.c.nd _).mono ?_
      rintro e w' ⟨rfl, rfl⟩
      go_wp2_with fail
      refine (C.out.c.sg _).mono ?_
      rintro e w' ⟨rfl, rfl⟩
      go_wp2_with fail
      refine (C.out.c.np rfl _).mono ?_
      rintro e w' ⟨rfl, rfl⟩
      go_wp2_with fail
      refine (G.out.ld _).mono ?_
      rintro e w' ⟨rfl, rfl⟩
      go_wp2_with fail
      exact ⟨rfl, by rw [HE.out.1, HE.out.2]; exact HN.out.symm, hb1⟩
    · have q0 : (FloatKind.f64.format.order f 0 == some .eq) = false := by rw [HZ.out]; exact decide_eq_false h1
      have H0 := Lib.hid h1
      clear h1
      by_cases h1 : f = infR
      · have QI := Lib.hid (show decide (f = infR) = true from decide_eq_true h1)
        have HE := Lib.hid (HO.out.1 (.inr h1))
        have HN := Lib.hid (numE_bad 0 11 (by decide))
        clear h1
        go_enter Tryd.func86, Tryd.ntmps86
        go_wp2_with fail
        refine (C.out.c.cut _).mono ?_
        rintro e w1 ⟨rfl, hb1⟩
        go_wp2_with fail
        refine (C.out.c.nd _).mono ?_
        rintro e w' ⟨rfl, rfl⟩
        go_wp2_with fail
        refine (C.out.c.sg _).mono ?_
        rintro e w' ⟨rfl, rfl⟩
        go_wp2_with fail
        refine (C.out.c.np rfl _).mono ?_
        rintro e w' ⟨rfl, rfl⟩
        go_wp2_with fail
        refine (G.out.ld _).mono ?_
        rintro e w' ⟨rfl, rfl⟩
        go_wp2_with fail
        refine (G.out.inf _).mono ?_
        rintro e w' ⟨rfl, rfl⟩
        rw [QI.out]
        go_wp2_with fail
        exact ⟨rfl, by rw [HE.out.1, HE.out.2]; exact HN.out.symm, hb1⟩
      · have QI := Lib.hid (show decide (f = infR) = false from decide_eq_false h1)
        have HI := Lib.hid h1
        clear h1
        by_cases h2 : M = Q
        · skip
          by_cases h4 : E = k + (z : Int)
          · have q7 : (E != k + (z : Int)) = false := by rw [h4]; simp
            have HE := Lib.hid (HO.out.2.2 H0.out HI.out h2 h4)
            have HN := Lib.hid (numE_ok f)
            clear h4
            subst h2
            go_enter Tryd.func86, Tryd.ntmps86
            go_wp2_with fail
            refine (C.out.c.cut _).mono ?_
            rintro e w1 ⟨rfl, hb1⟩
            go_wp2_with fail
            refine (C.out.c.nd _).mono ?_
            rintro e w' ⟨rfl, rfl⟩
            go_wp2_with fail
            refine (C.out.c.sg _).mono ?_
            rintro e w' ⟨rfl, rfl⟩
            go_wp2_with fail
            refine (C.out.c.np rfl _).mono ?_
            rintro e w' ⟨rfl, rfl⟩
            go_wp2_with fail
            refine (G.out.ld _).mono ?_
            rintro e w' ⟨rfl, rfl⟩
            go_wp2_with fail
            refine (G.out.inf _).mono ?_
            rintro e w' ⟨rfl, rfl⟩
            rw [QI.out]
            go_wp2_with fail
            refine (G.out.parts H0.out HI.out _ (G.out.tab.keep hb1)).mono ?_
            rintro e w' ⟨rfl, rfl⟩
            go_wp2_with fail
            refine (G.out.tz _ (G.out.tab.keep hb1)).mono ?_
            rintro e w' ⟨rfl, rfl⟩
            go_wp2_with fail
            go_ret
            exact ⟨by rw [HE.out.1, HE.out.2]; exact HN.out.symm, hb1⟩
          · have q7 : (E != k + (z : Int)) = true := by simpa using h4
            have HE := Lib.hid (HO.out.2.1 H0.out HI.out (.inr h4))
            have HN := Lib.hid (numE_bad 0 11 (by decide))
            clear h4
            subst h2
            go_enter Tryd.func86, Tryd.ntmps86
            go_wp2_with fail
            refine (C.out.c.cut _).mono ?_
            rintro e w1 ⟨rfl, hb1⟩
            go_wp2_with fail
            refine (C.out.c.nd _).mono ?_
            rintro e w' ⟨rfl, rfl⟩
            go_wp2_with fail
            refine (C.out.c.sg _).mono ?_
            rintro e w' ⟨rfl, rfl⟩
            go_wp2_with fail
            refine (C.out.c.np rfl _).mono ?_
            rintro e w' ⟨rfl, rfl⟩
            go_wp2_with fail
            refine (G.out.ld _).mono ?_
            rintro e w' ⟨rfl, rfl⟩
            go_wp2_with fail
            refine (G.out.inf _).mono ?_
            rintro e w' ⟨rfl, rfl⟩
            rw [QI.out]
            go_wp2_with fail
            refine (G.out.parts H0.out HI.out _ (G.out.tab.keep hb1)).mono ?_
            rintro e w' ⟨rfl, rfl⟩
            go_wp2_with fail
            refine (G.out.tz _ (G.out.tab.keep hb1)).mono ?_
            rintro e w' ⟨rfl, rfl⟩
            go_wp2_with fail
            exact ⟨rfl, by rw [HE.out.1, HE.out.2]; exact HN.out.symm, hb1⟩
        · have q6 : (M != Q) = true := by simpa using h2
          have HE := Lib.hid (HO.out.2.1 H0.out HI.out (.inl h2))
          have HN := Lib.hid (numE_bad 0 11 (by decide))
          clear h2
          go_enter Tryd.func86, Tryd.ntmps86
          go_wp2_with fail
          refine (C.out.c.cut _).mono ?_
          rintro e w1 ⟨rfl, hb1⟩
          go_wp2_with fail
          refine (C.out.c.nd _).mono ?_
          rintro e w' ⟨rfl, rfl⟩
          go_wp2_with fail
          refine (C.out.c.sg _).mono ?_
          rintro e w' ⟨rfl, rfl⟩
          go_wp2_with fail
          refine (C.out.c.np rfl _).mono ?_
          rintro e w' ⟨rfl, rfl⟩
          go_wp2_with fail
          refine (G.out.ld _).mono ?_
          rintro e w' ⟨rfl, rfl⟩
          go_wp2_with fail
          refine (G.out.inf _).mono ?_
          rintro e w' ⟨rfl, rfl⟩
          rw [QI.out]
          go_wp2_with fail
          refine (G.out.parts H0.out HI.out _ (G.out.tab.keep hb1)).mono ?_
          rintro e w' ⟨rfl, rfl⟩
          go_wp2_with fail
          refine (G.out.tz _ (G.out.tab.keep hb1)).mono ?_
          rintro e w' ⟨rfl, rfl⟩
          go_wp2_with fail
          exact ⟨rfl, by rw [HE.out.1, HE.out.2]; exact HN.out.symm, hb1⟩
end Go.Proofs.YtgdlcoicejgdkaaDoor
