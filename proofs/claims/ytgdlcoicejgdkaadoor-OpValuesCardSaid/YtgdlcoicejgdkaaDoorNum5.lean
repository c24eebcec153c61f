/- strings.Cut at a byte; math.Ldexp of whole numbers. · real.number. · real.number, the rest. · real.number, of every text. By an AI agent. -/
import Derived.Test.YtgdlcoicejgdkaaDoorNum1
import Derived.Test.YtgdlcoicejgdkaaDoorParse0
import Derived.Test.YtgdlcoicejgdkaaDoorScale0
namespace Go.Proofs.YtgdlcoicejgdkaaDoor
open Go.RowKit

set_option maxHeartbeats 1600000 in
set_option maxRecDepth 100000 in
theorem cutLite (s : ByteArray) (w : World) (hs : s.size ≤ 140737488351232) :
    Calls Tryd.prog 155 #[.string s, .string ⟨#[112]⟩] w fun e w' =>
      e = .returned (.tuple #[.string ⟨(Lib.cut s.data.toList [112]).1.toArray⟩, .string ⟨(Lib.cut s.data.toList [112]).2.1.toArray⟩, .bool (Lib.cut s.data.toList [112]).2.2]) ∧ Bl w w' := by
  have hone : Lib.indexB s ⟨#[112]⟩ = Lib.indexByte s.data.toList 112 := Lib.index_one _ _
  rcases Lib.indexB_cases s ⟨#[112]⟩ with hix | ⟨i, hix, hroom⟩
  · obtain ⟨e1, e2, e3⟩ := Lib.cutB_miss s ⟨#[112]⟩ hix
    rw [show (ByteArray.mk #[112]).data.toList = [112] from rfl] at e1 e2 e3
    rw [e1, e2, e3]
    rw [hone] at hix
    clear hone e1 e2 e3
    go_enter Tryd.func155, Tryd.ntmps155
    go_wp2_with fail
    refine (Tryd.stringslite_Index_one s 112 _).mono ?_
    rintro e w' ⟨rfl, rfl⟩
    rw [hix]
    go_wp2_with fail
    go_ret3
    exact ⟨rfl, Bl.refl _⟩
  · obtain ⟨e1, e2, e3⟩ := Lib.cutB_hit s ⟨#[112]⟩ i hix
    rw [show (ByteArray.mk #[112]).data.toList = [112] from rfl] at e1 e2 e3
    rw [show (ByteArray.mk #[112]).size = 1 from rfl] at e2 hroom
    rw [e1, e2, e3]
    rw [hone] at hix
    clear hone e1 e2 e3
    have c1 : (0 : Int) ≤ ↑i := by omega
    have c2 : (↑i : Int) ≤ ↑s.size := by omega
    have c3 : (0 : Int) ≤ ↑i + 1 := by omega
    have c4 : (↑i + 1 : Int) ≤ ↑s.size := by omega
    go_enter Tryd.func155, Tryd.ntmps155
    go_wp2_with fail
    refine (Tryd.stringslite_Index_one s 112 _).mono ?_
    rintro e w' ⟨rfl, rfl⟩
    rw [hix]
    go_wp2_with fail
    go_region
    go_wp2_with fail
    go_ret3
    exact ⟨rfl, (Bl.refl _).drew⟩
theorem cutP_any (s : ByteArray) (l : List UInt8) (w : World) (hl : SB s l) (hs : s.size ≤ 140737488351232) :
    Calls Tryd.prog 129 #[.string s, .string ⟨#[112]⟩] w fun e w' =>
      ∃ d p : ByteArray, e = .returned (.tuple #[.string d, .string p, .bool (isP l)]) ∧ SB d (headP l) ∧ SB p (tailP l) ∧ Bl w w' := by
  go_enter Tryd.func129, Tryd.ntmps129
  go_wp2_with fail
  refine (cutLite s _ hs).mono ?_
  rintro e w' ⟨rfl, hb⟩
  rw [hl]
  have h1 : SB ⟨(Lib.cut l [112]).1.toArray⟩ (headP l) := SB.mk _
  have h2 : SB ⟨(Lib.cut l [112]).2.1.toArray⟩ (tailP l) := SB.mk _
  have h3 : (Lib.cut l [112]).2.2 = isP l := rfl
  rw [h3]
  generalize (⟨(Lib.cut l [112]).1.toArray⟩ : ByteArray) = d at *
  generalize (⟨(Lib.cut l [112]).2.1.toArray⟩ : ByteArray) = p at *
  go_wp2_with fail
  go_ret3
  exact ⟨d, p, rfl, h1, h2, hb⟩

theorem hasMinus (s : ByteArray) (l : List UInt8) (w : World) (hs : SB s l) :
    Calls Tryd.prog 110 #[.string s, .string ⟨#[45]⟩] w fun e w' => e = .returned (.bool (signB l)) ∧ w = w' := by
  refine (Tryd.strings_HasPrefix s ⟨#[45]⟩ w).mono ?_
  rintro e w' ⟨rfl, rfl⟩
  have e1 : (ByteArray.mk #[45]).data.toList = [45] := rfl
  rw [e1, show Lib.hasPrefix s.data.toList [45] = signB l from by rw [signB, ← hs]]
  exact ⟨rfl, rfl⟩

theorem ldexp_zero (k : Int) (w : World) : Calls Tryd.prog 88 #[.float .f64 0, .int .i64 k] w fun r w' => r = .returned (.float .f64 0) ∧ w = w' := by
  have q : (FloatKind.f64.format.order 0 0 == some .eq) = true := by decide +kernel
  go_enter Tryd.func88, Tryd.ntmps88
  go_wp2
  go_ret
  exact ⟨rfl, rfl⟩
theorem ldexp_nat (n : Nat) (k : Int) (w : World) (h0 : n ≠ 0) (h : n < 2 ^ 53) (hk : -1000000 ≤ k ∧ k ≤ 1000000) :
    Calls Tryd.prog 88 #[.float .f64 (rung n 0), .int .i64 k] w fun r w' => r = .returned (.float .f64 (rung n k)) ∧ w = w' := by
  obtain ⟨e, h1, h2, hl⟩ := nat_word h0 h
  have hc := ldexp_any (n.log2 + 1023) (n * 2 ^ (52 - n.log2) - two52) k w (by omega) (by omega) (by omega) hk
  rw [← e] at hc
  have e2 : rung (two52 + (n * 2 ^ (52 - n.log2) - two52)) (k + ((n.log2 + 1023 : Nat) : Int) - 1075) = rung n k := by
    rw [show two52 + (n * 2 ^ (52 - n.log2) - two52) = n * 2 ^ (52 - n.log2) by omega, rung_shift]
    congr 1; omega
  rw [e2] at hc
  exact hc
end Go.Proofs.YtgdlcoicejgdkaaDoor

namespace Go.Proofs.YtgdlcoicejgdkaaDoor
open Go.RowKit

def numE (f : Nat) (c : Int) : Ending := if c = 0 then .returned (.float .f64 f) else .panicked [{ v := .iface 40 (.int .i64 c), recovered := false }]
theorem numE_bad (f : Nat) (c : Int) (h : c ≠ 0) : numE f c = .panicked [{ v := .iface 40 (.int .i64 c), recovered := false }] := if_neg h
theorem numE_ok (f : Nat) : numE f 0 = .returned (.float .f64 f) := if_pos rfl

/-- behind the digits and the power -/
theorem zero_of {f : Nat} (h : f ≤ infR) : (FloatKind.f64.format.order f 0 == some .eq) = decide (f = 0) := by
  rw [zero_order (by unfold infR two64 at *; omega) (nan_small h), Nat.mod_eq_of_lt (by unfold infR two63 at *; omega)]
theorem infB_of {f : Nat} (h : f ≤ infR) : infB f = decide (f = infR) := by
  unfold infB; rw [Nat.mod_eq_of_lt (by unfold infR two63 at *; omega)]

/-- what real.number finds in the text, one after the other -/
structure NumCase (s : ByteArray) (is : Bool) (d p : ByteArray) (nd cd np cp : Int) (sg : Bool) : Prop where
  cut : ∀ w, Calls Tryd.prog 129 #[.string s, .string ⟨#[112]⟩] w fun e w' => e = .returned (.tuple #[.string d, .string p, .bool is]) ∧ Bl w w'
  nd : ∀ w, Calls Tryd.prog 130 #[.string d] w fun e w' => e = .returned (.tuple #[.int .i64 nd, .int .i64 cd]) ∧ w = w'
  np : is = true → ∀ w, Calls Tryd.prog 130 #[.string p] w fun e w' => e = .returned (.tuple #[.int .i64 np, .int .i64 cp]) ∧ w = w'
  sg : ∀ w, Calls Tryd.prog 110 #[.string d, .string ⟨#[45]⟩] w fun e w' => e = .returned (.bool sg) ∧ w = w'

set_option maxHeartbeats 1600000 in
set_option maxRecDepth 100000 in
/-- the digits are none -/
theorem number_bad (s d p : ByteArray) (is sg : Bool) (nd cd np cp : Int) (f : Nat) (w : World) (C : Hid (NumCase s is d p nd cd np cp sg)) (hd : d.size ≤ 140737488351232)
    (h : cd ≠ 0 ∨ nd < 0 ∨ 16 < d.size ∨ sg = true) :
    Calls Tryd.prog 86 #[.string s] w fun e w' => e = numE f 4 ∧ Bl w w' := by
  have HE := Lib.hid (numE_bad f 4 (by decide))
  by_cases h1 : cd = 0
  · by_cases h2 : nd < 0
    · subst h1
      clear h
      go_enter Tryd.func86, Tryd.ntmps86
      go_wp2_with fail
      refine (C.out.cut _).mono ?_
      rintro e w1 ⟨rfl, hb1⟩
      go_wp2_with fail
      refine (C.out.nd _).mono ?_
      rintro e w' ⟨rfl, rfl⟩
      go_wp2_with fail
      exact ⟨rfl, HE.out.symm, hb1⟩
    · have q2 : decide (nd < 0) = false := decide_eq_false h2
      by_cases h3 : 16 < d.size
      · have q3 : decide ((16 : Int) < (d.size : Int)) = true := decide_eq_true (by omega)
        subst h1
        clear h
        go_enter Tryd.func86, Tryd.ntmps86
        go_wp2_with fail
        refine (C.out.cut _).mono ?_
        rintro e w1 ⟨rfl, hb1⟩
        go_wp2_with fail
        refine (C.out.nd _).mono ?_
        rintro e w' ⟨rfl, rfl⟩
        go_wp2_with fail
        exact ⟨rfl, HE.out.symm, hb1⟩
      · obtain rfl : sg = true := by
          rcases h with h | h | h | h
          · exact absurd h1 h
          · exact absurd h h2
          · exact absurd h h3
          · exact h
        have q3 : decide ((16 : Int) < (d.size : Int)) = false := decide_eq_false (by omega)
        subst h1
        clear h
        go_enter Tryd.func86, Tryd.ntmps86
        go_wp2_with fail
        refine (C.out.cut _).mono ?_
        rintro e w1 ⟨rfl, hb1⟩
        go_wp2_with fail
        refine (C.out.nd _).mono ?_
        rintro e w' ⟨rfl, rfl⟩
        go_wp2_with fail
        refine (C.out.sg _).mono ?_
        rintro e w' ⟨rfl, rfl⟩
        go_wp2_with fail
        exact ⟨rfl, HE.out.symm, hb1⟩
  · have q1 : (cd != 0) = true := by simpa using h1
    clear h
    go_enter Tryd.func86, Tryd.ntmps86
    go_wp2_with fail
    refine (C.out.cut _).mono ?_
    rintro e w1 ⟨rfl, hb1⟩
    go_wp2_with fail
    refine (C.out.nd _).mono ?_
    rintro e w' ⟨rfl, rfl⟩
    go_wp2_with fail
    exact ⟨rfl, HE.out.symm, hb1⟩

set_option maxHeartbeats 1600000 in
set_option maxRecDepth 100000 in
/-- the power is none -/
theorem number_bad2 (s d p : ByteArray) (nd np cp : Int) (f : Nat) (w : World) (C : Hid (NumCase s true d p nd 0 np cp false)) (hp : p.size ≤ 140737488351232) (h2 : ¬ nd < 0) (h3 : d.size ≤ 16)
    (h : cp ≠ 0 ∨ 5 < p.size) :
    Calls Tryd.prog 86 #[.string s] w fun e w' => e = numE f 4 ∧ Bl w w' := by
  have HE := Lib.hid (numE_bad f 4 (by decide))
  have q2 : decide (nd < 0) = false := decide_eq_false h2
  have q3 : decide ((16 : Int) < (d.size : Int)) = false := decide_eq_false (by omega)
  have hq : (cp != 0) = true ∨ ((cp != 0) = false ∧ decide ((5 : Int) < (p.size : Int)) = true) := by
    by_cases h1 : cp = 0
    · right
      exact ⟨by simpa using h1, decide_eq_true (by rcases h with h | h; exact absurd h1 h; omega)⟩
    · left; simpa using h1
  clear h
  rcases hq with q4 | ⟨q4, q5⟩
  all_goals
    go_enter Tryd.func86, Tryd.ntmps86
    go_wp2_with fail
    refine (C.out.cut _).mono ?_
    rintro e w1 ⟨rfl, hb1⟩
    go_wp2_with fail
    refine (C.out.nd _).mono ?_
    rintro e w' ⟨rfl, rfl⟩
    go_wp2_with fail
    refine (C.out.sg _).mono ?_
    rintro e w' ⟨rfl, rfl⟩
    go_wp2_with fail
    refine (C.out.np rfl _).mono ?_
    rintro e w' ⟨rfl, rfl⟩
    go_wp2_with fail
    exact ⟨rfl, HE.out.symm, hb1⟩

/-- what there is behind digits and a power that can be read -/
structure NumRest (s d p : ByteArray) (is : Bool) (nd np k : Int) : Prop where
  c : NumCase s is d p nd 0 np 0 false
  k : k = if is then np else 0
  p5 : is = true → p.size ≤ 5
set_option maxHeartbeats 1600000 in
set_option maxRecDepth 100000 in
theorem number_over (s d p : ByteArray) (is : Bool) (nd np k : Int) (f : Nat) (w : World) (C : Hid (NumRest s d p is nd np k)) (h2 : ¬ nd < 0) (h3 : d.size ≤ 16) (hp : p.size ≤ 140737488351232)
    (h : 9007199254740992 ≤ nd) :
    Calls Tryd.prog 86 #[.string s] w fun e w' => e = numE f 11 ∧ Bl w w' := by
  have HE := Lib.hid (numE_bad f 11 (by decide))
  have q2 : decide (nd < 0) = false := decide_eq_false h2
  have q3 : decide ((16 : Int) < (d.size : Int)) = false := decide_eq_false (by omega)
  cases is
  · go_enter Tryd.func86, Tryd.ntmps86
    go_wp2_with fail
    refine (C.out.c.cut _).mono ?_
    rintro e w1 ⟨rfl, hb1⟩
    go_wp2_with fail
    refine (C.out.c.nd _).mono ?_
    rintro e w' ⟨rfl, rfl⟩
    go_wp2_with fail
    refine (C.out.c.sg _).mono ?_
    rintro e w' ⟨rfl, rfl⟩
    go_wp2_with fail
    exact ⟨rfl, HE.out.symm, hb1⟩
  · have q5 : decide ((5 : Int) < (p.size : Int)) = false := decide_eq_false (by have := C.out.p5 rfl; omega)
    go_enter Tryd.func86, Tryd.ntmps86
    go_wp2_with fail
    refine (C.out.c.cut _).mono ?_
    rintro e w1 ⟨rfl, hb1⟩
    go_wp2_with fail
    refine (C.out.c.nd _).mono ?_
    rintro e w' ⟨rfl, rfl⟩
    go_wp2_with fail
    refine (C.out.c.sg _).mono ?_
    rintro e w' ⟨rfl, rfl⟩
    go_wp2_with fail
    refine (C.out.c.np rfl _).mono ?_
    rintro e w' ⟨rfl, rfl⟩
    go_wp2_with fail
    exact ⟨rfl, HE.out.symm, hb1⟩
end Go.Proofs.YtgdlcoicejgdkaaDoor

namespace Go.Proofs.YtgdlcoicejgdkaaDoor
open Go.RowKit

set_option maxHeartbeats 1600000 in
set_option maxRecDepth 100000 in
theorem number_zero (s d p : ByteArray) (is : Bool) (np k : Int) (w : World) (C : Hid (NumRest s d p is 0 np k)) (h3 : d.size ≤ 16) (hp : p.size ≤ 140737488351232) :
    Calls Tryd.prog 86 #[.string s] w fun e w' => e = numE 0 0 ∧ Bl w w' := by
  have HE := Lib.hid (numE_ok 0)
  have hfl : floatOfInt .f64 0 = 0 := by decide +kernel
  have q3 : decide ((16 : Int) < (d.size : Int)) = false := decide_eq_false (by omega)
  cases is
  · go_enter Tryd.func86, Tryd.ntmps86
    go_wp2_with fail
    refine (C.out.c.cut _).mono ?_
    rintro e w1 ⟨rfl, hb1⟩
    go_wp2_with fail
    refine (C.out.c.nd _).mono ?_
    rintro e w' ⟨rfl, rfl⟩
    go_wp2_with fail
    refine (C.out.c.sg _).mono ?_
    rintro e w' ⟨rfl, rfl⟩
    go_wp2_with fail
    refine (ldexp_zero _ _).mono ?_
    rintro e w' ⟨rfl, rfl⟩
    go_wp2_with fail
    go_ret
    exact ⟨HE.out.symm, hb1⟩
  · have q5 : decide ((5 : Int) < (p.size : Int)) = false := decide_eq_false (by have := C.out.p5 rfl; omega)
    go_enter Tryd.func86, Tryd.ntmps86
    go_wp2_with fail
    refine (C.out.c.cut _).mono ?_
    rintro e w1 ⟨rfl, hb1⟩
    go_wp2_with fail
    refine (C.out.c.nd _).mono ?_
    rintro e w' ⟨rfl, rfl⟩
    go_wp2_with fail
    refine (C.out.c.sg _).mono ?_
    rintro e w' ⟨rfl, rfl⟩
    go_wp2_with fail
    refine (C.out.c.np rfl _).mono ?_
    rintro e w' ⟨rfl, rfl⟩
    go_wp2_with fail
    refine (ldexp_zero _ _).mono ?_
    rintro e w' ⟨rfl, rfl⟩
    go_wp2_with fail
    go_ret
    exact ⟨HE.out.symm, hb1⟩

/-- the float of the digits and the power, and what is asked of it -/
structure FarOf (n : Nat) (k : Int) (F f : Nat) (z M : Nat) (E : Int) (w : World) : Prop where
  ld : ∀ w, Calls Tryd.prog 88 #[.float .f64 F, .int .i64 k] w fun r w' => r = .returned (.float .f64 f) ∧ w = w'
  inf : ∀ w, Calls Tryd.prog 106 #[.float .f64 f, .int .i64 0] w fun e w' => e = .returned (.bool (decide (f = infR))) ∧ w = w'
  parts : f ≠ 0 → f ≠ infR → ∀ w, Tab w → Calls Tryd.prog 107 #[.float .f64 f] w fun e w' => e = .returned (.tuple #[.int .i64 M, .int .i64 E]) ∧ w = w'
  tz : ∀ w, Tab w → Calls Tryd.prog 131 #[.int .u64 n] w fun e w' => e = .returned (.int .i64 z) ∧ w = w'
  tab : Tab w

theorem shift_nat (n z : Nat) (hz : z < 64) : (n : Int).fdiv (2 ^ min ((z : Nat) : Int).toNat IntKind.i64.bits) = ((n / 2 ^ z : Nat) : Int) := by
  rw [Int.toNat_natCast, show IntKind.i64.bits = 64 from rfl, Nat.min_eq_left (by omega), Int.fdiv_eq_ediv_of_nonneg _ (by exact_mod_cast Nat.zero_le _)]
  simp

set_option maxHeartbeats 3200000 in
set_option maxRecDepth 100000 in
theorem number_fin (s d p : ByteArray) (is : Bool) (n : Nat) (np k : Int) (w : World) (C : Hid (NumRest s d p is n np k)) (h3 : d.size ≤ 16) (hp : p.size ≤ 140737488351232)
    (h0 : n ≠ 0) (h53 : n < 9007199254740992) (F f z M : Nat) (E : Int) (G : Hid (FarOf n k F f z M E w)) (hfl : floatOfInt .f64 (n : Int) = F) (hfi : f ≤ infR) (hz : z < 64)
    (hk : -1000000 ≤ k ∧ k ≤ 1000000) (fo : Nat) (co : Int)
    (HO : Hid ((f = 0 ∨ f = infR → fo = 0 ∧ co = 11) ∧ (f ≠ 0 → f ≠ infR → M ≠ n / 2 ^ z ∨ E ≠ k + z → fo = 0 ∧ co = 11) ∧ (f ≠ 0 → f ≠ infR → M = n / 2 ^ z → E = k + z → fo = f ∧ co = 0))) :
    Calls Tryd.prog 86 #[.string s] w fun e w' => e = numE fo co ∧ Bl w w' := by
  have q3 : decide ((16 : Int) < (d.size : Int)) = false := decide_eq_false (by omega)
  have qn : ((n : Int) == 0) = false := by simpa using h0
  have q2 : decide ((n : Int) < 0) = false := decide_eq_false (by omega)
  have q4 : decide ((9007199254740992 : Int) ≤ (n : Int)) = false := decide_eq_false (by omega)
  have HZ := Lib.hid (zero_of hfi)
  obtain ⟨hk1, hk2⟩ := hk
  have hsh := shift_nat n z hz
  have hsh2 : (n : Int) / 2 ^ z = ((n / 2 ^ z : Nat) : Int) := by simp
  generalize n / 2 ^ z = Q at *
  cases is
  · have HK := Lib.hid (show k = 0 from C.out.k)
    obtain rfl : k = 0 := HK.out
    by_cases h1 : f = 0
    · have q0 : (FloatKind.f64.format.order f 0 == some .eq) = true := by rw [HZ.out, h1]; rfl
      have HE := Lib.hid (HO.out.1 (.inl h1))
      have HN := Lib.hid (numE_bad 0 11 (by decide))
      clear h1
      go_enter Tryd.func86, Tryd.ntmps86
      go_wp2_with fail
      refine (C.out.c.cut _).mono ?_
      rintro e w1 ⟨rfl, hb1⟩
      go_wp2_with fail
      refine (C.out.c.nd _).mono ?_
      rintro e w' ⟨rfl, rfl⟩
      go_wp2_with fail
      refine (C.out.c.sg _).mono ?_
      rintro e w' ⟨rfl, rfl⟩
      go_wp2_with fail
      refine (G.out.ld _).mono ?_
      rintro e w' ⟨rfl, rfl⟩
      go_wp2_with fail
      exact ⟨rfl, by rw [HE.out.1, HE.out.2]; exact HN.out.symm, hb1⟩
    · have q0 : (FloatKind.f64.format.order f 0 == some .eq) = false := by rw [HZ.out]; exact decide_eq_false h1
      have H0 := Lib.hid h1
      clear h1
      by_cases h1 : f = infR
      · have QI := Lib.hid (show decide (f = infR) = true from decide_eq_true h1)
        have HE := Lib.hid (HO.out.1 (.inr h1))
        have HN := Lib.hid (numE_bad 0 11 (by decide))
        clear h1
        go_enter Tryd.func86, Tryd.ntmps86
        go_wp2_with fail
        refine (C.out.c.cut _).mono ?_
        rintro e w1 ⟨rfl, hb1⟩
        go_wp2_with fail
        refine (C.out.c.nd _).mono ?_
        rintro e w' ⟨rfl, rfl⟩
        go_wp2_with fail
        refine (C.out.c.sg _).mono ?_
        rintro e w' ⟨rfl, rfl⟩
        go_wp2_with fail
        refine (G.out.ld _).mono ?_
        rintro e w' ⟨rfl, rfl⟩
        go_wp2_with fail
        refine (G.out.inf _).mono ?_
        rintro e w' ⟨rfl, rfl⟩
        rw [QI.out]
        go_wp2_with fail
        exact ⟨rfl, by rw [HE.out.1, HE.out.2]; exact HN.out.symm, hb1⟩
      · have QI := Lib.hid (show decide (f = infR) = false from decide_eq_false h1)
        have HI := Lib.hid h1
        clear h1
        by_cases h2 : M = Q
        · skip
          by_cases h4 : E = (0 : Int) + z
          · have q7 : (E != (z : Int)) = false := by rw [h4]; simp
            have HE := Lib.hid (HO.out.2.2 H0.out HI.out h2 h4)
            have HN := Lib.hid (numE_ok f)
            clear h4
            subst h2
            go_enter Tryd.func86, Tryd.ntmps86
            go_wp2_with fail
            refine (C.out.c.cut _).mono ?_
            rintro e w1 ⟨rfl, hb1⟩
            go_wp2_with fail
            refine (C.out.c.nd _).mono ?_
            rintro e w' ⟨rfl, rfl⟩
            go_wp2_with fail
            refine (C.out.c.sg _).mono ?_
            rintro e w' ⟨rfl, rfl⟩
            go_wp2_with fail
            refine (G.out.ld _).mono ?_
            rintro e w' ⟨rfl, rfl⟩
            go_wp2_with fail
            refine (G.out.inf _).mono ?_
            rintro e w' ⟨rfl, rfl⟩
            rw [QI.out]
            go_wp2_with fail
            refine (G.out.parts H0.out HI.out _ (G.out.tab.keep hb1)).mono ?_
            rintro e w' ⟨rfl, rfl⟩
            go_wp2_with fail
            refine (G.out.tz _ (G.out.tab.keep hb1)).mono ?_
            rintro e w' ⟨rfl, rfl⟩
            go_wp2_with fail
            go_ret
            exact ⟨by rw [HE.out.1, HE.out.2]; exact HN.out.symm, hb1⟩
          · have q7 : (E != (z : Int)) = true := by simp; omega
            have HE := Lib.hid (HO.out.2.1 H0.out HI.out (.inr h4))
            have HN := Lib.hid (numE_bad 0 11 (by decide))
            clear h4
            subst h2
            go_enter Tryd.func86, Tryd.ntmps86
            go_wp2_with fail
            refine (C.out.c.cut _).mono ?_
            rintro e w1 ⟨rfl, hb1⟩
            go_wp2_with fail
            refine (C.out.c.nd _).mono ?_
            rintro e w' ⟨rfl, rfl⟩
            go_wp2_with fail
            refine (C.out.c.sg _).mono ?_
            rintro e w' ⟨rfl, rfl⟩
            go_wp2_with fail
            refine (G.out.ld _).mono ?_
            rintro e w' ⟨rfl, rfl⟩
            go_wp2_with fail
            refine (G.out.inf _).mono ?_
            rintro e w' ⟨rfl, rfl⟩
            rw [QI.out]
            go_wp2_with fail
            refine (G.out.parts H0.out HI.out _ (G.out.tab.keep hb1)).mono ?_
            rintro e w' ⟨rfl, rfl⟩
            go_wp2_with fail
            refine (G.out.tz _ (G.out.tab.keep hb1)).mono ?_
            rintro e w' ⟨rfl, rfl⟩
            go_wp2_with fail
            exact ⟨rfl, by rw [HE.out.1, HE.out.2]; exact HN.out.symm, hb1⟩
        · have q6 : (M != Q) = true := by simpa using h2
          have HE := Lib.hid (HO.out.2.1 H0.out HI.out (.inl h2))
          have HN := Lib.hid (numE_bad 0 11 (by decide))
          clear h2
          go_enter Tryd.func86, Tryd.ntmps86
          go_wp2_with fail
          refine (C.out.c.cut _).mono ?_
          rintro e w1 ⟨rfl, hb1⟩
          go_wp2_with fail
          refine (C.out.c.nd _).mono ?_
          rintro e w' ⟨rfl, rfl⟩
          go_wp2_with fail
          refine (C.out.c.sg _).mono ?_
          rintro e w' ⟨rfl, rfl⟩
          go_wp2_with fail
          refine (G.out.ld _).mono ?_
          rintro e w' ⟨rfl, rfl⟩
          go_wp2_with fail
          refine (G.out.inf _).mono ?_
          rintro e w' ⟨rfl, rfl⟩
          rw [QI.out]
          go_wp2_with fail
          refine (G.out.parts H0.out HI.out _ (G.out.tab.keep hb1)).mono ?_
          rintro e w' ⟨rfl, rfl⟩
          go_wp2_with fail
          refine (G.out.tz _ (G.out.tab.keep hb1)).mono ?_
          rintro e w' ⟨rfl, rfl⟩
          go_wp2_with fail
          exact ⟨rfl, by rw [HE.out.1, HE.out.2]; exact HN.out.symm, hb1⟩
  · obtain rfl : k = np := C.out.k
    have q5 : decide ((5 : Int) < (p.size : Int)) = false := decide_eq_false (by have := C.out.p5 rfl; omega)
    by_cases h1 : f = 0
    · have q0 : (FloatKind.f64.format.order f 0 == some .eq) = true := by rw [HZ.out, h1]; rfl
      have HE := Lib.hid (HO.out.1 (.inl h1))
      have HN := Lib.hid (numE_bad 0 11 (by decide))
      clear h1
      go_enter Tryd.func86, Tryd.ntmps86
      go_wp2_with fail
      refine (C.out.c.cut _).mono ?_
      rintro e w1 ⟨rfl, hb1⟩
      go_wp2_with fail
      refine (C.out.c.nd _).mono ?_
      rintro e w' ⟨rfl, rfl⟩
      go_wp2_with fail
      refine (C.out.c.sg _).mono ?_
      rintro e w' ⟨rfl, rfl⟩
      go_wp2_with fail
      refine (C.out.c.np rfl _).mono ?_
      rintro e w' ⟨rfl, rfl⟩
      go_wp2_with fail
      refine (G.out.ld _).mono ?_
      rintro e w' ⟨rfl, rfl⟩
      go_wp2_with fail
      exact ⟨rfl, by rw [HE.out.1, HE.out.2]; exact HN.out.symm, hb1⟩
    · have q0 : (FloatKind.f64.format.order f 0 == some .eq) = false := by rw [HZ.out]; exact decide_eq_false h1
      have H0 := Lib.hid h1
      clear h1
      by_cases h1 : f = infR
      · have QI := Lib.hid (show decide (f = infR) = true from decide_eq_true h1)
        have HE := Lib.hid (HO.out.1 (.inr h1))
        have HN := Lib.hid (numE_bad 0 11 (by decide))
        clear h1
        go_enter Tryd.func86, Tryd.ntmps86
        go_wp2_with fail
        refine (C.out.c.cut _).mono ?_
        rintro e w1 ⟨rfl, hb1⟩
        go_wp2_with fail
        refine (C.out.c.nd _).mono ?_
        rintro e w' ⟨rfl, rfl⟩
        go_wp2_with fail
        refine (C.out.c.sg _).mono ?_
        rintro e w' ⟨rfl, rfl⟩
        go_wp2_with fail
        refine (C.out.c.np rfl _).mono ?_
        rintro e w' ⟨rfl, rfl⟩
        go_wp2_with fail
        refine (G.out.ld _).mono ?_
        rintro e w' ⟨rfl, rfl⟩
        go_wp2_with fail
        refine (G.out.inf _).mono ?_
        rintro e w' ⟨rfl, rfl⟩
        rw [QI.out]
        go_wp2_with fail
        exact ⟨rfl, by rw [HE.out.1, HE.out.2]; exact HN.out.symm, hb1⟩
      · have QI := Lib.hid (show decide (f = infR) = false from decide_eq_false h1)
        have HI := Lib.hid h1
        clear h1
        by_cases h2 : M = Q
        · skip
          by_cases h4 : E = k + (z : Int)
          · have q7 : (E != k + (z : Int)) = false := by rw [h4]; simp
            have HE := Lib.hid (HO.out.2.2 H0.out HI.out h2 h4)
            have HN := Lib.hid (numE_ok f)
            clear h4
            subst h2
            go_enter Tryd.func86, Tryd.ntmps86
            go_wp2_with fail
            refine (C.out.c.cut _).mono ?_
            rintro e w1 ⟨rfl, hb1⟩
            go_wp2_with fail
            refine (C.out.c.nd _).mono ?_
            rintro e w' ⟨rfl, rfl⟩
            go_wp2_with fail
            refine (C.out.c.sg _).mono ?_
            rintro e w' ⟨rfl, rfl⟩
            go_wp2_with fail
            refine (C.out.c.np rfl _).mono ?_
            rintro e w' ⟨rfl, rfl⟩
            go_wp2_with fail
            refine (G.out.ld _).mono ?_
            rintro e w' ⟨rfl, rfl⟩
            go_wp2_with fail
            refine (G.out.inf _).mono ?_
            rintro e w' ⟨rfl, rfl⟩
            rw [QI.out]
            go_wp2_with fail
            refine (G.out.parts H0.out HI.out _ (G.out.tab.keep hb1)).mono ?_
            rintro e w' ⟨rfl, rfl⟩
            go_wp2_with fail
            refine (G.out.tz _ (G.out.tab.keep hb1)).mono ?_
            rintro e w' ⟨rfl, rfl⟩
            go_wp2_with fail
            go_ret
            exact ⟨by rw [HE.out.1, HE.out.2]; exact HN.out.symm, hb1⟩
          · have q7 : (E != k + (z : Int)) = true := by simpa using h4
            have HE := Lib.hid (HO.out.2.1 H0.out HI.out (.inr h4))
            have HN := Lib.hid (numE_bad 0 11 (by decide))
            clear h4
            subst h2
            go_enter Tryd.func86, Tryd.ntmps86
            go_wp2_with fail
            refine (C.out.c.cut _).mono ?_
            rintro e w1 ⟨rfl, hb1⟩
            go_wp2_with fail
            refine (C.out.c.nd _).mono ?_
            rintro e w' ⟨rfl, rfl⟩
            go_wp2_with fail
            refine (C.out.c.sg _).mono ?_
            rintro e w' ⟨rfl, rfl⟩
            go_wp2_with fail
            refine (C.out.c.np rfl _).mono ?_
            rintro e w' ⟨rfl, rfl⟩
            go_wp2_with fail
            refine (G.out.ld _).mono ?_
            rintro e w' ⟨rfl, rfl⟩
            go_wp2_with fail
            refine (G.out.inf _).mono ?_
            rintro e w' ⟨rfl, rfl⟩
            rw [QI.out]
            go_wp2_with fail
            refine (G.out.parts H0.out HI.out _ (G.out.tab.keep hb1)).mono ?_
            rintro e w' ⟨rfl, rfl⟩
            go_wp2_with fail
            refine (G.out.tz _ (G.out.tab.keep hb1)).mono ?_
            rintro e w' ⟨rfl, rfl⟩
            go_wp2_with fail
            exact ⟨rfl, by rw [HE.out.1, HE.out.2]; exact HN.out.symm, hb1⟩
        · have q6 : (M != Q) = true := by simpa using h2
          have HE := Lib.hid (HO.out.2.1 H0.out HI.out (.inl h2))
          have HN := Lib.hid (numE_bad 0 11 (by decide))
          clear h2
          go_enter Tryd.func86, Tryd.ntmps86
          go_wp2_with fail
          refine (C.out.c.cut _).mono ?_
          rintro e w1 ⟨rfl, hb1⟩
          go_wp2_with fail
          refine (C.out.c.nd _).mono ?_
          rintro e w' ⟨rfl, rfl⟩
          go_wp2_with fail
          refine (C.out.c.sg _).mono ?_
          rintro e w' ⟨rfl, rfl⟩
          go_wp2_with fail
          refine (C.out.c.np rfl _).mono ?_
          rintro e w' ⟨rfl, rfl⟩
          go_wp2_with fail
          refine (G.out.ld _).mono ?_
          rintro e w' ⟨rfl, rfl⟩
          go_wp2_with fail
          refine (G.out.inf _).mono ?_
          rintro e w' ⟨rfl, rfl⟩
          rw [QI.out]
          go_wp2_with fail
          refine (G.out.parts H0.out HI.out _ (G.out.tab.keep hb1)).mono ?_
          rintro e w' ⟨rfl, rfl⟩
          go_wp2_with fail
          refine (G.out.tz _ (G.out.tab.keep hb1)).mono ?_
          rintro e w' ⟨rfl, rfl⟩
          go_wp2_with fail
          exact ⟨rfl, by rw [HE.out.1, HE.out.2]; exact HN.out.symm, hb1⟩
end Go.Proofs.YtgdlcoicejgdkaaDoor

namespace Go.Proofs.YtgdlcoicejgdkaaDoor
open Go.RowKit

theorem cut_len (l : List UInt8) : (headP l).length ≤ l.length ∧ (tailP l).length ≤ l.length := by
  unfold headP tailP Lib.cut
  split
  · simp; omega
  · simp
theorem numV_nonneg {l : List UInt8} (h : signB l = false) : 0 ≤ numV l := by
  unfold numV
  rw [h]
  split
  · rename_i k
    simp only [Bool.false_eq_true, if_false]
    exact (valD_bd _ (digOk_all k).2.2).1
  · omega
theorem numV_small {l : List UInt8} (h : l.length ≤ 5) : -100000 < numV l ∧ numV l < 100000 := by
  unfold numV
  split
  · rename_i k
    have hb := valD_bd _ (digOk_all k).2.2
    have hl : (restL l).length ≤ 5 := by
      refine Nat.le_trans ?_ h
      unfold restL Lib.trimPrefix
      split
      · simp
      · exact Nat.le_refl _
    have h3 : (10 : Int) ^ (restL l).length ≤ 10 ^ 5 := by
      have := Nat.pow_le_pow_right (show 0 < 10 by decide) hl
      exact_mod_cast this
    split <;> omega
  · omega
theorem numC_two (l : List UInt8) : numC l = 0 ∨ numC l = 4 := by
  unfold numC; split <;> simp

theorem numCase (s : ByteArray) (l : List UInt8) (hs : SB s l) (hsz : s.size ≤ 140737488351232) :
    NumCase s (isP l) ⟨(headP l).toArray⟩ ⟨(tailP l).toArray⟩ (numV (headP l)) (numC (headP l)) (numV (tailP l)) (numC (tailP l)) (signB (headP l)) := by
  have hl := cut_len l
  have hz := hs.size
  have h1 : SB ⟨(headP l).toArray⟩ (headP l) := SB.mk _
  have h2 : SB ⟨(tailP l).toArray⟩ (tailP l) := SB.mk _
  refine ⟨fun w => ?_, fun w => number_any _ _ w h1 (by rw [h1.size]; omega), fun _ w => number_any _ _ w h2 (by rw [h2.size]; omega), fun w => hasMinus _ _ w h1⟩
  refine (cutP_any s l w hs hsz).mono ?_
  rintro e w' ⟨d, p, rfl, hd, hp, hb⟩
  obtain rfl : d = ⟨(headP l).toArray⟩ := SB.eq hd h1
  obtain rfl : p = ⟨(tailP l).toArray⟩ := SB.eq hp h2
  exact ⟨rfl, hb⟩

theorem numP_bad {l : List UInt8} (h : numC (headP l) ≠ 0 ∨ 16 < (headP l).length ∨ signB (headP l) = true) : numP l = (0, 4) := if_pos h
theorem numP_bad2 {l : List UInt8} (h : ¬ (numC (headP l) ≠ 0 ∨ 16 < (headP l).length ∨ signB (headP l) = true)) (k : isP l = true ∧ (numC (tailP l) ≠ 0 ∨ 5 < (tailP l).length)) : numP l = (0, 4) := by
  unfold numP; rw [if_neg h, if_pos k]
theorem numP_over {l : List UInt8} (h : ¬ (numC (headP l) ≠ 0 ∨ 16 < (headP l).length ∨ signB (headP l) = true)) (k : ¬ (isP l = true ∧ (numC (tailP l) ≠ 0 ∨ 5 < (tailP l).length))) (j : 9007199254740992 ≤ numV (headP l)) : numP l = (0, 11) := by
  unfold numP; rw [if_neg h, if_neg k, if_pos j]
theorem numP_fin {l : List UInt8} (h : ¬ (numC (headP l) ≠ 0 ∨ 16 < (headP l).length ∨ signB (headP l) = true)) (k : ¬ (isP l = true ∧ (numC (tailP l) ≠ 0 ∨ 5 < (tailP l).length))) (j : ¬ 9007199254740992 ≤ numV (headP l)) : numP l = numF (numV (headP l)).toNat (kP l) := by
  unfold numP; rw [if_neg h, if_neg k, if_neg j]
theorem numF_ends (n : Nat) (k : Int) (h0 : n ≠ 0) :
    (rung n k = 0 ∨ rung n k = infR → (numF n k).1 = 0 ∧ (numF n k).2 = 11) ∧
    (rung n k ≠ 0 → rung n k ≠ infR → oddM (rung n k) ≠ n / 2 ^ Lib.ctz 64 n ∨ oddE (rung n k) ≠ k + (Lib.ctz 64 n : Int) → (numF n k).1 = 0 ∧ (numF n k).2 = 11) ∧
    (rung n k ≠ 0 → rung n k ≠ infR → oddM (rung n k) = n / 2 ^ Lib.ctz 64 n → oddE (rung n k) = k + (Lib.ctz 64 n : Int) → (numF n k).1 = rung n k ∧ (numF n k).2 = 0) := by
  unfold numF
  rw [if_neg h0]
  refine ⟨fun h => ?_, fun h1 h2 h => ?_, fun h1 h2 h3 h4 => ?_⟩
  · rw [if_pos h]; exact ⟨rfl, rfl⟩
  · rw [if_neg (by simp [h1, h2]), if_pos h]; exact ⟨rfl, rfl⟩
  · rw [if_neg (by simp [h1, h2]), if_neg (by rw [h3, h4]; simp)]; exact ⟨rfl, rfl⟩

theorem rnumber_any (s : ByteArray) (l : List UInt8) (w : World) (hs : SB s l) (hsz : s.size ≤ 140737488351232) (hT : Tab w) :
    Calls Tryd.prog 86 #[.string s] w fun e w' => e = numE (numP l).1 (numP l).2 ∧ Bl w w' := by
  have hl := cut_len l
  have hz := hs.size
  have hN := numCase s l hs hsz
  have h1 : SB ⟨(headP l).toArray⟩ (headP l) := SB.mk _
  have h2 : SB ⟨(tailP l).toArray⟩ (tailP l) := SB.mk _
  by_cases A : numC (headP l) ≠ 0 ∨ 16 < (headP l).length ∨ signB (headP l) = true
  · rw [numP_bad A]
    exact number_bad s _ _ _ _ _ _ _ _ 0 w (Lib.hid hN) (by rw [h1.size]; omega) (by
      rcases A with A | A | A
      · exact .inl A
      · exact .inr (.inr (.inl (by rw [h1.size]; exact A)))
      · exact .inr (.inr (.inr A)))
  · have a1 : numC (headP l) = 0 := by
      by_cases e : numC (headP l) = 0
      · exact e
      · exact absurd (.inl e) A
    have a2 : (headP l).length ≤ 16 := by
      by_cases e : 16 < (headP l).length
      · exact absurd (.inr (.inl e)) A
      · omega
    have a3 : signB (headP l) = false := by
      cases e : signB (headP l)
      · rfl
      · exact absurd (.inr (.inr e)) A
    have a4 := numV_nonneg a3
    rw [a1, a3] at hN
    by_cases B : isP l = true ∧ (numC (tailP l) ≠ 0 ∨ 5 < (tailP l).length)
    · rw [numP_bad2 A B]
      rw [B.1] at hN
      exact number_bad2 s _ _ _ _ _ 0 w (Lib.hid hN) (by rw [h2.size]; omega) (by omega) (by rw [h1.size]; exact a2) (by rw [h2.size]; exact B.2)
    · have b1 : isP l = true → numC (tailP l) = 0 ∧ (tailP l).length ≤ 5 := fun e => by
        by_cases k : numC (tailP l) = 0
        · refine ⟨k, ?_⟩
          by_cases k2 : 5 < (tailP l).length
          · exact absurd ⟨e, .inr k2⟩ B
          · omega
        · exact absurd ⟨e, .inl k⟩ B
      have hR : NumRest s ⟨(headP l).toArray⟩ ⟨(tailP l).toArray⟩ (isP l) (numV (headP l)) (numV (tailP l)) (kP l) := by
        refine ⟨⟨hN.cut, hN.nd, fun e w => ?_, hN.sg⟩, rfl, fun e => by rw [h2.size]; exact (b1 e).2⟩
        have := hN.np e w
        rw [(b1 e).1] at this
        exact this
      have hk : -1000000 ≤ kP l ∧ kP l ≤ 1000000 := by
        unfold kP
        cases e : isP l
        · simp
        · have := numV_small (b1 e).2
          simp only [if_true]
          omega
      by_cases C : 9007199254740992 ≤ numV (headP l)
      · rw [numP_over A B C]
        exact number_over s _ _ _ _ _ _ 0 w (Lib.hid hR) (by omega) (by rw [h1.size]; exact a2) (by rw [h2.size]; omega) C
      · rw [numP_fin A B C]
        by_cases h0 : numV (headP l) = 0
        · rw [h0] at hR ⊢
          exact number_zero s _ _ _ _ _ w (Lib.hid hR) (by rw [h1.size]; exact a2) (by rw [h2.size]; omega)
        · obtain ⟨n, hn⟩ : ∃ n : Nat, numV (headP l) = (n : Int) := ⟨(numV (headP l)).toNat, by omega⟩
          rw [hn] at hR ⊢
          rw [Int.toNat_natCast]
          have hn0 : n ≠ 0 := by omega
          have hn53 : n < 9007199254740992 := by omega
          have htz : Lib.ctz 64 n < 64 := by
            have h64 : n < 2 ^ 64 := by omega
            exact (Lib.lowest_bit 64 n hn0 h64).2
          have hfi := rung_le_inf n (kP l)
          have hlt63 : ∀ r, r ≤ infR → r % two63 = r := fun r hr => Nat.mod_eq_of_lt (by unfold infR two63 at *; omega)
          have hO := numF_ends n (kP l) hn0
          have hinf : ∀ w, Calls Tryd.prog 106 #[.float .f64 (rung n (kP l)), .int .i64 0] w fun e w' => e = .returned (.bool (decide (rung n (kP l) = infR))) ∧ w = w' := fun w => by
            rw [← infB_of hfi]
            exact isInf_any _ w (by unfold infR two64 at *; omega)
          have htzc : ∀ w, Tab w → Calls Tryd.prog 131 #[.int .u64 n] w fun e w' => e = .returned (.int .i64 (Lib.ctz 64 n : Nat)) ∧ w = w' := fun w hT => tz_any n (by unfold two64; omega) hn0 w hT
          by_cases e : rung n (kP l) = 0 ∨ rung n (kP l) = infR
          · refine number_fin s _ _ _ n _ _ w (Lib.hid hR) (by rw [h1.size]; exact a2) (by rw [h2.size]; omega) hn0 hn53 (rung n 0) (rung n (kP l)) (Lib.ctz 64 n) 0 0
              (Lib.hid ⟨fun w => ldexp_nat n _ w hn0 (by omega) hk, hinf, fun k1 k2 => ?_, htzc, hT⟩) (float_rung n) hfi htz hk _ _ (Lib.hid ⟨hO.1, fun k1 k2 => ?_, fun k1 k2 => ?_⟩)
            all_goals
              rcases e with e | e
              · exact absurd e k1
              · exact absurd e k2
          · have k1 : rung n (kP l) ≠ 0 := fun k => e (.inl k)
            have k2 : rung n (kP l) ≠ infR := fun k => e (.inr k)
            refine number_fin s _ _ _ n _ _ w (Lib.hid hR) (by rw [h1.size]; exact a2) (by rw [h2.size]; omega) hn0 hn53 (rung n 0) (rung n (kP l)) (Lib.ctz 64 n) (oddM (rung n (kP l))) (oddE (rung n (kP l)))
              (Lib.hid ⟨fun w => ldexp_nat n _ w hn0 (by omega) hk, hinf, fun _ _ w hT => ?_, htzc, hT⟩) (float_rung n) hfi htz hk _ _ (Lib.hid hO)
            have := parts_any (rung n (kP l)) w (by unfold infR two64 at *; omega) (by rw [hlt63 _ hfi]; exact k1) (by rw [hlt63 _ hfi]; omega) hT
            rw [hlt63 _ hfi] at this
            exact this
end Go.Proofs.YtgdlcoicejgdkaaDoor
