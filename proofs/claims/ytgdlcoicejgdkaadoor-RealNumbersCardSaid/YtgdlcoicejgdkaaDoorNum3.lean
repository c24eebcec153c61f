/- real.number. By an AI agent. -/
import Derived.Test.YtgdlcoicejgdkaaDoorNum2
namespace Go.Proofs.YtgdlcoicejgdkaaDoor
open Go.RowKit

def numE (f : Nat) (c : Int) : Ending := if c = 0 then .returned (.float .f64 f) else .panicked [{ v := .iface 40 (.int .i64 c), recovered := false }]
theorem numE_bad (f : Nat) (c : Int) (h : c ≠ 0) : numE f c = .panicked [{ v := .iface 40 (.int .i64 c), recovered := false }] := if_neg h
theorem numE_ok (f : Nat) : numE f 0 = .returned (.float .f64 f) := if_pos rfl

/-- behind the digits and the power -/
theorem zero_of {f : Nat} (h : f ≤ infR) : (FloatKind.f64.format.order f 0 == some .eq) = decide (f = 0) := by
  rw [zero_order (by unfold infR two64 at *; omega) (nan_small h), Nat.mod_eq_of_lt (by unfold infR two63 at *; omega)]
theorem infB_of {f : Nat} (h : f ≤ infR) : infB f = decide (f = infR) := by
  unfold infB; rw [Nat.mod_eq_of_lt (by unfold infR two63 at *; omega)]

/-- what real.number finds in the text, one after the other -/
structure NumCase (s : ByteArray) (is : Bool) (d p : ByteArray) (nd cd np cp : Int) (sg : Bool) : Prop where
  cut : ∀ w, Calls Tryd.prog 129 #[.string s, .string ⟨#[112]⟩] w fun e w' => e = .returned (.tuple #[.string d, .string p, .bool is]) ∧ Bl w w'
  nd : ∀ w, Calls Tryd.prog 130 #[.string d] w fun e w' => e = .returned (.tuple #[.int .i64 nd, .int .i64 cd]) ∧ w = w'
  np : is = true → ∀ w, Calls Tryd.prog 130 #[.string p] w fun e w' => e = .returned (.tuple #[.int .i64 np, .int .i64 cp]) ∧ w = w'
  sg : ∀ w, Calls Tryd.prog 110 #[.string d, .string ⟨#[45]⟩] w fun e w' => e = .returned (.bool sg) ∧ w = w'

set_option maxHeartbeats 1600000 in
set_option maxRecDepth 100000 in
/-- the digits are none -/
theorem number_bad (s d p : ByteArray) (is sg : Bool) (nd cd np cp : Int) (f : Nat) (w : World) (C : Hid (NumCase s is d p nd cd np cp sg)) (hd : d.size ≤ 140737488351232)
    (h : cd ≠ 0 ∨ nd < 0 ∨ 16 < d.size ∨ sg = true) :
    Calls Tryd.prog 86 #[.string s] w fun e w' => e = numE f 4 ∧ Bl w w' := by
  have HE := Lib.hid (numE_bad f 4 (by decide))
  by_cases h1 : cd = 0
  · by_cases h2 : nd < 0
    · subst h1
      clear h
      go_enter Tryd.func86, Tryd.ntmps86
      go_wp2_with fail
      refine (C.out.cut _).mono ?_
      rintro e w1 ⟨rfl, hb1⟩
      go_wp2_with fail
      refine (C.out.nd _).mono ?_
      rintro e w' ⟨rfl, rfl⟩
      go_wp2_with fail
      exact ⟨rfl, HE.out.symm, hb1⟩
    · have q2 : decide (nd < 0) = false := decide_eq_false h2
      by_cases h3 : 16 < d.size
      · have q3 : decide ((16 : Int) < (d.size : Int)) = true := decide_eq_true (by omega)
        subst h1
        clear h
        go_enter Tryd.func86, Tryd.ntmps86
        go_wp2_with fail
        refine (C.out.cut _).mono ?_
        rintro e w1 ⟨rfl, hb1⟩
        go_wp2_with fail
        refine (C.out.nd _).mono ?_
        rintro e w' ⟨rfl, rfl⟩
        go_wp2_with fail
        exact ⟨rfl, HE.out.symm, hb1⟩
      · obtain rfl : sg = true := by
          rcases h with h | h | h | h
          · exact absurd h1 h
          · exact absurd h h2
          · exact absurd h h3
          · exact h
        have q3 : decide ((16 : Int) < (d.size : Int)) = false := decide_eq_false (by omega)
        subst h1
        clear h
        go_enter Tryd.func86, Tryd.ntmps86
        go_wp2_with fail
        refine (C.out.cut _).mono ?_
        rintro e w1 ⟨rfl, hb1⟩
        go_wp2_with fail
        refine (C.out.nd _).mono ?_
        rintro e w' ⟨rfl, rfl⟩
        go_wp2_with fail
        refine (C.out.sg _).mono ?_
        rintro e w' ⟨rfl, rfl⟩
        go_wp2_with fail
        exact ⟨rfl, HE.out.symm, hb1⟩
  · have q1 : (cd != 0) = true := by simpa using h1
    clear h
    go_enter Tryd.func86, Tryd.ntmps86
    go_wp2_with fail
    refine (C.out.cut _).mono ?_
    rintro e w1 ⟨rfl, hb1⟩
    go_wp2_with fail
    refine (C.out.nd _).mono ?_
    rintro e w' ⟨rfl, rfl⟩
    go_wp2_with fail
    exact ⟨rfl, HE.out.symm, hb1⟩

set_option maxHeartbeats 1600000 in
set_option maxRecDepth 100000 in
/-- the power is none -/
theorem number_bad2 (s d p : ByteArray) (nd np cp : Int) (f : Nat) (w : World) (C : Hid (NumCase s true d p nd 0 np cp false)) (hp : p.size ≤ 140737488351232) (h2 : ¬ nd < 0) (h3 : d.size ≤ 16)
    (h : cp ≠ 0 ∨ 5 < p.size) :
    Calls Tryd.prog 86 #[.string s] w fun e w' => e = numE f 4 ∧ Bl w w' := by
  have HE := Lib.hid (numE_bad f 4 (by decide))
  have q2 : decide (nd < 0) = false := decide_eq_false h2
  have q3 : decide ((16 : Int) < (d.size : Int)) = false := decide_eq_false (by omega)
  have hq : (cp != 0) = true ∨ ((cp != 0) = false ∧ decide ((5 : Int) < (p.size : Int)) = true) := by
    by_cases h1 : cp = 0
    · right
      exact ⟨by simpa using h1, decide_eq_true (by rcases h with h | h; exact absurd h1 h; omega)⟩
    · left; simpa using h1
  clear h
  rcases hq with q4 | ⟨q4, q5⟩
  all_goals
    go_enter Tryd.func86, Tryd.ntmps86
    go_wp2_with fail
    refine (C.out.cut _).mono ?_
    rintro e w1 ⟨rfl, hb1⟩
    go_wp2_with fail
    refine (C.out.nd _).mono ?_
    rintro e w' ⟨rfl, rfl⟩
    go_wp2_with fail
    refine (C.out.sg _).mono ?_
    rintro e w' ⟨rfl, rfl⟩
    go_wp2_with fail
    refine (C.out.np rfl _).mono ?_
    rintro e w' ⟨rfl, rfl⟩
    go_wp2_with fail
    exact ⟨rfl, HE.out.symm, hb1⟩

/-- what there is behind digits and a power that can be read -/
structure NumRest (s d p : ByteArray) (is : Bool) (nd np k : Int) : Prop where
  c : NumCase s is d p nd 0 np 0 false
  k : k = if is then np else 0
  p5 : is = true → p.size ≤ 5
set_option maxHeartbeats 1600000 in
set_option maxRecDepth 100000 in
theorem number_over (s d p : ByteArray) (is : Bool) (nd np k : Int) (f : Nat) (w : World) (C : Hid (NumRest s d p is nd np k)) (h2 : ¬ nd < 0) (h3 : d.size ≤ 16) (hp : p.size ≤ 140737488351232)
    (h : 9007199254740992 ≤ nd) :
    Calls Tryd.prog 86 #[.string s] w fun e w' => e = numE f 11 ∧ Bl w w' := by
  have HE := Lib.hid (numE_bad f 11 (by decide))
  have q2 : decide (nd < 0) = false := decide_eq_false h2
  have q3 : decide ((16 : Int) < (d.size : Int)) = false := decide_eq_false (by omega)
  cases is
  · go_enter Tryd.func86, Tryd.ntmps86
    go_wp2_with fail
    refine (C.out.c.cut _).mono ?_
    rintro e w1 ⟨rfl, hb1⟩
    go_wp2_with fail
    refine (C.out.c.nd _).mono ?_
    rintro e w' ⟨rfl, rfl⟩
    go_wp2_with fail
    refine (C.out.c.sg _).mono ?_
    rintro e w' ⟨rfl, rfl⟩
    go_wp2_with fail
    exact ⟨rfl, HE.out.symm, hb1⟩
  · have q5 : decide ((5 : Int) < (p.size : Int)) = false := decide_eq_false (by have := C.out.p5 rfl; omega)
    go_enter Tryd.func86, Tryd.ntmps86
    go_wp2_with fail
    refine (C.out.c.cut _).mono ?_
    rintro e w1 ⟨rfl, hb1⟩
    go_wp2_with fail
    refine (C.out.c.nd _).mono ?_
    rintro e w' ⟨rfl, rfl⟩
    go_wp2_with fail
    refine (C.out.c.sg _).mono ?_
    rintro e w' ⟨rfl, rfl⟩
    go_wp2_with fail
    refine (C.out.c.np rfl _).mono ?_
    rintro e w' ⟨rfl, rfl⟩
    go_wp2_with fail
    exact ⟨rfl, HE.out.symm, hb1⟩
end Go.Proofs.YtgdlcoicejgdkaaDoor
