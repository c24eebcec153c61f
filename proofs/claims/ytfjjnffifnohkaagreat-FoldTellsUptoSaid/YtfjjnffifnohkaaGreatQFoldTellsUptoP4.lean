import Derived.Test.YtfjjnffifnohkaaGreatQFoldTellsUptoP1
import Derived.Deep.Cut
import Derived.Test.YtfjjnffifnohkaaGreatQFoldTellsUptoP3

/- bedrockref2.isNan, key, Compare, Same. By an AI agent. -/
section
namespace Go.Proofs.YtfjjnffifnohkaaGreat
open Go.RowKit

theorem ret_pairC {a b c d : Int} (h : a = b) (k : c = d) : Ending.returned (.tuple #[.int .i64 a, .int .i64 c]) = Ending.returned (.tuple #[.int .i64 b, .int .i64 d]) := by rw [h, k]
def keyH (x : Nat) : Nat := fkey x / 4294967296
def keyL (x : Nat) : Nat := fkey x % 4294967296
theorem key_nan {x : Nat} (h : nanB x = true) : keyH x = 0 ∧ keyL x = 0 := by
  have : fkey x = 0 := by unfold fkey; rw [h]; rfl
  unfold keyH keyL; rw [this]; exact ⟨rfl, rfl⟩
theorem key_neg {x : Nat} (h : nanB x = false) (hx : x < two64) (k : 2147483648 ≤ x / 4294967296) : keyH x = 4294967295 - x / 4294967296 ∧ keyL x = 4294967295 - x % 4294967296 := by
  have e := fkey_num h
  unfold two63 at e
  rw [if_pos (by omega)] at e
  unfold keyH keyL
  rw [e]
  unfold two64 at *
  omega
theorem half_pos {x : Nat} (h : nanB x = false) (k : ¬ 2147483648 ≤ x / 4294967296) : keyH x = x / 4294967296 + 2147483648 ∧ keyL x = x % 4294967296 := by
  have e := fkey_num h
  unfold two63 at e
  rw [if_neg (by omega)] at e
  unfold keyH keyL
  rw [e]
  omega
theorem key_order (x y : Nat) : cmpN (fkey x) (fkey y) = if keyH x < keyH y ∨ (keyH x = keyH y ∧ keyL x < keyL y) then -1 else if keyH y < keyH x ∨ keyL y < keyL x then 1 else 0 := by
  have h1 : fkey x < fkey y ↔ (keyH x < keyH y ∨ (keyH x = keyH y ∧ keyL x < keyL y)) := by unfold keyH keyL; omega
  have h2 : ¬ fkey x < fkey y → (fkey y < fkey x ↔ (keyH y < keyH x ∨ keyL y < keyL x)) := by unfold keyH keyL; omega
  unfold cmpN
  by_cases h : fkey x < fkey y
  · rw [if_pos h, if_pos (h1.1 h)]
  · rw [if_neg h, if_neg (fun k => h (h1.2 k))]
    by_cases h3 : fkey y < fkey x
    · rw [if_pos h3, if_pos ((h2 h).1 h3)]
    · rw [if_neg h3, if_neg (fun k => h3 ((h2 h).2 k))]

/-- eight bytes in two halves -/
theorem refNan_any (x : Nat) (w : World) (hx : x < two64) : Calls Tryz.prog 199 #[.float .f64 x] w fun e w' => e = .returned (.bool (nanB x)) ∧ w = w' := by
  have q : (FloatKind.f64.format.order x x != some .eq) = nanB x := self_nan hx
  cases hn : nanB x
  · rw [hn] at q
    go_enter Tryz.func199, Tryz.ntmps199
    go_wp2_with fail
    go_ret
    exact ⟨rfl, rfl⟩
  · rw [hn] at q
    go_enter Tryz.func199, Tryz.ntmps199
    go_wp2_with fail
    go_ret
    exact ⟨rfl, rfl⟩

set_option maxHeartbeats 800000 in
set_option maxRecDepth 100000 in
theorem refKey_any (x : Nat) (w : World) (hx : x < two64) :
    Calls Tryz.prog 184 #[.float .f64 x] w fun e w' => e = .returned (.tuple #[.int .i64 (keyH x), .int .i64 (keyL x)]) ∧ w = w' := by
  have hrb := run_bits x
  obtain ⟨H, hH⟩ : ∃ H : Nat, x / 4294967296 = H := ⟨_, rfl⟩
  obtain ⟨L, hL⟩ : ∃ L : Nat, x % 4294967296 = L := ⟨_, rfl⟩
  have eH := Lib.hid (show (x : Int) / 4294967296 = (H : Int) by omega)
  have eL := Lib.hid (show (x : Int) % 4294967296 = (L : Int) by omega)
  have bH : H < 4294967296 := by unfold two64 at hx; omega
  have bL : L < 4294967296 := by omega
  cases hn : nanB x
  · have hx2 : x < 18446744073709551616 := hx
    by_cases k : 2147483648 ≤ H
    · have HK := Lib.hid (key_neg hn hx (by rw [hH]; exact k))
      rw [hH, hL] at HK
      clear hH hL
      have q : decide ((2147483648 : Int) ≤ (H : Int)) = true := by simp; omega
      go_enter Tryz.func184, Tryz.ntmps184
      go_wp2_with fail
      refine (refNan_any x _ hx).mono ?_
      rintro e w1 ⟨rfl, rfl⟩
      rw [hn]
      go_upto_region 5 with fail
      rw [eH.out, eL.out]
      go_wp2_with fail
      go_ret2
      exact ⟨ret_pairC (by rw [HK.out.1]; omega) (by rw [HK.out.2]; omega), rfl⟩
    · have HK := Lib.hid (half_pos hn (by rw [hH]; exact k))
      rw [hH, hL] at HK
      clear hH hL
      have q : decide ((2147483648 : Int) ≤ (H : Int)) = false := by simp; omega
      go_enter Tryz.func184, Tryz.ntmps184
      go_wp2_with fail
      refine (refNan_any x _ hx).mono ?_
      rintro e w1 ⟨rfl, rfl⟩
      rw [hn]
      go_upto_region 5 with fail
      rw [eH.out, eL.out]
      go_wp2_with fail
      go_ret2
      exact ⟨ret_pairC (by rw [HK.out.1]; omega) (by rw [HK.out.2]), rfl⟩
  · have HK := Lib.hid (key_nan hn)
    clear hH hL bH bL
    go_enter Tryz.func184, Tryz.ntmps184
    go_wp2_with fail
    refine (refNan_any x _ hx).mono ?_
    rintro e w1 ⟨rfl, rfl⟩
    rw [hn]
    go_wp2_with fail
    go_ret2
    exact ⟨ret_pairC (by rw [HK.out.1]; rfl) (by rw [HK.out.2]; rfl), rfl⟩

set_option maxRecDepth 100000 in
theorem refCompare_any (x y : Nat) (w : World) (hx : x < two64) (hy : y < two64) :
    Calls Tryz.prog 135 #[.float .f64 x, .float .f64 y] w fun e w' => e = .returned (.int .i64 (cmpN (fkey x) (fkey y))) ∧ w = w' := by
  have HK := Lib.hid (key_order x y)
  obtain ⟨a, ha⟩ : ∃ a, keyH x = a := ⟨_, rfl⟩
  obtain ⟨b, hb⟩ : ∃ b, keyL x = b := ⟨_, rfl⟩
  obtain ⟨c, hc⟩ : ∃ c, keyH y = c := ⟨_, rfl⟩
  obtain ⟨d, hd⟩ : ∃ d, keyL y = d := ⟨_, rfl⟩
  have K1 := Lib.hid (fun w => refKey_any x w hx)
  have K2 := Lib.hid (fun w => refKey_any y w hy)
  rw [ha, hb] at K1 HK
  rw [hc, hd] at K2 HK
  clear ha hb hc hd
  go_enter Tryz.func135, Tryz.ntmps135
  go_wp2_with fail
  refine (K1.out _).mono ?_
  rintro e w1 ⟨rfl, rfl⟩
  go_wp2_with fail
  refine (K2.out _).mono ?_
  rintro e w1 ⟨rfl, rfl⟩
  rcases Nat.lt_trichotomy a c with h1 | h1 | h1
  · have q1 : decide ((a : Int) < (c : Int)) = true := by simp; omega
    go_wp2_with fail
    go_ret
    exact ⟨ret_int (by rw [HK.out, if_pos (by omega)]), rfl⟩
  · subst h1
    have q1 : decide ((a : Int) < (a : Int)) = false := by simp
    have q2 : ((a : Int) == (a : Int)) = true := by simp
    rcases Nat.lt_trichotomy b d with h2 | h2 | h2
    · have q3 : decide ((b : Int) < (d : Int)) = true := by simp; omega
      go_wp2_with fail
      go_ret
      exact ⟨ret_int (by rw [HK.out]; simp [h2]), rfl⟩
    · subst h2
      have q3 : decide ((b : Int) < (b : Int)) = false := by simp
      go_wp2_with fail
      go_ret
      exact ⟨ret_int (by rw [HK.out, if_neg (by omega), if_neg (by omega)]), rfl⟩
    · have q3 : decide ((b : Int) < (d : Int)) = false := by simp; omega
      have q4 : decide ((d : Int) < (b : Int)) = true := by simp; omega
      go_wp2_with fail
      go_ret
      exact ⟨ret_int (by rw [HK.out, if_neg (by omega), if_pos (by omega)]), rfl⟩
  · have q1 : decide ((a : Int) < (c : Int)) = false := by simp; omega
    have q2 : ((a : Int) == (c : Int)) = false := by simp; omega
    have q3 : decide ((c : Int) < (a : Int)) = true := by simp; omega
    go_wp2_with fail
    go_ret
    exact ⟨ret_int (by rw [HK.out, if_neg (by omega), if_pos (by omega)]), rfl⟩
theorem refSame_any (x y : Nat) (w : World) (hx : x < two64) (hy : y < two64) : Calls Tryz.prog 46 #[.float .f64 x, .float .f64 y] w fun e w' => e = .returned (.bool (decide (fkey x = fkey y))) ∧ w = w' := by
  have HZ := Lib.hid (cmpN_zero (fkey x) (fkey y))
  go_enter Tryz.func46, Tryz.ntmps46
  go_wp2_with fail
  refine (refCompare_any x y _ hx hy).mono ?_
  rintro e w1 ⟨rfl, rfl⟩
  go_wp2_with fail
  go_ret
  exact ⟨ret_bool HZ.out, rfl⟩
end Go.Proofs.YtfjjnffifnohkaaGreat
end

/- parts of other texts. By an AI agent. -/
section
set_option linter.unusedVariables false
set_option linter.unusedSimpArgs false
namespace Go.Proofs.YtfjjnffifnohkaaGreat
open Go.RowKit

theorem small_of {s : ByteArray} (h : s.toList = []) : s.size ≤ 1024 := by
  rw [nil_of h]; decide
theorem empty_of {s : ByteArray} (h : s.size = 0) : s.toList.isEmpty = true := by
  rw [ByteArray.toList_eq]
  obtain ⟨⟨l⟩⟩ := s
  cases l with
  | nil => rfl
  | cons a l => simp [ByteArray.size] at h
theorem filled_of {s : ByteArray} (h : 0 < s.size) : s.toList.isEmpty = false := by
  rw [ByteArray.toList_eq]
  obtain ⟨⟨l⟩⟩ := s
  cases l with
  | nil => exact absurd h (by decide)
  | cons a l => rfl
set_option maxHeartbeats 800000 in
set_option maxRecDepth 100000 in
theorem refRight_any (a : ActL) (w : World) (ok : a.Ok) : Calls Tryz.prog 133 #[a.v] w fun e w' => e = .returned (.bool (rightB a)) ∧ Bl w w' := by
  obtain ⟨k, x, n, s⟩ := a
  obtain ⟨hk, hx, hn, hs⟩ := ok
  simp only at hk hx hn hs
  show Calls Tryz.prog 133 #[.agg #[.int .i64 k, .float .f64 x, .int .i64 n, .string s]] w _
  go_enter Tryz.func133, Tryz.ntmps133
  go_wp2_with fail
  refine (refSame_any x 0 _ hx (by decide)).mono ?_
  rintro e w' ⟨rfl, rfl⟩
  rw [show decide (fkey x = fkey 0) = noughtB x from rfl]
  cases hN : noughtB x
  all_goals
    go_wp2_with fail
    all_goals (go_ret; refine ⟨ret_bool ?_, (Bl.refl w).alloc _⟩)
    all_goals (unfold rightB; simp_all; try omega)
    all_goals exact small_of
set_option maxHeartbeats 1600000 in
set_option maxRecDepth 100000 in
theorem refSameA_any (a d : ActL) (w : World) (oa : a.Ok) (ob : d.Ok) :
    Calls Tryz.prog 130 #[a.v, d.v] w fun e w' => e = .returned (.bool (sameA a d)) ∧ Bl w w' := by
  obtain ⟨k, x, n, s⟩ := a
  obtain ⟨l, y, m, t⟩ := d
  obtain ⟨_, hx, _, _⟩ := oa
  obtain ⟨_, hy, _, _⟩ := ob
  simp only at hx hy
  show Calls Tryz.prog 130 #[.agg #[.int .i64 k, .float .f64 x, .int .i64 n, .string s], .agg #[.int .i64 l, .float .f64 y, .int .i64 m, .string t]] w _
  by_cases hk : k = l
  · subst hk
    by_cases hf : fkey x = fkey y
    · have HF := Lib.hid hf
      go_enter Tryz.func130, Tryz.ntmps130
      go_wp2_with fail
      refine (refSame_any x y _ hx hy).mono ?_
      rintro e w1 ⟨rfl, rfl⟩
      rw [decide_eq_true hf]
      clear hf
      go_wp2_with fail
      all_goals (go_ret; refine ⟨ret_bool ?_, ((Bl.refl w).alloc _).alloc _⟩)
      all_goals (have h1 := HF.out; simp_all [sameA])
    · have HF := Lib.hid hf
      go_enter Tryz.func130, Tryz.ntmps130
      go_wp2_with fail
      refine (refSame_any x y _ hx hy).mono ?_
      rintro e w1 ⟨rfl, rfl⟩
      rw [decide_eq_false hf]
      clear hf
      go_wp2_with fail
      go_ret
      refine ⟨ret_bool ?_, ((Bl.refl w).alloc _).alloc _⟩
      have h1 := HF.out
      simp [sameA, h1]
  · have q : (k == l) = false := by simpa using hk
    have HK := Lib.hid hk
    clear hk
    go_enter Tryz.func130, Tryz.ntmps130
    go_wp2_with fail
    go_ret
    refine ⟨ret_bool ?_, ((Bl.refl w).alloc _).alloc _⟩
    have h1 := HK.out
    simp [sameA, h1]
end Go.Proofs.YtfjjnffifnohkaaGreat
end
