/- real.Compare, real.Max. By an AI agent. -/
import Derived.Test.YtgdlcoicejgdkaaDoorReal1
namespace Go.Proofs.YtgdlcoicejgdkaaDoor
open Go.RowKit

/-- the eight bytes of a word -/
def bytesN8 (v : Nat) : List UInt8 := (strOfNums (putN v 8 8)).data.toList
theorem bytesN8_len (v : Nat) : (bytesN8 v).length = 8 := by
  unfold bytesN8
  rw [strOfNums_data, List.length_map, putN_len]
theorem byteAt_nat (v k : Nat) : byteAt (v : Int) 8 k = ((v / 256 ^ (8 - 1 - k) % 256 : Nat) : Int) := by
  unfold byteAt
  have e : (2 : Int) ^ (8 * (8 - 1 - k)) = ((256 ^ (8 - 1 - k) : Nat) : Int) := by
    rw [show (256 : Nat) = 2 ^ 8 from rfl, ← Nat.pow_mul]
    simp
  rw [e]
  rfl
theorem put8_at (v : Nat) (k : Nat) (hk : k < 8) : ((bytesN8 v).drop k).head?.map (·.toNat) = some (v / 256 ^ (8 - 1 - k) % 256) := by
  have hl : k < (bytesN8 v).length := by rw [bytesN8_len]; exact hk
  rw [List.drop_eq_getElem_cons hl]
  simp only [List.head?_cons, Option.map_some, Option.some.injEq]
  simp only [bytesN8, strOfNums, List.getElem_map, putN, List.getElem_range]
  rw [if_pos (by omega), byteAt_nat, Int.toNat_natCast, UInt8.toNat_ofNat']
  omega
theorem cmp_put8 (a b : Nat) (ha : a < two64) (hb : b < two64) : Lib.compareBytes (bytesN8 a) (bytesN8 b) = cmpN a b := by
  rw [cmp_bytes 8 (bytesN8 a) (bytesN8 b) a b (bytesN8_len a) (bytesN8_len b) (put8_at a) (put8_at b), Nat.mod_eq_of_lt (by unfold two64 at *; omega), Nat.mod_eq_of_lt (by unfold two64 at *; omega)]

theorem rawCompare_any (s t : ByteArray) (w : World) : Calls Tryd.prog 105 #[.string s, .string t] w fun e w' => e = .returned (.int .i64 (Lib.compareBytes s.data.toList t.data.toList)) ∧ w = w' := by
  go_enter Tryd.func105, Tryd.ntmps105
  go_wp2_with fail
  refine (Tryd.strings_Compare s t _).mono ?_
  rintro e w' ⟨rfl, rfl⟩
  go_wp2_with fail
  go_ret
  exact ⟨rfl, rfl⟩

set_option maxRecDepth 100000 in
theorem rcompare_any (x y : Nat) (w : World) (hx : x < two64) (hy : y < two64) : Calls Tryd.prog 50 #[.float .f64 x, .float .f64 y] w fun e w' => e = .returned (.int .i64 (cmpN (fkey x) (fkey y))) ∧ Bl w w' := by
  by_cases h1 : FloatKind.f64.format.order x y = some .lt
  · have HR := Lib.hid (show cmpN (fkey x) (fkey y) = -1 from if_pos (key_lt hx hy h1))
    have q1 : (FloatKind.f64.format.order x y == some .lt) = true := by rw [h1]; rfl
    clear h1
    go_enter Tryd.func50, Tryd.ntmps50
    go_wp2_with fail
    go_ret
    exact ⟨ret_int HR.out.symm, Bl.refl _⟩
  · by_cases h2 : FloatKind.f64.format.order x y = some .gt
    · have HR := Lib.hid (show cmpN (fkey x) (fkey y) = 1 from by have := key_gt hx hy h2; unfold cmpN; rw [if_neg (by omega), if_pos this])
      have q1 : (FloatKind.f64.format.order x y == some .lt) = false := by rw [h2]; rfl
      have q2 : (FloatKind.f64.format.order x y == some .gt) = true := by rw [h2]; rfl
      clear h1 h2
      go_enter Tryd.func50, Tryd.ntmps50
      go_wp2_with fail
      go_ret
      exact ⟨ret_int HR.out.symm, Bl.refl _⟩
    · have q1 : (FloatKind.f64.format.order x y == some .lt) = false := by
        rw [beq_eq_false_iff_ne]; exact h1
      have q2 : (FloatKind.f64.format.order x y == some .gt) = false := by
        rw [beq_eq_false_iff_ne]; exact h2
      clear h1 h2
      have HR := Lib.hid (cmp_put8 _ _ (fkey_lt hx) (fkey_lt hy))
      go_enter Tryd.func50, Tryd.ntmps50
      go_wp2_with fail
      refine (rput_any x _ hx).mono ?_
      rintro e w1 ⟨rfl, hb1⟩
      go_wp2_with fail
      refine (rput_any y _ hy).mono ?_
      rintro e w2 ⟨rfl, hb2⟩
      go_wp2_with fail
      refine (rawCompare_any _ _ _).mono ?_
      rintro e w3 ⟨rfl, rfl⟩
      go_wp2_with fail
      go_ret
      exact ⟨ret_int HR.out, hb1.trans hb2⟩

/-- the later number -/
def rmax (x y : Nat) : Nat := if cmpN (fkey x) (fkey y) < 0 then y else x
theorem rmax_any (x y : Nat) (w : World) (hx : x < two64) (hy : y < two64) : Calls Tryd.prog 55 #[.float .f64 x, .float .f64 y] w fun e w' => e = .returned (.float .f64 (rmax x y)) ∧ Bl w w' := by
  by_cases h : cmpN (fkey x) (fkey y) < 0
  · have HR := Lib.hid (show rmax x y = y from if_pos h)
    go_enter Tryd.func55, Tryd.ntmps55
    go_wp2_with fail
    refine (rcompare_any x y _ hx hy).mono ?_
    rintro e w1 ⟨rfl, hb1⟩
    go_wp2_with fail
    go_ret
    exact ⟨congrArg (fun b => Ending.returned (.float .f64 b)) HR.out.symm, hb1⟩
  · have HR := Lib.hid (show rmax x y = x from if_neg h)
    go_enter Tryd.func55, Tryd.ntmps55
    go_wp2_with fail
    refine (rcompare_any x y _ hx hy).mono ?_
    rintro e w1 ⟨rfl, hb1⟩
    go_wp2_with fail
    go_ret
    exact ⟨congrArg (fun b => Ending.returned (.float .f64 b)) HR.out.symm, hb1⟩
end Go.Proofs.YtgdlcoicejgdkaaDoor
