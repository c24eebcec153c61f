/- OpGrows in plain Lean: what one act more does to what a key has that adds up. By an AI agent. -/
import Derived.Test.YtgdlcoicejgdkaaDoorVer5
namespace Go.Proofs.YtgdlcoicejgdkaaDoor
open Go.RowKit

def kX : ByteArray := ⟨#[120]⟩
def kN : ByteArray := ⟨#[110]⟩
def kC : ByteArray := ⟨#[99]⟩
theorem kX_key : isKeyB kX = true := by decide +kernel
theorem kN_key : isKeyB kN = true := by decide +kernel
theorem kC_key : isKeyB kC = true := by decide +kernel
def vMax (f : Nat) : VerL := ⟨nilS, [], 0, 0, ⟨2, f, 0, nilS⟩⟩
def vMin (f : Nat) : VerL := ⟨nilS, [], 0, 0, ⟨3, f, 0, nilS⟩⟩
def vAdd (m : Int) : VerL := ⟨nilS, [], 0, 0, ⟨1, 0, m, nilS⟩⟩
theorem valueL_x (vs : List VerL) (f : Nat) : valueL kX (vs ++ [vMax f]) = ⟨true, if (valueL kX vs).there then rmax (valueL kX vs).x f else f, 0, nilS⟩ := by
  have hr : regB kX = false := by decide +kernel
  simp only [valueL, hr, Bool.false_eq_true, if_false, outL_snoc]
  exact after_max _ kX_key (by decide +kernel) f
theorem valueL_n (vs : List VerL) (f : Nat) : valueL kN (vs ++ [vMin f]) = ⟨true, if (valueL kN vs).there then rmin (valueL kN vs).x f else f, 0, nilS⟩ := by
  have hr : regB kN = false := by decide +kernel
  simp only [valueL, hr, Bool.false_eq_true, if_false, outL_snoc]
  exact after_min _ kN_key (by decide +kernel) f
theorem valueL_c (vs : List VerL) (m : Int) : valueL kC (vs ++ [vAdd m]) = ⟨true, 0, if (valueL kC vs).there then wrap64 ((valueL kC vs).n + m) else m, nilS⟩ := by
  have hr : regB kC = false := by decide +kernel
  simp only [valueL, hr, Bool.false_eq_true, if_false, outL_snoc]
  exact after_add _ kC_key (by decide +kernel) m
theorem valueL_num_ok {key : ByteArray} (hr : regB key = false) {vs : List VerL} (h : ∀ v ∈ vs, v.act.Ok) : (valueL key vs).Ok := by
  simp only [valueL, hr, Bool.false_eq_true, if_false]
  exact outL_ok h
/-- what the tests of OpGrows ask of the numbers -/
structure GrowF (f xx ax : Nat) (ab : Bool) (yx bx : Nat) (bb : Bool) : Prop where
  xa : ab = true → (FloatKind.f64.format.order xx ax == some .lt) = false
  yb : bb = true → (FloatKind.f64.format.order yx bx == some .gt) = false
  xf : (FloatKind.f64.format.order xx f == some .lt) = false
  x0 : ab = false → xx = f
  xo : xx < two64
theorem not_lt {x y : Nat} (hx : x < two64) (hy : y < two64) (h : fkey y ≤ fkey x) : (FloatKind.f64.format.order x y == some .lt) = false := by
  rw [Bool.eq_false_iff]
  intro e
  have := key_lt hx hy (eq_of_beq e)
  omega
theorem not_gt {x y : Nat} (hx : x < two64) (hy : y < two64) (h : fkey x ≤ fkey y) : (FloatKind.f64.format.order x y == some .gt) = false := by
  rw [Bool.eq_false_iff]
  intro e
  have := key_gt hx hy (eq_of_beq e)
  omega
theorem growF {f ax bx : Nat} (hf : f < two64) (ha : ax < two64) (hb : bx < two64) (ab bb : Bool) : GrowF f (if ab then rmax ax f else f) ax ab (if bb then rmin bx f else f) bx bb := by
  refine ⟨?_, ?_, ?_, ?_, ?_⟩
  · rintro rfl
    refine not_lt (rmax_lt' ha hf) ha ?_
    show fkey ax ≤ fkey (rmax ax f)
    rw [rmax_key']; omega
  · rintro rfl
    refine not_gt (rmin_lt hb hf) hb ?_
    show fkey (rmin bx f) ≤ fkey bx
    rw [rmin_key]; omega
  · cases ab
    · exact not_lt hf hf (Nat.le_refl _)
    · refine not_lt (rmax_lt' ha hf) hf ?_
      show fkey f ≤ fkey (rmax ax f)
      rw [rmax_key']; omega
  · rintro rfl; rfl
  · cases ab
    · exact hf
    · exact rmax_lt' ha hf
theorem value_agg (key : ByteArray) (a : Option Addr) (n ca : Nat) (vs : List VerL) (w : World) (b : Bool) (x : Nat) (m : Int) (z : ByteArray) (H : Hid (valueL key vs = ⟨b, x, m, z⟩)) (hkey : key.size ≤ 140737488351232) (hv : VA w a n vs) :
    Calls Tryd.prog 15 #[.string key, .slice a n ca] w fun e w' => e = .returned (.agg #[.bool b, .float .f64 x, .int .i64 m, .string z]) ∧ Bl w w' := by
  have h := value_any key a n ca vs w hkey hv
  rw [H.out] at h
  exact h
theorem ok_max {f : Nat} (hf : f < two64) : ActL.Ok ⟨2, f, 0, nilS⟩ := ⟨⟨by show (-9223372036854775808 : Int) ≤ 2; decide, by show (2 : Int) ≤ 9223372036854775807; decide⟩, hf, ⟨by show (-9223372036854775808 : Int) ≤ 0; decide, by show (0 : Int) ≤ 9223372036854775807; decide⟩, by show 0 ≤ 140737488351232; decide⟩
theorem ok_min {f : Nat} (hf : f < two64) : ActL.Ok ⟨3, f, 0, nilS⟩ := ⟨⟨by show (-9223372036854775808 : Int) ≤ 3; decide, by show (3 : Int) ≤ 9223372036854775807; decide⟩, hf, ⟨by show (-9223372036854775808 : Int) ≤ 0; decide, by show (0 : Int) ≤ 9223372036854775807; decide⟩, by show 0 ≤ 140737488351232; decide⟩
theorem ok_add {m : Int} (hm : -9223372036854775808 ≤ m ∧ m ≤ 9223372036854775807) : ActL.Ok ⟨1, 0, m, nilS⟩ := ⟨⟨by show (-9223372036854775808 : Int) ≤ 1; decide, by show (1 : Int) ≤ 9223372036854775807; decide⟩, (by show 0 < two64; decide), hm, by show 0 ≤ 140737488351232; decide⟩
theorem ok_val {f : Nat} (hf : f < two64) (b : Bool) : ValL.Ok ⟨b, f, 0, nilS⟩ := ⟨hf, ⟨by show (-9223372036854775808 : Int) ≤ 0; decide, by show (0 : Int) ≤ 9223372036854775807; decide⟩, by show 0 ≤ 140737488351232; decide⟩
end Go.Proofs.YtgdlcoicejgdkaaDoor
