/- contracts of the package op with structs taken apart. By an AI agent. -/
import Derived.Test.YtechiehbigmjbaaOp4
import Derived.Test.YtechiehbigmjbaaOp6
namespace Go.Proofs.Ytechiehbigmjbaa
open Go.RowKit

theorem after_agg (key : ByteArray) (vb : Bool) (vx : Nat) (vn : Int) (vs : ByteArray) (k : Int) (x : Nat) (n : Int) (s : ByteArray) (rb : Bool) (rx : Nat) (rn : Int) (rs : ByteArray) (w : World)
    (h : Hid (afterL key ⟨vb, vx, vn, vs⟩ ⟨k, x, n, s⟩ = ⟨rb, rx, rn, rs⟩)) (hkey : key.size ≤ 140737488351232) (ov : Hid (ValL.Ok ⟨vb, vx, vn, vs⟩)) (oa : Hid (ActL.Ok ⟨k, x, n, s⟩)) :
    Calls Try.prog 49 #[.string key, .agg #[.bool vb, .float .f64 vx, .int .i64 vn, .string vs], .agg #[.int .i64 k, .float .f64 x, .int .i64 n, .string s]] w fun e w' => e = .returned (.agg #[.bool rb, .float .f64 rx, .int .i64 rn, .string rs]) ∧ Bl w w' := by
  refine (after_any key ⟨vb, vx, vn, vs⟩ ⟨k, x, n, s⟩ w hkey ov.out oa.out).mono ?_
  rintro e w' ⟨rfl, hb⟩
  rw [h.out]
  exact ⟨rfl, hb⟩
theorem same_agg (vb : Bool) (vx : Nat) (vn : Int) (vs : ByteArray) (rb : Bool) (rx : Nat) (rn : Int) (rs : ByteArray) (r : Bool) (w : World)
    (h : Hid (sameV ⟨vb, vx, vn, vs⟩ ⟨rb, rx, rn, rs⟩ = r)) (ov : Hid (ValL.Ok ⟨vb, vx, vn, vs⟩)) (oa : Hid (ValL.Ok ⟨rb, rx, rn, rs⟩)) :
    Calls Try.prog 48 #[.agg #[.bool vb, .float .f64 vx, .int .i64 vn, .string vs], .agg #[.bool rb, .float .f64 rx, .int .i64 rn, .string rs]] w fun e w' => e = .returned (.bool r) ∧ Bl w w' := by
  refine (sameV_any ⟨vb, vx, vn, vs⟩ ⟨rb, rx, rn, rs⟩ w ov.out oa.out).mono ?_
  rintro e w' ⟨rfl, hb⟩
  rw [h.out]
  exact ⟨rfl, hb⟩
theorem fits_agg (key : ByteArray) (k : Int) (x : Nat) (n : Int) (s : ByteArray) (r : Bool) (w : World)
    (h : Hid (fitsB key ⟨k, x, n, s⟩ = r)) (hkey : key.size ≤ 140737488351232) (oa : Hid (ActL.Ok ⟨k, x, n, s⟩)) :
    Calls Try.prog 46 #[.string key, .agg #[.int .i64 k, .float .f64 x, .int .i64 n, .string s]] w fun e w' => e = .returned (.bool r) ∧ Bl w w' := by
  refine (fits_any key ⟨k, x, n, s⟩ w hkey oa.out).mono ?_
  rintro e w' ⟨rfl, hb⟩
  rw [h.out]
  exact ⟨rfl, hb⟩
end Go.Proofs.Ytechiehbigmjbaa
