/- A vector's bytes tell the vector. Plain facts. By an AI agent. -/
import Derived.Test.YtpfpefapdcdkeaaVec3
import Derived.Test.YtpfpefapdcdkeaaGet2
namespace Go.Proofs.Ytpfpefapdcdkeaa
open Go.RowKit

set_option maxRecDepth 100000 in
theorem getN_put6 (x : Int) (h0 : 0 ≤ x) (h1 : x < 281474976710656) : getN (bytesN (putN x 6 6)) = x := by
  have e : putN x 6 6 = [x / 1099511627776 % 256, x / 4294967296 % 256, x / 16777216 % 256, x / 65536 % 256, x / 256 % 256, x % 256] := by
    simp [putN, byteAt, List.range, List.range.loop]
  rw [e]
  simp only [bytesN, List.map_cons, List.map_nil, getN, List.foldl_cons, List.foldl_nil]
  have hb : ∀ y : Int, ((UInt8.ofNat (y % 256).toNat).toNat : Int) = y % 256 := by
    intro y
    simp; omega
  simp only [hb]
  omega

theorem putBodyL_cons (x : Int) (xs : List Int) : putBodyL (x :: xs) = bytesN (putN x 6 6) ++ putBodyL xs := by simp [putBodyL]
theorem len6 (x : Int) : (bytesN (putN x 6 6)).length = 6 := by rw [bytesN_len, putN_len]
theorem body_drop (xs : List Int) (more : List UInt8) (j : Nat) (hj : j ≤ xs.length) : (putBodyL xs ++ more).drop (6 * j) = putBodyL (xs.drop j) ++ more := by
  induction j generalizing xs with
  | zero => simp
  | succ j ih =>
    cases xs with
    | nil => simp at hj
    | cons x xs =>
      rw [putBodyL_cons, List.append_assoc, show 6 * (j + 1) = 6 + 6 * j by omega, ← List.drop_drop, List.drop_left' (len6 x), ih xs (by simpa using hj)]
      simp
theorem vals_put (xs : List Int) (more : List UInt8) (hw : ∀ j, j < xs.length → 0 ≤ nth xs j ∧ nth xs j < 281474976710656) : valsL xs.length (putBodyL xs ++ more) = xs := by
  refine getD_ext (valsL_len _ _) fun j hj => ?_
  rw [valsL_len] at hj
  have h1 : nth (valsL xs.length (putBodyL xs ++ more)) j = getN (((putBodyL xs ++ more).drop (6 * j)).take 6) := by
    rw [nth_eq (by rw [valsL_len]; exact hj)]; simp [valsL]
  rw [h1, body_drop xs more j (by omega), List.drop_eq_getElem_cons hj, putBodyL_cons, List.append_assoc, List.take_left' (len6 _), ← nth_eq hj]
  have := hw j hj
  exact getN_put6 _ this.1 this.2
theorem put_head (xs : List Int) (more : List UInt8) (h : xs.length ≤ 8) : (putL xs ++ more).head?.map (·.toNat) = some xs.length := by
  simp [putL]; omega
theorem putL_len (xs : List Int) : (putL xs).length = 1 + 6 * xs.length := by
  rw [putL, List.length_cons, putBodyL_len]; omega
theorem putL_drop (xs : List Int) (more : List UInt8) : (putL xs ++ more).drop 1 = putBodyL xs ++ more := by simp [putL]
theorem putL_inj {xs ys : List Int} (hx : validL xs = true) (hy : validL ys = true) (h : putL xs = putL ys) : xs = ys := by
  have vx := valid_parts hx
  have vy := valid_parts hy
  have hl := congrArg List.length h
  rw [putL_len, putL_len] at hl
  have h2 : putBodyL xs = putBodyL ys := (List.cons.inj h).2
  have e1 := vals_put xs [] vx.2.2
  have e2 := vals_put ys [] vy.2.2
  rw [List.append_nil] at e1 e2
  rw [← e1, ← e2, h2, show xs.length = ys.length by omega]
end Go.Proofs.Ytpfpefapdcdkeaa
