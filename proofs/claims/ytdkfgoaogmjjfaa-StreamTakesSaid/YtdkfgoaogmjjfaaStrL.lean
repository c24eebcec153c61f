/- strings of bytes; strings.Clone. By an AI agent. -/
import Derived.Test.YtdkfgoaogmjjfaaSum
import Derived.Test.YtdkfgoaogmjjfaaRawPG
set_option linter.unusedVariables false
set_option linter.unusedSimpArgs false
namespace Go.Proofs.Ytdkfgoaogmjjfaa
open Go.RowKit

theorem cloneB_any (s : ByteArray) (w : World) (hs : s.size ≤ 140737488351232) : Calls Try.prog 119 #[.string s] w fun e w' => e = .returned (.string s) ∧ Bl w w' := by
  go_enter Try.func119, Try.ntmps119
  go_wp2_with fail
  refine (Try.stringslite_Clone s _ (by omega)).mono ?_
  rintro e w' ⟨rfl, hb⟩
  go_wp2_with fail
  go_ret
  exact ⟨rfl, hb⟩
/-- the string of these bytes -/
def strL (l : List UInt8) : ByteArray := ⟨l.toArray⟩
theorem strL_SB (l : List UInt8) : SB (strL l) l := rfl
theorem strL_size (l : List UInt8) : (strL l).size = l.length := (strL_SB l).size
theorem strL_of {s : ByteArray} {l : List UInt8} (h : SB s l) : s = strL l := SB.eq h (strL_SB l)
theorem strL_app (l m : List UInt8) : strL l ++ strL m = strL (l ++ m) := SB.eq ((strL_SB l).append (strL_SB m)) (strL_SB _)
theorem strL_nums (x : Int) (n : Nat) : strOfNums (putN x n n) = strL (numB x n) := SB.eq (strOfNums_list _) (strL_SB _)
theorem strL_ext (l : List UInt8) (a b : Nat) : (strL l).extract a b = strL ((l.drop a).take (b - a)) := by
  refine strL_of ?_
  rw [SB, Lib.extract_data, strL_SB]
theorem strL_take (l : List UInt8) (n : Nat) : (strL l).extract 0 n = strL (l.take n) := by
  rw [strL_ext, List.drop_zero, Nat.sub_zero]
theorem strL_drop (l : List UInt8) (n : Nat) : (strL l).extract n (strL l).size = strL (l.drop n) := by
  rw [strL_ext, strL_size, List.take_of_length_le (by rw [List.length_drop]; omega)]
theorem getL_any (l : List UInt8) (w : World) (h1 : 1 ≤ l.length) (h7 : l.length ≤ 7) :
    Calls Try.prog 143 #[.string (strL l)] w fun e w' => e = .returned (.tuple #[.int .i64 (getN l), .int .i64 0]) ∧ w = w' :=
  get_any (strL l) w (by rw [strL_size]; exact h1) (by rw [strL_size]; exact h7)
theorem strL_data (s : ByteArray) : strL s.data.toList = s := by unfold strL; simp
end Go.Proofs.Ytdkfgoaogmjjfaa
