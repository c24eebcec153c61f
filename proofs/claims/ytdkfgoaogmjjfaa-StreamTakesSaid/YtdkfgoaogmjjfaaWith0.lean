/- a list with another number at a place. By an AI agent. -/
import Derived.Test.YtdkfgoaogmjjfaaBase
set_option linter.unusedVariables false
set_option linter.unusedSimpArgs false
namespace Go.Proofs.Ytdkfgoaogmjjfaa
open Go.RowKit

/-- a list with another number at a place -/
def withL (xs : List Int) (i t : Int) : List Int := if 0 ≤ i then xs.set i.toNat t else xs

theorem withL_len (xs : List Int) (i t : Int) : (withL xs i t).length = xs.length := by unfold withL; split <;> simp
theorem withL_nth (xs : List Int) (i t : Int) (j : Nat) (hj : j < xs.length) : nth (withL xs i t) j = if (j : Int) = i then t else nth xs j := by
  unfold withL
  split
  · rename_i h0
    rw [nth_eq (by simpa using hj), nth_eq hj, List.getElem_set]
    split <;> split <;> first | rfl | omega
  · rw [if_neg (by omega)]

theorem withL_wf {xs : List Int} {i t : Int} (hx : ∀ x ∈ xs, -9223372036854775808 ≤ x ∧ x ≤ 9223372036854775807) (ht : -9223372036854775808 ≤ t ∧ t ≤ 9223372036854775807) : ∀ x ∈ withL xs i t, -9223372036854775808 ≤ x ∧ x ≤ 9223372036854775807 := by
  intro x h
  unfold withL at h
  split at h
  · rcases List.mem_or_eq_of_mem_set h with h | h
    · exact hx x h
    · rw [h]; exact ht
  · exact hx x h
end Go.Proofs.Ytdkfgoaogmjjfaa
