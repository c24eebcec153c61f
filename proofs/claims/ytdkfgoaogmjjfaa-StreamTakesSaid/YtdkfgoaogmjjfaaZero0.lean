/- noughts. By an AI agent. -/
import Derived.Test.YtdkfgoaogmjjfaaVecP
namespace Go.Proofs.Ytdkfgoaogmjjfaa
def zeroI (i : Int) : List Int := if 1 ≤ i ∧ i ≤ 8 then List.replicate i.toNat 0 else []
/-- noughts -/
def zeroL (n : Nat) : List Int := List.replicate n 0
theorem putL_small {xs : List Int} (h : validL xs = true) : (putL xs).length ≤ 49 := by
  have := (valid_parts h).2.1
  rw [putL_len]; omega
end Go.Proofs.Ytdkfgoaogmjjfaa
