/- the one word of what is no number. By an AI agent. -/
import Derived.Test.YtdkfgoaogmjjfaaReal3
namespace Go.Proofs.Ytdkfgoaogmjjfaa
open Go.RowKit

def nanW : Nat := 9221120237041090561
def canon (x : Nat) : Nat := if nanB x then nanW else x
theorem canon_key (x : Nat) : fkey (canon x) = fkey x := by
  cases h : nanB x
  · have : canon x = x := by unfold canon; rw [h]; rfl
    rw [this]
  · have : canon x = nanW := by unfold canon; rw [h]; rfl
    have h2 : fkey x = 0 := by unfold fkey; rw [h]; rfl
    rw [this, h2]
    decide +kernel
end Go.Proofs.Ytdkfgoaogmjjfaa
