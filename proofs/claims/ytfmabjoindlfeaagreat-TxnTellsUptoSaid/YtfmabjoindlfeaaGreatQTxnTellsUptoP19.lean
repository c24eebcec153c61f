import Derived.Test.YtfmabjoindlfeaaGreatQTxnTellsUptoP9
import Derived.Test.YtfmabjoindlfeaaGreatQTxnTellsUptoP2
import Derived.Test.YtfmabjoindlfeaaGreatQTxnTellsUptoP18
import Derived.Test.YtfmabjoindlfeaaGreatQTxnTellsUptoP8

/- worlds that agree below a block. By an AI agent. -/
section
set_option linter.unusedVariables false
set_option linter.unusedSimpArgs false
namespace Go.Proofs.YtfmabjoindlfeaaGreat
open Go.RowKit

theorem AC.below {B : Nat} {w w' : World} {g : Nat} {cs : List Value} (h : AC w g cs) (hb : Below B w w') (hg : g < B) : AC w' g cs := by
  obtain ⟨t, h⟩ := h
  exact ⟨t, by rw [hb.block g hg]; exact h⟩
theorem C1.below {B : Nat} {w w' : World} {g : Nat} {v : Value} (h : C1 w g v) (hb : Below B w w') (hg : g < B) : C1 w' g v := by
  obtain ⟨t, h⟩ := h
  exact ⟨t, by rw [hb.block g hg]; exact h⟩
theorem IA.below {B : Nat} {w w' : World} {a : Option Addr} {n : Nat} {xs : List Int} (h : IA w a n xs) (hb : Below B w w') (hg : ∀ b off, a = some ⟨b, off, none⟩ → n = 0 ∨ b < B) : IA w' a n xs := by
  refine ⟨h.len, h.cap, fun i hi => ?_, h.wf⟩
  obtain ⟨b, off, e, hc⟩ := h.cells i hi
  refine ⟨b, off, e, fun i hi => ?_⟩
  have hB : b < B := by
    have := hg b off e
    omega
  rw [← hc i hi]
  unfold World.cell?
  rw [hb.block b hB]
end Go.Proofs.YtfmabjoindlfeaaGreat
end

/- what is the same, part by part. By an AI agent. -/
section
set_option linter.unusedVariables false
namespace Go.Proofs.YtfmabjoindlfeaaGreat
open Go.RowKit

theorem size_nil (s : ByteArray) : s.data.toList.length = s.size := by simp
theorem toList_inj {s t : ByteArray} (h : s.toList = t.toList) : s = t := by
  rw [ByteArray.toList_eq, ByteArray.toList_eq] at h
  exact ByteArray.ext (Array.toList_inj.1 h)
theorem sameA_parts {a b : ActL} (h : sameA a b = true) : a.k = b.k ∧ fkey a.x = fkey b.x ∧ a.n = b.n ∧ a.s = b.s := by
  simp only [sameA, Bool.and_eq_true, decide_eq_true_eq, beq_iff_eq] at h
  exact ⟨h.1, h.2.1, h.2.2.1, toList_inj h.2.2.2⟩
end Go.Proofs.YtfmabjoindlfeaaGreat
end

/- the one word of what is no number. By an AI agent. -/
section
namespace Go.Proofs.YtfmabjoindlfeaaGreat
open Go.RowKit

def nanW : Nat := 9221120237041090561
def canon (x : Nat) : Nat := if nanB x then nanW else x
theorem canon_key (x : Nat) : fkey (canon x) = fkey x := by
  cases h : nanB x
  · have : canon x = x := by unfold canon; rw [h]; rfl
    rw [this]
  · have : canon x = nanW := by unfold canon; rw [h]; rfl
    have h2 : fkey x = 0 := by unfold fkey; rw [h]; rfl
    rw [this, h2]
    decide +kernel
end Go.Proofs.YtfmabjoindlfeaaGreat
end
