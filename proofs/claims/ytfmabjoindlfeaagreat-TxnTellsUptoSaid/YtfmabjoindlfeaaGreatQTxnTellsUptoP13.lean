import Derived.Test.YtfmabjoindlfeaaGreatQTxnTellsUptoP12
import Derived.Deep.AppendSrc
import Derived.Maps.OwnRows

/- Slices of versions that a call makes: append(nil, l...) and append(.., v). By an AI agent. -/
section
namespace Go.Proofs.YtfmabjoindlfeaaGreat
open Go.RowKit




theorem AC.grown {w w' : World} {g : Nat} {cs : List Value} {row : Option Nat} (h : AC w g cs) (hg : w.grownBy w' row) (hne : some g ≠ row) : AC w' g cs := by
  obtain ⟨t, h⟩ := h
  exact ⟨t, by rw [hg.block g (lt_of_heap h) hne]; exact h⟩

section
variable {ops : Array Oper}
end
end Go.Proofs.YtfmabjoindlfeaaGreat
end

/- More of slices of versions that a call makes: one version ahead of an argument's. By an AI agent. -/
section
namespace Go.Proofs.YtfmabjoindlfeaaGreat
open Go.RowKit

theorem IA.one {W : World} {g : Nat} {x : Int} (h : AC W g [.int .i64 x]) (hx : -9223372036854775808 ≤ x ∧ x ≤ 9223372036854775807) : IA W (some ⟨g, 0, none⟩) 1 [x] :=
  ⟨rfl, by decide, fun j hj => ⟨g, 0, rfl, fun j hj => by
    obtain rfl : j = 0 := by omega
    exact h.cell 0 _ rfl⟩, fun y hy => by simp at hy; subst hy; exact hx⟩

section
variable {ops : Array Oper}
end
end Go.Proofs.YtfmabjoindlfeaaGreat
end

/- The cells of versions as lists: what an own slice reads as, piece by piece. By an AI agent. -/
section
namespace Go.Proofs.YtfmabjoindlfeaaGreat
open Go.RowKit

/-- eight cells that read as a version -/
def CV1 (w : World) (v : VerL) (c : List Value) : Prop := ∃ a n ca, c = [.string v.key, .slice a n ca, .int .i64 v.origin, .int .i64 v.tx, .int .i64 v.act.k, .float .f64 v.act.x, .int .i64 v.act.n, .string v.act.s] ∧ IA w a n v.at_ ∧ v.act.Ok
theorem CV1.len {w : World} {v : VerL} {c : List Value} (h : CV1 w v c) : c.length = 8 := by obtain ⟨a, n, ca, rfl, _⟩ := h; rfl
theorem CV1.keep {w w' : World} {v : VerL} {c : List Value} (h : CV1 w v c) (hb : Bl w w') : CV1 w' v c := by
  obtain ⟨a, n, ca, e, hI, ok⟩ := h
  exact ⟨a, n, ca, e, hI.keep hb, ok⟩
theorem CV1.one {w : World} {v : VerL} {c : List Value} (h : CV1 w v c) : ∀ u ∈ c, u.oneCell' = true := by
  obtain ⟨a, n, ca, rfl, _⟩ := h
  simp [Value.oneCell']
theorem VE.of {w : World} {b off : Nat} {v : VerL} {c : List Value} (h : CV1 w v c) (hc : ∀ r, r < 8 → w.cell? ⟨b, off + r, none⟩ = c[r]?) : VE w b off v := by
  obtain ⟨a, n, ca, rfl, hI, ok⟩ := h
  exact ⟨hc 0 (by decide), ⟨a, n, ca, hc 1 (by decide), hI⟩, hc 2 (by decide), hc 3 (by decide), hc 4 (by decide), hc 5 (by decide), hc 6 (by decide), hc 7 (by decide), ok⟩
section
variable {ops : Array Oper}
end
end Go.Proofs.YtfmabjoindlfeaaGreat
end
