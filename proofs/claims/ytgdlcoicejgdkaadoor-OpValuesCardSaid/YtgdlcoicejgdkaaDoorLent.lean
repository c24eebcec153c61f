/- bedrockbook: StaysVec. By an AI agent. -/
import Derived.Test.YtgdlcoicejgdkaaDoorRSame
namespace Go.Proofs.YtgdlcoicejgdkaaDoor
open Go.RowKit

/-- a marked vector: behind its end stands -77 -/
structure MV (w : World) (g n cap : Nat) (xs : List Int) : Prop where
  ia : IA w (some ⟨g, 0, none⟩) n xs
  mark : w.cell? ⟨g, n, none⟩ = some (.int .i64 (-77))
  room : n + 1 ≤ cap
theorem MV.keep {w w' : World} {g n cap : Nat} {xs : List Int} (h : MV w g n cap xs) (hb : Bl w w') : MV w' g n cap xs := ⟨h.ia.keep hb, hb.cell h.mark, h.room⟩
set_option maxRecDepth 100000 in
theorem staysVec_yes (g n cap : Nat) (b : Option Addr) (m cb : Nat) (xs : List Int) (w : World) (hm : MV w g n cap xs) (hy : IA w b m xs) :
    Calls Tryd.prog 67 #[.slice (some ⟨g, 0, none⟩) n cap, .slice b m cb] w fun e w' => e = .returned (.bool true) ∧ Bl w w' := by
  have hcap := hm.ia.cap
  have hroom := hm.room
  go_enter Tryd.func67, Tryd.ntmps67
  go_wp2_with fail
  refine (rsame_any (some ⟨g, 0, none⟩) b n m cap cb xs xs _ hm.ia hy).mono ?_
  rintro e w1 ⟨rfl, hb1⟩
  rw [decide_eq_true (rfl : xs = xs)]
  have hk := (hm.keep hb1).mark
  go_wp2_with fail
  go_ret
  exact ⟨rfl, hb1⟩
end Go.Proofs.YtgdlcoicejgdkaaDoor
