import Derived.Test.YtibabgokmacnaaaGreatQVecTellsUptoP9
import Derived.Test.YtibabgokmacnaaaGreatQVecTellsUptoP3

/- vec.Zero: what it makes; the bytes of a vector are few. By an AI agent. -/
section
namespace Go.Proofs.YtibabgokmacnaaaGreat
open Go.RowKit

theorem info_vec : (Tryz.prog.info? 23).map (fun i => (i.zero, i.size, i.bytes)) = some (some (.slice none 0 0), 1, 24) := by kernel_rfl


set_option maxHeartbeats 400000 in
set_option maxRecDepth 100000 in
theorem zero_yes (n : Nat) (w : World) (h1 : 1 ≤ n) (h8 : n ≤ 8) :
    Calls Tryz.prog 12 #[.int .i64 n] w fun e w' => ∃ v, e = .returned v ∧ FI w.heap.size w' v (zeroL n) ∧ Bl w w' := by
  obtain ⟨i0, hi, hz0, hz1, hz2⟩ := info_parts info_int
  go_enter Tryz.func12, Tryz.ntmps12
  go_wp2_with (at_make; refine wpList_make_full _ rfl _ _ 23 rfl w.heap.size 3 i0 (.int .i64 0) 1 Tryz.underlying23 hi hz0 hz1 .i64 .i64 _ _ n rfl rfl rfl rfl ?b1 ?b2 ?b3 ?_)
  case b1 => rw [hz2]; omega
  case b2 => unfold maxLen; omega
  case b3 => exact Nat.le_refl _
  intro w1 hown hgrow
  have hb : Bl w w1 := Below.grown (Bl.refl w) hgrow (Nat.le_refl _) (by simp)
  have hob : OI w.heap.size w1 (.slice (some ⟨w.heap.size, 0, none⟩) n n) (zeroL n) := by
    have e : (madeCells #[Value.int .i64 0] n).toList = List.map (Value.int .i64) (List.replicate n 0) := by
      rw [List.map_replicate]
      exact toList_madeCells_one _ _
    rw [e] at hown
    rw [OI, zeroL, List.length_replicate]
    exact hown
  clear hown hgrow
  go_wp2_with fail
  go_ret
  refine ⟨_, rfl, ⟨hob, by simp [zeroL]; omega, fun x hx => ?_⟩, hb⟩
  simp [zeroL] at hx; omega
end Go.Proofs.YtibabgokmacnaaaGreat
end

/- vec.Zero of any number. By an AI agent. -/
section
set_option linter.unusedVariables false
set_option linter.unusedSimpArgs false
namespace Go.Proofs.YtibabgokmacnaaaGreat
open Go.RowKit

theorem zero_any (i : Int) (w : World) (h0 : -9223372036854775808 ≤ i) (h1 : i ≤ 9223372036854775807) :
    Calls Tryz.prog 12 #[.int .i64 i] w fun e w' => ∃ v, e = .returned v ∧ FI w.heap.size w' v (zeroI i) ∧ Bl w w' := by
  by_cases h : 1 ≤ i ∧ i ≤ 8
  · obtain ⟨n, rfl⟩ := Int.eq_ofNat_of_zero_le (show 0 ≤ i by omega)
    have e : zeroI (n : Int) = zeroL n := by unfold zeroI zeroL; rw [if_pos h]; rfl
    rw [e]
    exact zero_yes n w (by omega) (by omega)
  · have e : zeroI i = [] := by unfold zeroI; rw [if_neg h]
    rw [e]
    have hs : ∀ W : World, FI w.heap.size W (.slice none 0 0) [] := fun W => FI.nil _ _
    by_cases h2 : i < 1
    · clear h e
      go_enter Tryz.func12, Tryz.ntmps12
      go_wp2_with fail
      go_ret
      exact ⟨_, rfl, hs _, Bl.refl _⟩
    · have h3 : 8 < i := by omega
      clear h e
      go_enter Tryz.func12, Tryz.ntmps12
      go_wp2_with fail
      go_ret
      exact ⟨_, rfl, hs _, Bl.refl _⟩
end Go.Proofs.YtibabgokmacnaaaGreat
end
