import Derived.Test.YtibabgokmacnaaaGreatQGossipPlaysUptoP3
import Derived.Test.YtibabgokmacnaaaGreatQGossipPlaysUptoP9

/- noughts. By an AI agent. -/
section
namespace Go.Proofs.YtibabgokmacnaaaGreat
def zeroI (i : Int) : List Int := if 1 ≤ i ∧ i ≤ 8 then List.replicate i.toNat 0 else []
/-- noughts -/
def zeroL (n : Nat) : List Int := List.replicate n 0
theorem putL_small {xs : List Int} (h : validL xs = true) : (putL xs).length ≤ 49 := by
  have := (valid_parts h).2.1
  rw [putL_len]; omega
end Go.Proofs.YtibabgokmacnaaaGreat
end

/- vec.Zero: what it makes; the bytes of a vector are few. By an AI agent. -/
section
namespace Go.Proofs.YtibabgokmacnaaaGreat
open Go.RowKit

theorem info_vec : (Tryz.prog.info? 23).map (fun i => (i.zero, i.size, i.bytes)) = some (some (.slice none 0 0), 1, 24) := by kernel_rfl


set_option maxHeartbeats 400000 in
set_option maxRecDepth 100000 in
theorem zero_yes (n : Nat) (w : World) (h1 : 1 ≤ n) (h8 : n ≤ 8) :
    Calls Tryz.prog 12 #[.int .i64 n] w fun e w' => ∃ v, e = .returned v ∧ FI w.heap.size w' v (zeroL n) ∧ Bl w w' := by
  obtain ⟨i0, hi, hz0, hz1, hz2⟩ := info_parts info_int
  go_enter Tryz.func12, Tryz.ntmps12
  go_wp2_with (at_make; refine wpList_make_full _ rfl _ _ 23 rfl w.heap.size 3 i0 (.int .i64 0) 1 Tryz.underlying23 hi hz0 hz1 .i64 .i64 _ _ n rfl rfl rfl rfl ?b1 ?b2 ?b3 ?_)
  case b1 => rw [hz2]; omega
  case b2 => unfold maxLen; omega
  case b3 => exact Nat.le_refl _
  intro w1 hown hgrow
  have hb : Bl w w1 := Below.grown (Bl.refl w) hgrow (Nat.le_refl _) (by simp)
  have hob : OI w.heap.size w1 (.slice (some ⟨w.heap.size, 0, none⟩) n n) (zeroL n) := by
    have e : (madeCells #[Value.int .i64 0] n).toList = List.map (Value.int .i64) (List.replicate n 0) := by
      rw [List.map_replicate]
      exact toList_madeCells_one _ _
    rw [e] at hown
    rw [OI, zeroL, List.length_replicate]
    exact hown
  clear hown hgrow
  go_wp2_with fail
  go_ret
  refine ⟨_, rfl, ⟨hob, by simp [zeroL]; omega, fun x hx => ?_⟩, hb⟩
  simp [zeroL] at hx; omega
end Go.Proofs.YtibabgokmacnaaaGreat
end
