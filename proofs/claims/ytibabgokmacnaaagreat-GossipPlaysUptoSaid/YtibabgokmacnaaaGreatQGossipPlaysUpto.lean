import Derived.Test.YtibabgokmacnaaaGreatQGossipPlaysUptoP46
import Derived.Test.YtibabgokmacnaaaGreatQGossipPlaysUptoP47
import Derived.Test.YtibabgokmacnaaaGreatQGossipPlaysUptoP48

/- GossipPlays: for every input, in whatever memory, of bulk at most 1048576: the law's function returns true, and its arguments read as they did. The condition is the given one on bulk. By an AI agent. -/
section
namespace Go.Proofs.YtibabgokmacnaaaGreat
open Go.ChangeShapes Go.WideShapes Go.ChangeAt Go.RowKit

set_option maxRecDepth 100000 in
theorem gossipPlays_uptoLifted (os : Os) (started : os.Started) (H : Type) (enc : TypeId × Value → H) (F : Stop.Interp) :
    ReturnsInHanded {} Tryz.checked os 4 .any ((Rows.OpenSpec.upto Rows.gossipPlaysSpec).pre6 enc Tryz.prog Tryz.f4 Rows.gossipPlaysUptoRow.domain false) (((Rows.OpenSpec.upto Rows.gossipPlaysSpec).at F).post enc Tryz.prog Tryz.f4 false true false false) := by
  refine returnsInHanded_of_cond_sized (C := Tryz.checked) (s := Rows.OpenSpec.upto Rows.gossipPlaysSpec) (k := Rows.uptoSmall) rfl own started (by kernel_rfl) Tryz.func4
    (OpenSpec.witness (enc := enc) (C := Tryz.checked) (s := Rows.OpenSpec.upto Rows.gossipPlaysSpec) (k := Rows.uptoSmall) rfl false ⟨#[], #[.int .i64 0, .slice none 0 0], []⟩ 8 (by kernel_rfl) (by kernel_rfl) (by kernel_rfl)
      (x := ([.lit (.int .i64 0), .nil], [], [])) (by kernel_rfl) rfl (by kernel_rfl)) ?_
  intro W base args ds gs before hval0 hW _ hk hsz0 _
  have hsz : (DataW.weightsEach Tryz.prog (Tryz.f4.params.toList ++ Rows.gossipPlaysSpec.plain.varTypes Tryz.prog) (ds ++ gs)).all (· ≤ reachBytes) = true := hsz0
  clear hsz0
  have hval : ∀ (j : Nat) t v, Tryz.f4.params[j]? = some t → args[j]? = some v → Value.okWide Tryz.prog W .any base t v := hval0
  have hW' := hW
  obtain ⟨p, q, hA0, hV, rfl, _, _⟩ := hW
  have hA : DataW.TrodAll enc Tryz.prog W 0 (fun _ => true) true Tryz.f4.params.toList args.toList ds p := hA0
  rw [Tryz.params4] at hA hval hsz
  obtain ⟨v0, vs0, d0, ds0, p0, q0, hargs, rfl, rfl, h0, r0⟩ := trodAll_cons hA
  obtain ⟨v1, vs1, d1, ds1, p1, q1, rfl, rfl, rfl, h1, r1⟩ := trodAll_cons r0
  obtain ⟨rfl, rfl, rfl⟩ := trodAll_nil r1
  obtain rfl : args = #[v0, v1] := by cases args; simp_all
  obtain ⟨x0, rfl, rfl, rfl, i0⟩ := open_int Tryz.underlying3 (hval 0 3 v0 rfl rfl) h0
  obtain ⟨a1, n1, c1, ops1, rfl, i1⟩ := open_ops3 (hval 1 56 v1 rfl rfl) h1 (wt_arg hsz (j := 1) rfl rfl)
  exact law_post (f := 4) (by rfl) rfl (of_decide_eq_true (by kernel_rfl)) (fun ds hl => by
    rw [Tryz.params4] at hl
    match ds, hl with
    | [d0, d1], _ => rfl) hW' (gossipPlays_walk x0 a1 n1 c1 ops1 W (bounds_i64 i0) i1)

theorem gossipPlays_upto : Rows.GossipPlaysUptoSaid :=
  OpenClaim.holds_of_cond 4 Tryz.f4 rfl rfl rfl rfl rfl rfl rfl ⟨rfl, rfl, rfl, rfl, rfl⟩ rfl rfl rfl rfl rfl (by kernel_rfl) Tryz.func4 (by kernel_rfl)
    (of_decide_eq_true (by kernel_rfl)) (by unfold Func.isWrapper; first | (rw [if_pos (by decide +kernel)]; kernel_rfl) | (rw [if_neg (by decide +kernel)]; exact ⟨rfl, rfl⟩))
    (fun os started H enc _ F => gossipPlays_uptoLifted os started H enc F)
#print axioms gossipPlays_upto
end Go.Proofs.YtibabgokmacnaaaGreat
end
