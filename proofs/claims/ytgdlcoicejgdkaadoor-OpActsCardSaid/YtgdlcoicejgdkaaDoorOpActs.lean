/- OpActs: for every input, in whatever memory, where math/bits.deBruijn64tab holds what the program's text lays in it: the law's function returns true, and its arguments read as they did. The condition is the given card's own. By an AI agent. -/
import Derived.Test.YtgdlcoicejgdkaaDoorActsX
import Derived.Test.YtgdlcoicejgdkaaDoorLiftT
namespace Go.Proofs.YtgdlcoicejgdkaaDoor
open Go.ChangeShapes Go.WideShapes Go.ChangeAt Go.RowKit

set_option maxRecDepth 100000 in
theorem opActs_contract (H : Type) (enc : TypeId × Value → H) (W : World) (base : Nat) (args : Array Value) (ds gs : List (DataW H)) (before : List MemPlace)
    (hval : ∀ (j : Nat) t v, Tryd.f10.params[j]? = some t → args[j]? = some v → Value.okWide Tryd.prog W .any base t v)
    (hW : DataW.Whole enc Tryd.prog Tryd.f10.params.toList Rows.opActsSpec.vars false W args.toList ds gs before) (hL : laidMetH Tryd.prog Rows.opActsRow.laid W)
    (hsz : (DataW.weightsEach Tryd.prog (Tryd.f10.params.toList ++ Rows.opActsSpec.plain.varTypes Tryd.prog) (ds ++ gs)).all (· ≤ reachBytes) = true) :
    Calls Tryd.prog 10 args W fun e W' => ∃ v, e = .returned v ∧ Rows.opActsSpec.post enc Tryd.prog Tryd.f10 false true false false W args v W' := by
  have hTab : Tab W := tab_of_laid hL
  have hW' := hW
  obtain ⟨p, q, hA0, hV, rfl, _, _⟩ := hW
  have hA : DataW.TrodAll enc Tryd.prog W 0 (fun _ => true) true Tryd.f10.params.toList args.toList ds p := hA0
  rw [Tryd.params10] at hA hval hsz
  obtain ⟨v0, vs0, d0, ds0, p0, q0, hargs, rfl, rfl, h0, r0⟩ := trodAll_cons hA
  obtain ⟨v1, vs1, d1, ds1, p1, q1, rfl, rfl, rfl, h1, r1⟩ := trodAll_cons r0
  obtain ⟨v2, vs2, d2, ds2, p2, q2, rfl, rfl, rfl, h2, r2⟩ := trodAll_cons r1
  obtain ⟨v3, vs3, d3, ds3, p3, q3, rfl, rfl, rfl, h3, r3⟩ := trodAll_cons r2
  obtain ⟨v4, vs4, d4, ds4, p4, q4, rfl, rfl, rfl, h4, r4⟩ := trodAll_cons r3
  obtain ⟨v5, vs5, d5, ds5, p5, q5, rfl, rfl, rfl, h5, r5⟩ := trodAll_cons r4
  obtain ⟨rfl, rfl, rfl⟩ := trodAll_nil r5
  obtain rfl : args = #[v0, v1, v2, v3, v4, v5] := by cases args; simp_all
  obtain ⟨s0, rfl, rfl, rfl, i0⟩ := Go.ChangeMaps.open_string Tryd.underlying9 (hval 0 9 v0 rfl rfl) h0
  obtain ⟨a1, rfl, i1⟩ := open_act (hval 1 28 v1 rfl rfl) h1 (wt_arg hsz (j := 1) rfl rfl)
  obtain ⟨a2, rfl, i2⟩ := open_act (hval 2 28 v2 rfl rfl) h2 (wt_arg hsz (j := 2) rfl rfl)
  obtain ⟨a3, rfl, i3⟩ := open_val (hval 3 34 v3 rfl rfl) h3 (wt_arg hsz (j := 3) rfl rfl)
  obtain ⟨a4, rfl, i4⟩ := open_val (hval 4 34 v4 rfl rfl) h4 (wt_arg hsz (j := 4) rfl rfl)
  obtain ⟨s5, rfl, rfl, rfl, i5⟩ := Go.ChangeMaps.open_string Tryd.underlying9 (hval 5 9 v5 rfl rfl) h5
  exact law_post (f := 10) (by rfl) rfl (of_decide_eq_true (by kernel_rfl)) (fun ds hl => by
    rw [Tryd.params10] at hl
    match ds, hl with
    | [d0, d1, d2, d3, d4, d5], _ => rfl) hW' (opActs_walk s0 a1 a2 a3 a4 s5 W (sized_string hsz (j := 0) rfl rfl) i1 i2 i3 i4 (sized_string hsz (j := 5) rfl rfl) hTab)

theorem opActs_met (os : Os) : laidMet Tryd.prog Rows.opActsRow.laid ((laidWorld os).forCall (fun _ _ => 0) ⟨#[], #[.string ⟨#[]⟩, .agg #[.int .i64 0, .float .f64 0, .int .i64 0, .string ⟨#[]⟩], .agg #[.int .i64 0, .float .f64 0, .int .i64 0, .string ⟨#[]⟩], .agg #[.bool false, .float .f64 0, .int .i64 0, .string ⟨#[]⟩], .agg #[.bool false, .float .f64 0, .int .i64 0, .string ⟨#[]⟩], .string ⟨#[]⟩], []⟩).memory :=
  laidMet_of_run' 8 (by kernel_rfl) (by kernel_rfl)
theorem opActs_reads (os : Os) {H : Type} (enc : TypeId × Value → H) : ∃ places, DataW.whole enc Tryd.prog ((laidWorld os).forCall (fun _ _ => 0) ⟨#[], #[.string ⟨#[]⟩, .agg #[.int .i64 0, .float .f64 0, .int .i64 0, .string ⟨#[]⟩], .agg #[.int .i64 0, .float .f64 0, .int .i64 0, .string ⟨#[]⟩], .agg #[.bool false, .float .f64 0, .int .i64 0, .string ⟨#[]⟩], .agg #[.bool false, .float .f64 0, .int .i64 0, .string ⟨#[]⟩], .string ⟨#[]⟩], []⟩).memory Tryd.f10.params.toList Rows.opActsSpec.vars false (#[.string ⟨#[]⟩, .agg #[.int .i64 0, .float .f64 0, .int .i64 0, .string ⟨#[]⟩], .agg #[.int .i64 0, .float .f64 0, .int .i64 0, .string ⟨#[]⟩], .agg #[.bool false, .float .f64 0, .int .i64 0, .string ⟨#[]⟩], .agg #[.bool false, .float .f64 0, .int .i64 0, .string ⟨#[]⟩], .string ⟨#[]⟩] : Array Value).toList 8 = some ([.lit (.string []), .agg [.lit (.int .i64 0), .lit (.float .f64 0), .lit (.int .i64 0), .lit (.string [])], .agg [.lit (.int .i64 0), .lit (.float .f64 0), .lit (.int .i64 0), .lit (.string [])], .agg [.lit (.bool false), .lit (.float .f64 0), .lit (.int .i64 0), .lit (.string [])], .agg [.lit (.bool false), .lit (.float .f64 0), .lit (.int .i64 0), .lit (.string [])], .lit (.string [])], [], places) :=
  ⟨[], by kernel_rfl⟩

set_option maxRecDepth 100000 in
theorem opActs_lifted (os : Os) (started : os.Started) (H : Type) (enc : TypeId × Value → H) (F : Stop.Interp) :
    ReturnsInHanded {} Tryd.checked os 10 .any ((OpenSpec.ofChange Rows.opActsSpec).preRow enc Tryd.prog Tryd.f10 Rows.opActsRow.domain false Rows.opActsRow.laid) (((OpenSpec.ofChange Rows.opActsSpec).at F).post enc Tryd.prog Tryd.f10 false true false false) := by
  obtain ⟨places, hx⟩ := opActs_reads os enc
  refine returnsInHanded_of_row (C := Tryd.checked) (s := OpenSpec.ofChange Rows.opActsSpec) own started (by kernel_rfl) Tryd.func10
    (witness_row_at (enc := enc) (C := Tryd.checked) false (laidWorld os) #[.string ⟨#[]⟩, .agg #[.int .i64 0, .float .f64 0, .int .i64 0, .string ⟨#[]⟩], .agg #[.int .i64 0, .float .f64 0, .int .i64 0, .string ⟨#[]⟩], .agg #[.bool false, .float .f64 0, .int .i64 0, .string ⟨#[]⟩], .agg #[.bool false, .float .f64 0, .int .i64 0, .string ⟨#[]⟩], .string ⟨#[]⟩] rfl (by kernel_rfl) (by kernel_rfl) (by kernel_rfl)
      (OpenSpec.preRow_of_cond 8 hx (by kernel_rfl) (fun k hk => by cases hk) (by kernel_rfl) (opActs_met os))) ?_
  intro W base args ds gs before hval hW _ _ hsz hL _ _
  exact opActs_contract H enc W base args ds gs before hval hW hL hsz

theorem opActs_said : Rows.OpActsSaid :=
  OpenClaim.holds_of_cond 10 Tryd.f10 rfl rfl rfl rfl rfl rfl rfl ⟨rfl, rfl, rfl, rfl, rfl⟩ rfl rfl rfl rfl rfl (by kernel_rfl) Tryd.func10 (by kernel_rfl)
    (of_decide_eq_true (by kernel_rfl)) (by unfold Func.isWrapper; first | (rw [if_pos (by decide +kernel)]; kernel_rfl) | (rw [if_neg (by decide +kernel)]; exact ⟨rfl, rfl⟩))
    (fun os started H enc _ F => by rw [OpenClaim.pre_eq_preRow]; exact opActs_lifted os started H enc F)

theorem opActs_plain (f : FuncId) (fn : Func) (hf : Tryd.pinned.checked.prog.funcNamed "bedrock/bedrocklaw6.OpActs" = some f) (hfn : Tryd.pinned.checked.prog.funcs[f]? = some fn) :
    true = Tryd.pinned.checked.prog.looks [] ∧ ∀ (j : Nat) t, fn.params[j]? = some t → Tryd.pinned.checked.prog.wantsStandIn t = false := by
  obtain rfl : f = 10 := Option.some.inj ((show Tryd.prog.funcNamed "bedrock/bedrocklaw6.OpActs" = some 10 by kernel_rfl).symm.trans hf) |>.symm
  obtain rfl : fn = Tryd.f10 := (Option.some.inj (Tryd.func10.symm.trans hfn)).symm
  refine ⟨by kernel_rfl, fun j t ht => ?_⟩
  rw [Tryd.params10] at ht
  have hm : t ∈ [9, 28, 28, 34, 34, 9] := by simpa using Array.mem_of_getElem? ht
  have hall : ([9, 28, 28, 34, 34, 9].all fun u => !Tryd.prog.wantsStandIn u) = true := by kernel_rfl
  exact (show Tryd.prog.wantsStandIn t = false by simpa using List.all_eq_true.1 hall t hm)

theorem opActs_card : Rows.OpActsCardSaid :=
  Claim7.holds_tied_plain_at .later [] _ _ _ _ opActs_said (fun _ h => by cases h) (by kernel_rfl) (fun _ h => by cases h) opActs_row_tie rfl ⟨rfl, rfl⟩ (by kernel_rfl) rfl opActs_plain (by kernel_rfl)
#print axioms opActs_card
end Go.Proofs.YtgdlcoicejgdkaaDoor
