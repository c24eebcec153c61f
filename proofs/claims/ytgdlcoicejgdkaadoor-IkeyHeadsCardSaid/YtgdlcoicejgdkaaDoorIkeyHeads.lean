/- IkeyHeads: for every input, in whatever memory, where the tables of unicode/utf8 hold what the program's text lays in it: the law's function returns true, and its arguments read as they did. The condition is the given card's own. By an AI agent. -/
import Derived.Test.YtgdlcoicejgdkaaDoorIkeyHeadsX
import Derived.Test.YtgdlcoicejgdkaaDoorLiftU
namespace Go.Proofs.YtgdlcoicejgdkaaDoor
open Go.ChangeShapes Go.WideShapes Go.ChangeAt Go.RowKit

set_option maxRecDepth 100000 in
theorem ikeyHeads_contract (H : Type) (enc : TypeId × Value → H) (W : World) (base : Nat) (args : Array Value) (ds gs : List (DataW H)) (before : List MemPlace)
    (hval : ∀ (j : Nat) t v, Tryd.f6.params[j]? = some t → args[j]? = some v → Value.okWide Tryd.prog W .any base t v)
    (hW : DataW.Whole enc Tryd.prog Tryd.f6.params.toList Rows.ikeyHeadsSpec.vars false W args.toList ds gs before) (hL : laidMetH Tryd.prog Rows.ikeyHeadsRow.laid W)
    (hsz : (DataW.weightsEach Tryd.prog (Tryd.f6.params.toList ++ Rows.ikeyHeadsSpec.plain.varTypes Tryd.prog) (ds ++ gs)).all (· ≤ reachBytes) = true) :
    Calls Tryd.prog 6 args W fun e W' => ∃ v, e = .returned v ∧ Rows.ikeyHeadsSpec.post enc Tryd.prog Tryd.f6 false true false false W args v W' := by
  have hW' := hW
  obtain ⟨p, q, hA0, hV, rfl, _, _⟩ := hW
  have hA : DataW.TrodAll enc Tryd.prog W 0 (fun _ => true) true Tryd.f6.params.toList args.toList ds p := hA0
  rw [Tryd.params6] at hA hval hsz
  obtain ⟨v0, vs0, d0, ds0, p0, q0, hargs, rfl, rfl, h0, r0⟩ := trodAll_cons hA
  obtain ⟨v1, vs1, d1, ds1, p1, q1, rfl, rfl, rfl, h1, r1⟩ := trodAll_cons r0
  obtain ⟨v2, vs2, d2, ds2, p2, q2, rfl, rfl, rfl, h2, r2⟩ := trodAll_cons r1
  obtain ⟨rfl, rfl, rfl⟩ := trodAll_nil r2
  obtain rfl : args = #[v0, v1, v2] := by cases args; simp_all
  obtain ⟨s0, rfl, rfl, rfl, i0⟩ := Go.ChangeMaps.open_string Tryd.underlying9 (hval 0 9 v0 rfl rfl) h0
  obtain ⟨s1, rfl, rfl, rfl, i1⟩ := Go.ChangeMaps.open_string Tryd.underlying9 (hval 1 9 v1 rfl rfl) h1
  obtain ⟨a2, n2, c2, V2, rfl, iv2, ir2⟩ := open_ver (hval 2 30 v2 rfl rfl) h2 (wt_arg hsz (j := 2) rfl rfl)
  exact law_post (f := 6) (by rfl) rfl (of_decide_eq_true (by kernel_rfl)) (fun ds hl => by
    rw [Tryd.params6] at hl
    match ds, hl with
    | [d0, d1, d2], _ => rfl) hW' (ikeyHeads_walk s0 s1 a2 n2 c2 V2 W (sized_string hsz (j := 0) rfl rfl) (sized_string hsz (j := 1) rfl rfl) iv2 ir2)

theorem ikeyHeads_met (os : Os) : laidMet Tryd.prog Rows.ikeyHeadsRow.laid ((laidWorldU os).forCall (fun _ _ => 0) ⟨#[], #[.string ⟨#[]⟩, .string ⟨#[]⟩, .agg #[.string ⟨#[]⟩, .slice none 0 0, .int .i64 0, .int .i64 0, .int .i64 0, .float .f64 0, .int .i64 0, .string ⟨#[]⟩]], []⟩).memory :=
  laidMet_of_run' 8 (by kernel_rfl) (by kernel_rfl)
theorem ikeyHeads_reads (os : Os) {H : Type} (enc : TypeId × Value → H) : ∃ places, DataW.whole enc Tryd.prog ((laidWorldU os).forCall (fun _ _ => 0) ⟨#[], #[.string ⟨#[]⟩, .string ⟨#[]⟩, .agg #[.string ⟨#[]⟩, .slice none 0 0, .int .i64 0, .int .i64 0, .int .i64 0, .float .f64 0, .int .i64 0, .string ⟨#[]⟩]], []⟩).memory Tryd.f6.params.toList Rows.ikeyHeadsSpec.vars false (#[.string ⟨#[]⟩, .string ⟨#[]⟩, .agg #[.string ⟨#[]⟩, .slice none 0 0, .int .i64 0, .int .i64 0, .int .i64 0, .float .f64 0, .int .i64 0, .string ⟨#[]⟩]] : Array Value).toList 8 = some ([.lit (.string []), .lit (.string []), .agg [.lit (.string []), .nil, .lit (.int .i64 0), .lit (.int .i64 0), .agg [.lit (.int .i64 0), .lit (.float .f64 0), .lit (.int .i64 0), .lit (.string [])]]], [], places) :=
  ⟨[], by kernel_rfl⟩

set_option maxRecDepth 100000 in
theorem ikeyHeads_lifted (os : Os) (started : os.Started) (H : Type) (enc : TypeId × Value → H) (F : Stop.Interp) :
    ReturnsInHanded {} Tryd.checked os 6 .any ((OpenSpec.ofChange Rows.ikeyHeadsSpec).preRow enc Tryd.prog Tryd.f6 Rows.ikeyHeadsRow.domain false Rows.ikeyHeadsRow.laid) (((OpenSpec.ofChange Rows.ikeyHeadsSpec).at F).post enc Tryd.prog Tryd.f6 false true false false) := by
  obtain ⟨places, hx⟩ := ikeyHeads_reads os enc
  refine returnsInHanded_of_row (C := Tryd.checked) (s := OpenSpec.ofChange Rows.ikeyHeadsSpec) own started (by kernel_rfl) Tryd.func6
    (witness_row_at (enc := enc) (C := Tryd.checked) false (laidWorldU os) #[.string ⟨#[]⟩, .string ⟨#[]⟩, .agg #[.string ⟨#[]⟩, .slice none 0 0, .int .i64 0, .int .i64 0, .int .i64 0, .float .f64 0, .int .i64 0, .string ⟨#[]⟩]] rfl (by kernel_rfl) (by kernel_rfl) (by kernel_rfl)
      (OpenSpec.preRow_of_cond 8 hx (by kernel_rfl) (fun k hk => by cases hk) (by kernel_rfl) (ikeyHeads_met os))) ?_
  intro W base args ds gs before hval hW _ _ hsz hL _ _
  exact ikeyHeads_contract H enc W base args ds gs before hval hW hL hsz

theorem ikeyHeads_said : Rows.IkeyHeadsSaid :=
  OpenClaim.holds_of_cond 6 Tryd.f6 rfl rfl rfl rfl rfl rfl rfl ⟨rfl, rfl, rfl, rfl, rfl⟩ rfl rfl rfl rfl rfl (by kernel_rfl) Tryd.func6 (by kernel_rfl)
    (of_decide_eq_true (by kernel_rfl)) (by unfold Func.isWrapper; first | (rw [if_pos (by decide +kernel)]; kernel_rfl) | (rw [if_neg (by decide +kernel)]; exact ⟨rfl, rfl⟩))
    (fun os started H enc _ F => by rw [OpenClaim.pre_eq_preRow]; exact ikeyHeads_lifted os started H enc F)

theorem ikeyHeads_plain (f : FuncId) (fn : Func) (hf : Tryd.pinned.checked.prog.funcNamed "bedrock/bedrocklaw5.IkeyHeads" = some f) (hfn : Tryd.pinned.checked.prog.funcs[f]? = some fn) :
    true = Tryd.pinned.checked.prog.looks [] ∧ ∀ (j : Nat) t, fn.params[j]? = some t → Tryd.pinned.checked.prog.wantsStandIn t = false := by
  obtain rfl : f = 6 := Option.some.inj ((show Tryd.prog.funcNamed "bedrock/bedrocklaw5.IkeyHeads" = some 6 by kernel_rfl).symm.trans hf) |>.symm
  obtain rfl : fn = Tryd.f6 := (Option.some.inj (Tryd.func6.symm.trans hfn)).symm
  refine ⟨by kernel_rfl, fun j t ht => ?_⟩
  rw [Tryd.params6] at ht
  have hm : t ∈ [9, 9, 30] := by simpa using Array.mem_of_getElem? ht
  have hall : ([9, 9, 30].all fun u => !Tryd.prog.wantsStandIn u) = true := by kernel_rfl
  exact (show Tryd.prog.wantsStandIn t = false by simpa using List.all_eq_true.1 hall t hm)

theorem ikeyHeads_card : Rows.IkeyHeadsCardSaid :=
  Claim7.holds_tied_plain_at .later [] _ _ _ _ ikeyHeads_said (fun _ h => by cases h) (by kernel_rfl) (fun _ h => by cases h) ikeyHeads_row_tie rfl ⟨rfl, rfl⟩ (by kernel_rfl) rfl ikeyHeads_plain (by kernel_rfl)
#print axioms ikeyHeads_card
end Go.Proofs.YtgdlcoicejgdkaaDoor
