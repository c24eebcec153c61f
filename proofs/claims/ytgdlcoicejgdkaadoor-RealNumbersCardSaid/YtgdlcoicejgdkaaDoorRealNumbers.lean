/- RealNumbers: for every input, in whatever memory, where math/bits.deBruijn64tab holds what the program's text lays in it: the law's function returns true, and its arguments read as they did. The condition is the given card's own. By an AI agent. -/
import Derived.Test.YtgdlcoicejgdkaaDoorRealNumbersW
import Derived.Test.YtgdlcoicejgdkaaDoorLiftT
namespace Go.Proofs.YtgdlcoicejgdkaaDoor
open Go.ChangeShapes Go.WideShapes Go.ChangeAt Go.RowKit

set_option maxRecDepth 100000 in
theorem realNumbers_contract (H : Type) (enc : TypeId × Value → H) (W : World) (base : Nat) (args : Array Value) (ds gs : List (DataW H)) (before : List MemPlace)
    (hval : ∀ (j : Nat) t v, Tryd.f11.params[j]? = some t → args[j]? = some v → Value.okWide Tryd.prog W .any base t v)
    (hW : DataW.Whole enc Tryd.prog Tryd.f11.params.toList Rows.realNumbersSpec.vars false W args.toList ds gs before) (hL : laidMetH Tryd.prog Rows.realNumbersRow.laid W)
    (hsz : (DataW.weightsEach Tryd.prog (Tryd.f11.params.toList ++ Rows.realNumbersSpec.plain.varTypes Tryd.prog) (ds ++ gs)).all (· ≤ reachBytes) = true) :
    Calls Tryd.prog 11 args W fun e W' => ∃ v, e = .returned v ∧ Rows.realNumbersSpec.post enc Tryd.prog Tryd.f11 false true false false W args v W' := by
  have hTab : Tab W := tab_of_laid hL
  have hW' := hW
  obtain ⟨p, q, hA0, hV, rfl, _, _⟩ := hW
  have hA : DataW.TrodAll enc Tryd.prog W 0 (fun _ => true) true Tryd.f11.params.toList args.toList ds p := hA0
  rw [Tryd.params11] at hA hval hsz
  obtain ⟨v0, vs0, d0, ds0, p0, q0, hargs, rfl, rfl, h0, r0⟩ := trodAll_cons hA
  obtain ⟨v1, vs1, d1, ds1, p1, q1, rfl, rfl, rfl, h1, r1⟩ := trodAll_cons r0
  obtain ⟨v2, vs2, d2, ds2, p2, q2, rfl, rfl, rfl, h2, r2⟩ := trodAll_cons r1
  obtain ⟨v3, vs3, d3, ds3, p3, q3, rfl, rfl, rfl, h3, r3⟩ := trodAll_cons r2
  obtain ⟨rfl, rfl, rfl⟩ := trodAll_nil r3
  obtain rfl : args = #[v0, v1, v2, v3] := by cases args; simp_all
  obtain ⟨x0, rfl, rfl, rfl, i0⟩ := open_float Tryd.underlying26 (hval 0 26 v0 rfl rfl) h0
  obtain ⟨x1, rfl, rfl, rfl, i1⟩ := open_float Tryd.underlying26 (hval 1 26 v1 rfl rfl) h1
  obtain ⟨x2, rfl, rfl, rfl, i2⟩ := open_int Tryd.underlying3 (hval 2 3 v2 rfl rfl) h2
  obtain ⟨x3, rfl, rfl, rfl, i3⟩ := open_int Tryd.underlying3 (hval 3 3 v3 rfl rfl) h3
  exact law_post (f := 11) (by rfl) rfl (of_decide_eq_true (by kernel_rfl)) (fun ds hl => by
    rw [Tryd.params11] at hl
    match ds, hl with
    | [d0, d1, d2, d3], _ => rfl) hW' (realNumbers_walk x0 x1 x2 x3 W (wf_two64 i0) (wf_two64 i1) (bounds_i64 i2) (bounds_i64 i3) hTab)

theorem realNumbers_met (os : Os) : laidMet Tryd.prog Rows.realNumbersRow.laid ((laidWorld os).forCall (fun _ _ => 0) ⟨#[], #[.float .f64 0, .float .f64 0, .int .i64 0, .int .i64 0], []⟩).memory :=
  laidMet_of_run' 8 (by kernel_rfl) (by kernel_rfl)
theorem realNumbers_reads (os : Os) {H : Type} (enc : TypeId × Value → H) : ∃ places, DataW.whole enc Tryd.prog ((laidWorld os).forCall (fun _ _ => 0) ⟨#[], #[.float .f64 0, .float .f64 0, .int .i64 0, .int .i64 0], []⟩).memory Tryd.f11.params.toList Rows.realNumbersSpec.vars false (#[.float .f64 0, .float .f64 0, .int .i64 0, .int .i64 0] : Array Value).toList 8 = some ([.lit (.float .f64 0), .lit (.float .f64 0), .lit (.int .i64 0), .lit (.int .i64 0)], [], places) :=
  ⟨[], by kernel_rfl⟩

set_option maxRecDepth 100000 in
theorem realNumbers_lifted (os : Os) (started : os.Started) (H : Type) (enc : TypeId × Value → H) (F : Stop.Interp) :
    ReturnsInHanded {} Tryd.checked os 11 .any ((OpenSpec.ofChange Rows.realNumbersSpec).preRow enc Tryd.prog Tryd.f11 Rows.realNumbersRow.domain false Rows.realNumbersRow.laid) (((OpenSpec.ofChange Rows.realNumbersSpec).at F).post enc Tryd.prog Tryd.f11 false true false false) := by
  obtain ⟨places, hx⟩ := realNumbers_reads os enc
  refine returnsInHanded_of_row (C := Tryd.checked) (s := OpenSpec.ofChange Rows.realNumbersSpec) own started (by kernel_rfl) Tryd.func11
    (witness_row_at (enc := enc) (C := Tryd.checked) false (laidWorld os) #[.float .f64 0, .float .f64 0, .int .i64 0, .int .i64 0] rfl (by kernel_rfl) (by kernel_rfl) (by kernel_rfl)
      (OpenSpec.preRow_of_cond 8 hx (by kernel_rfl) (fun k hk => by cases hk) (by kernel_rfl) (realNumbers_met os))) ?_
  intro W base args ds gs before hval hW _ _ hsz hL _ _
  exact realNumbers_contract H enc W base args ds gs before hval hW hL hsz

theorem realNumbers_said : Rows.RealNumbersSaid :=
  OpenClaim.holds_of_cond 11 Tryd.f11 rfl rfl rfl rfl rfl rfl rfl ⟨rfl, rfl, rfl, rfl, rfl⟩ rfl rfl rfl rfl rfl (by kernel_rfl) Tryd.func11 (by kernel_rfl)
    (of_decide_eq_true (by kernel_rfl)) (by unfold Func.isWrapper; first | (rw [if_pos (by decide +kernel)]; kernel_rfl) | (rw [if_neg (by decide +kernel)]; exact ⟨rfl, rfl⟩))
    (fun os started H enc _ F => by rw [OpenClaim.pre_eq_preRow]; exact realNumbers_lifted os started H enc F)

theorem realNumbers_plain (f : FuncId) (fn : Func) (hf : Tryd.pinned.checked.prog.funcNamed "bedrock/bedrocklaw2.RealNumbers" = some f) (hfn : Tryd.pinned.checked.prog.funcs[f]? = some fn) :
    true = Tryd.pinned.checked.prog.looks [] ∧ ∀ (j : Nat) t, fn.params[j]? = some t → Tryd.pinned.checked.prog.wantsStandIn t = false := by
  obtain rfl : f = 11 := Option.some.inj ((show Tryd.prog.funcNamed "bedrock/bedrocklaw2.RealNumbers" = some 11 by kernel_rfl).symm.trans hf) |>.symm
  obtain rfl : fn = Tryd.f11 := (Option.some.inj (Tryd.func11.symm.trans hfn)).symm
  refine ⟨by kernel_rfl, fun j t ht => ?_⟩
  rw [Tryd.params11] at ht
  have hm : t ∈ [26, 26, 3, 3] := by simpa using Array.mem_of_getElem? ht
  have hall : ([26, 26, 3, 3].all fun u => !Tryd.prog.wantsStandIn u) = true := by kernel_rfl
  exact (show Tryd.prog.wantsStandIn t = false by simpa using List.all_eq_true.1 hall t hm)

theorem realNumbers_card : Rows.RealNumbersCardSaid :=
  Claim7.holds_tied_plain_at .later [] _ _ _ _ realNumbers_said (fun _ h => by cases h) (by kernel_rfl) (fun _ h => by cases h) realNumbers_row_tie rfl ⟨rfl, rfl⟩ (by kernel_rfl) rfl realNumbers_plain (by kernel_rfl)
#print axioms realNumbers_card
end Go.Proofs.YtgdlcoicejgdkaaDoor
