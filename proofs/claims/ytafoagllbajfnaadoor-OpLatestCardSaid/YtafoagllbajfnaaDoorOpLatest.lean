/- OpLatest: for every input, in whatever memory, where math/bits.deBruijn64tab holds what the program's text lays in it: the law's function returns true, and its arguments read as they did. The condition is the given card's own. By an AI agent. -/
import Derived.Test.YtafoagllbajfnaaDoorLatX
import Derived.Test.YtafoagllbajfnaaDoorLiftT
namespace Go.Proofs.YtafoagllbajfnaaDoor
open Go.ChangeShapes Go.WideShapes Go.ChangeAt Go.RowKit

set_option maxRecDepth 100000 in
theorem opLatest_contract (H : Type) (enc : TypeId × Value → H) (W : World) (base : Nat) (args : Array Value) (ds gs : List (DataW H)) (before : List MemPlace)
    (hval : ∀ (j : Nat) t v, Tryd.f7.params[j]? = some t → args[j]? = some v → Value.okWide Tryd.prog W .any base t v)
    (hW : DataW.Whole enc Tryd.prog Tryd.f7.params.toList Rows.opLatestSpec.vars false W args.toList ds gs before) (hL : laidMetH Tryd.prog Rows.opLatestRow.laid W)
    (hsz : (DataW.weightsEach Tryd.prog (Tryd.f7.params.toList ++ Rows.opLatestSpec.plain.varTypes Tryd.prog) (ds ++ gs)).all (· ≤ reachBytes) = true) :
    Calls Tryd.prog 7 args W fun e W' => ∃ v, e = .returned v ∧ Rows.opLatestSpec.post enc Tryd.prog Tryd.f7 false true false false W args v W' := by
  have hTab : Tab W := tab_of_laid hL
  have hW' := hW
  obtain ⟨p, q, hA0, hV, rfl, _, _⟩ := hW
  have hA : DataW.TrodAll enc Tryd.prog W 0 (fun _ => true) true Tryd.f7.params.toList args.toList ds p := hA0
  rw [Tryd.params7] at hA hval hsz
  obtain ⟨v0, vs0, d0, ds0, p0, q0, hargs, rfl, rfl, h0, r0⟩ := trodAll_cons hA
  obtain ⟨v1, vs1, d1, ds1, p1, q1, rfl, rfl, rfl, h1, r1⟩ := trodAll_cons r0
  obtain ⟨v2, vs2, d2, ds2, p2, q2, rfl, rfl, rfl, h2, r2⟩ := trodAll_cons r1
  obtain ⟨rfl, rfl, rfl⟩ := trodAll_nil r2
  obtain rfl : args = #[v0, v1, v2] := by cases args; simp_all
  obtain ⟨b0, rfl, rfl, rfl⟩ := open_bool Tryd.underlying4 (hval 0 4 v0 rfl rfl) h0
  obtain ⟨a1, n1, c1, vs1, rfl, i1⟩ := open_vers (hval 1 35 v1 rfl rfl) h1 (wt_arg hsz (j := 1) rfl rfl)
  obtain ⟨x2, rfl, rfl, rfl, i2⟩ := open_float Tryd.underlying22 (hval 2 22 v2 rfl rfl) h2
  exact law_post (f := 7) (by rfl) rfl (of_decide_eq_true (by kernel_rfl)) (fun ds hl => by
    rw [Tryd.params7] at hl
    match ds, hl with
    | [d0, d1, d2], _ => rfl) hW' (opLatest_walk b0 a1 n1 c1 vs1 x2 W i1 (wf_two64 i2) hTab)

theorem opLatest_met (os : Os) : laidMet Tryd.prog Rows.opLatestRow.laid ((laidWorld os).forCall (fun _ _ => 0) ⟨#[], #[.bool false, .slice none 0 0, .float .f64 0], []⟩).memory :=
  laidMet_of_run' 8 (by kernel_rfl) (by kernel_rfl)
theorem opLatest_reads (os : Os) {H : Type} (enc : TypeId × Value → H) : ∃ places, DataW.whole enc Tryd.prog ((laidWorld os).forCall (fun _ _ => 0) ⟨#[], #[.bool false, .slice none 0 0, .float .f64 0], []⟩).memory Tryd.f7.params.toList Rows.opLatestSpec.vars false (#[.bool false, .slice none 0 0, .float .f64 0] : Array Value).toList 8 = some ([.lit (.bool false), .nil, .lit (.float .f64 0)], [], places) :=
  ⟨[], by kernel_rfl⟩

set_option maxRecDepth 100000 in
theorem opLatest_lifted (os : Os) (started : os.Started) (H : Type) (enc : TypeId × Value → H) (F : Stop.Interp) :
    ReturnsInHanded {} Tryd.checked os 7 .any ((OpenSpec.ofChange Rows.opLatestSpec).preRow enc Tryd.prog Tryd.f7 Rows.opLatestRow.domain false Rows.opLatestRow.laid) (((OpenSpec.ofChange Rows.opLatestSpec).at F).post enc Tryd.prog Tryd.f7 false true false false) := by
  obtain ⟨places, hx⟩ := opLatest_reads os enc
  refine returnsInHanded_of_row (C := Tryd.checked) (s := OpenSpec.ofChange Rows.opLatestSpec) own started (by kernel_rfl) Tryd.func7
    (witness_row_at (enc := enc) (C := Tryd.checked) false (laidWorld os) #[.bool false, .slice none 0 0, .float .f64 0] rfl (by kernel_rfl) (by kernel_rfl) (by kernel_rfl)
      (OpenSpec.preRow_of_cond 8 hx (by kernel_rfl) (fun k hk => by cases hk) (by kernel_rfl) (opLatest_met os))) ?_
  intro W base args ds gs before hval hW _ _ hsz hL _ _
  exact opLatest_contract H enc W base args ds gs before hval hW hL hsz

theorem opLatest_said : Rows.OpLatestSaid :=
  OpenClaim.holds_of_cond 7 Tryd.f7 rfl rfl rfl rfl rfl rfl rfl ⟨rfl, rfl, rfl, rfl, rfl⟩ rfl rfl rfl rfl rfl (by kernel_rfl) Tryd.func7 (by kernel_rfl)
    (of_decide_eq_true (by kernel_rfl)) (by unfold Func.isWrapper; first | (rw [if_pos (by decide +kernel)]; kernel_rfl) | (rw [if_neg (by decide +kernel)]; exact ⟨rfl, rfl⟩))
    (fun os started H enc _ F => by rw [OpenClaim.pre_eq_preRow]; exact opLatest_lifted os started H enc F)

theorem opLatest_plain (f : FuncId) (fn : Func) (hf : Tryd.pinned.checked.prog.funcNamed "bedrock/bedrocklaw6.OpLatest" = some f) (hfn : Tryd.pinned.checked.prog.funcs[f]? = some fn) :
    true = Tryd.pinned.checked.prog.looks [] ∧ ∀ (j : Nat) t, fn.params[j]? = some t → Tryd.pinned.checked.prog.wantsStandIn t = false := by
  obtain rfl : f = 7 := Option.some.inj ((show Tryd.prog.funcNamed "bedrock/bedrocklaw6.OpLatest" = some 7 by kernel_rfl).symm.trans hf) |>.symm
  obtain rfl : fn = Tryd.f7 := (Option.some.inj (Tryd.func7.symm.trans hfn)).symm
  refine ⟨by kernel_rfl, fun j t ht => ?_⟩
  rw [Tryd.params7] at ht
  have hm : t ∈ [4, 35, 22] := by simpa using Array.mem_of_getElem? ht
  have hall : ([4, 35, 22].all fun u => !Tryd.prog.wantsStandIn u) = true := by kernel_rfl
  exact (show Tryd.prog.wantsStandIn t = false by simpa using List.all_eq_true.1 hall t hm)

theorem opLatest_card : Rows.OpLatestCardSaid :=
  Claim7.holds_tied_plain_at .later [] _ _ _ _ opLatest_said (fun _ h => by cases h) (by kernel_rfl) (fun _ h => by cases h) opLatest_row_tie rfl ⟨rfl, rfl⟩ (by kernel_rfl) rfl opLatest_plain (by kernel_rfl)
#print axioms opLatest_card
end Go.Proofs.YtafoagllbajfnaaDoor
