/- TxnFolds: for every input, in whatever memory: the law's function returns true, and its arguments read as they did. No condition. By an AI agent. -/
import Derived.Test.YtaokennbpgdngaaQTxFoldsX
import Derived.Test.YtaokennbpgdngaaQOpenTxn
import Derived.Test.YtaokennbpgdngaaQOpenA
import Derived.Test.YtaokennbpgdngaaCore33

namespace Go.Proofs.Ytaokennbpgdngaa
open Go.ChangeShapes Go.WideShapes Go.ChangeAt Go.RowKit

set_option maxRecDepth 100000 in
theorem txnFolds_lifted (os : Os) (started : os.Started) (H : Type) (enc : TypeId × Value → H) :
    ReturnsInHanded {} Try.checked os 6 .any (Rows.txnFoldsSpec.pre6 enc Try.prog Try.f6 Rows.txnFoldsRow.domain false) (Rows.txnFoldsSpec.post enc Try.prog Try.f6 false true false false) := by
  refine returnsInHanded_of_change_sized (C := Try.checked) own started (by kernel_rfl) Try.func6
    (ChangeSpec.witness6 (enc := enc) (C := Try.checked) false ⟨#[], #[.slice none 0 0, .string ⟨#[]⟩, .agg #[.bool false, .float .f64 0, .int .i64 0, .string ⟨#[]⟩]], []⟩ 8 (by kernel_rfl) (by kernel_rfl) (by kernel_rfl) (by kernel_rfl)) ?_
  intro W base args ds gs before hval0 hW _ hsz0 _
  have hsz : (DataW.weightsEach Try.prog (Try.f6.params.toList ++ Rows.txnFoldsSpec.plain.varTypes Try.prog) (ds ++ gs)).all (· ≤ reachBytes) = true := hsz0
  clear hsz0
  have hval : ∀ (j : Nat) t v, Try.f6.params[j]? = some t → args[j]? = some v → Value.okWide Try.prog W .any base t v := hval0
  have hW' := hW
  obtain ⟨p, q, hA0, hV, rfl, _, _⟩ := hW
  have hA : DataW.TrodAll enc Try.prog W 0 (fun _ => true) true Try.f6.params.toList args.toList ds p := hA0
  rw [Try.params6] at hA hval hsz
  obtain ⟨v0, vs0, d0, ds0, p0, q0, hargs, rfl, rfl, h0, r0⟩ := trodAll_cons hA
  obtain ⟨v1, vs1, d1, ds1, p1, q1, rfl, rfl, rfl, h1, r1⟩ := trodAll_cons r0
  obtain ⟨v2, vs2, d2, ds2, p2, q2, rfl, rfl, rfl, h2, r2⟩ := trodAll_cons r1
  obtain ⟨rfl, rfl, rfl⟩ := trodAll_nil r2
  obtain rfl : args = #[v0, v1, v2] := by cases args; simp_all
  obtain ⟨a0, n0, c0, ws0, rfl, i0⟩ := open_wrs (hval 0 27 v0 rfl rfl) h0 (wt_arg hsz (j := 0) rfl rfl)
  obtain ⟨s1, rfl, rfl, rfl, i1⟩ := Go.ChangeMaps.open_string Try.underlying9 (hval 1 9 v1 rfl rfl) h1
  obtain ⟨a2, rfl, i2⟩ := open_val (hval 2 51 v2 rfl rfl) h2 (wt_arg hsz (j := 2) rfl rfl)
  exact law_post (f := 6) (by rfl) rfl (of_decide_eq_true (by kernel_rfl)) (fun ds hl => by
    rw [Try.params6] at hl
    match ds, hl with
    | [d0, d1, d2], _ => rfl) hW' (txFolds_walk a0 n0 c0 ws0 s1 a2 W i0 (sized_string hsz (j := 1) rfl rfl) i2)

theorem txnFolds_holds : Rows.TxnFoldsSaid :=
  OpenClaim.holds_of_wide 6 Try.f6 rfl rfl rfl rfl rfl rfl rfl ⟨rfl, rfl, rfl, rfl, rfl⟩ rfl rfl rfl rfl rfl (by kernel_rfl) Try.func6 (by kernel_rfl)
    (of_decide_eq_true (by kernel_rfl)) (by unfold Func.isWrapper; first | (rw [if_pos (by decide +kernel)]; kernel_rfl) | (rw [if_neg (by decide +kernel)]; exact ⟨rfl, rfl⟩))
    (fun os started H enc _ => txnFolds_lifted os started H enc)
#print axioms txnFolds_holds
end Go.Proofs.Ytaokennbpgdngaa
