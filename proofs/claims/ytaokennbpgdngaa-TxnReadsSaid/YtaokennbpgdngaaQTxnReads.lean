/- TxnReads: for every input, in whatever memory: the law's function returns true, and its arguments read as they did. No condition. By an AI agent. -/
import Derived.Test.YtaokennbpgdngaaQTxReadsX
import Derived.Test.YtaokennbpgdngaaQOpenTxn
import Derived.Test.YtaokennbpgdngaaQOpenA
import Derived.Test.YtaokennbpgdngaaCore33

namespace Go.Proofs.Ytaokennbpgdngaa
open Go.ChangeShapes Go.WideShapes Go.ChangeAt Go.RowKit

set_option maxRecDepth 100000 in
theorem txnReads_lifted (os : Os) (started : os.Started) (H : Type) (enc : TypeId × Value → H) :
    ReturnsInHanded {} Try.checked os 7 .any (Rows.txnReadsSpec.pre6 enc Try.prog Try.f7 Rows.txnReadsRow.domain false) (Rows.txnReadsSpec.post enc Try.prog Try.f7 false true false false) := by
  refine returnsInHanded_of_change_sized (C := Try.checked) own started (by kernel_rfl) Try.func7
    (ChangeSpec.witness6 (enc := enc) (C := Try.checked) false ⟨#[], #[.slice none 0 0, .string ⟨#[]⟩, .string ⟨#[]⟩, .agg #[.int .i64 0, .float .f64 0, .int .i64 0, .string ⟨#[]⟩], .agg #[.bool false, .float .f64 0, .int .i64 0, .string ⟨#[]⟩]], []⟩ 8 (by kernel_rfl) (by kernel_rfl) (by kernel_rfl) (by kernel_rfl)) ?_
  intro W base args ds gs before hval0 hW _ hsz0 _
  have hsz : (DataW.weightsEach Try.prog (Try.f7.params.toList ++ Rows.txnReadsSpec.plain.varTypes Try.prog) (ds ++ gs)).all (· ≤ reachBytes) = true := hsz0
  clear hsz0
  have hval : ∀ (j : Nat) t v, Try.f7.params[j]? = some t → args[j]? = some v → Value.okWide Try.prog W .any base t v := hval0
  have hW' := hW
  obtain ⟨p, q, hA0, hV, rfl, _, _⟩ := hW
  have hA : DataW.TrodAll enc Try.prog W 0 (fun _ => true) true Try.f7.params.toList args.toList ds p := hA0
  rw [Try.params7] at hA hval hsz
  obtain ⟨v0, vs0, d0, ds0, p0, q0, hargs, rfl, rfl, h0, r0⟩ := trodAll_cons hA
  obtain ⟨v1, vs1, d1, ds1, p1, q1, rfl, rfl, rfl, h1, r1⟩ := trodAll_cons r0
  obtain ⟨v2, vs2, d2, ds2, p2, q2, rfl, rfl, rfl, h2, r2⟩ := trodAll_cons r1
  obtain ⟨v3, vs3, d3, ds3, p3, q3, rfl, rfl, rfl, h3, r3⟩ := trodAll_cons r2
  obtain ⟨v4, vs4, d4, ds4, p4, q4, rfl, rfl, rfl, h4, r4⟩ := trodAll_cons r3
  obtain ⟨rfl, rfl, rfl⟩ := trodAll_nil r4
  obtain rfl : args = #[v0, v1, v2, v3, v4] := by cases args; simp_all
  obtain ⟨a0, n0, c0, ws0, rfl, i0⟩ := open_wrs (hval 0 27 v0 rfl rfl) h0 (wt_arg hsz (j := 0) rfl rfl)
  obtain ⟨s1, rfl, rfl, rfl, i1⟩ := Go.ChangeMaps.open_string Try.underlying9 (hval 1 9 v1 rfl rfl) h1
  obtain ⟨s2, rfl, rfl, rfl, i2⟩ := Go.ChangeMaps.open_string Try.underlying9 (hval 2 9 v2 rfl rfl) h2
  obtain ⟨a3, rfl, i3⟩ := open_act (hval 3 54 v3 rfl rfl) h3 (wt_arg hsz (j := 3) rfl rfl)
  obtain ⟨a4, rfl, i4⟩ := open_val (hval 4 51 v4 rfl rfl) h4 (wt_arg hsz (j := 4) rfl rfl)
  exact law_post (f := 7) (by rfl) rfl (of_decide_eq_true (by kernel_rfl)) (fun ds hl => by
    rw [Try.params7] at hl
    match ds, hl with
    | [d0, d1, d2, d3, d4], _ => rfl) hW' (txReads_walk a0 n0 c0 ws0 s1 s2 a3 a4 W i0 (sized_string hsz (j := 1) rfl rfl) (sized_string hsz (j := 2) rfl rfl) i3 i4)

theorem txnReads_holds : Rows.TxnReadsSaid :=
  OpenClaim.holds_of_wide 7 Try.f7 rfl rfl rfl rfl rfl rfl rfl ⟨rfl, rfl, rfl, rfl, rfl⟩ rfl rfl rfl rfl rfl (by kernel_rfl) Try.func7 (by kernel_rfl)
    (of_decide_eq_true (by kernel_rfl)) (by unfold Func.isWrapper; first | (rw [if_pos (by decide +kernel)]; kernel_rfl) | (rw [if_neg (by decide +kernel)]; exact ⟨rfl, rfl⟩))
    (fun os started H enc _ => txnReads_lifted os started H enc)
#print axioms txnReads_holds
end Go.Proofs.Ytaokennbpgdngaa
