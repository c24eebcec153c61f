import Derived.Test.YtaokennbpgdngaaQUnsentX
import Derived.Test.YtaokennbpgdngaaQStreamUnsentP14
import Derived.Test.YtaokennbpgdngaaCore33

/- StreamUnsent: for every input, in whatever memory: the law's function returns true, and its arguments read as they did. No condition. By an AI agent. -/
section
namespace Go.Proofs.Ytaokennbpgdngaa
open Go.ChangeShapes Go.WideShapes Go.ChangeAt Go.RowKit

set_option maxRecDepth 100000 in
theorem streamUnsent_lifted (os : Os) (started : os.Started) (H : Type) (enc : TypeId × Value → H) :
    ReturnsInHanded {} Try.checked os 3 .any (Rows.streamUnsentSpec.pre6 enc Try.prog Try.f3 Rows.streamUnsentRow.domain false) (Rows.streamUnsentSpec.post enc Try.prog Try.f3 false true false false) := by
  refine returnsInHanded_of_change_sized (C := Try.checked) own started (by kernel_rfl) Try.func3
    (ChangeSpec.witness6 (enc := enc) (C := Try.checked) false ⟨#[], #[.slice none 0 0, .slice none 0 0, .int .i64 0], []⟩ 8 (by kernel_rfl) (by kernel_rfl) (by kernel_rfl) (by kernel_rfl)) ?_
  intro W base args ds gs before hval0 hW _ hsz0 _
  have hsz : (DataW.weightsEach Try.prog (Try.f3.params.toList ++ Rows.streamUnsentSpec.plain.varTypes Try.prog) (ds ++ gs)).all (· ≤ reachBytes) = true := hsz0
  clear hsz0
  have hval : ∀ (j : Nat) t v, Try.f3.params[j]? = some t → args[j]? = some v → Value.okWide Try.prog W .any base t v := hval0
  have hW' := hW
  obtain ⟨p, q, hA0, hV, rfl, _, _⟩ := hW
  have hA : DataW.TrodAll enc Try.prog W 0 (fun _ => true) true Try.f3.params.toList args.toList ds p := hA0
  rw [Try.params3] at hA hval hsz
  obtain ⟨v0, vs0, d0, ds0, p0, q0, hargs, rfl, rfl, h0, r0⟩ := trodAll_cons hA
  obtain ⟨v1, vs1, d1, ds1, p1, q1, rfl, rfl, rfl, h1, r1⟩ := trodAll_cons r0
  obtain ⟨v2, vs2, d2, ds2, p2, q2, rfl, rfl, rfl, h2, r2⟩ := trodAll_cons r1
  obtain ⟨rfl, rfl, rfl⟩ := trodAll_nil r2
  obtain rfl : args = #[v0, v1, v2] := by cases args; simp_all
  obtain ⟨a0, n0, c0, ts0, f0, rfl, i0⟩ := open_txs (hval 0 22 v0 rfl rfl) h0 (wt_arg hsz (j := 0) rfl rfl)
  obtain ⟨a1, n1, c1, xs1, rfl, i1⟩ := open_vec (hval 1 24 v1 rfl rfl) h1 (fun el sp e => sized_slice hsz (j := 1) rfl (by rw [e]; rfl) Try.underlying24)
  obtain ⟨x2, rfl, rfl, rfl, i2⟩ := open_int Try.underlying3 (hval 2 3 v2 rfl rfl) h2
  exact law_post (f := 3) (by rfl) rfl (of_decide_eq_true (by kernel_rfl)) (fun ds hl => by
    rw [Try.params3] at hl
    match ds, hl with
    | [d0, d1, d2], _ => rfl) hW' (streamUnsent_walk a0 n0 c0 ts0 f0 a1 n1 c1 xs1 x2 W i0 i1 (bounds_i64 i2))

theorem streamUnsent_holds : Rows.StreamUnsentSaid :=
  OpenClaim.holds_of_wide 3 Try.f3 rfl rfl rfl rfl rfl rfl rfl ⟨rfl, rfl, rfl, rfl, rfl⟩ rfl rfl rfl rfl rfl (by kernel_rfl) Try.func3 (by kernel_rfl)
    (of_decide_eq_true (by kernel_rfl)) (by unfold Func.isWrapper; first | (rw [if_pos (by decide +kernel)]; kernel_rfl) | (rw [if_neg (by decide +kernel)]; exact ⟨rfl, rfl⟩))
    (fun os started H enc _ => streamUnsent_lifted os started H enc)
#print axioms streamUnsent_holds
end Go.Proofs.Ytaokennbpgdngaa
end
