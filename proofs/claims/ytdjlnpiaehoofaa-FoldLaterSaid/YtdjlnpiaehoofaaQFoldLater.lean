/- FoldLater: for every input, in whatever memory: the law's function returns true, and its arguments read as they did. No condition. By an AI agent. -/
import Derived.Test.YtdjlnpiaehoofaaQFoldLaterX
import Derived.Test.YtdjlnpiaehoofaaCore15

namespace Go.Proofs.Ytdjlnpiaehoofaa
open Go.ChangeShapes Go.WideShapes Go.ChangeAt Go.RowKit

set_option maxRecDepth 100000 in
theorem foldLater_lifted (os : Os) (started : os.Started) (H : Type) (enc : TypeId × Value → H) :
    ReturnsInHanded {} Try.checked os 4 .any (Rows.foldLaterSpec.pre6 enc Try.prog Try.f4 Rows.foldLaterRow.domain false) (Rows.foldLaterSpec.post enc Try.prog Try.f4 false true false false) := by
  refine returnsInHanded_of_change_sized (C := Try.checked) own started (by kernel_rfl) Try.func4
    (ChangeSpec.witness6 (enc := enc) (C := Try.checked) false ⟨#[], #[.string ⟨#[]⟩, .slice none 0 0, .slice none 0 0, .slice none 0 0, .slice none 0 0], []⟩ 8 (by kernel_rfl) (by kernel_rfl) (by kernel_rfl) (by kernel_rfl)) ?_
  intro W base args ds gs before hval0 hW _ hsz0 _
  have hsz : (DataW.weightsEach Try.prog (Try.f4.params.toList ++ Rows.foldLaterSpec.plain.varTypes Try.prog) (ds ++ gs)).all (· ≤ reachBytes) = true := hsz0
  clear hsz0
  have hval : ∀ (j : Nat) t v, Try.f4.params[j]? = some t → args[j]? = some v → Value.okWide Try.prog W .any base t v := hval0
  have hW' := hW
  obtain ⟨p, q, hA0, hV, rfl, _, _⟩ := hW
  have hA : DataW.TrodAll enc Try.prog W 0 (fun _ => true) true Try.f4.params.toList args.toList ds p := hA0
  rw [Try.params4] at hA hval hsz
  obtain ⟨v0, vs0, d0, ds0, p0, q0, hargs, rfl, rfl, h0, r0⟩ := trodAll_cons hA
  obtain ⟨v1, vs1, d1, ds1, p1, q1, rfl, rfl, rfl, h1, r1⟩ := trodAll_cons r0
  obtain ⟨v2, vs2, d2, ds2, p2, q2, rfl, rfl, rfl, h2, r2⟩ := trodAll_cons r1
  obtain ⟨v3, vs3, d3, ds3, p3, q3, rfl, rfl, rfl, h3, r3⟩ := trodAll_cons r2
  obtain ⟨v4, vs4, d4, ds4, p4, q4, rfl, rfl, rfl, h4, r4⟩ := trodAll_cons r3
  obtain ⟨rfl, rfl, rfl⟩ := trodAll_nil r4
  obtain rfl : args = #[v0, v1, v2, v3, v4] := by cases args; simp_all
  obtain ⟨s0, rfl, rfl, rfl, i0⟩ := Go.ChangeMaps.open_string Try.underlying9 (hval 0 9 v0 rfl rfl) h0
  obtain ⟨a1, n1, c1, vs1, rfl, i1⟩ := open_vers (hval 1 22 v1 rfl rfl) h1 (wt_arg hsz (j := 1) rfl rfl)
  obtain ⟨a2, n2, c2, vs2, rfl, i2⟩ := open_vers (hval 2 22 v2 rfl rfl) h2 (wt_arg hsz (j := 2) rfl rfl)
  obtain ⟨a3, n3, c3, xs3, rfl, i3⟩ := open_vec (hval 3 24 v3 rfl rfl) h3 (fun el sp e => sized_slice hsz (j := 3) rfl (by rw [e]; rfl) Try.underlying24)
  obtain ⟨a4, n4, c4, xs4, rfl, i4⟩ := open_vec (hval 4 24 v4 rfl rfl) h4 (fun el sp e => sized_slice hsz (j := 4) rfl (by rw [e]; rfl) Try.underlying24)
  exact law_post (f := 4) (by rfl) rfl (of_decide_eq_true (by kernel_rfl)) (fun ds hl => by
    rw [Try.params4] at hl
    match ds, hl with
    | [d0, d1, d2, d3, d4], _ => rfl) hW' (foldLater_any s0 a1 n1 c1 vs1 a2 n2 c2 vs2 a3 n3 c3 xs3 a4 n4 c4 xs4 W (sized_string hsz (j := 0) rfl rfl) i1.1 i2.1 i3 i4)

theorem foldLater_holds : Rows.FoldLaterSaid :=
  OpenClaim.holds_of_wide 4 Try.f4 rfl rfl rfl rfl rfl rfl rfl ⟨rfl, rfl, rfl, rfl, rfl⟩ rfl rfl rfl rfl rfl (by kernel_rfl) Try.func4 (by kernel_rfl)
    (of_decide_eq_true (by kernel_rfl)) (by unfold Func.isWrapper; first | (rw [if_pos (by decide +kernel)]; kernel_rfl) | (rw [if_neg (by decide +kernel)]; exact ⟨rfl, rfl⟩))
    (fun os started H enc _ => foldLater_lifted os started H enc)
#print axioms foldLater_holds
end Go.Proofs.Ytdjlnpiaehoofaa
