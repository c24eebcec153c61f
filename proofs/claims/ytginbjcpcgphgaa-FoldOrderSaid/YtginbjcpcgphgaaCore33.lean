import Derived.Test.YtginbjcpcgphgaaCore32
import Derived.Test.YtginbjcpcgphgaaCore9

/- Arguments of type []api.Version opened. By an AI agent. -/
section
namespace Go.Proofs.Ytginbjcpcgphgaa
open Go.ChangeShapes Go.WideShapes Go.ChangeAt Go.RowKit Go.Deep

section
variable {H : Type} {enc : TypeId × Value → H}
theorem cells_ver : Try.prog.cellsOf 35 = 8 := by kernel_rfl
theorem bytes_ver : Try.prog.bytesOf 35 = 96 := by kernel_rfl
/-- the cells of one version -/
structure VCo (W : World) (cs : List Value) (v : VerL) : Prop where
  cs : ∃ a n ca, cs = [.string v.key, .slice a n ca, .int .i64 v.origin, .int .i64 v.tx, .int .i64 v.act.k, .float .f64 v.act.x, .int .i64 v.act.n, .string v.act.s] ∧ IA W a n v.at_
  key : v.key.size ≤ 140737488351232
  origin : -9223372036854775808 ≤ v.origin ∧ v.origin ≤ 9223372036854775807
  tx : -9223372036854775808 ≤ v.tx ∧ v.tx ≤ 9223372036854775807
  ok : v.act.Ok
set_option maxRecDepth 100000 in
theorem rd_ver {W : World} {cs : List Value} {d : DataW H} (h : Rd (enc := enc) W 35 cs d) (hw : Wt 35 d) : ∃ v, VCo W cs v := by
  obtain ⟨hl, hf⟩ := rd_struct Try.underlying35 h hw
  rw [cells_ver] at hl
  match cs, hl with
  | [c0, c1, c2, c3, c4, c5, c6, c7], _ =>
    obtain ⟨y0, r0, w0⟩ := hf 0 ⟨_, 9, 0, _, _, _, _⟩ rfl
    obtain ⟨y1, r1, w1⟩ := hf 1 ⟨_, 24, 1, _, _, _, _⟩ rfl
    obtain ⟨y2, r2, w2⟩ := hf 2 ⟨_, 3, 2, _, _, _, _⟩ rfl
    obtain ⟨y3, r3, w3⟩ := hf 3 ⟨_, 3, 3, _, _, _, _⟩ rfl
    obtain ⟨y4, r4, w4⟩ := hf 4 ⟨_, 33, 4, _, _, _, _⟩ rfl
    simp only [cells_int, cells_str, cells_vec, cells_act, List.drop_zero, List.drop_succ_cons, List.take_succ_cons, List.take_zero] at r0 r1 r2 r3 r4
    obtain ⟨s, e0, b0⟩ := rd_string Try.underlying9 r0 w0
    obtain ⟨a, n, c, xs, e1, hI⟩ := rd_vec r1 w1
    obtain ⟨o, e2, b2⟩ := rd_int Try.underlying3 r2
    obtain ⟨t, e3, b3⟩ := rd_int Try.underlying3 r3
    obtain ⟨A, e4, hA⟩ := rd_act r4 w4
    simp only [List.cons.injEq, and_true] at e0 e1 e2 e3 e4
    obtain ⟨e4, e5, e6, e7⟩ := e4
    subst e0; subst e1; subst e2; subst e3; subst e4; subst e5; subst e6; subst e7
    exact ⟨⟨s, xs, o, t, A⟩, ⟨a, n, c, rfl, hI⟩, b0, b2, b3, hA⟩

/-- versions that are data -/
structure VOko (vs : List VerL) : Prop where
  key : ∀ v ∈ vs, v.key.size ≤ 140737488351232
  origin : ∀ v ∈ vs, -9223372036854775808 ≤ v.origin ∧ v.origin ≤ 9223372036854775807
  tx : ∀ v ∈ vs, -9223372036854775808 ≤ v.tx ∧ v.tx ≤ 9223372036854775807
set_option maxRecDepth 100000 in
theorem rd_vers {W : World} {cs : List Value} {d : DataW H} (h : Rd (enc := enc) W 22 cs d) (hw : Wt 22 d) : ∃ a n c vs, cs = [.slice a n c] ∧ VA W a n vs ∧ VOko vs := by
  obtain ⟨a, n, c, hcs, hb, hj⟩ := rd_slice Try.underlying22 cells_ver (by decide) h hw
  rw [bytes_ver] at hb
  have hex : ∀ j : Nat, ∃ v : VerL, j < n → ∃ cs', VCo W cs' v ∧ ∃ b off, a = some ⟨b, off, none⟩ ∧ ∀ i, i < 8 → W.cell? ⟨b, off + j * 8 + i, none⟩ = cs'[i]? := fun j => by
    by_cases hlt : j < n
    · obtain ⟨b, off, rfl, hc⟩ := hj j hlt
      obtain ⟨y, cs', r, w, hl, hcell⟩ := hc j hlt
      obtain ⟨v, hv⟩ := rd_ver r w
      exact ⟨v, fun _ => ⟨cs', hv, b, off, rfl, hcell⟩⟩
    · exact ⟨noVer, fun h => absurd h hlt⟩
  obtain ⟨f, hf⟩ := Classical.axiomOfChoice hex
  have hn : ∀ j, j < n → nthR ((List.range n).map f) j = f j := fun j hj => by simp [nthR, hj]
  have hall : ∀ v ∈ (List.range n).map f, ∃ j, j < n ∧ f j = v := fun v hv => by simpa using hv
  refine ⟨a, n, c, (List.range n).map f, hcs, ⟨by simp, by omega, fun j0 hj0 => ?_⟩, ?_, ?_, ?_⟩
  · obtain ⟨_, _, b, off, rfl, _⟩ := hf j0 hj0
    refine ⟨b, off, rfl, fun j hj => ?_⟩
    obtain ⟨cs', hv, b', off', e, hc⟩ := hf j hj
    simp at e
    obtain ⟨rfl, rfl⟩ := e
    rw [hn j hj]
    obtain ⟨a0, n0, k0, rfl, hI⟩ := hv.cs
    exact ⟨hc 0 (by decide), ⟨a0, n0, k0, hc 1 (by decide), hI⟩, hc 2 (by decide), hc 3 (by decide), hc 4 (by decide), hc 5 (by decide), hc 6 (by decide), hc 7 (by decide), hv.ok⟩
  all_goals
    intro v hv
    obtain ⟨j, hj, rfl⟩ := hall v hv
    obtain ⟨cs', hv, _⟩ := hf j hj
  · exact hv.key
  · exact hv.origin
  · exact hv.tx
set_option maxRecDepth 100000 in
theorem open_vers {W : World} {base : Nat} {v : Value} {d : DataW H} {p : List MemPlace} (hval : Value.okWide Try.prog W .any base 22 v) (h : DataW.Trod enc Try.prog W 0 (fun _ => true) true 22 v d p)
    (hw : Wt 22 d) : ∃ a n c vs, v = .slice a n c ∧ VA W a n vs ∧ VOko vs := by
  obtain ⟨a0, len, cap, rfl⟩ := okWide_slice Try.underlying22 hval
  obtain ⟨a, n, c, vs, hcs, ho⟩ := rd_vers (rd_of_trod h) hw
  simp [Value.cells] at hcs
  obtain ⟨rfl, rfl, rfl⟩ := hcs
  exact ⟨_, _, _, vs, rfl, ho⟩
end
end Go.Proofs.Ytginbjcpcgphgaa
end
