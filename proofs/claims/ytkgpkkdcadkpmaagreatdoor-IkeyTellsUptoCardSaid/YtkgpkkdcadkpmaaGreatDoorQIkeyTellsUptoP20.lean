import Derived.Test.YtkgpkkdcadkpmaaGreatDoorQLift
import Derived.Deep.Slices
import Derived.Laws.Cover2
import Derived.Test.YtkgpkkdcadkpmaaGreatDoorQIkeyTellsUptoP3
import Derived.Lib.SmallJoins
import Derived.Test.YtkgpkkdcadkpmaaGreatDoorQIkeyTellsUptoP4
import Derived.StillTailTactics
import Derived.Test.YtkgpkkdcadkpmaaGreatDoorCards
import Derived.Test.YtkgpkkdcadkpmaaGreatDoorTie
import Derived.Deep.DeepHandedRow
import Derived.Lib.LaidTab

/- Arguments opened: numbers, strings, vectors, structs and slices of structs, by the cells that they read. By an AI agent. -/
section
namespace Go.Proofs.YtkgpkkdcadkpmaaGreatDoor
open Go.ChangeShapes Go.WideShapes Go.ChangeAt Go.RowKit Go.Deep

section
variable {H : Type} {enc : TypeId × Value → H}

/-- no part of the datum is too great -/
def Wt (t : TypeId) (d : DataW H) : Prop := ∀ m ∈ d.weights Tryz.prog t, m ≤ reachBytes

theorem wt_arg {ts : List TypeId} {ds : List (DataW H)} (h : (DataW.weightsEach Tryz.prog ts ds).all (· ≤ reachBytes) = true) {j : Nat} {t : TypeId} {d : DataW H} (ht : ts[j]? = some t) (hd : ds[j]? = some d) : Wt t d :=
  fun m hm => by simpa using List.all_eq_true.1 h m (DataW.weights_mem_each ht hd m hm)
theorem wt_part {t : TypeId} {fs : Array Field} {parts : List (DataW H)} (hu : Tryz.prog.underlying t = some (.struct fs)) (h : Wt t (.agg parts)) {j : Nat} {f : Field} {d : DataW H} (hf : fs[j]? = some f) (hd : parts[j]? = some d) : Wt f.type d :=
  fun m hm => h m (by
    simp only [DataW.weights, hu]
    exact DataW.weights_mem_each (j := j) (by simp [hf]) hd m hm)
theorem weights_all {e : TypeId} {l : List (DataW H)} {d : DataW H} (hd : d ∈ l) {m : Nat} (hm : m ∈ d.weights Tryz.prog e) : m ∈ DataW.weightsAll Tryz.prog e l := by
  induction l with
  | nil => simp at hd
  | cons a l ih =>
    simp only [DataW.weightsAll, List.mem_append]
    rcases List.mem_cons.1 hd with rfl | h
    · exact .inl hm
    · exact .inr (ih h)
theorem wt_slice {t e : TypeId} {elems spare : List (DataW H)} (hu : Tryz.prog.underlying t = some (.slice e)) (h : Wt t (.slice elems spare)) :
    (elems.length + spare.length) * Tryz.prog.bytesOf e ≤ reachBytes ∧ ∀ d ∈ elems, Wt e d := by
  refine ⟨h _ (by simp [DataW.weights, hu]), fun d hd m hm => h m ?_⟩
  simp only [DataW.weights, hu, List.mem_cons, List.mem_append]
  exact .inr (.inl (weights_all hd hm))

/-- what lies at cells, as a datum of a type -/
def Rd (W : World) (t : TypeId) (cs : List Value) (d : DataW H) : Prop := ∃ (fuel : Nat) (ps : List MemPlace), DataW.trod enc Tryz.prog W 0 (fun _ => true) true fuel t cs = some (d, ps)

theorem rd_of_trod {W : World} {t : TypeId} {v : Value} {d : DataW H} {p : List MemPlace} (h : DataW.Trod enc Tryz.prog W 0 (fun _ => true) true t v d p) : Rd (enc := enc) W t v.cells.toList d := by
  obtain ⟨fuel, h⟩ := h
  exact ⟨fuel, p, h⟩

theorem rd_int {W : World} {cs : List Value} {d : DataW H} {t : TypeId} (hu : Tryz.prog.underlying t = some (.int .i64)) (h : Rd (enc := enc) W t cs d) : ∃ n, cs = [.int .i64 n] ∧ -9223372036854775808 ≤ n ∧ n ≤ 9223372036854775807 := by
  obtain ⟨fuel, ps, h⟩ := h
  obtain ⟨n, h1, _, h3⟩ := DataW.trod_int hu h
  have := bounds_i64 h3
  exact ⟨n, h1, this⟩
theorem rd_string {W : World} {cs : List Value} {d : DataW H} {t : TypeId} (hu : Tryz.prog.underlying t = some .string) (h : Rd (enc := enc) W t cs d) (hw : Wt t d) : ∃ s : ByteArray, cs = [.string s] ∧ s.size ≤ 140737488351232 := by
  obtain ⟨fuel, ps, h⟩ := h
  obtain ⟨s, h1, h2, _⟩ := DataW.trod_string hu h
  simp only [Prod.mk.injEq] at h2
  obtain ⟨rfl, _⟩ := h2
  refine ⟨s, h1, ?_⟩
  have := hw s.data.toList.length (by simp [DataW.weights])
  simpa [reachBytes] using this
theorem rd_float {W : World} {cs : List Value} {d : DataW H} {t : TypeId} (hu : Tryz.prog.underlying t = some (.float .f64)) (h : Rd (enc := enc) W t cs d) : ∃ x : Nat, cs = [.float .f64 x] ∧ x < 18446744073709551616 := by
  obtain ⟨fuel, ps, h⟩ := h
  cases fuel with
  | zero => simp [DataW.trod] at h
  | succ n =>
    unfold DataW.trod at h
    rw [hu] at h
    split at h <;> simp_all
    rename_i he
    subst he
    have h2 := h.1.2
    simpa [Lit.wf] using h2
theorem rd_vec {W : World} {cs : List Value} {d : DataW H} (h : Rd (enc := enc) W 23 cs d) (hw : Wt 23 d) : ∃ a n cap xs, cs = [.slice a n cap] ∧ IA W a n xs := by
  obtain ⟨fuel, ps, hf⟩ := h
  rcases open_ints Tryz.underlying23 Tryz.underlying3 cells_int hf with ⟨hcs, hx⟩ | ⟨a, len, cap, zs, hcs, _, hl, hm, hz, hx, hcell, hwz⟩
  · exact ⟨none, 0, 0, [], hcs, IA.nil _ _⟩
  · simp only [Prod.mk.injEq] at hx
    obtain ⟨rfl, rfl⟩ := hx
    simp only [if_true] at hz
    have hreach := (wt_slice Tryz.underlying23 hw).1
    rw [bytes_int] at hreach
    simp only [lits, List.length_map, List.length_take, List.length_drop, reachBytes] at hreach
    refine ⟨some a, len, cap, zs.take len, hcs, by rw [List.length_take]; omega, by omega, fun j hj => ?_, fun x hx => ?_⟩
    · obtain ⟨b, off, spot⟩ := a
      have hspot : spot = none := by simpa [Addr.add] using World.cell?_spot (hcell 0 (by omega))
      subst hspot
      refine ⟨b, off, rfl, fun j hj => ?_⟩
      rw [← add_plain, hcell j (by omega)]
      simp [nth, List.getD, hj]
    · exact bounds_i64 (hwz x (List.mem_of_mem_take hx))

/-- a struct, field by field -/
theorem rd_struct {W : World} {t : TypeId} {fs : Array Field} {cs : List Value} {d : DataW H} (hu : Tryz.prog.underlying t = some (.struct fs)) (h : Rd (enc := enc) W t cs d) (hw : Wt t d) :
    cs.length = Tryz.prog.cellsOf t ∧ ∀ (i : Nat) (f : Field), fs[i]? = some f → ∃ y, Rd (enc := enc) W f.type ((cs.drop f.offset).take (Tryz.prog.cellsOf f.type)) y ∧ Wt f.type y := by
  obtain ⟨fuel, ps, h⟩ := h
  obtain ⟨xs, n, _, hx, hl, hxl, hf⟩ := DataW.trod_struct hu h
  simp only [Prod.mk.injEq] at hx
  obtain ⟨rfl, rfl⟩ := hx
  refine ⟨hl, fun i f hi => ?_⟩
  have hlt : i < xs.length := by rw [hxl]; exact (Array.getElem?_eq_some_iff.1 hi).1
  have h1 := hf i f hi
  rw [List.getElem?_eq_getElem hlt] at h1
  exact ⟨xs[i].1, ⟨n, xs[i].2, h1⟩, wt_part hu hw hi (by simp [hlt])⟩

end
end Go.Proofs.YtkgpkkdcadkpmaaGreatDoor
end

/- structs api.Act and api.Value among the cells of arguments. By an AI agent. -/
section
namespace Go.Proofs.YtkgpkkdcadkpmaaGreatDoor
open Go.ChangeShapes Go.WideShapes Go.ChangeAt Go.RowKit Go.Deep

section
variable {H : Type} {enc : TypeId × Value → H}
theorem cells_act : Tryz.prog.cellsOf 26 = 4 := by kernel_rfl
theorem cells_vec : Tryz.prog.cellsOf 23 = 1 := by kernel_rfl
theorem cells_str : Tryz.prog.cellsOf 9 = 1 := by kernel_rfl
theorem cells_flt : Tryz.prog.cellsOf 24 = 1 := by kernel_rfl
set_option maxRecDepth 100000 in
theorem rd_act {W : World} {cs : List Value} {d : DataW H} (h : Rd (enc := enc) W 26 cs d) (hw : Wt 26 d) :
    ∃ a : ActL, cs = [.int .i64 a.k, .float .f64 a.x, .int .i64 a.n, .string a.s] ∧ a.Ok := by
  obtain ⟨hl, hf⟩ := rd_struct Tryz.underlying26 h hw
  rw [cells_act] at hl
  match cs, hl with
  | [c0, c1, c2, c3], _ =>
    obtain ⟨y0, r0, w0⟩ := hf 0 ⟨_, 3, 0, _, _, _, _⟩ rfl
    obtain ⟨y1, r1, w1⟩ := hf 1 ⟨_, 24, 1, _, _, _, _⟩ rfl
    obtain ⟨y2, r2, w2⟩ := hf 2 ⟨_, 3, 2, _, _, _, _⟩ rfl
    obtain ⟨y3, r3, w3⟩ := hf 3 ⟨_, 9, 3, _, _, _, _⟩ rfl
    simp only [cells_int, cells_flt, cells_str, List.drop_zero, List.drop_succ_cons, List.take_succ_cons, List.take_zero] at r0 r1 r2 r3
    obtain ⟨k, e0, b0⟩ := rd_int Tryz.underlying3 r0
    obtain ⟨x, e1, b1⟩ := rd_float Tryz.underlying24 r1
    obtain ⟨m, e2, b2⟩ := rd_int Tryz.underlying3 r2
    obtain ⟨s, e3, b3⟩ := rd_string Tryz.underlying9 r3 w3
    simp only [List.cons.injEq, and_true] at e0 e1 e2 e3
    subst e0; subst e1; subst e2; subst e3
    exact ⟨⟨k, x, m, s⟩, rfl, b0, b1, b2, b3⟩
end
end Go.Proofs.YtkgpkkdcadkpmaaGreatDoor
end

/- Arguments of type []api.Version opened. By an AI agent. -/
section
namespace Go.Proofs.YtkgpkkdcadkpmaaGreatDoor
open Go.ChangeShapes Go.WideShapes Go.ChangeAt Go.RowKit Go.Deep

section
variable {H : Type} {enc : TypeId × Value → H}
theorem cells_ver : Tryz.prog.cellsOf 28 = 8 := by kernel_rfl
/-- the cells of one version -/
structure VCo (W : World) (cs : List Value) (v : VerL) : Prop where
  cs : ∃ a n ca, cs = [.string v.key, .slice a n ca, .int .i64 v.origin, .int .i64 v.tx, .int .i64 v.act.k, .float .f64 v.act.x, .int .i64 v.act.n, .string v.act.s] ∧ IA W a n v.at_
  key : v.key.size ≤ 140737488351232
  origin : -9223372036854775808 ≤ v.origin ∧ v.origin ≤ 9223372036854775807
  tx : -9223372036854775808 ≤ v.tx ∧ v.tx ≤ 9223372036854775807
  ok : v.act.Ok
set_option maxRecDepth 100000 in
theorem rd_ver {W : World} {cs : List Value} {d : DataW H} (h : Rd (enc := enc) W 28 cs d) (hw : Wt 28 d) : ∃ v, VCo W cs v := by
  obtain ⟨hl, hf⟩ := rd_struct Tryz.underlying28 h hw
  rw [cells_ver] at hl
  match cs, hl with
  | [c0, c1, c2, c3, c4, c5, c6, c7], _ =>
    obtain ⟨y0, r0, w0⟩ := hf 0 ⟨_, 9, 0, _, _, _, _⟩ rfl
    obtain ⟨y1, r1, w1⟩ := hf 1 ⟨_, 23, 1, _, _, _, _⟩ rfl
    obtain ⟨y2, r2, w2⟩ := hf 2 ⟨_, 3, 2, _, _, _, _⟩ rfl
    obtain ⟨y3, r3, w3⟩ := hf 3 ⟨_, 3, 3, _, _, _, _⟩ rfl
    obtain ⟨y4, r4, w4⟩ := hf 4 ⟨_, 26, 4, _, _, _, _⟩ rfl
    simp only [cells_int, cells_str, cells_vec, cells_act, List.drop_zero, List.drop_succ_cons, List.take_succ_cons, List.take_zero] at r0 r1 r2 r3 r4
    obtain ⟨s, e0, b0⟩ := rd_string Tryz.underlying9 r0 w0
    obtain ⟨a, n, c, xs, e1, hI⟩ := rd_vec r1 w1
    obtain ⟨o, e2, b2⟩ := rd_int Tryz.underlying3 r2
    obtain ⟨t, e3, b3⟩ := rd_int Tryz.underlying3 r3
    obtain ⟨A, e4, hA⟩ := rd_act r4 w4
    simp only [List.cons.injEq, and_true] at e0 e1 e2 e3 e4
    obtain ⟨e4, e5, e6, e7⟩ := e4
    subst e0; subst e1; subst e2; subst e3; subst e4; subst e5; subst e6; subst e7
    exact ⟨⟨s, xs, o, t, A⟩, ⟨a, n, c, rfl, hI⟩, b0, b2, b3, hA⟩

end
end Go.Proofs.YtkgpkkdcadkpmaaGreatDoor
end

/- What the given cards of chapter 5 ask beside a walk: a world for the witness (the two tables of unicode/utf8), a version as an argument. By an AI agent. -/
section
namespace Go.Proofs.YtkgpkkdcadkpmaaGreatDoor
open Go.ChangeShapes Go.WideShapes Go.ChangeAt Go.RowKit

/-- a world for the witness: the tables hold what is laid in them -/
noncomputable def laidWorldU (os : Os) : World :=
  let w0 := World.holding Tryz.prog os ⟨#[], #[], []⟩
  let put (h : Array Obj) (g : Nat) (cs : Array Value) : Array Obj := h.modify g fun
    | .cells _ t frozen => .cells cs t frozen
    | o => o
  let h1 := put w0.heap 1 (Go.Pinned.utf8FirstZ.map fun (n : Nat) => Value.int .u8 (n : Int)).toArray
  let h2 := put h1 2 (([128, 191, 160, 191, 128, 159, 144, 191, 128, 143] ++ List.replicate 22 0 : List Int).map fun (n : Int) => Value.int .u8 n).toArray
  { w0 with heap := h2 }

section
variable {H : Type} {enc : TypeId × Value → H}
/-- a version's bounds -/
structure VR (v : VerL) : Prop where
  key : v.key.size ≤ 140737488351232
  origin : -9223372036854775808 ≤ v.origin ∧ v.origin ≤ 9223372036854775807
  tx : -9223372036854775808 ≤ v.tx ∧ v.tx ≤ 9223372036854775807
  ok : v.act.Ok
set_option maxRecDepth 100000 in
theorem open_ver {W : World} {base : Nat} {v : Value} {d : DataW H} {p : List MemPlace} (hval : Value.okWide Tryz.prog W .any base 28 v) (h : DataW.Trod enc Tryz.prog W 0 (fun _ => true) true 28 v d p)
    (hw : Wt 28 d) : ∃ a n ca V, v = .agg #[.string V.key, .slice a n ca, .int .i64 V.origin, .int .i64 V.tx, .int .i64 V.act.k, .float .f64 V.act.x, .int .i64 V.act.n, .string V.act.s] ∧ IA W a n V.at_ ∧ VR V := by
  obtain ⟨cs, rfl, hsz⟩ := okWide_struct Tryz.underlying28 hval
  obtain ⟨V, hV⟩ := rd_ver (rd_of_trod h) hw
  obtain ⟨a, n, ca, e, hI⟩ := hV.cs
  have e2 : cs = #[.string V.key, .slice a n ca, .int .i64 V.origin, .int .i64 V.tx, .int .i64 V.act.k, .float .f64 V.act.x, .int .i64 V.act.n, .string V.act.s] := by
    apply Array.toList_inj.1
    simpa [Value.cells] using e
  subst e2
  exact ⟨a, n, ca, V, rfl, hI, hV.key, hV.origin, hV.tx, hV.ok⟩
end
end Go.Proofs.YtkgpkkdcadkpmaaGreatDoor
end
