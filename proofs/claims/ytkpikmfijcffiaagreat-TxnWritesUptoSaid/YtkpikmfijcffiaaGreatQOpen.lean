import Derived.Test.YtkpikmfijcffiaaGreatQLift
import Derived.Deep.Slices
import Derived.Laws.Cover2

/- Arguments opened: numbers, strings, vectors, structs and slices of structs, by the cells that they read. By an AI agent. -/
section
namespace Go.Proofs.YtkpikmfijcffiaaGreat
open Go.ChangeShapes Go.WideShapes Go.ChangeAt Go.RowKit Go.Deep

section
variable {H : Type} {enc : TypeId × Value → H}

/-- no part of the datum is too great -/
def Wt (t : TypeId) (d : DataW H) : Prop := ∀ m ∈ d.weights Tryz.prog t, m ≤ reachBytes

theorem wt_arg {ts : List TypeId} {ds : List (DataW H)} (h : (DataW.weightsEach Tryz.prog ts ds).all (· ≤ reachBytes) = true) {j : Nat} {t : TypeId} {d : DataW H} (ht : ts[j]? = some t) (hd : ds[j]? = some d) : Wt t d :=
  fun m hm => by simpa using List.all_eq_true.1 h m (DataW.weights_mem_each ht hd m hm)
theorem wt_part {t : TypeId} {fs : Array Field} {parts : List (DataW H)} (hu : Tryz.prog.underlying t = some (.struct fs)) (h : Wt t (.agg parts)) {j : Nat} {f : Field} {d : DataW H} (hf : fs[j]? = some f) (hd : parts[j]? = some d) : Wt f.type d :=
  fun m hm => h m (by
    simp only [DataW.weights, hu]
    exact DataW.weights_mem_each (j := j) (by simp [hf]) hd m hm)
theorem weights_all {e : TypeId} {l : List (DataW H)} {d : DataW H} (hd : d ∈ l) {m : Nat} (hm : m ∈ d.weights Tryz.prog e) : m ∈ DataW.weightsAll Tryz.prog e l := by
  induction l with
  | nil => simp at hd
  | cons a l ih =>
    simp only [DataW.weightsAll, List.mem_append]
    rcases List.mem_cons.1 hd with rfl | h
    · exact .inl hm
    · exact .inr (ih h)
theorem wt_slice {t e : TypeId} {elems spare : List (DataW H)} (hu : Tryz.prog.underlying t = some (.slice e)) (h : Wt t (.slice elems spare)) :
    (elems.length + spare.length) * Tryz.prog.bytesOf e ≤ reachBytes ∧ ∀ d ∈ elems, Wt e d := by
  refine ⟨h _ (by simp [DataW.weights, hu]), fun d hd m hm => h m ?_⟩
  simp only [DataW.weights, hu, List.mem_cons, List.mem_append]
  exact .inr (.inl (weights_all hd hm))

/-- what lies at cells, as a datum of a type -/
def Rd (W : World) (t : TypeId) (cs : List Value) (d : DataW H) : Prop := ∃ (fuel : Nat) (ps : List MemPlace), DataW.trod enc Tryz.prog W 0 (fun _ => true) true fuel t cs = some (d, ps)

theorem rd_of_trod {W : World} {t : TypeId} {v : Value} {d : DataW H} {p : List MemPlace} (h : DataW.Trod enc Tryz.prog W 0 (fun _ => true) true t v d p) : Rd (enc := enc) W t v.cells.toList d := by
  obtain ⟨fuel, h⟩ := h
  exact ⟨fuel, p, h⟩

theorem rd_int {W : World} {cs : List Value} {d : DataW H} {t : TypeId} (hu : Tryz.prog.underlying t = some (.int .i64)) (h : Rd (enc := enc) W t cs d) : ∃ n, cs = [.int .i64 n] ∧ -9223372036854775808 ≤ n ∧ n ≤ 9223372036854775807 := by
  obtain ⟨fuel, ps, h⟩ := h
  obtain ⟨n, h1, _, h3⟩ := DataW.trod_int hu h
  have := bounds_i64 h3
  exact ⟨n, h1, this⟩
theorem rd_bool {W : World} {cs : List Value} {d : DataW H} {t : TypeId} (hu : Tryz.prog.underlying t = some .bool) (h : Rd (enc := enc) W t cs d) : ∃ b, cs = [.bool b] := by
  obtain ⟨fuel, ps, h⟩ := h
  obtain ⟨n, h1, _⟩ := DataW.trod_bool hu h
  exact ⟨n, h1⟩
theorem rd_string {W : World} {cs : List Value} {d : DataW H} {t : TypeId} (hu : Tryz.prog.underlying t = some .string) (h : Rd (enc := enc) W t cs d) (hw : Wt t d) : ∃ s : ByteArray, cs = [.string s] ∧ s.size ≤ 140737488351232 := by
  obtain ⟨fuel, ps, h⟩ := h
  obtain ⟨s, h1, h2, _⟩ := DataW.trod_string hu h
  simp only [Prod.mk.injEq] at h2
  obtain ⟨rfl, _⟩ := h2
  refine ⟨s, h1, ?_⟩
  have := hw s.data.toList.length (by simp [DataW.weights])
  simpa [reachBytes] using this
theorem rd_float {W : World} {cs : List Value} {d : DataW H} {t : TypeId} (hu : Tryz.prog.underlying t = some (.float .f64)) (h : Rd (enc := enc) W t cs d) : ∃ x : Nat, cs = [.float .f64 x] ∧ x < 18446744073709551616 := by
  obtain ⟨fuel, ps, h⟩ := h
  cases fuel with
  | zero => simp [DataW.trod] at h
  | succ n =>
    unfold DataW.trod at h
    rw [hu] at h
    split at h <;> simp_all
    rename_i he
    subst he
    have h2 := h.1.2
    simpa [Lit.wf] using h2
theorem rd_vec {W : World} {cs : List Value} {d : DataW H} (h : Rd (enc := enc) W 60 cs d) (hw : Wt 60 d) : ∃ a n cap xs, cs = [.slice a n cap] ∧ IA W a n xs := by
  obtain ⟨fuel, ps, hf⟩ := h
  rcases open_ints Tryz.underlying60 Tryz.underlying3 cells_int hf with ⟨hcs, hx⟩ | ⟨a, len, cap, zs, hcs, _, hl, hm, hz, hx, hcell, hwz⟩
  · exact ⟨none, 0, 0, [], hcs, IA.nil _ _⟩
  · simp only [Prod.mk.injEq] at hx
    obtain ⟨rfl, rfl⟩ := hx
    simp only [if_true] at hz
    have hreach := (wt_slice Tryz.underlying60 hw).1
    rw [bytes_int] at hreach
    simp only [lits, List.length_map, List.length_take, List.length_drop, reachBytes] at hreach
    refine ⟨some a, len, cap, zs.take len, hcs, by rw [List.length_take]; omega, by omega, fun j hj => ?_, fun x hx => ?_⟩
    · obtain ⟨b, off, spot⟩ := a
      have hspot : spot = none := by simpa [Addr.add] using World.cell?_spot (hcell 0 (by omega))
      subst hspot
      refine ⟨b, off, rfl, fun j hj => ?_⟩
      rw [← add_plain, hcell j (by omega)]
      simp [nth, List.getD, hj]
    · exact bounds_i64 (hwz x (List.mem_of_mem_take hx))

/-- a struct, field by field -/
theorem rd_struct {W : World} {t : TypeId} {fs : Array Field} {cs : List Value} {d : DataW H} (hu : Tryz.prog.underlying t = some (.struct fs)) (h : Rd (enc := enc) W t cs d) (hw : Wt t d) :
    cs.length = Tryz.prog.cellsOf t ∧ ∀ (i : Nat) (f : Field), fs[i]? = some f → ∃ y, Rd (enc := enc) W f.type ((cs.drop f.offset).take (Tryz.prog.cellsOf f.type)) y ∧ Wt f.type y := by
  obtain ⟨fuel, ps, h⟩ := h
  obtain ⟨xs, n, _, hx, hl, hxl, hf⟩ := DataW.trod_struct hu h
  simp only [Prod.mk.injEq] at hx
  obtain ⟨rfl, rfl⟩ := hx
  refine ⟨hl, fun i f hi => ?_⟩
  have hlt : i < xs.length := by rw [hxl]; exact (Array.getElem?_eq_some_iff.1 hi).1
  have h1 := hf i f hi
  rw [List.getElem?_eq_getElem hlt] at h1
  exact ⟨xs[i].1, ⟨n, xs[i].2, h1⟩, wt_part hu hw hi (by simp [hlt])⟩

/-- a slice of structs, element by element: the cells of each -/
theorem rd_slice {W : World} {t e : TypeId} {cs : List Value} {d : DataW H} {k : Nat} (hu : Tryz.prog.underlying t = some (.slice e)) (hk : Tryz.prog.cellsOf e = k) (hk0 : 0 < k) (h : Rd (enc := enc) W t cs d) (hw : Wt t d) :
    ∃ a n cap, cs = [.slice a n cap] ∧ n * Tryz.prog.bytesOf e ≤ 140737488351232 ∧ ∀ j, j < n → ∃ b off, a = some ⟨b, off, none⟩ ∧ ∀ j, j < n → ∃ y cs', Rd (enc := enc) W e cs' y ∧ Wt e y ∧ cs'.length = k ∧ ∀ i, i < k → W.cell? ⟨b, off + j * k + i, none⟩ = cs'[i]? := by
  obtain ⟨fuel, ps, h⟩ := h
  rcases open_slice hu h with ⟨hcs, _⟩ | ⟨a, len, cap, m, n, D, Pl, hcs, _, hl, hm, hmm, hx, hi⟩
  · exact ⟨none, 0, 0, hcs, by simp, fun j hj => by omega⟩
  · simp only [Prod.mk.injEq] at hx
    obtain ⟨rfl, _⟩ := hx
    simp only [if_true] at hmm
    obtain ⟨hw1, hw2⟩ := wt_slice hu hw
    simp only [List.length_map, List.length_range] at hw1
    refine ⟨some a, len, cap, hcs, ?_, fun j0 hj0 => ?_⟩
    · have : len * Tryz.prog.bytesOf e ≤ (len + (m - len)) * Tryz.prog.bytesOf e := Nat.mul_le_mul_right _ (by omega)
      unfold reachBytes at hw1
      omega
    · have hcell : ∀ j, j < m → ∃ cs', W.cells? 0 (a.add (j * k)) k = some cs' ∧ DataW.trod enc Tryz.prog W 0 (fun _ => true) true n e cs' = some (D j, Pl j) := by
        rw [hk] at hi; exact hi
      obtain ⟨b, off, spot⟩ := a
      have hspot : spot = none := by
        obtain ⟨cs', hc, _⟩ := hcell 0 (by omega)
        obtain ⟨_, hcl, hat⟩ := World.cells?_some hc
        have h0 := hat 0 hk0
        rw [List.getElem?_eq_getElem (by omega)] at h0
        simpa [Addr.add] using World.cell?_spot h0
      subst hspot
      refine ⟨b, off, rfl, fun j hj => ?_⟩
      obtain ⟨cs', hc, ht⟩ := hcell j (by omega)
      obtain ⟨_, hcl, hat⟩ := World.cells?_some hc
      refine ⟨D j, cs', ⟨n, Pl j, ht⟩, hw2 _ (List.mem_map.2 ⟨j, List.mem_range.2 hj, rfl⟩), hcl, fun i hi' => ?_⟩
      have h1 := hat i hi'
      rw [add_plain, add_plain] at h1
      exact h1
end
end Go.Proofs.YtkpikmfijcffiaaGreat
end
