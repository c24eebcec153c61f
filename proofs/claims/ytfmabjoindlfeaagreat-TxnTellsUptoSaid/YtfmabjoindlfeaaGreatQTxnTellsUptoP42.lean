import Derived.Test.YtfmabjoindlfeaaGreatQTxnTellsUptoP1
import Derived.ProofKit
import Derived.SizedLaws
import Derived.Deep.CondSized
import Derived.OpenShut
import Derived.Deep.Slices
import Derived.Laws.Cover2
import Derived.Test.YtfmabjoindlfeaaGreatQTxnTellsUptoP9
import Derived.Test.YtfmabjoindlfeaaGreatQTxnTellsUptoP23

/- From a walk ('it returns true, and nothing that was there has turned') to the given statement. By an AI agent. -/
section
namespace Go.Proofs.YtfmabjoindlfeaaGreat
open Go.ChangeShapes Go.WideShapes Go.ChangeAt Go.RowKit

theorem own : ownKnob Tryz.prog.godebug = none := by kernel_rfl
theorem laidOut : laidOutB Tryz.prog = true := by kernel_rfl

section
variable {H : Type} {enc : TypeId × Value → H}

/-- arguments that can be read, read as they did -/
theorem trodAll_keep {W W' : World} (hb : Bl W W') : ∀ (ts : List TypeId) (vs : List Value) (ds : List (DataW H)) (ps : List MemPlace),
    (∀ t ∈ ts, Tryz.prog.readableRec t = true ∧ t < Tryz.prog.types.size) → (∀ x ∈ ps, x.block < W.heap.size) →
    DataW.TrodAll enc Tryz.prog W 0 (fun _ => true) true ts vs ds ps → DataW.TrodAll enc Tryz.prog W' 0 (fun b => decide (b < W.heap.size)) true ts vs ds ps
  | [], [], [], ps, _, _, h => h
  | t :: ts, v :: vs, d :: ds, ps, hr, hlt, h => by
    obtain ⟨p, q, h1, h2, rfl⟩ := h
    exact ⟨p, q, Below.trod laidOut (hr t (by simp)).1 (hr t (by simp)).2 h1 hb (fun x hx => hlt x (by simp [hx])), trodAll_keep hb ts vs ds q (fun t ht => hr t (by simp [ht])) (fun x hx => hlt x (by simp [hx])) h2, rfl⟩
  | [], [], _ :: _, _, _, _, h => h.elim
  | [], _ :: _, _, _, _, _, h => h.elim
  | _ :: _, [], _, _, _, _, h => h.elim
  | _ :: _, _ :: _, [], _, _, _, h => h.elim

theorem trodAll_len {P : Program} {w : World} {b : Nat} {sp : Nat → Bool} {hd : Bool} : ∀ (ts : List TypeId) (vs : List Value) (ds : List (DataW H)) (ps : List MemPlace), DataW.TrodAll enc P w b sp hd ts vs ds ps → ds.length = ts.length
  | [], [], [], _, _ => rfl
  | _ :: ts, _ :: vs, _ :: ds, _, h => by
    obtain ⟨p, q, h1, h2, e⟩ := h
    simp [trodAll_len ts vs ds q h2]
  | [], [], _ :: _, _, h => h.elim
  | [], _ :: _, _, _, h => h.elim
  | _ :: _, [], _, _, h => h.elim
  | _ :: _, _ :: _, [], _, h => h.elim

/-- THE LAW's POST, out of its walk -/
theorem law_post {f : FuncId} {fn : Func} {s : ChangeSpec} {W : World} {args : Array Value} {ds gs : List (DataW H)} {before : List MemPlace}
    (hres : fn.resultTypes = #[4]) (hvars : s.vars = []) (hread : ∀ t ∈ fn.params.toList, Tryz.prog.readableRec t = true ∧ t < Tryz.prog.types.size)
    (hfn : ∀ ds : List (DataW H), ds.length = fn.params.toList.length → s.fn H ds = { results := [.lit (.bool true)], args := ds })
    (hW : DataW.Whole enc Tryz.prog fn.params.toList s.vars false W args.toList ds gs before)
    (hc : Calls Tryz.prog f args W fun e W' => e = .returned (.bool true) ∧ Bl W W') :
    Calls Tryz.prog f args W fun e W' => ∃ v, e = .returned v ∧ s.post enc Tryz.prog fn false true false false W args v W' := by
  refine hc.mono fun e W' ⟨he, hb⟩ => ?_
  subst he
  have hW' := hW
  obtain ⟨p, q, hA, hV, rfl, _, _⟩ := hW
  rw [hvars] at hV
  obtain ⟨rfl, rfl⟩ := trodVars_none hV
  have hl : ds.length = fn.params.toList.length := trodAll_len _ _ _ _ hA
  have e1 := hfn (ds ++ []) (by simpa using hl)
  simp only [List.append_nil] at hW' e1
  refine ⟨_, rfl, ds, [], p, [], p, [], hW', ?_, ?_, ?_, Below.frame hb _, fun h => by cases h⟩
  · simp only [List.append_nil, e1, hres]
    exact trodAll_mk1 (shut_bool Tryz.underlying4 _)
  · simp only [List.append_nil, e1]
    exact trodAll_keep hb _ _ _ _ hread (fun x hx => by have := hW'.lt x hx; simpa using this) hA
  · simp only [List.append_nil, e1, hvars]
    rfl

theorem cells_int : Tryz.prog.cellsOf 3 = 1 := by kernel_rfl
theorem bytes_int : Tryz.prog.bytesOf 3 = 8 := by kernel_rfl

end
end Go.Proofs.YtfmabjoindlfeaaGreat
end

/- Arguments opened: numbers, strings, vectors, structs and slices of structs, by the cells that they read. By an AI agent. -/
section
namespace Go.Proofs.YtfmabjoindlfeaaGreat
open Go.ChangeShapes Go.WideShapes Go.ChangeAt Go.RowKit Go.Deep

section
variable {H : Type} {enc : TypeId × Value → H}

/-- no part of the datum is too great -/
def Wt (t : TypeId) (d : DataW H) : Prop := ∀ m ∈ d.weights Tryz.prog t, m ≤ reachBytes

theorem wt_arg {ts : List TypeId} {ds : List (DataW H)} (h : (DataW.weightsEach Tryz.prog ts ds).all (· ≤ reachBytes) = true) {j : Nat} {t : TypeId} {d : DataW H} (ht : ts[j]? = some t) (hd : ds[j]? = some d) : Wt t d :=
  fun m hm => by simpa using List.all_eq_true.1 h m (DataW.weights_mem_each ht hd m hm)
theorem wt_part {t : TypeId} {fs : Array Field} {parts : List (DataW H)} (hu : Tryz.prog.underlying t = some (.struct fs)) (h : Wt t (.agg parts)) {j : Nat} {f : Field} {d : DataW H} (hf : fs[j]? = some f) (hd : parts[j]? = some d) : Wt f.type d :=
  fun m hm => h m (by
    simp only [DataW.weights, hu]
    exact DataW.weights_mem_each (j := j) (by simp [hf]) hd m hm)
theorem weights_all {e : TypeId} {l : List (DataW H)} {d : DataW H} (hd : d ∈ l) {m : Nat} (hm : m ∈ d.weights Tryz.prog e) : m ∈ DataW.weightsAll Tryz.prog e l := by
  induction l with
  | nil => simp at hd
  | cons a l ih =>
    simp only [DataW.weightsAll, List.mem_append]
    rcases List.mem_cons.1 hd with rfl | h
    · exact .inl hm
    · exact .inr (ih h)
theorem wt_slice {t e : TypeId} {elems spare : List (DataW H)} (hu : Tryz.prog.underlying t = some (.slice e)) (h : Wt t (.slice elems spare)) :
    (elems.length + spare.length) * Tryz.prog.bytesOf e ≤ reachBytes ∧ ∀ d ∈ elems, Wt e d := by
  refine ⟨h _ (by simp [DataW.weights, hu]), fun d hd m hm => h m ?_⟩
  simp only [DataW.weights, hu, List.mem_cons, List.mem_append]
  exact .inr (.inl (weights_all hd hm))

/-- what lies at cells, as a datum of a type -/
def Rd (W : World) (t : TypeId) (cs : List Value) (d : DataW H) : Prop := ∃ (fuel : Nat) (ps : List MemPlace), DataW.trod enc Tryz.prog W 0 (fun _ => true) true fuel t cs = some (d, ps)

theorem rd_of_trod {W : World} {t : TypeId} {v : Value} {d : DataW H} {p : List MemPlace} (h : DataW.Trod enc Tryz.prog W 0 (fun _ => true) true t v d p) : Rd (enc := enc) W t v.cells.toList d := by
  obtain ⟨fuel, h⟩ := h
  exact ⟨fuel, p, h⟩

theorem rd_int {W : World} {cs : List Value} {d : DataW H} {t : TypeId} (hu : Tryz.prog.underlying t = some (.int .i64)) (h : Rd (enc := enc) W t cs d) : ∃ n, cs = [.int .i64 n] ∧ -9223372036854775808 ≤ n ∧ n ≤ 9223372036854775807 := by
  obtain ⟨fuel, ps, h⟩ := h
  obtain ⟨n, h1, _, h3⟩ := DataW.trod_int hu h
  have := bounds_i64 h3
  exact ⟨n, h1, this⟩
theorem rd_string {W : World} {cs : List Value} {d : DataW H} {t : TypeId} (hu : Tryz.prog.underlying t = some .string) (h : Rd (enc := enc) W t cs d) (hw : Wt t d) : ∃ s : ByteArray, cs = [.string s] ∧ s.size ≤ 140737488351232 := by
  obtain ⟨fuel, ps, h⟩ := h
  obtain ⟨s, h1, h2, _⟩ := DataW.trod_string hu h
  simp only [Prod.mk.injEq] at h2
  obtain ⟨rfl, _⟩ := h2
  refine ⟨s, h1, ?_⟩
  have := hw s.data.toList.length (by simp [DataW.weights])
  simpa [reachBytes] using this
theorem rd_float {W : World} {cs : List Value} {d : DataW H} {t : TypeId} (hu : Tryz.prog.underlying t = some (.float .f64)) (h : Rd (enc := enc) W t cs d) : ∃ x : Nat, cs = [.float .f64 x] ∧ x < 18446744073709551616 := by
  obtain ⟨fuel, ps, h⟩ := h
  cases fuel with
  | zero => simp [DataW.trod] at h
  | succ n =>
    unfold DataW.trod at h
    rw [hu] at h
    split at h <;> simp_all
    rename_i he
    subst he
    have h2 := h.1.2
    simpa [Lit.wf] using h2
theorem rd_vec {W : World} {cs : List Value} {d : DataW H} (h : Rd (enc := enc) W 23 cs d) (hw : Wt 23 d) : ∃ a n cap xs, cs = [.slice a n cap] ∧ IA W a n xs := by
  obtain ⟨fuel, ps, hf⟩ := h
  rcases open_ints Tryz.underlying23 Tryz.underlying3 cells_int hf with ⟨hcs, hx⟩ | ⟨a, len, cap, zs, hcs, _, hl, hm, hz, hx, hcell, hwz⟩
  · exact ⟨none, 0, 0, [], hcs, IA.nil _ _⟩
  · simp only [Prod.mk.injEq] at hx
    obtain ⟨rfl, rfl⟩ := hx
    simp only [if_true] at hz
    have hreach := (wt_slice Tryz.underlying23 hw).1
    rw [bytes_int] at hreach
    simp only [lits, List.length_map, List.length_take, List.length_drop, reachBytes] at hreach
    refine ⟨some a, len, cap, zs.take len, hcs, by rw [List.length_take]; omega, by omega, fun j hj => ?_, fun x hx => ?_⟩
    · obtain ⟨b, off, spot⟩ := a
      have hspot : spot = none := by simpa [Addr.add] using World.cell?_spot (hcell 0 (by omega))
      subst hspot
      refine ⟨b, off, rfl, fun j hj => ?_⟩
      rw [← add_plain, hcell j (by omega)]
      simp [nth, List.getD, hj]
    · exact bounds_i64 (hwz x (List.mem_of_mem_take hx))

/-- a struct, field by field -/
theorem rd_struct {W : World} {t : TypeId} {fs : Array Field} {cs : List Value} {d : DataW H} (hu : Tryz.prog.underlying t = some (.struct fs)) (h : Rd (enc := enc) W t cs d) (hw : Wt t d) :
    cs.length = Tryz.prog.cellsOf t ∧ ∀ (i : Nat) (f : Field), fs[i]? = some f → ∃ y, Rd (enc := enc) W f.type ((cs.drop f.offset).take (Tryz.prog.cellsOf f.type)) y ∧ Wt f.type y := by
  obtain ⟨fuel, ps, h⟩ := h
  obtain ⟨xs, n, _, hx, hl, hxl, hf⟩ := DataW.trod_struct hu h
  simp only [Prod.mk.injEq] at hx
  obtain ⟨rfl, rfl⟩ := hx
  refine ⟨hl, fun i f hi => ?_⟩
  have hlt : i < xs.length := by rw [hxl]; exact (Array.getElem?_eq_some_iff.1 hi).1
  have h1 := hf i f hi
  rw [List.getElem?_eq_getElem hlt] at h1
  exact ⟨xs[i].1, ⟨n, xs[i].2, h1⟩, wt_part hu hw hi (by simp [hlt])⟩

/-- a slice of structs, element by element: the cells of each -/
theorem rd_slice {W : World} {t e : TypeId} {cs : List Value} {d : DataW H} {k : Nat} (hu : Tryz.prog.underlying t = some (.slice e)) (hk : Tryz.prog.cellsOf e = k) (hk0 : 0 < k) (h : Rd (enc := enc) W t cs d) (hw : Wt t d) :
    ∃ a n cap, cs = [.slice a n cap] ∧ n * Tryz.prog.bytesOf e ≤ 140737488351232 ∧ ∀ j, j < n → ∃ b off, a = some ⟨b, off, none⟩ ∧ ∀ j, j < n → ∃ y cs', Rd (enc := enc) W e cs' y ∧ Wt e y ∧ cs'.length = k ∧ ∀ i, i < k → W.cell? ⟨b, off + j * k + i, none⟩ = cs'[i]? := by
  obtain ⟨fuel, ps, h⟩ := h
  rcases open_slice hu h with ⟨hcs, _⟩ | ⟨a, len, cap, m, n, D, Pl, hcs, _, hl, hm, hmm, hx, hi⟩
  · exact ⟨none, 0, 0, hcs, by simp, fun j hj => by omega⟩
  · simp only [Prod.mk.injEq] at hx
    obtain ⟨rfl, _⟩ := hx
    simp only [if_true] at hmm
    obtain ⟨hw1, hw2⟩ := wt_slice hu hw
    simp only [List.length_map, List.length_range] at hw1
    refine ⟨some a, len, cap, hcs, ?_, fun j0 hj0 => ?_⟩
    · have : len * Tryz.prog.bytesOf e ≤ (len + (m - len)) * Tryz.prog.bytesOf e := Nat.mul_le_mul_right _ (by omega)
      unfold reachBytes at hw1
      omega
    · have hcell : ∀ j, j < m → ∃ cs', W.cells? 0 (a.add (j * k)) k = some cs' ∧ DataW.trod enc Tryz.prog W 0 (fun _ => true) true n e cs' = some (D j, Pl j) := by
        rw [hk] at hi; exact hi
      obtain ⟨b, off, spot⟩ := a
      have hspot : spot = none := by
        obtain ⟨cs', hc, _⟩ := hcell 0 (by omega)
        obtain ⟨_, hcl, hat⟩ := World.cells?_some hc
        have h0 := hat 0 hk0
        rw [List.getElem?_eq_getElem (by omega)] at h0
        simpa [Addr.add] using World.cell?_spot h0
      subst hspot
      refine ⟨b, off, rfl, fun j hj => ?_⟩
      obtain ⟨cs', hc, ht⟩ := hcell j (by omega)
      obtain ⟨_, hcl, hat⟩ := World.cells?_some hc
      refine ⟨D j, cs', ⟨n, Pl j, ht⟩, hw2 _ (List.mem_map.2 ⟨j, List.mem_range.2 hj, rfl⟩), hcl, fun i hi' => ?_⟩
      have h1 := hat i hi'
      rw [add_plain, add_plain] at h1
      exact h1
end
end Go.Proofs.YtfmabjoindlfeaaGreat
end

/- structs api.Act and api.Value among the cells of arguments. By an AI agent. -/
section
namespace Go.Proofs.YtfmabjoindlfeaaGreat
open Go.ChangeShapes Go.WideShapes Go.ChangeAt Go.RowKit Go.Deep

section
variable {H : Type} {enc : TypeId × Value → H}
theorem cells_act : Tryz.prog.cellsOf 61 = 4 := by kernel_rfl
theorem cells_vec : Tryz.prog.cellsOf 23 = 1 := by kernel_rfl
theorem cells_str : Tryz.prog.cellsOf 9 = 1 := by kernel_rfl
theorem cells_flt : Tryz.prog.cellsOf 59 = 1 := by kernel_rfl
set_option maxRecDepth 100000 in
theorem rd_act {W : World} {cs : List Value} {d : DataW H} (h : Rd (enc := enc) W 61 cs d) (hw : Wt 61 d) :
    ∃ a : ActL, cs = [.int .i64 a.k, .float .f64 a.x, .int .i64 a.n, .string a.s] ∧ a.Ok := by
  obtain ⟨hl, hf⟩ := rd_struct Tryz.underlying61 h hw
  rw [cells_act] at hl
  match cs, hl with
  | [c0, c1, c2, c3], _ =>
    obtain ⟨y0, r0, w0⟩ := hf 0 ⟨_, 3, 0, _, _, _, _⟩ rfl
    obtain ⟨y1, r1, w1⟩ := hf 1 ⟨_, 59, 1, _, _, _, _⟩ rfl
    obtain ⟨y2, r2, w2⟩ := hf 2 ⟨_, 3, 2, _, _, _, _⟩ rfl
    obtain ⟨y3, r3, w3⟩ := hf 3 ⟨_, 9, 3, _, _, _, _⟩ rfl
    simp only [cells_int, cells_flt, cells_str, List.drop_zero, List.drop_succ_cons, List.take_succ_cons, List.take_zero] at r0 r1 r2 r3
    obtain ⟨k, e0, b0⟩ := rd_int Tryz.underlying3 r0
    obtain ⟨x, e1, b1⟩ := rd_float Tryz.underlying59 r1
    obtain ⟨m, e2, b2⟩ := rd_int Tryz.underlying3 r2
    obtain ⟨s, e3, b3⟩ := rd_string Tryz.underlying9 r3 w3
    simp only [List.cons.injEq, and_true] at e0 e1 e2 e3
    subst e0; subst e1; subst e2; subst e3
    exact ⟨⟨k, x, m, s⟩, rfl, b0, b1, b2, b3⟩
end
end Go.Proofs.YtfmabjoindlfeaaGreat
end

/- arguments of type []api.Write, api.Txn, []api.Txn opened. By an AI agent. -/
section
set_option linter.unusedVariables false
namespace Go.Proofs.YtfmabjoindlfeaaGreat
open Go.ChangeShapes Go.WideShapes Go.ChangeAt Go.RowKit Go.Deep

section
variable {H : Type} {enc : TypeId × Value → H}
theorem cells_wr : Tryz.prog.cellsOf 63 = 5 := by kernel_rfl
theorem bytes_wr : Tryz.prog.bytesOf 63 = 56 := by kernel_rfl
theorem cells_wrs : Tryz.prog.cellsOf 24 = 1 := by kernel_rfl
theorem cells_tx : Tryz.prog.cellsOf 26 = 6 := by kernel_rfl
set_option maxRecDepth 100000 in
theorem rd_wr {W : World} {cs : List Value} {d : DataW H} (h : Rd (enc := enc) W 63 cs d) (hw : Wt 63 d) :
    ∃ p : ByteArray × ActL, cs = writeCs p ∧ WrOk p := by
  obtain ⟨hl, hf⟩ := rd_struct Tryz.underlying63 h hw
  rw [cells_wr] at hl
  match cs, hl with
  | [c0, c1, c2, c3, c4], _ =>
    obtain ⟨y0, r0, w0⟩ := hf 0 ⟨_, 9, 0, _, _, _, _⟩ rfl
    obtain ⟨y1, r1, w1⟩ := hf 1 ⟨_, 61, 1, _, _, _, _⟩ rfl
    simp only [cells_str, cells_act, List.drop_zero, List.drop_succ_cons, List.take_succ_cons, List.take_zero] at r0 r1
    obtain ⟨k, e0, b0⟩ := rd_string Tryz.underlying9 r0 w0
    obtain ⟨v, e1, b1⟩ := rd_act r1 w1
    simp only [List.cons.injEq, and_true] at e0 e1
    obtain ⟨e1, e2, e3, e4⟩ := e1
    subst e0; subst e1; subst e2; subst e3; subst e4
    exact ⟨(k, v), rfl, b0, b1⟩
set_option maxRecDepth 100000 in
theorem rd_wrs {W : World} {cs : List Value} {d : DataW H} (h : Rd (enc := enc) W 24 cs d) (hw : Wt 24 d) : ∃ a n c ps, cs = [.slice a n c] ∧ WW W a n ps := by
  obtain ⟨a, n, c, hcs, hb, hj⟩ := rd_slice Tryz.underlying24 cells_wr (by decide) h hw
  rw [bytes_wr] at hb
  have hex : ∀ j : Nat, ∃ p : ByteArray × ActL, j < n → WrOk p ∧ ∃ b off, a = some ⟨b, off, none⟩ ∧ WC W b (off + j * 5) p := fun j => by
    by_cases hlt : j < n
    · obtain ⟨b, off, rfl, hc⟩ := hj j hlt
      obtain ⟨y, cs', r, w, hl, hcell⟩ := hc j hlt
      obtain ⟨p, rfl, b0⟩ := rd_wr r w
      exact ⟨p, fun _ => ⟨b0, b, off, rfl, ⟨hcell 0 (by decide), hcell 1 (by decide), hcell 2 (by decide), hcell 3 (by decide), hcell 4 (by decide)⟩⟩⟩
    · exact ⟨(⟨#[]⟩, ⟨0, 0, 0, nilS⟩), fun h => absurd h hlt⟩
  obtain ⟨f, hf⟩ := Classical.axiomOfChoice hex
  have hn : ∀ j, j < n → nthW ((List.range n).map f) j = f j := fun j hj => by simp [nthW, List.getD, hj]
  refine ⟨a, n, c, (List.range n).map f, hcs, by simp, by omega, fun j0 hj0 => ?_, fun p hp => ?_⟩
  · obtain ⟨_, b, off, rfl, _⟩ := hf j0 hj0
    refine ⟨b, off, rfl, fun j hj => ?_⟩
    obtain ⟨_, b', off', e, h1⟩ := hf j hj
    simp at e
    obtain ⟨rfl, rfl⟩ := e
    rw [hn j hj]
    exact h1
  · obtain ⟨j, hj, rfl⟩ := List.mem_map.1 hp
    exact (hf j (List.mem_range.1 hj)).1
set_option maxRecDepth 100000 in
theorem rd_txn {W : World} {cs : List Value} {d : DataW H} (h : Rd (enc := enc) W 26 cs d) (hw : Wt 26 d) :
    ∃ (t : TxnL) (s : TxAt), cs = txCs t s ∧ TX W s t := by
  obtain ⟨hl, hf⟩ := rd_struct Tryz.underlying26 h hw
  rw [cells_tx] at hl
  match cs, hl with
  | [c0, c1, c2, c3, c4, c5], _ =>
    obtain ⟨y0, r0, w0⟩ := hf 0 ⟨_, 3, 0, _, _, _, _⟩ rfl
    obtain ⟨y1, r1, w1⟩ := hf 1 ⟨_, 3, 1, _, _, _, _⟩ rfl
    obtain ⟨y2, r2, w2⟩ := hf 2 ⟨_, 3, 2, _, _, _, _⟩ rfl
    obtain ⟨y3, r3, w3⟩ := hf 3 ⟨_, 23, 3, _, _, _, _⟩ rfl
    obtain ⟨y4, r4, w4⟩ := hf 4 ⟨_, 23, 4, _, _, _, _⟩ rfl
    obtain ⟨y5, r5, w5⟩ := hf 5 ⟨_, 24, 5, _, _, _, _⟩ rfl
    simp only [cells_int, cells_vec, cells_wrs, List.drop_zero, List.drop_succ_cons, List.take_succ_cons, List.take_zero] at r0 r1 r2 r3 r4 r5
    obtain ⟨x0, e0, b0⟩ := rd_int Tryz.underlying3 r0
    obtain ⟨x1, e1, b1⟩ := rd_int Tryz.underlying3 r1
    obtain ⟨x2, e2, b2⟩ := rd_int Tryz.underlying3 r2
    obtain ⟨da, dn, dc, ds, e3, hD⟩ := rd_vec r3 w3
    obtain ⟨aa, an, ac, xs, e4, hA⟩ := rd_vec r4 w4
    obtain ⟨wa, wn, wc, ws, e5, hW⟩ := rd_wrs r5 w5
    simp only [List.cons.injEq, and_true] at e0 e1 e2 e3 e4 e5
    subst e0; subst e1; subst e2; subst e3; subst e4; subst e5
    exact ⟨⟨x0, x1, x2, ds, xs, ws⟩, ⟨da, dn, dc, aa, an, ac, wa, wn, wc⟩, rfl, hD, hA, hW, b0, b1, b2⟩
set_option maxRecDepth 100000 in
theorem open_tx {W : World} {base : Nat} {v : Value} {d : DataW H} {p : List MemPlace} (hval : Value.okWide Tryz.prog W .any base 26 v) (h : DataW.Trod enc Tryz.prog W 0 (fun _ => true) true 26 v d p)
    (hw : Wt 26 d) : ∃ (t : TxnL) (s : TxAt), v = txV t s ∧ TX W s t := by
  obtain ⟨cs, rfl, hsz⟩ := okWide_struct Tryz.underlying26 hval
  obtain ⟨t, s, e, ht⟩ := rd_txn (rd_of_trod h) hw
  refine ⟨t, s, ?_, ht⟩
  obtain ⟨l⟩ := cs
  change l = _ at e
  rw [e]
  rfl
end
end Go.Proofs.YtfmabjoindlfeaaGreat
end
