import Derived.Test.YtaelghbjbopilaaGreatQProtoRepliesUptoP1
import Derived.Test.YtaelghbjbopilaaGreatQProtoRepliesUptoP44
import Derived.Test.YtaelghbjbopilaaGreatQProtoRepliesUptoP27
import Derived.Test.YtaelghbjbopilaaGreatQProtoRepliesUptoP22
import Derived.Test.YtaelghbjbopilaaGreatQProtoRepliesUptoP25

/- what the bound on bulk says of a string among the arguments. By an AI agent. -/
section
namespace Go.Proofs.YtaelghbjbopilaaGreat

theorem bulk_part {H : Type} {d : DataW H} {l : List (DataW H)} (h : d ∈ l) : Rows.uptoBulk d ≤ Rows.uptoBulkAll l := by
  induction l with
  | nil => cases h
  | cons x r ih =>
    simp only [Rows.uptoBulkAll]
    rcases List.mem_cons.1 h with rfl | e
    · omega
    · have := ih e; omega
end Go.Proofs.YtaelghbjbopilaaGreat
end

/- an argument of type api.Reply opened, with what the bound on bulk says of it. By an AI agent. -/
section
set_option linter.unusedVariables false
namespace Go.Proofs.YtaelghbjbopilaaGreat
open Go.ChangeShapes Go.WideShapes Go.ChangeAt Go.RowKit Go.Deep

section
variable {H : Type} {enc : TypeId × Value → H}
theorem cells_rep : Tryz.prog.cellsOf 30 = 9 := by kernel_rfl
theorem cells_errno : Tryz.prog.cellsOf 22 = 1 := by kernel_rfl
theorem bulk_all (l : List (DataW H)) (i : Nat) (y : DataW H) (h : l[i]? = some y) : Rows.uptoBulk y ≤ Rows.uptoBulkAll l := bulk_part (List.mem_of_getElem? h)
theorem bulk_two (l : List (DataW H)) (i j : Nat) (y z : DataW H) (hij : i < j) (h : l[i]? = some y) (k : l[j]? = some z) : Rows.uptoBulk y + Rows.uptoBulk z ≤ Rows.uptoBulkAll l := by
  induction l generalizing i j with
  | nil => simp at h
  | cons x r ih =>
    simp only [Rows.uptoBulkAll]
    cases i with
    | zero =>
      simp at h
      subst h
      obtain ⟨j', rfl⟩ : ∃ j', j = j' + 1 := ⟨j - 1, by omega⟩
      have := bulk_all r j' z (by simpa using k)
      omega
    | succ i =>
      obtain ⟨j', rfl⟩ : ∃ j', j = j' + 1 := ⟨j - 1, by omega⟩
      have := ih i j' (by omega) (by simpa using h) (by simpa using k)
      omega
theorem rd_stringB {W : World} {cs : List Value} {d : DataW H} {t : TypeId} (hu : Tryz.prog.underlying t = some .string) (h : Rd (enc := enc) W t cs d) (hw : Wt t d) : ∃ s : ByteArray, cs = [.string s] ∧ s.size ≤ 140737488351232 ∧ Rows.uptoBulk d = s.size + 1 := by
  obtain ⟨fuel, ps, h⟩ := h
  obtain ⟨s, h1, h2, _⟩ := DataW.trod_string hu h
  simp only [Prod.mk.injEq] at h2
  obtain ⟨rfl, _⟩ := h2
  refine ⟨s, h1, ?_, ?_⟩
  · have := hw s.data.toList.length (by simp [DataW.weights])
    simpa [reachBytes] using this
  · have h4 : s.data.toList.length = s.size := by rw [Array.length_toList]; rfl
    simp [Rows.uptoBulk]
/-- a struct, field by field, with its data -/
theorem rd_structB {W : World} {t : TypeId} {fs : Array Field} {cs : List Value} {d : DataW H} (hu : Tryz.prog.underlying t = some (.struct fs)) (h : Rd (enc := enc) W t cs d) (hw : Wt t d) :
    cs.length = Tryz.prog.cellsOf t ∧ ∃ parts, Rows.uptoBulk d = Rows.uptoBulkAll parts + 1 ∧ ∀ (i : Nat) (f : Field), fs[i]? = some f → ∃ y, parts[i]? = some y ∧ Rd (enc := enc) W f.type ((cs.drop f.offset).take (Tryz.prog.cellsOf f.type)) y ∧ Wt f.type y := by
  obtain ⟨fuel, ps, h⟩ := h
  obtain ⟨xs, n, _, hx, hl, hxl, hf⟩ := DataW.trod_struct hu h
  simp only [Prod.mk.injEq] at hx
  obtain ⟨rfl, rfl⟩ := hx
  refine ⟨hl, xs.map (·.1), by simp [Rows.uptoBulk], fun i f hi => ?_⟩
  have hlt : i < xs.length := by rw [hxl]; exact (Array.getElem?_eq_some_iff.1 hi).1
  have h1 := hf i f hi
  rw [List.getElem?_eq_getElem hlt] at h1
  exact ⟨xs[i].1, by simp [hlt], ⟨n, xs[i].2, h1⟩, wt_part hu hw hi (by simp [hlt])⟩
/-- a slice of structs, element by element, with its data -/
theorem rd_sliceB {W : World} {t e : TypeId} {cs : List Value} {d : DataW H} {k : Nat} (hu : Tryz.prog.underlying t = some (.slice e)) (hk : Tryz.prog.cellsOf e = k) (hk0 : 0 < k) (h : Rd (enc := enc) W t cs d) (hw : Wt t d) :
    ∃ a n cap, ∃ D : Nat → DataW H, cs = [.slice a n cap] ∧ Rows.uptoBulkAll ((List.range n).map D) ≤ Rows.uptoBulk d ∧ ∀ j, j < n → ∃ b off, a = some ⟨b, off, none⟩ ∧ ∀ j, j < n → ∃ cs', Rd (enc := enc) W e cs' (D j) ∧ Wt e (D j) ∧ cs'.length = k ∧ ∀ i, i < k → W.cell? ⟨b, off + j * k + i, none⟩ = cs'[i]? := by
  obtain ⟨fuel, ps, h⟩ := h
  rcases open_slice hu h with ⟨hcs, _⟩ | ⟨a, len, cap, m, n, D, Pl, hcs, _, hl, hm, hmm, hx, hi⟩
  · exact ⟨none, 0, 0, fun _ => .nil, hcs, by simp [Rows.uptoBulkAll], fun j hj => by omega⟩
  · simp only [Prod.mk.injEq] at hx
    obtain ⟨rfl, _⟩ := hx
    simp only [if_true] at hmm
    obtain ⟨hw1, hw2⟩ := wt_slice hu hw
    simp only [List.length_map, List.length_range] at hw1
    refine ⟨some a, len, cap, D, hcs, ?_, fun j0 hj0 => ?_⟩
    · simp only [Rows.uptoBulk]; omega
    · have hcell : ∀ j, j < m → ∃ cs', W.cells? 0 (a.add (j * k)) k = some cs' ∧ DataW.trod enc Tryz.prog W 0 (fun _ => true) true n e cs' = some (D j, Pl j) := by
        rw [hk] at hi; exact hi
      obtain ⟨b, off, spot⟩ := a
      have hspot : spot = none := by
        obtain ⟨cs', hc, _⟩ := hcell 0 (by omega)
        obtain ⟨_, hcl, hat⟩ := World.cells?_some hc
        have h0 := hat 0 hk0
        rw [List.getElem?_eq_getElem (by omega)] at h0
        simpa [Addr.add] using World.cell?_spot h0
      subst hspot
      refine ⟨b, off, rfl, fun j hj => ?_⟩
      obtain ⟨cs', hc, ht⟩ := hcell j (by omega)
      obtain ⟨_, hcl, hat⟩ := World.cells?_some hc
      refine ⟨cs', ⟨n, Pl j, ht⟩, hw2 _ (List.mem_map.2 ⟨j, List.mem_range.2 hj, rfl⟩), hcl, fun i hi' => ?_⟩
      have h1 := hat i hi'
      rw [add_plain, add_plain] at h1
      exact h1
set_option maxRecDepth 100000 in
theorem rd_valB {W : World} {cs : List Value} {d : DataW H} (h : Rd (enc := enc) W 27 cs d) (hw : Wt 27 d) : ∃ v : ValL, cs = [.bool v.there, .float .f64 v.x, .int .i64 v.n, .string v.s] ∧ v.Ok ∧ v.s.size + 1 ≤ Rows.uptoBulk d := by
  obtain ⟨hl, parts, hb, hf⟩ := rd_structB Tryz.underlying27 h hw
  rw [cells_val] at hl
  match cs, hl with
  | [c0, c1, c2, c3], _ =>
    obtain ⟨y0, p0, r0, w0⟩ := hf 0 ⟨_, 4, 0, _, _, _, _⟩ rfl
    obtain ⟨y1, p1, r1, w1⟩ := hf 1 ⟨_, 25, 1, _, _, _, _⟩ rfl
    obtain ⟨y2, p2, r2, w2⟩ := hf 2 ⟨_, 3, 2, _, _, _, _⟩ rfl
    obtain ⟨y3, p3, r3, w3⟩ := hf 3 ⟨_, 9, 3, _, _, _, _⟩ rfl
    simp only [cells_bool, cells_flt, cells_int, cells_str, List.drop_zero, List.drop_succ_cons, List.take_succ_cons, List.take_zero] at r0 r1 r2 r3
    obtain ⟨t, e0⟩ := rd_bool Tryz.underlying4 r0
    obtain ⟨x, e1, b1⟩ := rd_float Tryz.underlying25 r1
    obtain ⟨n, e2, b2⟩ := rd_int Tryz.underlying3 r2
    obtain ⟨s, e3, b3, k3⟩ := rd_stringB Tryz.underlying9 r3 w3
    simp only [List.cons.injEq, and_true] at e0 e1 e2 e3
    subst e0; subst e1; subst e2; subst e3
    have := bulk_all parts 3 y3 p3
    exact ⟨⟨t, x, n, s⟩, rfl, ⟨b1, b2, b3⟩, by show s.size + 1 ≤ _; omega⟩
set_option maxRecDepth 100000 in
theorem rd_pairB {W : World} {cs : List Value} {d : DataW H} (h : Rd (enc := enc) W 52 cs d) (hw : Wt 52 d) :
    ∃ p : ByteArray × ValL, cs = pairCs p ∧ PaOk p ∧ pairW p + 2 ≤ Rows.uptoBulk d := by
  obtain ⟨hl, parts, hb, hf⟩ := rd_structB Tryz.underlying52 h hw
  rw [cells_pair] at hl
  match cs, hl with
  | [c0, c1, c2, c3, c4], _ =>
    obtain ⟨y0, p0, r0, w0⟩ := hf 0 ⟨_, 9, 0, _, _, _, _⟩ rfl
    obtain ⟨y1, p1, r1, w1⟩ := hf 1 ⟨_, 27, 1, _, _, _, _⟩ rfl
    simp only [cells_str, cells_val, List.drop_zero, List.drop_succ_cons, List.take_succ_cons, List.take_zero] at r0 r1
    obtain ⟨k, e0, b0, k0⟩ := rd_stringB Tryz.underlying9 r0 w0
    obtain ⟨v, e1, b1, k1⟩ := rd_valB r1 w1
    simp only [List.cons.injEq, and_true] at e0 e1
    obtain ⟨e1, e2, e3, e4⟩ := e1
    subst e0; subst e1; subst e2; subst e3; subst e4
    have := bulk_two parts 0 1 y0 y1 (by decide) p0 p1
    exact ⟨(k, v), rfl, ⟨b0, b1⟩, by unfold pairW; dsimp only; omega⟩
theorem bulk_sum (n : Nat) (D : Nat → DataW H) (f : Nat → ByteArray × ValL) (h : ∀ j, j < n → pairW (f j) + 2 ≤ Rows.uptoBulk (D j)) : sumP ((List.range n).map f) n + 2 * n ≤ Rows.uptoBulkAll ((List.range n).map D) := by
  have app : ∀ l m : List (DataW H), Rows.uptoBulkAll (l ++ m) = Rows.uptoBulkAll l + Rows.uptoBulkAll m := by
    intro l m
    induction l with
    | nil => simp [Rows.uptoBulkAll]
    | cons x r ih => simp only [List.cons_append, Rows.uptoBulkAll, ih]; omega
  induction n with
  | zero => simp [sumP, Rows.uptoBulkAll]
  | succ n ih =>
    have h1 := ih (fun j hj => h j (by omega))
    have h2 := h n (by omega)
    rw [List.range_succ, List.map_append, List.map_append, app]
    unfold sumP at h1 ⊢
    rw [List.take_of_length_le (by simp)] at h1 ⊢
    simp only [List.map_append, List.sum_append, List.map_cons, List.map_nil, List.sum_cons, List.sum_nil, Rows.uptoBulkAll]
    omega
set_option maxRecDepth 100000 in
theorem rd_pairsB {W : World} {cs : List Value} {d : DataW H} (h : Rd (enc := enc) W 28 cs d) (hw : Wt 28 d) (hs : Rows.uptoBulk d ≤ 1048576) : ∃ a n c ps, cs = [.slice a n c] ∧ PP W a n ps ∧ sumP ps ps.length + 2 * n ≤ Rows.uptoBulk d := by
  obtain ⟨a, n, c, D, hcs, hb, hj⟩ := rd_sliceB Tryz.underlying28 cells_pair (by decide) h hw
  have hex : ∀ j : Nat, ∃ p : ByteArray × ValL, j < n → (PaOk p ∧ pairW p + 2 ≤ Rows.uptoBulk (D j)) ∧ ∃ b off, a = some ⟨b, off, none⟩ ∧ PC W b (off + j * 5) p := fun j => by
    by_cases hlt : j < n
    · obtain ⟨b, off, rfl, hc⟩ := hj j hlt
      obtain ⟨cs', r, w, hl, hcell⟩ := hc j hlt
      obtain ⟨p, rfl, b0⟩ := rd_pairB r w
      exact ⟨p, fun _ => ⟨b0, b, off, rfl, ⟨hcell 0 (by decide), hcell 1 (by decide), hcell 2 (by decide), hcell 3 (by decide), hcell 4 (by decide)⟩⟩⟩
    · exact ⟨(⟨#[]⟩, noVal), fun h => absurd h hlt⟩
  obtain ⟨f, hf⟩ := Classical.axiomOfChoice hex
  have hn : ∀ j, j < n → nthQ ((List.range n).map f) j = f j := fun j hj => by simp [nthQ, List.getD, hj]
  have hsum := bulk_sum n D f (fun j hj => (hf j hj).1.2)
  refine ⟨a, n, c, (List.range n).map f, hcs, ⟨by simp, by omega, fun j0 hj0 => ?_, fun p hp => ?_⟩, ?_⟩
  · obtain ⟨_, b, off, rfl, _⟩ := hf j0 hj0
    refine ⟨b, off, rfl, fun j hj => ?_⟩
    obtain ⟨_, b', off', e, h1⟩ := hf j hj
    simp at e
    obtain ⟨rfl, rfl⟩ := e
    rw [hn j hj]
    exact h1
  · obtain ⟨j, hj, rfl⟩ := List.mem_map.1 hp
    exact (hf j (List.mem_range.1 hj)).1.1
  · rw [show ((List.range n).map f).length = n by simp]
    omega
/-- an answer as an argument: its lists, its numbers, its weight -/
structure RepA (W : World) (r : ReplyL) (ad : Option Addr) (n : Nat) (pd : Option Addr) (pn : Nat) : Prop where
  x : IA W ad n r.at_
  p : PP W pd pn r.pairs
  v : r.val.Ok
  text : r.text.size ≤ 1048576
  w : weightR r ≤ 1048576
  code : -9223372036854775808 ≤ r.code ∧ r.code ≤ 9223372036854775807
  num : -9223372036854775808 ≤ r.num ∧ r.num ≤ 9223372036854775807
theorem RepA.keep {W W' : World} {r : ReplyL} {ad : Option Addr} {n : Nat} {pd : Option Addr} {pn : Nat} (h : RepA W r ad n pd pn) (k : Bl W W') : RepA W' r ad n pd pn := ⟨h.x.keep k, h.p.keep k, h.v, h.text, h.w, h.code, h.num⟩
set_option maxRecDepth 100000 in
theorem open_reply {W : World} {base : Nat} {v : Value} {d : DataW H} {p : List MemPlace} (hval : Value.okWide Tryz.prog W .any base 30 v) (h : DataW.Trod enc Tryz.prog W 0 (fun _ => true) true 30 v d p)
    (hw : Wt 30 d) (hs : Rows.uptoBulk d ≤ 1048576) : ∃ (r : ReplyL) (ad : Option Addr) (n ca : Nat) (pd : Option Addr) (pn pc : Nat), v = repV r.code r.num ad n ca r.val.there r.val.x r.val.n r.val.s pd pn pc r.text ∧ RepA W r ad n pd pn := by
  obtain ⟨cs, rfl, hsz⟩ := okWide_struct Tryz.underlying30 hval
  obtain ⟨hl, parts, hb, hf⟩ := rd_structB Tryz.underlying30 (rd_of_trod h) hw
  rw [cells_rep] at hl
  have hl' : cs.toList.length = 9 := by simpa [Value.cells] using hl
  obtain ⟨l⟩ := cs
  change l.length = 9 at hl'
  match l, hl' with
  | [c0, c1, c2, c3, c4, c5, c6, c7, c8], _ =>
    obtain ⟨y0, p0, r0, w0⟩ := hf 0 ⟨_, 22, 0, _, _, _, _⟩ rfl
    obtain ⟨y1, p1, r1, w1⟩ := hf 1 ⟨_, 3, 1, _, _, _, _⟩ rfl
    obtain ⟨y2, p2, r2, w2⟩ := hf 2 ⟨_, 24, 2, _, _, _, _⟩ rfl
    obtain ⟨y3, p3, r3, w3⟩ := hf 3 ⟨_, 27, 3, _, _, _, _⟩ rfl
    obtain ⟨y4, p4, r4, w4⟩ := hf 4 ⟨_, 28, 7, _, _, _, _⟩ rfl
    obtain ⟨y5, p5, r5, w5⟩ := hf 5 ⟨_, 9, 8, _, _, _, _⟩ rfl
    simp only [Value.cells, cells_errno, cells_int, cells_vec, cells_val, cells_pairs, cells_str, List.drop_zero, List.drop_succ_cons, List.take_succ_cons, List.take_zero] at r0 r1 r2 r3 r4 r5
    obtain ⟨code, e0, b0⟩ := rd_int Tryz.underlying22 r0
    obtain ⟨num, e1, b1⟩ := rd_int Tryz.underlying3 r1
    obtain ⟨a, an, ac, xs, e2, hI⟩ := rd_vec r2 w2
    obtain ⟨v, e3, b3, k3⟩ := rd_valB r3 w3
    have q4 := bulk_all parts 4 y4 p4
    obtain ⟨pd, pn, pc, ps, e4, hP, k4⟩ := rd_pairsB r4 w4 (by omega)
    obtain ⟨text, e5, b5, k5⟩ := rd_stringB Tryz.underlying9 r5 w5
    simp only [List.cons.injEq, and_true] at e0 e1 e2 e3 e4 e5
    obtain ⟨e3, e6, e7, e8⟩ := e3
    subst e0; subst e1; subst e2; subst e3; subst e4; subst e5; subst e6; subst e7; subst e8
    have hsum : Rows.uptoBulk y3 + Rows.uptoBulk y4 + Rows.uptoBulk y5 ≤ Rows.uptoBulkAll parts := by
      have hl6 : parts = [y0, y1, y2, y3, y4, y5] ++ parts.drop 6 := by
        apply List.ext_getElem?
        intro i
        by_cases hi : i < 6
        · match i, hi with
          | 0, _ => rw [p0]; rfl
          | 1, _ => rw [p1]; rfl
          | 2, _ => rw [p2]; rfl
          | 3, _ => rw [p3]; rfl
          | 4, _ => rw [p4]; rfl
          | 5, _ => rw [p5]; rfl
        · rw [List.getElem?_append_right (by simp; omega), List.getElem?_drop]
          congr 1
          simp
          omega
      rw [hl6]
      simp only [List.cons_append, List.nil_append, Rows.uptoBulkAll]
      omega
    refine ⟨⟨code, num, xs, v, ps, text⟩, a, an, ac, pd, pn, pc, rfl, hI, hP, b3, ?_, ?_, b0, b1⟩
    · show text.size ≤ _; omega
    · unfold weightR
      dsimp only
      omega
end
end Go.Proofs.YtaelghbjbopilaaGreat
end
