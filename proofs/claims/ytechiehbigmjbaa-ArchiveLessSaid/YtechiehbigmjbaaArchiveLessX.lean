/- the walk of ArchiveLess. By an AI agent. -/
import Derived.Test.YtechiehbigmjbaaLess0
import Derived.Test.YtechiehbigmjbaaOpenArc
set_option linter.unusedVariables false
set_option linter.unusedSimpArgs false
namespace Go.Proofs.Ytechiehbigmjbaa
open Go.RowKit
attribute [local go_sem] eOp eOper eUpon pOp pOper pUpon

theorem lightL_few {ps : List (ByteArray × ValL)} {pn : Nat} (hl : ps.length = pn) (h : wSum ps pn < 60000) : pn ≤ 2000 := by
  have := wSum_ge ps
  rw [hl] at this
  omega
theorem PW.sg {W : World} {b off n : Nat} {ps : List (ByteArray × ValL)} (h : PW W (some ⟨b, off, none⟩) n ps) (i m : Nat) (hm : i + m ≤ n) : SG W 5 (some ⟨b, off + i * 5, none⟩) m (cellsP ((ps.drop i).take m)) := by
  have hl : ((ps.drop i).take m).length = m := by rw [List.length_take, List.length_drop, h.len]; omega
  refine ⟨by rw [cellsP_len, hl], fun ad e j u hu => ?_, (fun e => by cases e), fun u hu => ?_⟩
  · obtain rfl := Option.some.inj e
    have hj : j < m * 5 := by
      have := (List.getElem?_eq_some_iff.1 hu).1
      rw [cellsP_len, hl] at this
      exact this
    obtain ⟨q, r, hr, rfl⟩ : ∃ q r, r < 5 ∧ j = q * 5 + r := ⟨j / 5, j % 5, Nat.mod_lt _ (by decide), by omega⟩
    rw [cellsP_get _ q (by rw [hl]; omega) r hr, nthQ_take (by omega), nthQ_drop] at hu
    have hc := h.get (Bl.refl W) (k := i + q) (by omega)
    rw [Go.WideShapes.add_plain]
    have e2 : off + i * 5 + (q * 5 + r) = off + (i + q) * 5 + r := by omega
    rw [e2]
    match r, hr with
    | 0, _ => rw [← hu]; exact hc.c0
    | 1, _ => rw [← hu]; exact hc.c1
    | 2, _ => rw [← hu]; exact hc.c2
    | 3, _ => rw [← hu]; exact hc.c3
    | 4, _ => rw [← hu]; exact hc.c4
  · unfold cellsP at hu
    obtain ⟨p, _, hp⟩ := List.mem_flatMap.1 hu
    simp [pairCs] at hp
    rcases hp with rfl | rfl | rfl | rfl | rfl <;> rfl

theorem PW.sg2 {W : World} {b off n c : Nat} {ps : List (ByteArray × ValL)} (h : PW W (some ⟨b, off, none⟩) n ps) (k : Nat) (hk : k ≤ n) (hc : n ≤ c) : SG W 5 (if c = k then some ⟨b, off, none⟩ else some ⟨b, off + k * 5, none⟩) (n - k) (cellsP (ps.drop k)) := by
  have e : (ps.drop k).take (n - k) = ps.drop k := List.take_of_length_le (by rw [List.length_drop, h.len]; omega)
  have s := h.sg k (n - k) (by omega)
  rw [e] at s
  by_cases q : c = k
  · rw [if_pos q]
    have hn : n - k = 0 := by omega
    rw [hn] at s ⊢
    have e0 : cellsP (ps.drop k) = [] := List.eq_nil_of_length_eq_zero (by rw [s.len, Nat.zero_mul])
    rw [e0]
    exact ⟨by simp, fun ad _ j u hu => (by simp at hu), (fun e => by cases e), fun u hu => by simp at hu⟩
  · rw [if_neg q]; exact s
theorem wpAnyP_all {ops : Array Oper} {md : Region.Mode} {C : World → Prop} {R : List PanicEntry → World → Prop} {L : List Nat} {Q : Act → World → Prop} {rs : List Nat} {fuel : Nat} {listed : Array Bool} {a : Act} {w : World} (hr : Region.ready md ops listed = rs) (hne : rs ≠ [])
    (h : ∀ i ∈ rs, ∀ w', Bl w w' → pOp Try.prog R ops i (fun a'' w'' => (i ∉ L → C w'') ∧ wpAnyP Try.prog R md ops C L Q fuel (listed.setIfInBounds i true) a'' w'') a w') : wpAnyP Try.prog R md ops C L Q (fuel + 1) listed a w :=
  ⟨fun h0 => absurd (hr.symm.trans h0) hne, fun i hi => h i (hr ▸ hi)⟩
theorem PA.block {w : World} {a : Option Addr} {n : Nat} {ps : List (ByteArray × ValL)} (h : PA w a n ps) : ∀ b off, a = some ⟨b, off, none⟩ → n = 0 ∨ b < w.heap.size := by
  intro b off e
  by_cases hn : n = 0
  · exact .inl hn
  · obtain ⟨b', off', e', hc⟩ := h.cells 0 (by omega)
    rw [e] at e'
    cases e'
    exact .inr (World.block_lt_of_cell? _ _ (hc 0 (by omega)).c0)
theorem FarPA.below {B B' : Nat} {w w' : World} {a : Option Addr} {n : Nat} {ps : List (ByteArray × ValL)} (h : FarPA B w a n ps) (hb : Below B' w w') (hg : ∀ b off, a = some ⟨b, off, none⟩ → n = 0 ∨ b < B') : FarPA B w' a n ps := by
  refine ⟨⟨h.1.len, h.1.cap, fun i hi => ?_⟩, h.2⟩
  obtain ⟨b, off, e, hc⟩ := h.1.cells i hi
  refine ⟨b, off, e, fun i hi => ?_⟩
  have hB : b < B' := by
    have := hg b off e
    omega
  have key : ∀ k v, w.cell? ⟨b, k, none⟩ = some v → w'.cell? ⟨b, k, none⟩ = some v := fun k v hv => by
    rw [← hv]
    unfold World.cell?
    rw [hb.block b hB]
  have c := hc i hi
  exact ⟨key _ _ c.c0, key _ _ c.c1, key _ _ c.c2, key _ _ c.c3, key _ _ c.c4⟩
/-! ### a row of pairs, cell by cell -/
def RowC (cs : List Value) (n : Nat) (ps : List (ByteArray × ValL)) : Prop := ∀ j, j < n → ∀ r, r < 5 → cs[j * 5 + r]? = (pairCs (nthQ ps j))[r]?
theorem rowP_of {B n : Nat} {W : World} {v : Value} {ps : List (ByteArray × ValL)} (ho : W.ownsRow B 87 5 v n (cellsP ps)) (h0 : 0 < n) :
    ∃ g cap cs, v = .slice (some ⟨g, 0, none⟩) n cap ∧ B ≤ g ∧ AC W g cs ∧ n * 5 ≤ cs.length ∧ RowC cs n ps := by
  obtain ⟨h1, ⟨_, h2⟩ | ⟨g, cap, cur, hv, hB, hg, hc, hm, hs, ht⟩⟩ := ho
  · omega
  · have hn : ps.length = n := by rw [cellsP_len] at h1; omega
    refine ⟨g, cap, cur.toList, hv, hB, ⟨_, hg⟩, ?_, fun j hj r hr => ?_⟩
    · rw [Array.length_toList, hs]
      exact Nat.mul_le_mul_right 5 hc
    · rw [← cellsP_get ps j (by omega) r hr, ← ht, List.getElem?_take_of_lt (by omega)]
theorem PA.row {W : World} {g n : Nat} {cs : List Value} {ps : List (ByteArray × ValL)} (h : AC W g cs) (hl : ps.length = n) (hn : n ≤ 1000000) (hc : RowC cs n ps) : PA W (some ⟨g, 0, none⟩) n ps := by
  refine ⟨hl, hn, fun j0 _ => ⟨g, 0, rfl, fun j hj => ?_⟩⟩
  have key : ∀ r v, r < 5 → (pairCs (nthQ ps j))[r]? = some v → W.cell? ⟨g, 0 + j * 5 + r, none⟩ = some v := fun r v hr hv => by
    rw [Nat.zero_add]
    exact h.cell (j * 5 + r) v (by rw [hc j hj r hr]; exact hv)
  exact ⟨key 0 _ (by decide) rfl, key 1 _ (by decide) rfl, key 2 _ (by decide) rfl, key 3 _ (by decide) rfl, key 4 _ (by decide) rfl⟩
def set5 (cs : List Value) (o : Nat) (p : ByteArray × ValL) : List Value := ((((cs.set o (.string p.1)).set (o + 1) (.bool p.2.there)).set (o + 2) (.float .f64 p.2.x)).set (o + 3) (.int .i64 p.2.n)).set (o + 4) (.string p.2.s)
theorem set5_len (cs : List Value) (o : Nat) (p : ByteArray × ValL) : (set5 cs o p).length = cs.length := by simp [set5]
theorem set5_out {cs : List Value} {o i : Nat} (p : ByteArray × ValL) (h : i < o ∨ o + 5 ≤ i) : (set5 cs o p)[i]? = cs[i]? := by
  unfold set5
  rw [List.getElem?_set_ne (by omega), List.getElem?_set_ne (by omega), List.getElem?_set_ne (by omega), List.getElem?_set_ne (by omega), List.getElem?_set_ne (by omega)]
theorem set5_in {cs : List Value} {o r : Nat} (p : ByteArray × ValL) (hr : r < 5) (h : o + 5 ≤ cs.length) : (set5 cs o p)[o + r]? = (pairCs p)[r]? := by
  unfold set5
  match r, hr with
  | 0, _ => rw [List.getElem?_set_ne (by omega), List.getElem?_set_ne (by omega), List.getElem?_set_ne (by omega), List.getElem?_set_ne (by omega), Nat.add_zero, List.getElem?_set_self (by omega)]; rfl
  | 1, _ => rw [List.getElem?_set_ne (by omega), List.getElem?_set_ne (by omega), List.getElem?_set_ne (by omega), List.getElem?_set_self (by simp; omega)]; rfl
  | 2, _ => rw [List.getElem?_set_ne (by omega), List.getElem?_set_ne (by omega), List.getElem?_set_self (by simp; omega)]; rfl
  | 3, _ => rw [List.getElem?_set_ne (by omega), List.getElem?_set_self (by simp; omega)]; rfl
  | 4, _ => rw [List.getElem?_set_self (by simp; omega)]; rfl
theorem rowC_set {cs : List Value} {n k : Nat} {ps : List (ByteArray × ValL)} (h : RowC cs n ps) (hl : n * 5 ≤ cs.length) (hn : ps.length = n) (hk : k < n) (p : ByteArray × ValL) : RowC (set5 cs (k * 5) p) n (ps.set k p) := by
  intro j hj r hr
  rw [nthQ_set p (by omega)]
  by_cases e : j = k
  · subst e
    rw [if_pos rfl, set5_in p hr (by omega)]
  · rw [if_neg e, set5_out p (by omega)]
    exact h j hj r hr
theorem AC.five {W : World} {g : Nat} {cs : List Value} (h : AC W g cs) (o : Nat) (p : ByteArray × ValL) : AC (((((W.setCell ⟨g, o, none⟩ (.string p.1)).setCell ⟨g, o + 1, none⟩ (.bool p.2.there)).setCell ⟨g, o + 2, none⟩ (.float .f64 p.2.x)).setCell ⟨g, o + 3, none⟩ (.int .i64 p.2.n)).setCell ⟨g, o + 4, none⟩ (.string p.2.s)) g (set5 cs o p) :=
  ((((h.setj o _).setj (o + 1) _).setj (o + 2) _).setj (o + 3) _).setj (o + 4) _
theorem RowC.pc {W : World} {g n : Nat} {cs : List Value} {ps : List (ByteArray × ValL)} (h : AC W g cs) (hc : RowC cs n ps) {j : Nat} (hj : j < n) : PC W g (j * 5) (nthQ ps j) := by
  have key : ∀ r v, r < 5 → (pairCs (nthQ ps j))[r]? = some v → W.cell? ⟨g, j * 5 + r, none⟩ = some v := fun r v hr hv => h.cell (j * 5 + r) v (by rw [hc j hj r hr]; exact hv)
  exact ⟨key 0 _ (by decide) rfl, key 1 _ (by decide) rfl, key 2 _ (by decide) rfl, key 3 _ (by decide) rfl, key 4 _ (by decide) rfl⟩
theorem AC.fives {W : World} {g o : Nat} {cs : List Value} (h : AC W g cs) (ho : o + 5 ≤ cs.length) :
    ∃ v0 v1 v2 v3 v4, W.cell? ⟨g, o, none⟩ = some v0 ∧ W.cell? ⟨g, o + 1, none⟩ = some v1 ∧ W.cell? ⟨g, o + 2, none⟩ = some v2 ∧ W.cell? ⟨g, o + 3, none⟩ = some v3 ∧ W.cell? ⟨g, o + 4, none⟩ = some v4 ∧
      W.frozen? ⟨g, o, none⟩ = false ∧ W.frozen? ⟨g, o + 1, none⟩ = false ∧ W.frozen? ⟨g, o + 2, none⟩ = false ∧ W.frozen? ⟨g, o + 3, none⟩ = false ∧ W.frozen? ⟨g, o + 4, none⟩ = false :=
  ⟨_, _, _, _, _, h.cell o _ (List.getElem?_eq_getElem (by omega)), h.cell (o + 1) _ (List.getElem?_eq_getElem (by omega)), h.cell (o + 2) _ (List.getElem?_eq_getElem (by omega)), h.cell (o + 3) _ (List.getElem?_eq_getElem (by omega)), h.cell (o + 4) _ (List.getElem?_eq_getElem (by omega)), h.frozen _, h.frozen _, h.frozen _, h.frozen _, h.frozen _⟩
theorem AC.other5 {W : World} {g g' : Nat} {cs : List Value} (h : AC W g cs) (hn : g ≠ g') (o : Nat) (p : ByteArray × ValL) : AC (((((W.setCell ⟨g', o, none⟩ (.string p.1)).setCell ⟨g', o + 1, none⟩ (.bool p.2.there)).setCell ⟨g', o + 2, none⟩ (.float .f64 p.2.x)).setCell ⟨g', o + 3, none⟩ (.int .i64 p.2.n)).setCell ⟨g', o + 4, none⟩ (.string p.2.s)) g cs :=
  ((((h.other hn).other hn).other hn).other hn).other hn
theorem Bl.store5 {w W : World} (h : Bl w W) {g : Nat} (hg : w.heap.size ≤ g) (o : Nat) (p : ByteArray × ValL) : Bl w (((((W.setCell ⟨g, o, none⟩ (.string p.1)).setCell ⟨g, o + 1, none⟩ (.bool p.2.there)).setCell ⟨g, o + 2, none⟩ (.float .f64 p.2.x)).setCell ⟨g, o + 3, none⟩ (.int .i64 p.2.n)).setCell ⟨g, o + 4, none⟩ (.string p.2.s)) :=
  Below.setCell (p := ⟨g, o + 4, none⟩) (Below.setCell (p := ⟨g, o + 3, none⟩) (Below.setCell (p := ⟨g, o + 2, none⟩) (Below.setCell (p := ⟨g, o + 1, none⟩) (Below.setCell (p := ⟨g, o, none⟩) h hg _) hg _) hg _) hg _) hg _
theorem nthQ_in {ps : List (ByteArray × ValL)} {k : Nat} (h : k < ps.length) : nthQ ps k ∈ ps := by rw [nthQ_eq h]; exact List.getElem_mem h
theorem out_mem {ps : List (ByteArray × ValL)} {k : Nat} {p : ByteArray × ValL} (h : p ∈ outP ps k) : p ∈ ps := by
  unfold outP at h
  rcases List.mem_append.1 h with h | h
  · exact List.mem_of_mem_take h
  · exact List.mem_of_mem_drop h
theorem twice_mem {ps : List (ByteArray × ValL)} {k : Nat} (hk : k < ps.length) {p : ByteArray × ValL} (h : p ∈ twiceP ps k) : p ∈ ps := by
  unfold twiceP at h
  rcases List.mem_append.1 h with h | h
  · rcases List.mem_append.1 h with h | h
    · exact List.mem_of_mem_take h
    · rw [List.mem_singleton.1 h]; exact nthQ_in hk
  · exact List.mem_of_mem_drop h
theorem swap_mem {ps : List (ByteArray × ValL)} {k : Nat} (hk : k < ps.length) {p : ByteArray × ValL} (h : p ∈ swapP ps k) : p ∈ ps := by
  unfold swapP at h
  rcases List.mem_or_eq_of_mem_set h with h | h
  · rcases List.mem_or_eq_of_mem_set h with h | h
    · exact h
    · rw [h]; exact nthQ_in hk
  · rw [h]; exact nthQ_in (by omega)
/-- three archives' boxes -/
structure LB (w Z : World) (ca : List Value) (g5 : Nat) (cb : List Value) (g6 : Nat) (cc : List Value) : Prop where
  bl : Bl w Z
  a : AC Z w.heap.size ca
  b : AC Z g5 cb
  c : AC Z g6 cc
  n5 : w.heap.size < g5
  n6 : w.heap.size < g6
  ne : g5 ≠ g6
theorem LB.keep {w Z Z' : World} {ca : List Value} {g5 : Nat} {cb : List Value} {g6 : Nat} {cc : List Value} (h : LB w Z ca g5 cb g6 cc) (k : Bl Z Z') : LB w Z' ca g5 cb g6 cc := ⟨h.bl.trans k, h.a.keep k, h.b.keep k, h.c.keep k, h.n5, h.n6, h.ne⟩
theorem LB.set5 {w Z : World} {ca : List Value} {g5 : Nat} {a0 b0 c0 d0 : Value} {g6 : Nat} {cc : List Value} (h : LB w Z ca g5 [a0, b0, c0, d0] g6 cc) (a b c d : Value) : LB w ((((Z.setCell ⟨g5, 0, none⟩ a).setCell ⟨g5, 1, none⟩ b).setCell ⟨g5, 2, none⟩ c).setCell ⟨g5, 3, none⟩ d) ca g5 [a, b, c, d] g6 cc := by
  have h5 := h.n5
  have h6 := h.n6
  have hn := h.ne
  exact ⟨h.bl.store4 (by omega) a b c d, h.a.other4 (by omega) a b c d, h.b.set4 a b c d, h.c.other4 (by omega) a b c d, h5, h6, hn⟩
theorem LB.set6 {w Z : World} {ca : List Value} {g5 : Nat} {a0 b0 c0 d0 : Value} {g6 : Nat} {cb : List Value} (h : LB w Z ca g5 cb g6 [a0, b0, c0, d0]) (a b c d : Value) : LB w ((((Z.setCell ⟨g6, 0, none⟩ a).setCell ⟨g6, 1, none⟩ b).setCell ⟨g6, 2, none⟩ c).setCell ⟨g6, 3, none⟩ d) ca g5 cb g6 [a, b, c, d] := by
  have h5 := h.n5
  have h6 := h.n6
  have hn := h.ne
  exact ⟨h.bl.store4 (by omega) a b c d, h.a.other4 (by omega) a b c d, h.b.other4 (by omega) a b c d, h.c.set4 a b c d, h5, h6, hn⟩
theorem LB.store5 {w Z : World} {ca : List Value} {g5 : Nat} {cb : List Value} {g6 : Nat} {cc : List Value} (h : LB w Z ca g5 cb g6 cc) (j : Nat) (v : Value) : LB w (Z.setCell ⟨g5, j, none⟩ v) ca g5 (cb.set j v) g6 cc := by
  have h5 := h.n5
  have h6 := h.n6
  have hn := h.ne
  exact ⟨h.bl.setCell (p := ⟨g5, j, none⟩) (by show w.heap.size ≤ g5; omega) v, h.a.other (by omega), h.b.setj j v, h.c.other (by omega), h5, h6, hn⟩
theorem LB.store6 {w Z : World} {ca : List Value} {g5 : Nat} {cb : List Value} {g6 : Nat} {cc : List Value} (h : LB w Z ca g5 cb g6 cc) (j : Nat) (v : Value) : LB w (Z.setCell ⟨g6, j, none⟩ v) ca g5 cb g6 (cc.set j v) := by
  have h5 := h.n5
  have h6 := h.n6
  have hn := h.ne
  exact ⟨h.bl.setCell (p := ⟨g6, j, none⟩) (by show w.heap.size ≤ g6; omega) v, h.a.other (by omega), h.b.other (by omega), h.c.setj j v, h5, h6, hn⟩
theorem LB.grown {w Z Z' : World} {ca : List Value} {g5 : Nat} {cb : List Value} {g6 : Nat} {cc : List Value} {B : Nat} (h : LB w Z ca g5 cb g6 cc) (hb : Below B Z Z') (h5 : g5 < B) (h6 : g6 < B) : LB w Z' ca g5 cb g6 cc := by
  have k5 := h.n5
  exact ⟨Below.trans h.bl (Below.mono hb (by omega)), h.a.below hb (by omega), h.b.below hb h5, h.c.below hb h6, h.n5, h.n6, h.ne⟩
set_option maxHeartbeats 12800000 in
set_option maxRecDepth 100000 in
theorem archiveLess_hid (n parts : Int) (ad : Option Addr) (an ac : Nat) (xs : List Int) (pd : Option Addr) (pn pc : Nat) (ps : List (ByteArray × ValL)) (kk : Int) (w : World) (hx : Hid (IA w ad an xs)) (hp : Hid (PW w pd pn ps)) (hpc : pn ≤ pc) :
    Calls Try.prog 10 #[.agg #[.int .i64 n, .int .i64 parts, .slice ad an ac, .slice pd pn pc], .int .i64 kk] w fun e w' => e = .returned (.bool true) ∧ Bl w w' := by
  have hsf := store_float
  have hcap := hp.out.cap
  have hb := (Bl.refl w).alloc (.cells (arcCs n parts ad an ac pd pn pc).toArray 75)
  have hg := AC.new w _ rfl (arcCs n parts ad an ac pd pn pc) 75
  obtain ⟨c0, c1, c2, c3⟩ := AC.arc hg
  unfold arcCs at hg hb c0 c1 c2 c3
  go_enter Try.func10, Try.ntmps10
  go_wp2_with fail
  generalize w.alloc _ = W at *
  refine (light_any n parts ad an ac xs pd pn pc ps _ (hx.out.keep hb) (hp.out.keep hb)).mono ?_
  rintro e W1 ⟨b, rfl, hbt, hb1⟩
  have HB := Lib.hid (hb.trans hb1)
  have HG := Lib.hid (hg.keep hb1)
  clear hb hb1 hg c0 c1 c2 c3
  cases b
  · clear hbt
    go_wp2_with fail
    refine (alive24_any _).mono ?_
    rintro e W2 ⟨rfl, hb2⟩
    go_wp2_with fail
    go_ret
    exact ⟨rfl, HB.out.trans hb2⟩
  obtain ⟨hsum, han⟩ := hbt rfl
  have hfew := lightL_few hp.out.len hsum
  clear hbt hsum han
  have HPA := Lib.hid (hp.out.pa (by omega))
  obtain ⟨c0, c1, c2, c3⟩ := AC.arc HG.out
  obtain ⟨vb, hvb⟩ : ∃ vb, validArc ⟨n, parts, xs, ps⟩ = vb := ⟨_, rfl⟩
  have HV := Lib.hid hvb
  clear hvb
  go_wp2_with fail
  refine (arcValid_hid n parts ad an ac xs pd pn pc ps _ (hx.out.keep HB.out) (HPA.out.keep HB.out) vb HV (Lib.hid hp.out.ok)).mono ?_
  rintro e W2 ⟨rfl, hb2⟩
  have HB2 := Lib.hid (HB.out.trans hb2)
  have HG2 := Lib.hid (HG.out.keep hb2)
  clear hb2 HB HG c0 c1 c2 c3
  obtain ⟨c0, c1, c2, c3⟩ := AC.arc HG2.out
  cases vb
  · go_wp2_with fail
    refine (alive24_any _).mono ?_
    rintro e W3 ⟨rfl, hb3⟩
    go_wp2_with fail
    go_ret
    exact ⟨rfl, HB2.out.trans hb3⟩
  rcases Nat.eq_zero_or_pos pn with h0 | h0
  · subst h0
    go_wp2_with fail
    refine (alive24_any _).mono ?_
    rintro e W3 ⟨rfl, hb3⟩
    go_wp2_with fail
    go_ret
    exact ⟨rfl, HB2.out.trans hb3⟩
  obtain ⟨ba, oa, rfl, _⟩ := hp.out.cells 0 h0
  obtain ⟨M, hM⟩ : ∃ M : Int, kk.tmod (pn : Int) = M := ⟨_, rfl⟩
  have hM1 : M < (pn : Int) := by rw [← hM]; exact Int.tmod_lt_of_pos _ (by omega)
  have hM0 : -(pn : Int) < M := by rw [← hM]; exact Int.lt_tmod_of_pos _ (by omega)
  have qz : ((pn : Int) == 0) = false := by rw [beq_eq_false_iff_ne]; omega
  have qz2 : decide (pn = 0) = false := decide_eq_false (by omega)
  obtain ⟨K, hK⟩ : ∃ K : Nat, (if M < 0 then M + (pn : Int) else M) = (K : Int) := ⟨(if M < 0 then M + (pn : Int) else M).toNat, by split <;> omega⟩
  have hKn : K < pn := by split at hK <;> omega
  go_upto_if 31 with fail
  go_cut [1] (fun t1 Z => t1 = .int .i64 K ∧ W2 = Z)
  case first =>
    by_cases hMn : M < 0
    · have q2 : decide (M < 0) = true := decide_eq_true hMn
      have eK : M + (pn : Int) = (K : Int) := by rw [if_pos hMn] at hK; exact hK
      clear hMn hK
      go_wp2_with fail
      go_meet
      case rel => exact ⟨rfl, rfl⟩
    · have q2 : decide (M < 0) = false := decide_eq_false hMn
      have eK : M = (K : Int) := by rw [if_neg hMn] at hK; exact hK
      subst eK
      clear hMn hK
      go_wp2_with fail
      go_meet
      case rel => exact ⟨rfl, rfl⟩
  case rest =>
    obtain ⟨rfl, rfl⟩ := hcut
    clear c0 c1 c2 c3 hM hM1 hM0 qz qz2 hK
    go_upto_region 6 with fail
    go_cut [5, 6] (fun t5 t6 Z => ∃ g5 g6, t5 = .pointer (some ⟨g5, 0, none⟩) ∧ t6 = .pointer (some ⟨g6, 0, none⟩) ∧ LB w Z (arcCs n parts ad an ac (some ⟨ba, oa, none⟩) pn pc) g5 (arcCs n parts ad an ac (some ⟨ba, oa, none⟩) pn pc) g6 (arcCs n parts ad an ac (some ⟨ba, oa, none⟩) pn pc))
    case first =>
      refine wp_region_idx [0, 1] 4 (HasBox w.heap.size (arcCs n parts ad an ac (some ⟨ba, oa, none⟩) pn pc)) HasBox.keep (HG2.out.keep ((Bl.refl W2).drew)) (by kernel_rfl) rfl (by kernel_rfl) (by kernel_rfl) ?_
      have HGD := Lib.hid (HG2.out.keep ((Bl.refl W2).drew))
      have HBW := Lib.hid (HB2.out.drew)
      generalize W2.drew = Z at *
      haveI : Nonempty (ExtC (HasBox w.heap.size (arcCs n parts ad an ac (some ⟨ba, oa, none⟩) pn pc))) := ⟨⟨Z, HGD.out⟩⟩
      have d0 : ∀ q : ExtC (HasBox w.heap.size (arcCs n parts ad an ac (some ⟨ba, oa, none⟩) pn pc)), _ := fun q => (AC.arc q.ok).1
      have d1 : ∀ q : ExtC (HasBox w.heap.size (arcCs n parts ad an ac (some ⟨ba, oa, none⟩) pn pc)), _ := fun q => (AC.arc q.ok).2.1
      have d2 : ∀ q : ExtC (HasBox w.heap.size (arcCs n parts ad an ac (some ⟨ba, oa, none⟩) pn pc)), _ := fun q => (AC.arc q.ok).2.2.1
      have d3 : ∀ q : ExtC (HasBox w.heap.size (arcCs n parts ad an ac (some ⟨ba, oa, none⟩) pn pc)), _ := fun q => (AC.arc q.ok).2.2.2
      repeat (refine wpI_step rfl (fun K hK => ?_); go_simp; first | (refine hK _ ?_; clear hK K) | (apply Exists.intro; refine ⟨fun q => ?_, hK _ ?_⟩; fail; clear hK K))
      refine wpI_nil ?_
      clear d0 d1 d2 d3 this
      refine wpAnyE_all (rs := [2, 3]) (by kernel_rfl) (by decide) ?_
      intro i hi X0 hx0
      simp only [List.mem_cons, List.not_mem_nil, or_false] at hi
      rcases hi with rfl | rfl
      · go_simp
        have hga := AC.new X0 _ rfl [.int .i64 0, .int .i64 0, .slice none 0 0, .slice none 0 0] 75
        have hb1 := hx0.alloc (.cells #[.int .i64 0, .int .i64 0, .slice none 0 0, .slice none 0 0] 75)
        have H1 := Lib.hid (show AC _ X0.heap.size [.int .i64 0, .int .i64 0, .slice none 0 0, .slice none 0 0] from hga)
        have HB1 := Lib.hid hb1
        have hlt1 : w.heap.size < X0.heap.size := Nat.lt_of_lt_of_le HGD.out.lt hx0.size
        refine ⟨HGD.out.keep hb1, ?_⟩
        clear hga hb1
        generalize X0.alloc _ = X1 at *
        generalize X0.heap.size = g5 at *
        refine wpAnyE_one (i := 3) (by kernel_rfl) ?_
        intro X2 hx2
        go_simp
        have hgb := AC.new X2 _ rfl [.int .i64 0, .int .i64 0, .slice none 0 0, .slice none 0 0] 75
        have hb2 := hx2.alloc (.cells #[.int .i64 0, .int .i64 0, .slice none 0 0, .slice none 0 0] 75)
        have H2 := Lib.hid hgb
        have H1b := Lib.hid (H1.out.keep hb2)
        have HB2b := Lib.hid (HB1.out.trans hb2)
        have hlt2 : g5 < X2.heap.size := (H1.out.keep hx2).lt
        refine ⟨HGD.out.keep HB2b.out, ?_⟩
        clear hgb hb2 H1 HB1 hx2
        generalize X2.alloc _ = X3 at *
        generalize X2.heap.size = g6 at *
        have HL3 : Hid (LB w X3 (arcCs n parts ad an ac (some ⟨ba, oa, none⟩) pn pc) g5 [.int .i64 0, .int .i64 0, .slice none 0 0, .slice none 0 0] g6 [.int .i64 0, .int .i64 0, .slice none 0 0, .slice none 0 0]) := Lib.hid ⟨HBW.out.trans HB2b.out, HGD.out.keep HB2b.out, H1b.out, H2.out, by omega, by omega, by omega⟩
        clear H1b H2 HB2b hlt1 hlt2
        refine wpAnyE_one (i := 4) (by kernel_rfl) ?_
        intro X4 hx4
        have HL4 := Lib.hid (HL3.out.keep hx4)
        clear HL3 hx4
        obtain ⟨y0, y1, y2, y3⟩ := AC.arc HL4.out.b
        have fy := HL4.out.b.frozen
        go_simp
        have HL5 := Lib.hid (HL4.out.set5 (.int .i64 n) (.int .i64 parts) (.slice ad an ac) (.slice (some ⟨ba, oa, none⟩) pn pc))
        refine ⟨HL5.out.a, ?_⟩
        clear y0 y1 y2 y3 fy HL4
        generalize World.setCell _ _ _ = X5 at *
        refine wpAnyE_one (i := 5) (by kernel_rfl) ?_
        intro X6 hx6
        have HL6 := Lib.hid (HL5.out.keep hx6)
        clear HL5 hx6
        obtain ⟨y0, y1, y2, y3⟩ := AC.arc HL6.out.c
        have fy := HL6.out.c.frozen
        go_simp
        have HL7 := Lib.hid (HL6.out.set6 (.int .i64 n) (.int .i64 parts) (.slice ad an ac) (.slice (some ⟨ba, oa, none⟩) pn pc))
        refine ⟨HL7.out.a, ?_⟩
        clear y0 y1 y2 y3 fy HL6
        generalize World.setCell _ _ _ = X7 at *
        refine wpAnyE_done (by kernel_rfl) ?_
        intro X8 hx8
        have HL8 := Lib.hid (HL7.out.keep hx8)
        clear HL7 hx8
        go_step
        go_meet
        case rel => exact ⟨g5, g6, rfl, rfl, HL8.out⟩
      · go_simp
        have hga := AC.new X0 _ rfl [.int .i64 0, .int .i64 0, .slice none 0 0, .slice none 0 0] 75
        have hb1 := hx0.alloc (.cells #[.int .i64 0, .int .i64 0, .slice none 0 0, .slice none 0 0] 75)
        have H1 := Lib.hid (show AC _ X0.heap.size [.int .i64 0, .int .i64 0, .slice none 0 0, .slice none 0 0] from hga)
        have HB1 := Lib.hid hb1
        have hlt1 : w.heap.size < X0.heap.size := Nat.lt_of_lt_of_le HGD.out.lt hx0.size
        refine ⟨HGD.out.keep hb1, ?_⟩
        clear hga hb1
        generalize X0.alloc _ = X1 at *
        generalize X0.heap.size = g6 at *
        refine wpAnyE_one (i := 2) (by kernel_rfl) ?_
        intro X2 hx2
        go_simp
        have hgb := AC.new X2 _ rfl [.int .i64 0, .int .i64 0, .slice none 0 0, .slice none 0 0] 75
        have hb2 := hx2.alloc (.cells #[.int .i64 0, .int .i64 0, .slice none 0 0, .slice none 0 0] 75)
        have H2 := Lib.hid hgb
        have H1b := Lib.hid (H1.out.keep hb2)
        have HB2b := Lib.hid (HB1.out.trans hb2)
        have hlt2 : g6 < X2.heap.size := (H1.out.keep hx2).lt
        refine ⟨HGD.out.keep HB2b.out, ?_⟩
        clear hgb hb2 H1 HB1 hx2
        generalize X2.alloc _ = X3 at *
        generalize X2.heap.size = g5 at *
        have HL3 : Hid (LB w X3 (arcCs n parts ad an ac (some ⟨ba, oa, none⟩) pn pc) g5 [.int .i64 0, .int .i64 0, .slice none 0 0, .slice none 0 0] g6 [.int .i64 0, .int .i64 0, .slice none 0 0, .slice none 0 0]) := Lib.hid ⟨HBW.out.trans HB2b.out, HGD.out.keep HB2b.out, H2.out, H1b.out, by omega, by omega, by omega⟩
        clear H1b H2 HB2b hlt1 hlt2
        refine wpAnyE_one (i := 4) (by kernel_rfl) ?_
        intro X4 hx4
        have HL4 := Lib.hid (HL3.out.keep hx4)
        clear HL3 hx4
        obtain ⟨y0, y1, y2, y3⟩ := AC.arc HL4.out.b
        have fy := HL4.out.b.frozen
        go_simp
        have HL5 := Lib.hid (HL4.out.set5 (.int .i64 n) (.int .i64 parts) (.slice ad an ac) (.slice (some ⟨ba, oa, none⟩) pn pc))
        refine ⟨HL5.out.a, ?_⟩
        clear y0 y1 y2 y3 fy HL4
        generalize World.setCell _ _ _ = X5 at *
        refine wpAnyE_one (i := 5) (by kernel_rfl) ?_
        intro X6 hx6
        have HL6 := Lib.hid (HL5.out.keep hx6)
        clear HL5 hx6
        obtain ⟨y0, y1, y2, y3⟩ := AC.arc HL6.out.c
        have fy := HL6.out.c.frozen
        go_simp
        have HL7 := Lib.hid (HL6.out.set6 (.int .i64 n) (.int .i64 parts) (.slice ad an ac) (.slice (some ⟨ba, oa, none⟩) pn pc))
        refine ⟨HL7.out.a, ?_⟩
        clear y0 y1 y2 y3 fy HL6
        generalize World.setCell _ _ _ = X7 at *
        refine wpAnyE_done (by kernel_rfl) ?_
        intro X8 hx8
        have HL8 := Lib.hid (HL7.out.keep hx8)
        clear HL7 hx8
        go_step
        go_meet
        case rel => exact ⟨g5, g6, rfl, rfl, HL8.out⟩
    case rest =>
      obtain ⟨g5, g6, rfl, rfl, hL⟩ := hcut
      have HL := Lib.hid hL
      clear hL HG2 HB2
      have hK1e : ∃ K1, K1 = K + 1 := ⟨_, rfl⟩
      obtain ⟨K1, hK1⟩ := hK1e
      have hwK : IntKind.i64.wrap ((K : Int) + 1) = (K1 : Int) := by rw [IntKind.wrap_i64]; omega
      have hKc : K ≤ pc := by omega
      have hK1n : K1 ≤ pn := by omega
      have hK1c : K1 ≤ pc := by omega
      have HK1 := Lib.hid hK1
      have HSG0 := Lib.hid (fun (W' : World) (hb : Bl w W') => (hp.out.keep hb).sg 0 K (by omega))
      have HSG1 := Lib.hid (fun (W' : World) (hb : Bl w W') => (hp.out.keep hb).sg2 (c := pc) K1 hK1n hpc)
      have HSG2 := Lib.hid (fun (W' : World) (hb : Bl w W') => (hp.out.keep hb).sg 0 K1 (by omega))
      have HSG3 := Lib.hid (fun (W' : World) (hb : Bl w W') => (hp.out.keep hb).sg 0 pn (by omega))
      rw [Nat.zero_mul, Nat.add_zero] at HSG0 HSG2 HSG3
      clear hK1
      obtain ⟨adr, hadr⟩ : ∃ adr, (if pc = K1 then (some ⟨ba, oa, none⟩ : Option Addr) else some ⟨ba, oa + K1 * 5, none⟩) = adr := ⟨_, rfl⟩
      rw [hadr] at HSG1
      go_upto_region 7 with fail
      refine wp_region_panicsT [0, 1, 2, 3, 5, 6, 7, 8, 9] 4 (HoldB w w.heap.size (arcCs n parts ad an ac (some ⟨ba, oa, none⟩) pn pc)) HoldB.keep ⟨HL.out.bl.drew, HL.out.a.keep ((Bl.refl _).drew)⟩ [] (fun c W' => False) ?hR (by kernel_rfl) rfl (by kernel_rfl) (by kernel_rfl) (by kernel_rfl) ?_
      case hR => intro c tt W' h; exact h.elim
      have HLD := Lib.hid (HL.out.keep ((Bl.refl _).drew))
      clear HL
      generalize World.drew _ = Z at *
      haveI : Nonempty (ExtC (HoldB w w.heap.size (arcCs n parts ad an ac (some ⟨ba, oa, none⟩) pn pc))) := ⟨⟨Z, HLD.out.bl, HLD.out.a⟩⟩
      have d3 : ∀ q : ExtC (HoldB w w.heap.size (arcCs n parts ad an ac (some ⟨ba, oa, none⟩) pn pc)), _ := fun q => (AC.arc q.ok.2).2.2.2
      repeat (refine wpI_step rfl (fun K hK => ?_); go_simp; first | (refine hK _ ?_; clear hK K) | (apply Exists.intro; refine ⟨fun q => ?_, hK _ ?_⟩; fail; clear hK K))
      refine wpI_nil ?_
      clear d3 this
      refine wpAnyP_one (i := 4) (by kernel_rfl) ?_
      intro Y1 hy1
      have HL1 := Lib.hid (HLD.out.keep hy1)
      clear HLD hy1
      have hB5 := HL1.out.b.lt
      have hB6 := HL1.out.c.lt
      refine pOp_appG rfl rfl _ _ _ rfl el_pair Y1.heap.size (.slice none 0 0) 0 [] rfl (World.ownsRow_nil _ _ _ _) (Nat.le_refl _) _ K pc _ rfl (HSG0.out Y1 HL1.out.bl) (by unfold maxLen; omega) (by omega) ?_
      intro v1 Y2 ho1 hg1
      have hbY2 : Bl Y1 Y2 := (Bl.refl Y1).ownRow (World.ownsRow_nil Y1 Y1.heap.size 87 5) (Nat.le_refl _) hg1
      have HL2 := Lib.hid (HL1.out.keep hbY2)
      refine ⟨fun _ => ⟨HL2.out.bl, HL2.out.a⟩, ?_⟩
      simp only [Act.put, List.setIfInBounds_toArray]
      have hszB := hbY2.size
      clear hbY2 hg1 HL1
      generalize Y1.heap.size = B5 at *
      refine wpAnyP_one (i := 10) (by kernel_rfl) ?_
      intro Y3 hy3
      have HL3 := Lib.hid (HL2.out.keep hy3)
      have hszB3 := hy3.size
      have ho1' := ownsRow_bl ho1 hy3
      clear HL2 hy3 ho1
      refine pOp_appG rfl rfl _ _ _ rfl el_pair B5 v1 (0 + K) _ rfl ho1' (by omega) adr (pn - K1) (pc - K1) _ rfl (HSG1.out Y3 HL3.out.bl) (by unfold maxLen; omega) (by omega) ?_
      intro v2 Y4 ho2 hg2
      have hbl2 : Below B5 Y3 Y4 := Below.grown (Below.refl _ Y3) hg2 (by omega) (fun q hq => (World.ownsRow.lt ho1' q hq).1)
      have HL4 := Lib.hid (HL3.out.grown hbl2 hB5 hB6)
      refine ⟨fun _ => ⟨HL4.out.bl, HL4.out.a⟩, ?_⟩
      simp only [Act.put, List.setIfInBounds_toArray]
      have hoP : OPR B5 Y4 v2 (0 + K + (pn - K1)) (outP ps K) := ⟨by rw [out_len (by rw [hp.out.len]; exact hKn), hp.out.len]; have := HK1.out; omega, by
        have e : cellsP (outP ps K) = ([] ++ cellsP (ps.take K)) ++ cellsP (ps.drop K1) := by
          unfold outP cellsP
          rw [List.flatMap_append, HK1.out, List.nil_append]
        rw [e]; exact ho2⟩
      have hszB4 : B5 ≤ Y4.heap.size := Nat.le_trans (by omega) hbl2.size
      clear ho1' ho2 hg2 hbl2 HL3
      refine wpAnyP_one (i := 11) (by kernel_rfl) ?_
      intro Y5 hy5
      go_simp
      have HL5 := Lib.hid (HL4.out.keep hy5)
      have HO5 := Lib.hid (hoP.keep hy5)
      have hszB5 := Nat.le_trans hszB4 hy5.size
      clear HL4 hy5 hoP
      refine ⟨⟨HL5.out.bl, HL5.out.a⟩, ?_⟩
      refine wpAnyP_one (i := 12) (by kernel_rfl) ?_
      intro Y6 hy6
      have HL6 := Lib.hid (HL5.out.keep hy6)
      have HO6 := Lib.hid (HO5.out.keep hy6)
      have hszB6 := Nat.le_trans hszB5 hy6.size
      clear HL5 HO5 hy6
      rw [Nat.zero_add] at HO6
      have hnb5 : ∃ nb5, K + (pn - K1) = nb5 ∧ nb5 ≤ 2000 := ⟨_, rfl, by have := HK1.out; omega⟩
      obtain ⟨nb5, hnb5, hnb5s⟩ := hnb5
      rw [hnb5] at HO6
      obtain ⟨pa5, pc5, rfl⟩ := HO6.out.form
      have f3 := HL6.out.b.frozen 3
      have e3 := HL6.out.b.cell 3 _ rfl
      go_simp
      have HL7 : Hid (LB w (Y6.setCell ⟨g5, 3, none⟩ (.slice pa5 nb5 pc5)) (arcCs n parts ad an ac (some ⟨ba, oa, none⟩) pn pc) g5 (arcCs n parts ad an ac pa5 nb5 pc5) g6 (arcCs n parts ad an ac (some ⟨ba, oa, none⟩) pn pc)) := Lib.hid (HL6.out.store5 3 (.slice pa5 nb5 pc5))
      have HF7 := Lib.hid ((HO6.out.set (q := g5) hB5 3 (.slice pa5 nb5 pc5)).far (by omega))
      refine ⟨⟨HL7.out.bl, HL7.out.a⟩, ?_⟩
      have hszY7 : B5 ≤ (Y6.setCell ⟨g5, 3, none⟩ (.slice pa5 nb5 pc5)).heap.size := by simp; omega
      clear f3 e3 HL6 HO6 hnb5
      generalize Y6.setCell ⟨g5, 3, none⟩ (.slice pa5 nb5 pc5) = Y7 at *
      refine wpAnyP_done (by kernel_rfl) ?_
      intro Y8 hy8
      have HL := Lib.hid (HL7.out.keep hy8)
      have HF5 := Lib.hid (HF7.out.keep hy8)
      have hB5Y : B5 ≤ Y8.heap.size := by have := hy8.size; omega
      clear HL7 HF7 hy8 hszB hszB3 hszY7
      go_upto_region 8 with fail
      go_cut [69] (fun t69 Z => ∃ pa6 pc6 nb6 B6, nb6 ≤ 2001 ∧ B5 ≤ B6 ∧ LB w Z (arcCs n parts ad an ac (some ⟨ba, oa, none⟩) pn pc) g5 (arcCs n parts ad an ac pa5 nb5 pc5) g6 (arcCs n parts ad an ac pa6 nb6 pc6) ∧ FarPA B5 Z pa5 nb5 (outP ps K) ∧ FarPA B6 Z pa6 nb6 (twiceP ps K))
      case first =>
        refine wp_region_panicsT [0, 1, 2, 3, 4, 6, 7, 8, 9, 10, 13, 14, 15, 16, 17] 6 (HoldB w w.heap.size (arcCs n parts ad an ac (some ⟨ba, oa, none⟩) pn pc)) HoldB.keep ⟨HL.out.bl.drew, HL.out.a.keep ((Bl.refl _).drew)⟩ [] (fun c W' => False) ?hR (by kernel_rfl) rfl (by kernel_rfl) (by kernel_rfl) (by kernel_rfl) ?_
        case hR => intro c tt W' h; exact h.elim
        have HLD := Lib.hid (HL.out.keep ((Bl.refl _).drew))
        have HFD := Lib.hid (HF5.out.keep ((Bl.refl _).drew))
        have hBZ : B5 ≤ Y8.drew.heap.size := hB5Y
        clear HL HF5
        generalize World.drew _ = Z at *
        haveI : Nonempty (ExtC (HoldB w w.heap.size (arcCs n parts ad an ac (some ⟨ba, oa, none⟩) pn pc))) := ⟨⟨Z, HLD.out.bl, HLD.out.a⟩⟩
        have d3 : ∀ q : ExtC (HoldB w w.heap.size (arcCs n parts ad an ac (some ⟨ba, oa, none⟩) pn pc)), _ := fun q => (AC.arc q.ok.2).2.2.2
        have HPK := Lib.hid (fun q : ExtC (HoldB w w.heap.size (arcCs n parts ad an ac (some ⟨ba, oa, none⟩) pn pc)) => hp.out.get q.ok.1 hKn)
        obtain ⟨pK, hpK⟩ : ∃ pK, nthQ ps K = pK := ⟨_, rfl⟩
        have HPKE := Lib.hid hpK
        rw [hpK] at HPK
        clear hpK
        obtain ⟨kkey, ⟨kt, kx, km, kz⟩⟩ := pK
        have e0 : ∀ q : ExtC (HoldB w w.heap.size (arcCs n parts ad an ac (some ⟨ba, oa, none⟩) pn pc)), _ := fun q => (HPK.out q).c0
        have e1 : ∀ q : ExtC (HoldB w w.heap.size (arcCs n parts ad an ac (some ⟨ba, oa, none⟩) pn pc)), _ := fun q => (HPK.out q).c1
        have e2 : ∀ q : ExtC (HoldB w w.heap.size (arcCs n parts ad an ac (some ⟨ba, oa, none⟩) pn pc)), _ := fun q => (HPK.out q).c2
        have e3 : ∀ q : ExtC (HoldB w w.heap.size (arcCs n parts ad an ac (some ⟨ba, oa, none⟩) pn pc)), _ := fun q => (HPK.out q).c3
        have e4 : ∀ q : ExtC (HoldB w w.heap.size (arcCs n parts ad an ac (some ⟨ba, oa, none⟩) pn pc)), _ := fun q => (HPK.out q).c4
        dsimp only at e0 e1 e2 e3 e4
        repeat (refine wpI_step rfl (fun K hK => ?_); go_simp; first | (refine hK _ ?_; clear hK K) | (apply Exists.intro; refine ⟨fun q => ?_, hK _ ?_⟩; fail; clear hK K))
        refine wpI_nil ?_
        clear d3 this e0 e1 e2 e3 e4
        refine wpAnyP_all (rs := [5, 11]) (by kernel_rfl) (by decide) ?_
        intro i hi Y1 hy1
        simp only [List.mem_cons, List.not_mem_nil, or_false] at hi
        have HL1 := Lib.hid (HLD.out.keep hy1)
        have HF1 := Lib.hid (HFD.out.keep hy1)
        have hBY := Nat.le_trans hBZ hy1.size
        clear HLD HFD hy1 hBZ
        rcases hi with rfl | rfl
        · have hB5b := HL1.out.b.lt
          have hB6b := HL1.out.c.lt
          refine pOp_appG rfl rfl _ _ _ rfl el_pair Y1.heap.size (.slice none 0 0) 0 [] rfl (World.ownsRow_nil _ _ _ _) (Nat.le_refl _) _ K1 pc _ rfl (HSG2.out Y1 HL1.out.bl) (by unfold maxLen; omega) (by omega) ?_
          intro v1 Y1b ho1 hg1
          have hbY2 : Bl Y1 Y1b := (Bl.refl Y1).ownRow (World.ownsRow_nil Y1 Y1.heap.size 87 5) (Nat.le_refl _) hg1
          have HL2 := Lib.hid (HL1.out.keep hbY2)
          have HF2 := Lib.hid (HF1.out.keep hbY2)
          have hszB := hbY2.size
          refine ⟨fun _ => ⟨HL2.out.bl, HL2.out.a⟩, ?_⟩
          simp only [Act.put, List.setIfInBounds_toArray]
          have hbA : ∀ b off, pa5 = some ⟨b, off, none⟩ → nb5 = 0 ∨ b < Y1.heap.size := HF1.out.1.block
          clear hbY2 hg1 HL1 HF1
          generalize Y1.heap.size = B6 at *
          refine wpAnyP_one (i := 11) (by kernel_rfl) ?_
          intro Y2 hy2
          go_simp
          have hbl := hy2.alloc (.cells #[.string kkey, .bool kt, .float .f64 kx, .int .i64 km, .string kz] 87)
          have hlit : (Y2.alloc (.cells #[.string kkey, .bool kt, .float .f64 kx, .int .i64 km, .string kz] 87)).heap[Y2.heap.size]? = some (.cells (pairCs (kkey, ⟨kt, kx, km, kz⟩)).toArray 87 (0, 0)) := heap_alloc_new Y2 _
          have HLT := Lib.hid (SG.lit (size := 5) hlit rfl (by simp [pairCs, Value.oneCell']))
          have HL3 := Lib.hid (HL2.out.keep hbl)
          have HF3 := Lib.hid (HF2.out.keep hbl)
          have ho1' := ownsRow_bl ho1 hbl
          have hszC := hbl.size
          refine ⟨⟨HL3.out.bl, HL3.out.a⟩, ?_⟩
          clear hlit hbl hy2 HL2 HF2 ho1
          generalize Y2.alloc _ = Y3 at *
          generalize Y2.heap.size = gl at *
          refine wpAnyP_one (i := 12) (by kernel_rfl) ?_
          intro Y4 hy4
          have HL4 := Lib.hid (HL3.out.keep hy4)
          have HF4 := Lib.hid (HF3.out.keep hy4)
          have HLT4 := Lib.hid (HLT.out.keep hy4)
          have ho4 := ownsRow_bl ho1' hy4
          have hszD := hy4.size
          clear HL3 HF3 HLT ho1' hy4
          refine pOp_appG rfl rfl _ _ _ rfl el_pair B6 v1 (0 + K1) _ rfl ho4 (by omega) (some ⟨gl, 0, none⟩) 1 1 _ rfl HLT4.out (by unfold maxLen; omega) (by omega) ?_
          intro v2 Y5 ho5 hg5
          have hbl5 : Below B6 Y4 Y5 := Below.grown (Below.refl _ Y4) hg5 (by omega) (fun q hq => (World.ownsRow.lt ho4 q hq).1)
          have HL5 := Lib.hid (HL4.out.grown hbl5 hB5b hB6b)
          have HF5b := Lib.hid (HF4.out.below hbl5 hbA)
          have hszE := hbl5.size
          refine ⟨fun _ => ⟨HL5.out.bl, HL5.out.a⟩, ?_⟩
          simp only [Act.put, List.setIfInBounds_toArray]
          clear HL4 HF4 ho4 hg5 hbl5 HLT4
          refine wpAnyP_one (i := 18) (by kernel_rfl) ?_
          intro Y6 hy6
          have HL6 := Lib.hid (HL5.out.keep hy6)
          have HF6 := Lib.hid (HF5b.out.keep hy6)
          have ho6 := ownsRow_bl ho5 hy6
          have hszF := hy6.size
          clear HL5 HF5b ho5 hy6
          refine pOp_appG rfl rfl _ _ _ rfl el_pair B6 v2 (0 + K1 + 1) _ rfl ho6 (by omega) adr (pn - K1) (pc - K1) _ rfl (HSG1.out Y6 HL6.out.bl) (by unfold maxLen; omega) (by omega) ?_
          intro v3 Y7 ho7 hg7
          have hbl7 : Below B6 Y6 Y7 := Below.grown (Below.refl _ Y6) hg7 (by omega) (fun q hq => (World.ownsRow.lt ho6 q hq).1)
          have HL7 := Lib.hid (HL6.out.grown hbl7 hB5b hB6b)
          have HF7 := Lib.hid (HF6.out.below hbl7 hbA)
          refine ⟨fun _ => ⟨HL7.out.bl, HL7.out.a⟩, ?_⟩
          simp only [Act.put, List.setIfInBounds_toArray]
          have hoP : OPR B6 Y7 v3 (0 + K1 + 1 + (pn - K1)) (twiceP ps K) := ⟨by rw [twice_len (by rw [hp.out.len]; exact hKn), hp.out.len]; have := HK1.out; omega, by
            have e : cellsP (twiceP ps K) = (([] ++ cellsP (ps.take K1)) ++ pairCs (kkey, ⟨kt, kx, km, kz⟩)) ++ cellsP (ps.drop K1) := by
              unfold twiceP cellsP
              rw [HPKE.out, List.flatMap_append, List.flatMap_append, HK1.out, List.nil_append]
              simp
            rw [e]; exact ho7⟩
          clear ho6 ho7 hg7 hbl7 HL6 HF6
          refine wpAnyP_one (i := 19) (by kernel_rfl) ?_
          intro Y8b hy8
          go_simp
          have HL8 := Lib.hid (HL7.out.keep hy8)
          have HF8 := Lib.hid (HF7.out.keep hy8)
          have HO8 := Lib.hid (hoP.keep hy8)
          clear HL7 HF7 hy8 hoP
          refine ⟨⟨HL8.out.bl, HL8.out.a⟩, ?_⟩
          refine wpAnyP_one (i := 20) (by kernel_rfl) ?_
          intro Y9 hy9
          have HL9 := Lib.hid (HL8.out.keep hy9)
          have HF9 := Lib.hid (HF8.out.keep hy9)
          have HO9 := Lib.hid (HO8.out.keep hy9)
          clear HL8 HF8 HO8 hy9
          rw [Nat.zero_add] at HO9
          have hnb6 : ∃ nb6, K1 + 1 + (pn - K1) = nb6 ∧ nb6 ≤ 2001 := ⟨_, rfl, by omega⟩
          obtain ⟨nb6, hnb6, hnb6s⟩ := hnb6
          rw [hnb6] at HO9
          obtain ⟨pa6, pc6, rfl⟩ := HO9.out.form
          have f3 := HL9.out.c.frozen 3
          have e3 := HL9.out.c.cell 3 _ rfl
          go_simp
          have HL10 : Hid (LB w (Y9.setCell ⟨g6, 3, none⟩ (.slice pa6 nb6 pc6)) (arcCs n parts ad an ac (some ⟨ba, oa, none⟩) pn pc) g5 (arcCs n parts ad an ac pa5 nb5 pc5) g6 (arcCs n parts ad an ac pa6 nb6 pc6)) := Lib.hid (HL9.out.store6 3 (.slice pa6 nb6 pc6))
          have HF10 := Lib.hid (HF9.out.set (q := g6) hB6 3 (.slice pa6 nb6 pc6))
          have HG10 := Lib.hid ((HO9.out.set (q := g6) hB6b 3 (.slice pa6 nb6 pc6)).far (by omega))
          refine ⟨⟨HL10.out.bl, HL10.out.a⟩, ?_⟩
          clear f3 e3 HL9 HF9 HO9 hnb6
          generalize Y9.setCell ⟨g6, 3, none⟩ (.slice pa6 nb6 pc6) = Y10 at *
          refine wpAnyP_done (by kernel_rfl) ?_
          intro Y11 hy11
          have HL11 := Lib.hid (HL10.out.keep hy11)
          have HF11 := Lib.hid (HF10.out.keep hy11)
          have HG11 := Lib.hid (HG10.out.keep hy11)
          clear HL10 HF10 HG10 hy11
          go_step
          go_meet
          case rel => exact ⟨pa6, pc6, nb6, B6, hnb6s, hBY, HL11.out, HF11.out, HG11.out⟩
        · go_simp
          have hbl := (Bl.refl Y1).alloc (.cells #[.string kkey, .bool kt, .float .f64 kx, .int .i64 km, .string kz] 87)
          have hlit : (Y1.alloc (.cells #[.string kkey, .bool kt, .float .f64 kx, .int .i64 km, .string kz] 87)).heap[Y1.heap.size]? = some (.cells (pairCs (kkey, ⟨kt, kx, km, kz⟩)).toArray 87 (0, 0)) := heap_alloc_new Y1 _
          have HLT0 := Lib.hid (SG.lit (size := 5) hlit rfl (by simp [pairCs, Value.oneCell']))
          have HL2 := Lib.hid (HL1.out.keep hbl)
          have HF2 := Lib.hid (HF1.out.keep hbl)
          replace hBY := Nat.le_trans hBY hbl.size
          refine ⟨⟨HL2.out.bl, HL2.out.a⟩, ?_⟩
          clear hlit hbl HL1 HF1
          generalize Y1.alloc _ = Y2 at *
          generalize Y1.heap.size = gl at *
          refine wpAnyP_one (i := 5) (by kernel_rfl) ?_
          intro Y3a hy3
          have HL2b := Lib.hid (HL2.out.keep hy3)
          have HF2b := Lib.hid (HF2.out.keep hy3)
          replace hBY := Nat.le_trans hBY hy3.size
          have hB5b := HL2b.out.b.lt
          have hB6b := HL2b.out.c.lt
          refine pOp_appG rfl rfl _ _ _ rfl el_pair Y3a.heap.size (.slice none 0 0) 0 [] rfl (World.ownsRow_nil _ _ _ _) (Nat.le_refl _) _ K1 pc _ rfl (HSG2.out Y3a HL2b.out.bl) (by unfold maxLen; omega) (by omega) ?_
          intro v1 Y3ab ho1 hg1
          have hbY2 : Bl Y3a Y3ab := (Bl.refl Y3a).ownRow (World.ownsRow_nil Y3a Y3a.heap.size 87 5) (Nat.le_refl _) hg1
          have HL3 := Lib.hid (HL2b.out.keep hbY2)
          have HF3 := Lib.hid (HF2b.out.keep hbY2)
          have HLT := Lib.hid (HLT0.out.keep (hy3.trans hbY2))
          have hszC := hbY2.size
          have ho1' := ho1
          refine ⟨fun _ => ⟨HL3.out.bl, HL3.out.a⟩, ?_⟩
          simp only [Act.put, List.setIfInBounds_toArray]
          have hbA : ∀ b off, pa5 = some ⟨b, off, none⟩ → nb5 = 0 ∨ b < Y3a.heap.size := HF2b.out.1.block
          clear hbY2 hg1 HL2 HF2 HL2b HF2b hy3 HLT0 ho1
          generalize Y3a.heap.size = B6 at *
          generalize Y3ab = Y3 at *
          refine wpAnyP_one (i := 12) (by kernel_rfl) ?_
          intro Y4 hy4
          have HL4 := Lib.hid (HL3.out.keep hy4)
          have HF4 := Lib.hid (HF3.out.keep hy4)
          have HLT4 := Lib.hid (HLT.out.keep hy4)
          have ho4 := ownsRow_bl ho1' hy4
          have hszD := hy4.size
          clear HL3 HF3 HLT ho1' hy4
          refine pOp_appG rfl rfl _ _ _ rfl el_pair B6 v1 (0 + K1) _ rfl ho4 (by omega) (some ⟨gl, 0, none⟩) 1 1 _ rfl HLT4.out (by unfold maxLen; omega) (by omega) ?_
          intro v2 Y5 ho5 hg5
          have hbl5 : Below B6 Y4 Y5 := Below.grown (Below.refl _ Y4) hg5 (by omega) (fun q hq => (World.ownsRow.lt ho4 q hq).1)
          have HL5 := Lib.hid (HL4.out.grown hbl5 hB5b hB6b)
          have HF5b := Lib.hid (HF4.out.below hbl5 hbA)
          have hszE := hbl5.size
          refine ⟨fun _ => ⟨HL5.out.bl, HL5.out.a⟩, ?_⟩
          simp only [Act.put, List.setIfInBounds_toArray]
          clear HL4 HF4 ho4 hg5 hbl5 HLT4
          refine wpAnyP_one (i := 18) (by kernel_rfl) ?_
          intro Y6 hy6
          have HL6 := Lib.hid (HL5.out.keep hy6)
          have HF6 := Lib.hid (HF5b.out.keep hy6)
          have ho6 := ownsRow_bl ho5 hy6
          have hszF := hy6.size
          clear HL5 HF5b ho5 hy6
          refine pOp_appG rfl rfl _ _ _ rfl el_pair B6 v2 (0 + K1 + 1) _ rfl ho6 (by omega) adr (pn - K1) (pc - K1) _ rfl (HSG1.out Y6 HL6.out.bl) (by unfold maxLen; omega) (by omega) ?_
          intro v3 Y7 ho7 hg7
          have hbl7 : Below B6 Y6 Y7 := Below.grown (Below.refl _ Y6) hg7 (by omega) (fun q hq => (World.ownsRow.lt ho6 q hq).1)
          have HL7 := Lib.hid (HL6.out.grown hbl7 hB5b hB6b)
          have HF7 := Lib.hid (HF6.out.below hbl7 hbA)
          refine ⟨fun _ => ⟨HL7.out.bl, HL7.out.a⟩, ?_⟩
          simp only [Act.put, List.setIfInBounds_toArray]
          have hoP : OPR B6 Y7 v3 (0 + K1 + 1 + (pn - K1)) (twiceP ps K) := ⟨by rw [twice_len (by rw [hp.out.len]; exact hKn), hp.out.len]; have := HK1.out; omega, by
            have e : cellsP (twiceP ps K) = (([] ++ cellsP (ps.take K1)) ++ pairCs (kkey, ⟨kt, kx, km, kz⟩)) ++ cellsP (ps.drop K1) := by
              unfold twiceP cellsP
              rw [HPKE.out, List.flatMap_append, List.flatMap_append, HK1.out, List.nil_append]
              simp
            rw [e]; exact ho7⟩
          clear ho6 ho7 hg7 hbl7 HL6 HF6
          refine wpAnyP_one (i := 19) (by kernel_rfl) ?_
          intro Y8b hy8
          go_simp
          have HL8 := Lib.hid (HL7.out.keep hy8)
          have HF8 := Lib.hid (HF7.out.keep hy8)
          have HO8 := Lib.hid (hoP.keep hy8)
          clear HL7 HF7 hy8 hoP
          refine ⟨⟨HL8.out.bl, HL8.out.a⟩, ?_⟩
          refine wpAnyP_one (i := 20) (by kernel_rfl) ?_
          intro Y9 hy9
          have HL9 := Lib.hid (HL8.out.keep hy9)
          have HF9 := Lib.hid (HF8.out.keep hy9)
          have HO9 := Lib.hid (HO8.out.keep hy9)
          clear HL8 HF8 HO8 hy9
          rw [Nat.zero_add] at HO9
          have hnb6 : ∃ nb6, K1 + 1 + (pn - K1) = nb6 ∧ nb6 ≤ 2001 := ⟨_, rfl, by omega⟩
          obtain ⟨nb6, hnb6, hnb6s⟩ := hnb6
          rw [hnb6] at HO9
          obtain ⟨pa6, pc6, rfl⟩ := HO9.out.form
          have f3 := HL9.out.c.frozen 3
          have e3 := HL9.out.c.cell 3 _ rfl
          go_simp
          have HL10 : Hid (LB w (Y9.setCell ⟨g6, 3, none⟩ (.slice pa6 nb6 pc6)) (arcCs n parts ad an ac (some ⟨ba, oa, none⟩) pn pc) g5 (arcCs n parts ad an ac pa5 nb5 pc5) g6 (arcCs n parts ad an ac pa6 nb6 pc6)) := Lib.hid (HL9.out.store6 3 (.slice pa6 nb6 pc6))
          have HF10 := Lib.hid (HF9.out.set (q := g6) hB6 3 (.slice pa6 nb6 pc6))
          have HG10 := Lib.hid ((HO9.out.set (q := g6) hB6b 3 (.slice pa6 nb6 pc6)).far (by omega))
          refine ⟨⟨HL10.out.bl, HL10.out.a⟩, ?_⟩
          clear f3 e3 HL9 HF9 HO9 hnb6
          generalize Y9.setCell ⟨g6, 3, none⟩ (.slice pa6 nb6 pc6) = Y10 at *
          refine wpAnyP_done (by kernel_rfl) ?_
          intro Y11 hy11
          have HL11 := Lib.hid (HL10.out.keep hy11)
          have HF11 := Lib.hid (HF10.out.keep hy11)
          have HG11 := Lib.hid (HG10.out.keep hy11)
          clear HL10 HF10 HG10 hy11
          go_step
          go_meet
          case rel => exact ⟨pa6, pc6, nb6, B6, hnb6s, hBY, HL11.out, HF11.out, HG11.out⟩
      case rest =>
        obtain ⟨pa6, pc6, nb6, B6, hnb6s, hBB, hL, hF, hG⟩ := hcut
        have HL := Lib.hid hL
        have HF := Lib.hid hF
        have HG := Lib.hid hG
        clear hL hF hG HF5 hB5Y hB5 hB6
        obtain ⟨c0, c1, c2, c3⟩ := AC.arc HL.out.a
        have hg7 := AC.new wc _ rfl (arcCs n parts ad an ac (some ⟨ba, oa, none⟩) pn pc) 75
        have hb7 := (Bl.refl wc).alloc (.cells (arcCs n parts ad an ac (some ⟨ba, oa, none⟩) pn pc).toArray 75)
        unfold arcCs at hg7 hb7
        obtain ⟨d0, d1, d2, d3⟩ := AC.arc hg7
        have c3b := (AC.arc (HL.out.keep hb7).a).2.2.2
        have HB7 := Lib.hid hb7
        have HG7 := Lib.hid hg7
        have hsz7 : (wc.alloc (.cells #[.int .i64 n, .int .i64 parts, .slice ad an ac, .slice (some ⟨ba, oa, none⟩) pn pc] 75)).heap.size = wc.heap.size + 1 := by simp
        clear hb7 hg7
        go_wp2_with (at_builtin; refine wpList_appG rfl _ _ _ rfl el_pair (wc.heap.size + 1) (.slice none 0 0) 0 [] rfl (World.ownsRow_nil _ _ _ _) ?cB _ pn pc _ rfl (HSG3.out _ ((HL.out.keep HB7.out).bl)) ?cM ?cN ?_)
        case cB => rw [hsz7]; exact Nat.le_refl _
        case cM => unfold maxLen; omega
        case cN => omega
        intro v7 X1 ho1 hg1
        have hbX : Bl (wc.alloc (.cells #[.int .i64 n, .int .i64 parts, .slice ad an ac, .slice (some ⟨ba, oa, none⟩) pn pc] 75)) X1 := (Bl.refl _).ownRow (World.ownsRow_nil _ (wc.heap.size + 1) 87 5) (by rw [hsz7]; exact Nat.le_refl _) hg1
        have HBX := Lib.hid (HB7.out.trans hbX)
        have HGX := Lib.hid (HG7.out.keep hbX)
        have etk : ps.take pn = ps := List.take_of_length_le (by rw [hp.out.len]; exact Nat.le_refl _)
        have ho1c : X1.ownsRow (wc.heap.size + 1) 87 5 v7 pn (cellsP ps) := by simpa only [List.drop_zero, etk, Nat.zero_add, List.nil_append] using ho1
        have hrow := rowP_of ho1c h0
        obtain ⟨g8, cap8, cs8, rfl, hBg8, hA8, hl8, hc8⟩ := hrow
        have HA8 := Lib.hid hA8
        have HC8 := Lib.hid hc8
        obtain ⟨d0', d1', d2', d3'⟩ := AC.arc HGX.out
        have f7 := HGX.out.frozen 3
        clear c0 c1 c2 c3 d0 d1 d2 d3 c3b ho1 ho1c etk hg1 hbX hA8 hc8 HB7 HG7
        go_upto_region 11 with fail
        skip
        have HG9 := Lib.hid (HGX.out.setj 3 (.slice (some ⟨g8, 0, none⟩) pn cap8))
        have HA9 := Lib.hid (HA8.out.other (g' := wc.heap.size) (j := 3) (u := .slice (some ⟨g8, 0, none⟩) pn cap8) (by omega))
        have HB9 : Hid (Bl wc (X1.setCell ⟨wc.heap.size, 3, none⟩ (.slice (some ⟨g8, 0, none⟩) pn cap8))) := Lib.hid (HBX.out.setCell (p := ⟨wc.heap.size, 3, none⟩) (Nat.le_refl _) (.slice (some ⟨g8, 0, none⟩) pn cap8))
        clear d0' d1' d2' d3' f7 HGX HA8 HBX
        generalize X1.setCell _ _ = X2 at *
        have hZ8 : wc.heap.size < g8 := by omega
        clear hsz7 hBg8
        generalize hgz : wc.heap.size = g7 at *
        have HGZ := Lib.hid hgz
        clear hgz
        have HG9' : Hid (AC X2 g7 [.int .i64 n, .int .i64 parts, .slice ad an ac, .slice (some ⟨g8, 0, none⟩) pn cap8]) := HG9
        clear HG9
        go_cut [7] (fun t7 Z => t7 = .pointer (some ⟨g7, 0, none⟩) ∧ Bl wc Z ∧ AC Z g7 [.int .i64 n, .int .i64 parts, .slice ad an ac, .slice (some ⟨g8, 0, none⟩) pn cap8] ∧ ∃ cs9, AC Z g8 cs9 ∧ RowC cs9 pn (swapP ps K))
        case first =>
          refine wp_region_panicsT [0, 1, 2, 3, 4, 5, 6, 7, 8, 10, 11, 12] 6 (HasBox g7 [.int .i64 n, .int .i64 parts, .slice ad an ac, .slice (some ⟨g8, 0, none⟩) pn cap8]) HasBox.keep (HG9'.out.keep ((Bl.refl X2).drew)) [] (fun c W' => False) ?hR (by kernel_rfl) rfl (by kernel_rfl) (by kernel_rfl) (by kernel_rfl) ?_
          case hR => intro c tt W' h; exact h.elim
          have HGD := Lib.hid (HG9'.out.keep ((Bl.refl X2).drew))
          have HAD := Lib.hid (HA9.out.keep ((Bl.refl X2).drew))
          have HBD := Lib.hid (HB9.out.drew)
          clear HG9' HA9 HB9
          generalize X2.drew = Z at *
          haveI : Nonempty (ExtC (HasBox g7 [.int .i64 n, .int .i64 parts, .slice ad an ac, .slice (some ⟨g8, 0, none⟩) pn cap8])) := ⟨⟨Z, HGD.out⟩⟩
          have d3 : ∀ q : ExtC (HasBox g7 [.int .i64 n, .int .i64 parts, .slice ad an ac, .slice (some ⟨g8, 0, none⟩) pn cap8]), _ := fun q => (AC.arc q.ok).2.2.2
          repeat (refine wpI_step rfl (fun K hK => ?_); go_simp; first | (refine hK _ ?_; clear hK K) | (apply Exists.intro; refine ⟨fun q => ?_, hK _ ?_⟩; fail; clear hK K))
          refine wpI_nil ?_
          clear d3 this
          have HPK := Lib.hid (fun (W' : World) (h : AC W' g8 cs8) => RowC.pc h HC8.out hKn)
          have HP0 := Lib.hid (fun (W' : World) (h : AC W' g8 cs8) => RowC.pc h HC8.out h0)
          have hrow : ∃ pK p0, nthQ ps K = pK ∧ nthQ ps 0 = p0 ∧ RowC (set5 (set5 cs8 0 pK) (K * 5) p0) pn (swapP ps K) := ⟨_, _, rfl, rfl, rowC_set (rowC_set HC8.out hl8 hp.out.len h0 (nthQ ps K)) (by rw [set5_len]; exact hl8) (by rw [List.length_set]; exact hp.out.len) hKn (nthQ ps 0)⟩
          obtain ⟨pK, p0, hpK, hp0, hrw⟩ := hrow
          have HRW := Lib.hid hrw
          rw [hpK] at HPK
          rw [hp0] at HP0
          rw [Nat.zero_mul] at HP0
          clear hpK hp0 hrw
          obtain ⟨kkey, ⟨kt, kx, km, kz⟩⟩ := pK
          obtain ⟨zkey, ⟨zt, zx, zm, zz⟩⟩ := p0
          refine wpAnyP_all (rs := [9, 13]) (by kernel_rfl) (by decide) ?_
          intro i hi Y1 hy1
          simp only [List.mem_cons, List.not_mem_nil, or_false] at hi
          have HG1 := Lib.hid (HGD.out.keep hy1)
          have HA1 := Lib.hid (HAD.out.keep hy1)
          have HB1 := Lib.hid (HBD.out.trans hy1)
          clear HGD HAD HBD hy1
          rcases hi with rfl | rfl
          · have e0 := (HPK.out Y1 HA1.out).c0
            have e1 := (HPK.out Y1 HA1.out).c1
            have e2 := (HPK.out Y1 HA1.out).c2
            have e3 := (HPK.out Y1 HA1.out).c3
            have e4 := (HPK.out Y1 HA1.out).c4
            dsimp only at e0 e1 e2 e3 e4
            go_simp
            refine ⟨HG1.out, ?_⟩
            clear e0 e1 e2 e3 e4
            refine wpAnyP_one (i := 13) (by kernel_rfl) ?_
            intro Y2 hy
            have HG2 := Lib.hid (HG1.out.keep hy)
            have HA2 := Lib.hid (HA1.out.keep hy)
            have HB2 := Lib.hid (HB1.out.trans hy)
            clear HG1 HA1 HB1 hy
            have e0 := (HP0.out Y2 HA2.out).c0
            have e1 := (HP0.out Y2 HA2.out).c1
            have e2 := (HP0.out Y2 HA2.out).c2
            have e3 := (HP0.out Y2 HA2.out).c3
            have e4 := (HP0.out Y2 HA2.out).c4
            dsimp only at e0 e1 e2 e3 e4
            go_simp
            refine ⟨HG2.out, ?_⟩
            clear e0 e1 e2 e3 e4
            refine wpAnyP_one (i := 14) (by kernel_rfl) ?_
            intro Y3 hy
            have HG3 := Lib.hid (HG2.out.keep hy)
            have HA3 := Lib.hid (HA2.out.keep hy)
            have HB3 := Lib.hid (HB2.out.trans hy)
            clear HG2 HA2 HB2 hy
            go_simp
            refine ⟨HG3.out, ?_⟩
            refine wpAnyP_one (i := 15) (by kernel_rfl) ?_
            intro Y4 hy
            have HG4 := Lib.hid (HG3.out.keep hy)
            have HA4 := Lib.hid (HA3.out.keep hy)
            have HB4 := Lib.hid (HB3.out.trans hy)
            clear HG3 HA3 HB3 hy
            obtain ⟨v0, v1, v2, v3, v4, x0, x1, x2, x3, x4, f0, f1, f2, f3, f4⟩ := HA4.out.fives (o := 0) (by omega)
            simp only [Nat.zero_add] at f1 f2 f3 f4 x1 x2 x3 x4
            go_simp
            have HG5 := Lib.hid (HG4.out.other5 (g' := g8) (by omega) 0 (kkey, (⟨kt, kx, km, kz⟩ : ValL)))
            have HA5 := Lib.hid (HA4.out.five 0 (kkey, (⟨kt, kx, km, kz⟩ : ValL)))
            have HB5 := Lib.hid (HB4.out.store5 (g := g8) (by rw [HGZ.out]; omega) 0 (kkey, (⟨kt, kx, km, kz⟩ : ValL)))
            refine ⟨HG5.out, ?_⟩
            clear f0 f1 f2 f3 f4 x0 x1 x2 x3 x4 HG4 HA4 HB4
            generalize World.setCell _ _ _ = Y5 at *
            refine wpAnyP_one (i := 16) (by kernel_rfl) ?_
            intro Y6 hy
            have HG6 := Lib.hid (HG5.out.keep hy)
            have HA6 := Lib.hid (HA5.out.keep hy)
            have HB6 := Lib.hid (HB5.out.trans hy)
            clear HG5 HA5 HB5 hy
            go_simp
            refine ⟨HG6.out, ?_⟩
            refine wpAnyP_one (i := 17) (by kernel_rfl) ?_
            intro Y7 hy
            have HG7 := Lib.hid (HG6.out.keep hy)
            have HA7 := Lib.hid (HA6.out.keep hy)
            have HB7 := Lib.hid (HB6.out.trans hy)
            clear HG6 HA6 HB6 hy
            obtain ⟨v0, v1, v2, v3, v4, x0, x1, x2, x3, x4, f0, f1, f2, f3, f4⟩ := HA7.out.fives (o := K * 5) (by rw [set5_len]; omega)
            go_simp
            have HG8 := Lib.hid (HG7.out.other5 (g' := g8) (by omega) (K * 5) (zkey, (⟨zt, zx, zm, zz⟩ : ValL)))
            have HA8 := Lib.hid (HA7.out.five (K * 5) (zkey, (⟨zt, zx, zm, zz⟩ : ValL)))
            have HB8 := Lib.hid (HB7.out.store5 (g := g8) (by rw [HGZ.out]; omega) (K * 5) (zkey, (⟨zt, zx, zm, zz⟩ : ValL)))
            refine ⟨HG8.out, ?_⟩
            clear f0 f1 f2 f3 f4 x0 x1 x2 x3 x4 HG7 HA7 HB7
            generalize World.setCell _ _ _ = Y8 at *
            refine wpAnyP_done (by kernel_rfl) ?_
            intro Y9 hy
            have HG9 := Lib.hid (HG8.out.keep hy)
            have HA9 := Lib.hid (HA8.out.keep hy)
            have HB9 := Lib.hid (HB8.out.trans hy)
            clear HG8 HA8 HB8 hy
            go_step
            go_meet
            case rel => exact ⟨rfl, HB9.out, HG9.out, _, HA9.out, HRW.out⟩
          · have e0 := (HP0.out Y1 HA1.out).c0
            have e1 := (HP0.out Y1 HA1.out).c1
            have e2 := (HP0.out Y1 HA1.out).c2
            have e3 := (HP0.out Y1 HA1.out).c3
            have e4 := (HP0.out Y1 HA1.out).c4
            dsimp only at e0 e1 e2 e3 e4
            go_simp
            refine ⟨HG1.out, ?_⟩
            clear e0 e1 e2 e3 e4
            refine wpAnyP_one (i := 9) (by kernel_rfl) ?_
            intro Y2 hy
            have HG2 := Lib.hid (HG1.out.keep hy)
            have HA2 := Lib.hid (HA1.out.keep hy)
            have HB2 := Lib.hid (HB1.out.trans hy)
            clear HG1 HA1 HB1 hy
            have e0 := (HPK.out Y2 HA2.out).c0
            have e1 := (HPK.out Y2 HA2.out).c1
            have e2 := (HPK.out Y2 HA2.out).c2
            have e3 := (HPK.out Y2 HA2.out).c3
            have e4 := (HPK.out Y2 HA2.out).c4
            dsimp only at e0 e1 e2 e3 e4
            go_simp
            refine ⟨HG2.out, ?_⟩
            clear e0 e1 e2 e3 e4
            refine wpAnyP_one (i := 14) (by kernel_rfl) ?_
            intro Y3 hy
            have HG3 := Lib.hid (HG2.out.keep hy)
            have HA3 := Lib.hid (HA2.out.keep hy)
            have HB3 := Lib.hid (HB2.out.trans hy)
            clear HG2 HA2 HB2 hy
            go_simp
            refine ⟨HG3.out, ?_⟩
            refine wpAnyP_one (i := 15) (by kernel_rfl) ?_
            intro Y4 hy
            have HG4 := Lib.hid (HG3.out.keep hy)
            have HA4 := Lib.hid (HA3.out.keep hy)
            have HB4 := Lib.hid (HB3.out.trans hy)
            clear HG3 HA3 HB3 hy
            obtain ⟨v0, v1, v2, v3, v4, x0, x1, x2, x3, x4, f0, f1, f2, f3, f4⟩ := HA4.out.fives (o := 0) (by omega)
            simp only [Nat.zero_add] at f1 f2 f3 f4 x1 x2 x3 x4
            go_simp
            have HG5 := Lib.hid (HG4.out.other5 (g' := g8) (by omega) 0 (kkey, (⟨kt, kx, km, kz⟩ : ValL)))
            have HA5 := Lib.hid (HA4.out.five 0 (kkey, (⟨kt, kx, km, kz⟩ : ValL)))
            have HB5 := Lib.hid (HB4.out.store5 (g := g8) (by rw [HGZ.out]; omega) 0 (kkey, (⟨kt, kx, km, kz⟩ : ValL)))
            refine ⟨HG5.out, ?_⟩
            clear f0 f1 f2 f3 f4 x0 x1 x2 x3 x4 HG4 HA4 HB4
            generalize World.setCell _ _ _ = Y5 at *
            refine wpAnyP_one (i := 16) (by kernel_rfl) ?_
            intro Y6 hy
            have HG6 := Lib.hid (HG5.out.keep hy)
            have HA6 := Lib.hid (HA5.out.keep hy)
            have HB6 := Lib.hid (HB5.out.trans hy)
            clear HG5 HA5 HB5 hy
            go_simp
            refine ⟨HG6.out, ?_⟩
            refine wpAnyP_one (i := 17) (by kernel_rfl) ?_
            intro Y7 hy
            have HG7 := Lib.hid (HG6.out.keep hy)
            have HA7 := Lib.hid (HA6.out.keep hy)
            have HB7 := Lib.hid (HB6.out.trans hy)
            clear HG6 HA6 HB6 hy
            obtain ⟨v0, v1, v2, v3, v4, x0, x1, x2, x3, x4, f0, f1, f2, f3, f4⟩ := HA7.out.fives (o := K * 5) (by rw [set5_len]; omega)
            go_simp
            have HG8 := Lib.hid (HG7.out.other5 (g' := g8) (by omega) (K * 5) (zkey, (⟨zt, zx, zm, zz⟩ : ValL)))
            have HA8 := Lib.hid (HA7.out.five (K * 5) (zkey, (⟨zt, zx, zm, zz⟩ : ValL)))
            have HB8 := Lib.hid (HB7.out.store5 (g := g8) (by rw [HGZ.out]; omega) (K * 5) (zkey, (⟨zt, zx, zm, zz⟩ : ValL)))
            refine ⟨HG8.out, ?_⟩
            clear f0 f1 f2 f3 f4 x0 x1 x2 x3 x4 HG7 HA7 HB7
            generalize World.setCell _ _ _ = Y8 at *
            refine wpAnyP_done (by kernel_rfl) ?_
            intro Y9 hy
            have HG9 := Lib.hid (HG8.out.keep hy)
            have HA9 := Lib.hid (HA8.out.keep hy)
            have HB9 := Lib.hid (HB8.out.trans hy)
            clear HG8 HA8 HB8 hy
            go_step
            go_meet
            case rel => exact ⟨rfl, HB9.out, HG9.out, _, HA9.out, HRW.out⟩
        case rest =>
          obtain ⟨rfl, hB, hG, cs9, hA, hR⟩ := hcut
          have HBE := Lib.hid hB
          have HGE := Lib.hid hG
          have HPS := Lib.hid (PA.row hA (by rw [swap_len]; exact hp.out.len) (by omega) hR)
          clear hB hG hA hR HG9' HA9 HB9
          obtain ⟨c0, c1, c2, c3⟩ := AC.arc (HL.out.keep HBE.out).c
          have hKl : K < ps.length := by rw [hp.out.len]; exact hKn
          have hwr := arcWrite_any ⟨n, parts, xs, twiceP ps K⟩ ad an ac pa6 nb6 pc6 wc (hx.out.keep ((HL.out.keep HBE.out).bl)) (HG.out.1.keep HBE.out) (fun p h => hp.out.ok p (twice_mem hKl h))
          have ew : wrC ⟨n, parts, xs, twiceP ps K⟩ = 1 := by unfold wrC; rw [valid_twice hKl]; rfl
          rw [ew] at hwr
          dsimp only at hwr
          have HWR := Lib.hid hwr
          clear hwr ew
          go_wp2_with fail
          refine HWR.out.mono ?_
          rintro e W3 ⟨rfl, hb3⟩
          have HB3 := Lib.hid (HBE.out.trans hb3)
          have HG3 := Lib.hid (HGE.out.keep hb3)
          have HP3 := Lib.hid (HPS.out.keep hb3)
          clear HBE HGE HPS HWR hb3 c0 c1 c2 c3
          go_wp2_with fail
          refine (alive24_any _).mono ?_
          rintro e W4 ⟨rfl, hb4⟩
          have HB4 := Lib.hid (HB3.out.trans hb4)
          have HG4 := Lib.hid (HG3.out.keep hb4)
          have HP4 := Lib.hid (HP3.out.keep hb4)
          clear HB3 HG3 HP3 hb4
          obtain ⟨c0, c1, c2, c3⟩ := AC.arc (HL.out.keep HB4.out).b
          go_wp2_with fail
          refine (arcValid_hid n parts ad an ac xs pa5 nb5 pc5 (outP ps K) _ (hx.out.keep ((HL.out.keep HB4.out).bl)) (HF.out.1.keep HB4.out) true (Lib.hid (valid_out HV.out hKl)) (Lib.hid (fun p h => hp.out.ok p (out_mem h)))).mono ?_
          rintro e W5 ⟨rfl, hb5⟩
          have HB5 := Lib.hid (HB4.out.trans hb5)
          have HG5 := Lib.hid (HG4.out.keep hb5)
          have HP5 := Lib.hid (HP4.out.keep hb5)
          clear HB4 HG4 HP4 hb5 c0 c1 c2 c3
          obtain ⟨c0, c1, c2, c3⟩ := AC.arc (HL.out.keep HB5.out).c
          go_wp2_with fail
          refine (arcValid_hid n parts ad an ac xs pa6 nb6 pc6 (twiceP ps K) _ (hx.out.keep ((HL.out.keep HB5.out).bl)) (HG.out.1.keep HB5.out) false (Lib.hid (valid_twice hKl)) (Lib.hid (fun p h => hp.out.ok p (twice_mem hKl h)))).mono ?_
          rintro e W6 ⟨rfl, hb6⟩
          have HB6 := Lib.hid (HB5.out.trans hb6)
          have HG6 := Lib.hid (HG5.out.keep hb6)
          have HP6 := Lib.hid (HP5.out.keep hb6)
          clear HB5 HG5 HP5 hb6 c0 c1 c2 c3
          obtain ⟨c0, c1, c2, c3⟩ := AC.arc HG6.out
          have hvk : ∃ vk, ((K : Int) == 0) = vk ∧ validArc ⟨n, parts, xs, swapP ps K⟩ = vk := ⟨_, rfl, by rw [valid_swap HV.out hKl, Bool.eq_iff_iff, decide_eq_true_iff, beq_iff_eq]; omega⟩
          obtain ⟨vk, qk, hvs⟩ := hvk
          go_wp2_with fail
          refine (arcValid_hid n parts ad an ac xs (some ⟨g8, 0, none⟩) pn cap8 (swapP ps K) _ (hx.out.keep ((HL.out.keep HB6.out).bl)) HP6.out vk (Lib.hid hvs) (Lib.hid (fun p h => hp.out.ok p (swap_mem hKl h)))).mono ?_
          rintro e W7 ⟨rfl, hb7⟩
          have HBL := Lib.hid (HL.out.keep (HB6.out.trans hb7)).bl
          go_wp2_with fail
          go_ret
          exact ⟨rfl, HBL.out⟩

section
open Go.ChangeShapes Go.WideShapes Go.ChangeAt Go.RowKit Go.Deep
variable {H : Type} {enc : TypeId × Value → H}
set_option maxRecDepth 100000 in
theorem open_arc2 {W : World} {base : Nat} {v : Value} {d : DataW H} {p : List MemPlace} (hval : Value.okWide Try.prog W .any base 75 v) (h : DataW.Trod enc Try.prog W 0 (fun _ => true) true 75 v d p)
    (hw : Wt 75 d) : ∃ (a : ArcL) (ad : Option Addr) (an ac : Nat) (pd : Option Addr) (pn pc : Nat), v = arcV a.n a.parts ad an ac pd pn pc ∧ IA W ad an a.at_ ∧ (PW W pd pn a.pairs ∧ pn ≤ pc) ∧ (-9223372036854775808 ≤ a.n ∧ a.n ≤ 9223372036854775807) := by
  obtain ⟨a, ad, an, ac, pd, pn, pc, rfl, hI, hP, b0⟩ := open_arc hval h hw
  refine ⟨a, ad, an, ac, pd, pn, pc, rfl, hI, ⟨hP, ?_⟩, b0⟩
  obtain ⟨hl, hf⟩ := rd_struct Try.underlying75 (rd_of_trod h) hw
  obtain ⟨y3, r3, w3⟩ := hf 3 ⟨_, 73, 3, _, _, _, _⟩ rfl
  simp only [arcV, Value.cells, cells_pairs, List.drop_zero, List.drop_succ_cons, List.take_succ_cons, List.take_zero] at r3
  obtain ⟨fuel, qs, hr⟩ := r3
  rcases open_slice Try.underlying73 hr with ⟨hcs, _⟩ | ⟨a', len, cap, m, q, D, Pl, hcs, _, hl, _⟩
  · have e : [Value.slice pd pn pc] = [.slice none 0 0] := hcs
    simp only [List.cons.injEq, Value.slice.injEq, and_true] at e
    omega
  · have e : [Value.slice pd pn pc] = [.slice (some a') len cap] := hcs
    simp only [List.cons.injEq, Value.slice.injEq, and_true] at e
    omega
end
theorem archiveLess_walk (a : ArcL) (ad : Option Addr) (an ac : Nat) (pd : Option Addr) (pn pc : Nat) (kk : Int) (w : World) (hx : IA w ad an a.at_) (hp : PW w pd pn a.pairs ∧ pn ≤ pc) (_ : -9223372036854775808 ≤ kk ∧ kk ≤ 9223372036854775807) :
    Calls Try.prog 10 #[arcV a.n a.parts ad an ac pd pn pc, .int .i64 kk] w fun e w' => e = .returned (.bool true) ∧ Bl w w' :=
  archiveLess_hid a.n a.parts ad an ac a.at_ pd pn pc a.pairs kk w (Lib.hid hx) (Lib.hid hp.1) hp.2
end Go.Proofs.Ytechiehbigmjbaa
