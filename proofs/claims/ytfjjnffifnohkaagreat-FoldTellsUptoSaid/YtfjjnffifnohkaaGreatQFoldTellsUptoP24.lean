import Derived.Test.YtfjjnffifnohkaaGreatQFoldTellsUptoP19
import Derived.Test.YtfjjnffifnohkaaGreatQFoldTellsUptoP23
import Derived.Test.YtfjjnffifnohkaaGreatQFoldTellsUptoP18
import Derived.Deep.Onto
import Derived.Test.YtfjjnffifnohkaaGreatQFoldTellsUptoP11
import Derived.Test.YtfjjnffifnohkaaGreatQFoldTellsUptoP1
import Derived.Test.YtfjjnffifnohkaaGreatQFoldTellsUptoP15
import Derived.Deep.QuietTactic
import Derived.BigQuiet

/- fold.copied. By an AI agent. -/
section
set_option linter.unusedVariables false
set_option linter.unusedSimpArgs false
namespace Go.Proofs.YtfjjnffifnohkaaGreat
open Go.RowKit

theorem Fr.setj (w : World) (g j : Nat) (u : Value) : Fr (fun b => b = g) w (w.setCell ⟨g, j, none⟩ u) := ⟨rfl, rfl, rfl, by simp, fun k hk hne => Below.heap_setCell _ _ _ _ (fun e => hne (by rw [e]))⟩
theorem Fr.st8 (w : World) (g o : Nat) (v : VC) : Fr (fun b => b = g) w (st8 w g o v) :=
  (((((((Fr.setj _ _ _ _).trans (Fr.setj _ _ _ _)).trans (Fr.setj _ _ _ _)).trans (Fr.setj _ _ _ _)).trans (Fr.setj _ _ _ _)).trans (Fr.setj _ _ _ _)).trans (Fr.setj _ _ _ _)).trans (Fr.setj _ _ _ _)
theorem Bl.st8 {w W : World} (h : Bl w W) {g : Nat} (hg : w.heap.size ≤ g) (o : Nat) (v : VC) : Bl w (st8 W g o v) :=
  Below.setCell (p := ⟨g, o + 7, none⟩) (Below.setCell (p := ⟨g, o + 6, none⟩) (Below.setCell (p := ⟨g, o + 5, none⟩) (Below.setCell (p := ⟨g, o + 4, none⟩) (Below.setCell (p := ⟨g, o + 3, none⟩) (Below.setCell (p := ⟨g, o + 2, none⟩) (Below.setCell (p := ⟨g, o + 1, none⟩) (Below.setCell (p := ⟨g, o, none⟩) h hg _) hg _) hg _) hg _) hg _) hg _) hg _) hg _
theorem copied_results {tmps : Array Value} {W : World} {g0 : Nat} {v : VC} (h0 : tmps.getD 2 undef = .pointer (some ⟨g0, 0, none⟩)) (c0 : AC W g0 v.cs) :
    (results Tryz.f20 tmps).run Tryz.prog W = .ok (.agg #[.string v.key, .slice v.ad v.n v.ca, .int .i64 v.origin, .int .i64 v.tx, .int .i64 v.act.k, .float .f64 v.act.x, .int .i64 v.act.n, .string v.act.s]) W := by
  rw [Array.getD_eq_getD_getElem?] at h0
  obtain ⟨k0, k1, k2, k3, k4, k5, k6, k7⟩ := AC.ver (key := v.key) (a := v.ad) (n := v.n) (ca := v.ca) (o := v.origin) (t := v.tx) (k := v.act.k) (x := v.act.x) (m := v.act.n) (s := v.act.s) c0
  simp [results, Tryz.results20, go_sem, h0, k0, k1, k2, k3, k4, k5, k6, k7]
theorem AC.otherj {w : World} {g g' : Nat} {cs : List Value} (h : AC w g cs) (hn : g ≠ g') (j : Nat) (v : Value) : AC (w.setCell ⟨g', j, none⟩ v) g cs := by
  obtain ⟨t, h⟩ := h
  exact ⟨t, by rw [Below.heap_setCell _ _ _ _ (by exact hn)]; exact h⟩
set_option maxHeartbeats 1600000 in
set_option maxRecDepth 100000 in
theorem copied_any (v : VC) (w : World) (hx : IA w v.ad v.n v.at_) :
    Calls Tryz.prog 20 #[.agg #[.string v.key, .slice v.ad v.n v.ca, .int .i64 v.origin, .int .i64 v.tx, .int .i64 v.act.k, .float .f64 v.act.x, .int .i64 v.act.n, .string v.act.s]] w fun e w' =>
      ∃ a n ca, e = .returned (.agg #[.string v.key, .slice a n ca, .int .i64 v.origin, .int .i64 v.tx, .int .i64 v.act.k, .float .f64 v.act.x, .int .i64 v.act.n, .string v.act.s]) ∧ FI w.heap.size w' (.slice a n ca) v.at_ ∧ Bl w w' := by
  have hsf := store_fl
  have G := (AC.new w w.heap.size rfl v.cs 59).keep ((Bl.refl _).alloc (.cells #[.string ⟨#[]⟩, .slice none 0 0, .int .i64 0, .int .i64 0, .int .i64 0, .float .f64 0, .int .i64 0, .string ⟨#[]⟩] 59))
  have G2 := AC.new (w.alloc (.cells v.cs.toArray 59)) (w.heap.size + 1) (by simp) [.string ⟨#[]⟩, .slice none 0 0, .int .i64 0, .int .i64 0, .int .i64 0, .float .f64 0, .int .i64 0, .string ⟨#[]⟩] 59
  have hb := ((Bl.refl w).alloc (.cells v.cs.toArray 59)).alloc (.cells #[.string ⟨#[]⟩, .slice none 0 0, .int .i64 0, .int .i64 0, .int .i64 0, .float .f64 0, .int .i64 0, .string ⟨#[]⟩] 59)
  have hsz : w.heap.size + 2 ≤ ((w.alloc (.cells v.cs.toArray 59)).alloc (.cells #[.string ⟨#[]⟩, .slice none 0 0, .int .i64 0, .int .i64 0, .int .i64 0, .float .f64 0, .int .i64 0, .string ⟨#[]⟩] 59)).heap.size := by simp
  unfold VC.cs verC at *
  have c1 := G.cell 1 _ rfl
  have HG := Lib.hid G
  have HG2 := Lib.hid G2
  have HB := Lib.hid hb
  have HX := Lib.hid (hx.keep hb)
  have HSZ := Lib.hid hsz
  clear G G2 hb hx hsz
  go_enter Tryz.func20, Tryz.ntmps20
  go_wp2_with fail
  generalize (w.alloc _).alloc _ = W at *
  refine (vclone_any v.ad v.n v.ca v.at_ _ HX.out).mono ?_
  rintro e w1 ⟨v1, rfl, hf, hb1⟩
  obtain ⟨a1, n1, k1, rfl, -⟩ := hf.si
  have HF := Lib.hid hf
  have G1 := HG.out.keep hb1
  have fr1 := G1.frozen
  have d1 := G1.cell 1 _ rfl
  have E := AC.putj G1 1 (.slice a1 n1 k1)
  have E2 := (HG2.out.keep hb1).otherj (g' := w.heap.size) (by omega) 1 (.slice a1 n1 k1)
  obtain ⟨e0, e1, e2, e3, e4, e5, e6, e7⟩ := AC.ver (key := v.key) (a := a1) (n := n1) (ca := k1) (o := v.origin) (t := v.tx) (k := v.act.k) (x := v.act.x) (m := v.act.n) (s := v.act.s) E
  obtain ⟨h0, h1, h2, h3, h4, h5, h6, h7⟩ := AC.ver (key := ⟨#[]⟩) (a := none) (n := 0) (ca := 0) (o := 0) (t := 0) (k := 0) (x := 0) (m := 0) (s := ⟨#[]⟩) E2
  have fr2 := E2.frozen
  have HE2 := Lib.hid E2
  have HBB := Lib.hid (HB.out.trans hb1)
  clear E E2 G1 hf hb1 c1
  go_wp2_with fail
  obtain ⟨u, hu⟩ : ∃ u : VC, u = ⟨v.key, a1, n1, k1, v.at_, v.origin, v.tx, v.act⟩ := ⟨_, rfl⟩
  have R1 : AC (st8 (w1.setCell ⟨w.heap.size, 1, none⟩ (.slice a1 n1 k1)) (w.heap.size + 1) 0 u) (w.heap.size + 1) u.cs := HE2.out.st8 0 u
  have R2 : FI w.heap.size (st8 (w1.setCell ⟨w.heap.size, 1, none⟩ (.slice a1 n1 k1)) (w.heap.size + 1) 0 u) (.slice a1 n1 k1) v.at_ := by
    have hlo := HSZ.out
    have HF2 := FI.fr (S := fun b => b = w.heap.size) HF.out (Fr.setj w1 w.heap.size 1 (.slice a1 n1 k1)) (fun b e q => by have := (World.ownsRow.lt HF.out.own b e).1; omega)
    have HF3 := FI.fr (S := fun b => b = w.heap.size + 1) HF2 (Fr.st8 _ (w.heap.size + 1) 0 u) (fun b e q => by have := (World.ownsRow.lt HF.out.own b e).1; omega)
    exact ⟨World.ownsRow.mono HF3.own (by omega), HF3.cap, HF3.wf⟩
  have R3 : Bl w (st8 (w1.setCell ⟨w.heap.size, 1, none⟩ (.slice a1 n1 k1)) (w.heap.size + 1) 0 u) := Bl.st8 (HBB.out.setCell (p := ⟨w.heap.size, 1, none⟩) (Nat.le_refl _) _) (Nat.le_succ _) 0 u
  subst hu
  exact bodyPost_ret (copied_results rfl R1) rfl ⟨a1, n1, k1, rfl, R2, R3⟩
end Go.Proofs.YtfjjnffifnohkaaGreat
end

/- fold.Order: versions copied, sorted, and those of one stamp dropped. By an AI agent. -/
section
set_option linter.unusedVariables false
set_option linter.unusedSimpArgs false
namespace Go.Proofs.YtfjjnffifnohkaaGreat
open Go.RowKit

theorem FI.ints {B : Nat} {w : World} {v : Value} {xs : List Int} (f : FI B w v xs) {b : Nat} (e : v.ownBlock = some b) : ∃ cur, w.heap[b]? = some (.cells cur 3 (0, 0)) := by
  have ho := f.own
  unfold OI at ho
  obtain ⟨h1, ⟨rfl, _⟩ | ⟨g, cap, cur, rfl, hB, hg, r⟩⟩ := ho
  · cases e
  · obtain rfl : g = b := by simpa [Value.ownBlock] using e
    exact ⟨_, hg⟩
theorem OVS.typ {B n : Nat} {w : World} {v : Value} {cs : List Value} (h : OVS B w v n cs) {b : Nat} (e : v.ownBlock = some b) : ∃ cur, w.heap[b]? = some (.cells cur 59 (0, 0)) := by
  obtain ⟨h1, ⟨rfl, _⟩ | ⟨g, cap, cur, rfl, hB, hg, r⟩⟩ := h
  · cases e
  · obtain rfl : g = b := by simpa [Value.ownBlock] using e
    exact ⟨_, hg⟩
theorem apart_typ {B B' n : Nat} {w : World} {v u : Value} {cs : List Value} {xs : List Int} (h : OVS B w v n cs) (f : FI B' w u xs) {b : Nat} (e : v.ownBlock = some b) (q : u.ownBlock = some b) : False := by
  obtain ⟨c1, h1⟩ := h.typ e
  obtain ⟨c2, h2⟩ := f.ints q
  rw [h1] at h2
  simp only [Option.some.injEq, Obj.cells.injEq] at h2
  exact absurd h2.2.1 (by decide)
/-- the lists of two versions lie apart -/
def APv (x y : VC) : Prop := ∀ b, (Value.slice x.ad x.n x.ca).ownBlock = some b → (Value.slice y.ad y.n y.ca).ownBlock ≠ some b
theorem APv.symm {x y : VC} (h : APv x y) : APv y x := fun b e q => h b q e
/-- the row that is being built -/
structure BV (w W : World) (v : Value) (xs : List VC) : Prop where
  bl : Bl w W
  own : OVS w.heap.size W v xs.length (flat xs)
  els : ∀ x ∈ xs, FI w.heap.size W (.slice x.ad x.n x.ca) x.at_ ∧ x.act.Ok
  ap : xs.Pairwise APv
theorem BV.nil {w W : World} (h : Bl w W) : BV w W (.slice none 0 0) [] := ⟨h, World.ownsRow_nil _ _ _ _, fun x hx => (by cases hx), List.Pairwise.nil⟩
theorem BV.keep {w W W' : World} {v : Value} {xs : List VC} (h : BV w W v xs) (hb : Bl W W') : BV w W' v xs := ⟨h.bl.trans hb, h.own.keep hb, fun x hx => ⟨(h.els x hx).1.keep hb, (h.els x hx).2⟩, h.ap⟩
theorem BV.push {w W0 W W' : World} {v v' : Value} {xs : List VC} {y : VC} {o : Obj} (h0 : BV w W0 v xs) (h : BV w W v xs) (hf : FI W0.heap.size W (.slice y.ad y.n y.ca) y.at_) (hok : y.act.Ok) (ho : OVS w.heap.size W' v' (xs.length + 1) (flat xs ++ y.cs)) (hg : (W.alloc o).grownBy W' v.ownBlock) : BV w W' v' (xs ++ [y]) := by
  have b0 : Bl W (W.alloc o) := (Bl.refl W).alloc o
  have o0 : OVS w.heap.size (W.alloc o) v xs.length (flat xs) := h.own.keep b0
  have fr : Fr (fun b => v.ownBlock = some b) (W.alloc o) W' := (Fr.refl _ _).grown hg (fun i e => e)
  have mv : ∀ {B : Nat} {u : Value} {ys : List Int}, FI B W u ys → FI B W' u ys := fun {B u ys} f => FI.fr (f.keep b0) fr (fun b q e => apart_typ o0 (f.keep b0) e q)
  refine ⟨Bl.grownRow (h.bl.alloc o) o0 (Nat.le_refl _) hg, ?_, fun x hx => ?_, ?_⟩
  · rw [List.length_append, flat_append]
    have : flat [y] = y.cs := by rw [flat_cons]; exact List.append_nil _
    rw [this]
    exact ho
  · rcases List.mem_append.1 hx with q | q
    · exact ⟨mv (h.els x q).1, (h.els x q).2⟩
    · rw [List.mem_singleton] at q
      subst q
      have f2 := mv hf
      exact ⟨⟨World.ownsRow.mono f2.own h0.bl.size, f2.cap, f2.wf⟩, hok⟩
  · rw [List.pairwise_append]
    refine ⟨h.ap, List.pairwise_singleton _ _, fun x hx z hz => ?_⟩
    rw [List.mem_singleton] at hz
    subst hz
    intro b e1 e2
    have l1 := (World.ownsRow.lt (show W0.ownsRow _ _ _ _ _ _ from (h0.els x hx).1.own) b e1).2
    have l2 := (World.ownsRow.lt (show W.ownsRow _ _ _ _ _ _ from hf.own) b e2).1
    omega
theorem FI.mono0 {B B' : Nat} {w : World} {v : Value} {xs : List Int} (h : FI B w v xs) (hB : B' ≤ B) : FI B' w v xs := ⟨World.ownsRow.mono h.own hB, h.cap, h.wf⟩
theorem FI.iaE {B : Nat} {w : World} {a : Option Addr} {n c : Nat} {xs : List Int} (h : FI B w (.slice a n c) xs) : IA w a n xs := by
  obtain ⟨a', n', c', e, hI⟩ := h.si
  simp only [Value.slice.injEq] at e
  obtain ⟨rfl, rfl, rfl⟩ := e
  exact hI
/-- versions with lists of their own -/
structure OVX (B : Nat) (W : World) (a : Option Addr) (n c : Nat) (xs : List VC) : Prop where
  row : W.ownsRow B 59 8 (.slice a n c) n (flat xs)
  len : xs.length = n
  vec : ∀ x ∈ xs, FI B W (.slice x.ad x.n x.ca) x.at_
  ap : xs.Pairwise APv
  ok : ∀ x ∈ xs, x.act.Ok
theorem OVX.nil (B : Nat) (W : World) : OVX B W none 0 0 [] := ⟨World.ownsRow_nil _ _ _ _, rfl, fun x hx => (by cases hx), List.Pairwise.nil, fun x hx => (by cases hx)⟩
theorem OVX.keep {B : Nat} {W W' : World} {a : Option Addr} {n c : Nat} {xs : List VC} (h : OVX B W a n c xs) (k : Bl W W') : OVX B W' a n c xs := ⟨ownsRow_bl h.row k, h.len, fun x hx => (h.vec x hx).keep k, h.ap, h.ok⟩
theorem OVX.wider {B B' : Nat} {W : World} {a : Option Addr} {n c : Nat} {xs : List VC} (h : OVX B W a n c xs) (k : B' ≤ B) : OVX B' W a n c xs := ⟨World.ownsRow.mono h.row k, h.len, fun x hx => (h.vec x hx).mono0 k, h.ap, h.ok⟩
theorem OVX.cells {B : Nat} {W : World} {a : Option Addr} {n c : Nat} {xs : List VC} (h : OVX B W a n c xs) {j : Nat} (hj : j < n) : ∃ g, a = some ⟨g, 0, none⟩ ∧ ∀ j, j < n → ∀ r u, r < 8 → (el xs j).cs[r]? = some u → W.cell? ⟨g, 0 + j * 8 + r, none⟩ = some u := by
  obtain ⟨g, ca, e, _, _, hc⟩ := OVS.cells h.row (show 0 < n by omega)
  simp only [Value.slice.injEq] at e
  obtain ⟨rfl, -, -⟩ := e
  refine ⟨g, rfl, fun j hj r u hr hu => ?_⟩
  rw [Nat.zero_add]
  exact hc _ u (by rw [flat_get xs j r (by rw [h.len]; exact hj) hr]; exact hu)
theorem OVX.va {B : Nat} {W : World} {a : Option Addr} {n c : Nat} {xs : List VC} (h : OVX B W a n c xs) (hn : n ≤ 140737488351232) : VA W a n (xs.map VC.ver) := by
  refine ⟨by rw [List.length_map]; exact h.len, hn, fun j0 hj0 => ?_⟩
  obtain ⟨g, rfl, hc⟩ := h.cells hj0
  refine ⟨g, 0, rfl, fun j hj => ?_⟩
  have hjl : j < xs.length := by rw [h.len]; exact hj
  have e : nthR (xs.map VC.ver) j = (el xs j).ver := by
    rw [nthR_eq (by rw [List.length_map]; exact hjl), List.getElem_map, el_eq hjl]
  have k := hc j hj
  rw [e]
  exact ⟨k 0 _ (by decide) rfl, ⟨_, _, _, k 1 _ (by decide) rfl, (h.vec _ (el_mem hjl)).iaE⟩, k 2 _ (by decide) rfl, k 3 _ (by decide) rfl, k 4 _ (by decide) rfl, k 5 _ (by decide) rfl, k 6 _ (by decide) rfl, k 7 _ (by decide) rfl, h.ok _ (el_mem hjl)⟩
/-- the row is there to be sorted -/
theorem BV.rw {w W : World} {v : Value} {xs : List VC} (h : BV w W v xs) : (v = .slice none 0 0 ∧ xs = []) ∨ ∃ g ca cur, v = .slice (some ⟨g, 0, none⟩) xs.length ca ∧ xs.length ≤ ca ∧ RW W W g xs ∧ w.heap.size ≤ g ∧ W.heap[g]? = some (.cells cur 59 (0, 0)) ∧ ca ≤ maxLen ∧ cur.size = ca * 8 := by
  have ho := h.own
  obtain ⟨h1, ⟨hv, h2⟩ | ⟨g, cap, cur, rfl, hB, hg, hc, hm, hs, ht⟩⟩ := h.own
  · exact .inl ⟨hv, List.eq_nil_of_length_eq_zero h2⟩
  · refine .inr ⟨g, cap, cur, rfl, hc, ⟨FrG.refl _ _, ⟨cur.toList.drop (xs.length * 8), ⟨59, ?_⟩⟩, fun x hx => ?_⟩, hB, hg, hm, hs⟩
    · rw [hg, ← ht, List.take_append_drop]
    · obtain ⟨f, k⟩ := h.els x hx
      exact ⟨f.iaE, k, .inr fun b off e q => apart_typ ho f (b := g) rfl (by rw [e, q]; rfl)⟩
/-- a row whose elements are some of those that it had: its elements' lists are where they were -/
theorem RW.ovx {w W W' : World} {v : Value} {g ca m : Nat} {xs ys rest : List VC} {cur : Array Value} (h : BV w W v xs) (hv : v = .slice (some ⟨g, 0, none⟩) xs.length ca) (hr : RW W W' g (ys ++ rest)) (hg : w.heap.size ≤ g) (hc : W.heap[g]? = some (.cells cur 59 (0, 0))) (hm : ca ≤ maxLen) (hs : cur.size = ca * 8)
    (hl : ys.length = m) (hmc : m ≤ ca) (hp : ∃ zs, zs.Perm xs ∧ ys.Sublist zs) : OVX w.heap.size W' (some ⟨g, 0, none⟩) m ca ys := by
  obtain ⟨zs, hp1, hp2⟩ := hp
  have hmem : ∀ y ∈ ys, y ∈ xs := fun y hy => hp1.mem_iff.1 (hp2.subset hy)
  obtain ⟨cur', h1, h2⟩ := hr.bl.shp cur _ hc
  obtain ⟨sp, t, h3⟩ := hr.row
  rw [h1] at h3
  simp only [Option.some.injEq, Obj.cells.injEq] at h3
  have e1 : cur'.toList = flat (ys ++ rest) ++ sp := by rw [h3.1]
  have hfl : (flat ys).length = m * 8 := by rw [flat_len, hl]
  refine ⟨⟨hfl, .inr ⟨g, ca, cur', rfl, hg, h1, hmc, hm, by rw [h2, hs], ?_⟩⟩, hl, fun y hy => ?_, ?_, fun y hy => (h.els y (hmem y hy)).2⟩
  · rw [e1, flat_append, List.append_assoc, List.take_left' hfl]
  · have f := (h.els y (hmem y hy)).1
    exact FI.fr f hr.bl.fr (fun b e q => by
      have q' : b = g := q
      subst q'
      exact apart_typ h.own f (b := b) (by rw [hv]; rfl) e)
  · exact (hp1.symm.pairwise h.ap (fun q => q.symm)).sublist hp2
theorem mrg_map : ∀ (A B : List VC), (mrg leC A B).map VC.ver = mrg leV (A.map VC.ver) (B.map VC.ver)
  | [], B => by rw [mrg_nil, List.map_nil, mrg_nil]
  | a :: A, [] => by rw [mrg_right, List.map_nil, mrg_right]
  | a :: A, b :: B => by
    rw [List.map_cons, List.map_cons]
    unfold mrg
    rw [List.merge, List.merge]
    by_cases h : leC a b = true
    · have h' : leV a.ver b.ver = true := h
      rw [if_pos h, if_pos h', List.map_cons]
      have := mrg_map A (b :: B)
      rw [List.map_cons] at this
      unfold mrg at this
      rw [this]
    · have h' : ¬ leV a.ver b.ver = true := h
      rw [if_neg h, if_neg h', List.map_cons]
      have := mrg_map (a :: A) B
      rw [List.map_cons] at this
      unfold mrg at this
      rw [this]
theorem srt_map : ∀ (A : List VC), (srt leC A).map VC.ver = srt leV (A.map VC.ver)
  | [] => rfl
  | a :: A => by rw [srt_cons, mrg_map, srt_map A]; rfl
theorem cptGo_map : ∀ (A : List VC) (p : VC), (cptGo eqC p A).map VC.ver = cptGo eqV p.ver (A.map VC.ver)
  | [], p => rfl
  | a :: A, p => by
    rw [List.map_cons]
    unfold cptGo
    by_cases h : eqC a p = true
    · have h' : eqV a.ver p.ver = true := h
      rw [if_pos h, if_pos h', cptGo_map A a]
    · have h' : ¬ eqV a.ver p.ver = true := h
      rw [if_neg h, if_neg h', List.map_cons, cptGo_map A a]
theorem cpt_map (A : List VC) : (cpt eqC A).map VC.ver = cpt eqV (A.map VC.ver) := by
  cases A with
  | nil => rfl
  | cons a A => exact congrArg (a.ver :: ·) (cptGo_map A a)
theorem order_map (A : List VC) : (cpt eqC (srt leC A)).map VC.ver = orderOf (A.map VC.ver) := by rw [cpt_map, srt_map]; rfl
theorem RW.va {w W : World} {g : Nat} {xs ys : List VC} (h : RW w W g (xs ++ ys)) {n : Nat} (hn : xs.length = n) (hc : n ≤ 140737488351232) : VA W (some ⟨g, 0, none⟩) n (xs.map VC.ver) := by
  refine ⟨by rw [List.length_map]; exact hn, hc, fun j _ => ⟨g, 0, rfl, fun j hj => ?_⟩⟩
  have hjl : j < (xs ++ ys).length := by rw [List.length_append]; omega
  obtain ⟨c0, c1, c2, c3, c4, c5, c6, c7⟩ := h.cells hjl
  have hv := h.at_ hjl
  have e : nthR (xs.map VC.ver) j = (el (xs ++ ys) j).ver := by
    rw [nthR_eq (by rw [List.length_map]; omega), List.getElem_map, el_left _ (by omega), el_eq (by omega)]
  rw [e, Nat.zero_add]
  exact ⟨c0, ⟨_, _, _, c1, hv.ia⟩, c2, c3, c4, c5, c6, c7, hv.ok⟩
set_option maxHeartbeats 1600000 in
set_option maxRecDepth 100000 in
theorem sortS_any (w W : World) (g n ca : Nat) (X : List VC) (hX : X.length = n) (hn1 : n ≤ 100000) (hr : RW w W g X) :
    Calls Tryz.prog 21 #[.slice (some ⟨g, 0, none⟩) n ca, .func (.func 22) #[] #[]] W fun e W' => e = .returned (.tuple #[]) ∧ RW w W' g (srt leC X) := by
  go_enter Tryz.func21, Tryz.ntmps21
  go_wp2_with fail
  refine (stable_any w _ g n ca X hX hn1 (hr.keep (Bl.refl _))).mono ?_
  rintro e W2 ⟨rfl, h⟩
  go_wp2_with fail
  go_end0
  exact ⟨rfl, h⟩
end Go.Proofs.YtfjjnffifnohkaaGreat
end

/- fold.Order: its walk. By an AI agent. -/
section
set_option linter.unusedVariables false
set_option linter.unusedSimpArgs false
namespace Go.Proofs.YtfjjnffifnohkaaGreat
open Go.RowKit

theorem isort_nil (w : World) (f : Value) :
    Calls Tryz.prog 170 #[.slice none 0 0, .int .i64 0, .int .i64 0, f] w fun e W' => e = .returned (.tuple #[]) ∧ Bl w W' := by
  go_enter Tryz.func170, Tryz.ntmps170
  go_wp2_with fail
  go_loopw [8] (fun iv wr => iv = .int .i64 1 ∧ Bl w wr) (fun iv _ => 0)
  case atStart => exact ⟨rfl, Bl.refl _⟩
  case round =>
    obtain ⟨rfl, hb⟩ := hrel
    go_wp2_with fail
    go_end0
    exact ⟨rfl, hb⟩
theorem stable_nil (w : World) (f : Value) :
    Calls Tryz.prog 114 #[.slice none 0 0, .int .i64 0, f] w fun e W' => e = .returned (.tuple #[]) ∧ Bl w W' := by
  go_enter Tryz.func114, Tryz.ntmps114
  go_wp2_with fail
  go_loopw [7, 8] (fun av bv wr => av = .int .i64 0 ∧ bv = .int .i64 20 ∧ Bl w wr) (fun _ _ _ => 0)
  case atStart => exact ⟨rfl, rfl, Bl.refl _⟩
  case round =>
    obtain ⟨rfl, rfl, hb⟩ := hrel
    go_wp2_with fail
    refine (isort_nil _ f).mono ?_
    rintro e w1 ⟨rfl, hb1⟩
    have HB := Lib.hid (hb.trans hb1)
    clear hb hb1
    go_wp2_with fail
    go_loopw [6] (fun av wr => av = .int .i64 20 ∧ Bl w wr) (fun _ _ => 0)
    case atStart => exact ⟨rfl, HB.out⟩
    case round =>
      clear HB
      obtain ⟨rfl, hb⟩ := hrel
      go_wp2_with fail
      go_end0
      exact ⟨rfl, hb⟩
theorem sortS_nil (w : World) (f : Value) :
    Calls Tryz.prog 21 #[.slice none 0 0, f] w fun e W' => e = .returned (.tuple #[]) ∧ Bl w W' := by
  go_enter Tryz.func21, Tryz.ntmps21
  go_wp2_with fail
  refine (stable_nil w f).mono ?_
  rintro e W2 ⟨rfl, h⟩
  go_wp2_with fail
  go_end0
  exact ⟨rfl, h⟩
theorem compact_nil (w : World) (f : Value) :
    Calls Tryz.prog 23 #[.slice none 0 0, f] w fun e W' => e = .returned (.slice none 0 0) ∧ Bl w W' := by
  go_enter Tryz.func23, Tryz.ntmps23
  go_wp2_with fail
  go_ret
  exact ⟨rfl, Bl.refl _⟩
set_option maxHeartbeats 3200000 in
set_option maxRecDepth 100000 in
theorem fOrderO_any (a : Option Addr) (n ca : Nat) (vs : List VerL) (w : World) (hv : VA w a n vs) (hn1 : n ≤ 1000) :
    Calls Tryz.prog 8 #[.slice a n ca] w fun e w' => ∃ a' m ca', e = .returned (.slice a' m ca') ∧ ∃ zs, OVX w.heap.size w' a' m ca' zs ∧ zs.map VC.ver = orderOf vs ∧ m ≤ n ∧ Bl w w' := by
  have hsf := store_fl
  have HL := Lib.hid hv.len
  go_enter Tryz.func8, Tryz.ntmps8
  go_wp2_with fail
  go_loopw [3, 8] (fun ov iv wr => ∃ (k : Nat) (xs : List VC), k ≤ n ∧ xs.map VC.ver = vs.take k ∧ BV w wr ov xs ∧ iv = .int .i64 (k : Int)) (fun _ iv _ => n - (intOf iv).toNat)
  case atStart => exact ⟨0, [], Nat.zero_le _, by rw [List.take_zero]; rfl, BV.nil (Bl.refl _), by go_num⟩
  case round =>
    obtain ⟨k, xs, hk, hm, hbv, rfl⟩ := hrel
    have HM := Lib.hid hm
    have HB := Lib.hid hbv
    clear hm hbv
    have hxl : xs.length = k := by have := congrArg List.length HM.out; rw [List.length_map, List.length_take, HL.out] at this; omega
    have HXL := Lib.hid hxl
    clear hxl
    by_cases hlt : k < n
    · obtain ⟨b, off, rfl, hc⟩ := hv.cells k hlt
      have E := (hc k hlt).keep HB.out.bl
      have HC := Lib.hid hc
      clear hc
      have HS := Lib.hid (take_nthR (vs := vs) (k := k) (by rw [HL.out]; exact hlt))
      have HA := Lib.hid E.ok
      obtain ⟨V, hV⟩ : ∃ V, nthR vs k = V := ⟨_, rfl⟩
      rw [hV] at E HS HA
      clear hV
      obtain ⟨va, vn, vc, e1, hI⟩ := E.at_
      have e0 := E.c0
      have e2 := E.c2
      have e3 := E.c3
      have e4 := E.c4
      have e5 := E.c5
      have e6 := E.c6
      have e7 := E.c7
      have ba : Bl wr (wr.alloc (.cells #[.string V.key, .slice va vn vc, .int .i64 V.origin, .int .i64 V.tx, .int .i64 V.act.k, .float .f64 V.act.x, .int .i64 V.act.n, .string V.act.s] 59)) := (Bl.refl wr).alloc _
      have HI := Lib.hid (hI.keep ba)
      have HBA := Lib.hid (HB.out.keep ba)
      clear hI E ba HB
      go_wp2_with fail
      clear e0 e1 e2 e3 e4 e5 e6 e7
      generalize wr.alloc _ = wa at *
      refine (copied_any ⟨V.key, va, vn, vc, V.at_, V.origin, V.tx, V.act⟩ _ HI.out).mono ?_
      rintro e w2 ⟨ya, yn, yc, rfl, hf, hb2⟩
      have HF := Lib.hid hf
      have HBA0 := Lib.hid HBA.out
      have HB2 := Lib.hid (HBA.out.keep hb2)
      clear hf hb2 HBA HI
      have hk1 : k ≤ 1000 := by omega
      have HOA := Lib.hid (HB2.out.own.keep ((Bl.refl w2).alloc (.cells #[.string V.key, .slice ya yn yc, .int .i64 V.origin, .int .i64 V.tx, .int .i64 V.act.k, .float .f64 V.act.x, .int .i64 V.act.n, .string V.act.s] 59)))
      have HCJ := Lib.hid (AC.new w2 w2.heap.size rfl [.string V.key, .slice ya yn yc, .int .i64 V.origin, .int .i64 V.tx, .int .i64 V.act.k, .float .f64 V.act.x, .int .i64 V.act.n, .string V.act.s] 59)
      go_wp2_with (at_builtin; refine wpList_app2 rfl _ _ rfl _ _ _ _ rfl HOA.out ?c1 (by rw [HXL.out]; exact hk1) _ [.string V.key, .slice ya yn yc, .int .i64 V.origin, .int .i64 V.tx, .int .i64 V.act.k, .float .f64 V.act.x, .int .i64 V.act.n, .string V.act.s] rfl HCJ.out rfl ?c2 ?_)
      case c1 => have := HB2.out.bl.size; simp; omega
      case c2 => simp [Value.oneCell']
      intro v3 w3 ho3 hg3
      have HB3 := Lib.hid (BV.push HBA0.out HB2.out (y := ⟨V.key, ya, yn, yc, V.at_, V.origin, V.tx, V.act⟩) HF.out HA.out ho3 hg3)
      clear ho3 hg3 HOA HCJ HB2 HF HBA0
      go_wp2_with fail
      go_roundw
      case rel => exact ⟨k + 1, xs ++ [⟨V.key, ya, yn, yc, V.at_, V.origin, V.tx, V.act⟩], by omega, by rw [List.map_append, HM.out, HS.out]; rfl, HB3.out, by go_num⟩
      case measure => simp [intOf]; omega
    · have hkn : k = n := by omega
      have HM2 := Lib.hid (show xs.map VC.ver = vs by rw [HM.out, List.take_of_length_le (by rw [HL.out]; omega)])
      clear HM hlt
      rw [hkn] at HXL
      clear hk
      subst hkn
      rcases HB.out.rw with ⟨rfl, rfl⟩ | ⟨g, cg, cur, rfl, hcg, hrw, hgw, hcc, hcm, hcs⟩
      · have HO := Lib.hid (show orderOf vs = [] by rw [← HM2.out]; rfl)
        have HBL := Lib.hid HB.out.bl
        clear HB
        go_wp2_with fail
        refine (sortS_nil _ _).mono ?_
        rintro e w2 ⟨rfl, hb2⟩
        have HBL2 := Lib.hid (HBL.out.trans hb2)
        clear hb2 HBL
        go_wp2_with fail
        refine (compact_nil _ _).mono ?_
        rintro e w3 ⟨rfl, hb3⟩
        have HBL3 := Lib.hid (HBL2.out.trans hb3)
        clear hb3 HBL2
        go_wp2_with fail
        go_ret
        exact ⟨none, 0, 0, rfl, [], OVX.nil _ _, HO.out.symm, Nat.zero_le _, HBL3.out⟩
      · have HRW := Lib.hid hrw
        have HGW := Lib.hid hgw
        have HCC := Lib.hid hcc
        have HCM := Lib.hid hcm
        have HCS := Lib.hid hcs
        have HCG := Lib.hid hcg
        rw [HXL.out] at hcg
        clear hrw hgw hcc hcm hcs
        rw [HXL.out]
        go_wp2_with fail
        refine (sortS_any _ _ g k cg xs HXL.out (by omega) HRW.out).mono ?_
        rintro e w2 ⟨rfl, hr2⟩
        have HR2 := Lib.hid hr2
        clear hr2 HRW
        go_wp2_with fail
        refine (compact_any _ _ g k cg (srt leC xs) (by rw [srt_len]; exact HXL.out) (by omega) hcg HR2.out).mono ?_
        rintro e w3 ⟨m, rest, rfl, hml, hr3, hlen⟩
        have HR3 := Lib.hid hr3
        have HML := Lib.hid hml
        have HLEN := Lib.hid hlen
        clear hr3 HR2 hml hlen
        have hmk : m ≤ k := by have := HLEN.out; rw [List.length_append] at this; have := HML.out; omega
        go_wp2_with fail
        go_ret
        refine ⟨_, m, cg, rfl, cpt eqC (srt leC xs), RW.ovx HB.out rfl HR3.out HGW.out HCC.out HCM.out HCS.out HML.out (by omega) ⟨_, srt_perm xs, cpt_sub eqC _⟩, by rw [← HM2.out, ← order_map], hmk, Below.trans HB.out.bl (HR3.out.bl.fr.below HB.out.bl.size (fun b e => by rw [e]; exact HGW.out))⟩
theorem fOrder_any (a : Option Addr) (n ca : Nat) (vs : List VerL) (w : World) (hv : VA w a n vs) (hn1 : n ≤ 1000) :
    Calls Tryz.prog 8 #[.slice a n ca] w fun e w' => ∃ a' m ca', e = .returned (.slice a' m ca') ∧ VA w' a' m (orderOf vs) ∧ Bl w w' :=
  (fOrderO_any a n ca vs w hv hn1).mono (by
    rintro e w' ⟨a', m, ca', rfl, zs, h1, h2, h3, h4⟩
    exact ⟨a', m, ca', rfl, by rw [← h2]; exact h1.va (by omega), h4⟩)
end Go.Proofs.YtfjjnffifnohkaaGreat
end

/- append to a row of one's own, behind which the old slice still reads as it did. By an AI agent. -/
section
namespace Go.Proofs.YtfjjnffifnohkaaGreat
open Go.RowKit

theorem run_appK {w : World} {B : Nat} {T E : TypeId} {size bytes : Nat} (hT : EL T E size bytes) (ty : TypeId) (v : Value) (n : Nat) (xs : List Value) (hown : w.ownsRow B E size v n xs) (ad : Option Addr) (m c : Nat) (news : List Value) (hs : SG w size ad m news)
    (h63 : n + m ≤ maxLen) (hbytes : (n + m) * bytes ≤ 140737488355328) (hB : B ≤ w.heap.size) :
    ∃ v' w', (Builtin.append_ #[T, T] ty #[v, .slice ad m c]).run Tryz.prog w = .ok v' w' ∧ w'.ownsRow B E size v' (n + m) (xs ++ news) ∧ w.grownBy w' v.ownBlock ∧ w'.ownsRow B E size v n xs ∧ (∀ b, v'.ownBlock = some b → v.ownBlock = some b ∨ w.heap.size ≤ b) := by
  obtain ⟨i, z, hi, hz, h1, h2, h3⟩ := hT.info
  cases ad with
  | none =>
    have hm := hs.nil rfl
    subst hm
    have e : news = [] := List.eq_nil_of_length_eq_zero (by rw [hs.len, Nat.zero_mul])
    subst e
    rw [List.append_nil, Nat.add_zero]
    have hown' := hown
    obtain ⟨hl, ⟨rfl, hn⟩ | ⟨g, cap, cur, rfl, hBg, hg, hn, r⟩⟩ := hown
    · subst hn
      exact ⟨_, w, by simp [Builtin.append_, run_underlying hT.ty, sizeOf, typeInfo, hi, Builtin.lenOf, Builtin.firstCells], ⟨hl, .inl ⟨rfl, rfl⟩⟩, ⟨rfl, rfl, rfl, Nat.le_refl _, fun _ _ _ => rfl⟩, hown', fun b h => .inl h⟩
    · have := run_append_room_src (P := Tryz.prog) w T T ty E i hT.ty hi g 0 n cap (.slice none 0 c) 0 [] (Src.ofNil w hT.ty c) (by omega) (fun k hk => by simp at hk) (fun k hk => by simp at hk)
      exact ⟨_, w, by simpa [World.setCells] using this, ⟨hl, .inr ⟨g, cap, cur, rfl, hBg, hg, hn, r⟩⟩, ⟨rfl, rfl, rfl, Nat.le_refl _, fun _ _ _ => rfl⟩, hown', fun b h => .inl h⟩
  | some ad =>
    have hsz := hT.pos
    obtain ⟨v', w', e1, e2, e3, _⟩ := run_append_own (P := Tryz.prog) w B T ty E i z size bytes hT.ty hi hz h1 h2 h3 hT.pos v n xs hown ad m c news hs.len (hs.at_ ad rfl) hs.one h63 hbytes hB
    refine ⟨v', w', e1, e2, e3, ?_⟩
    have e1' := e1
    subst h1
    subst h2
    rcases hown.2 with ⟨rfl, rfl⟩ | ⟨g, cap, cur, rfl, hbg, hg, hnc, hcm, hcs, htake⟩
    · refine ⟨⟨hown.1, .inl ⟨rfl, rfl⟩⟩, fun b hb => .inr ?_⟩
      obtain ⟨v2, w2, d1, d2, _⟩ := run_append_own (P := Tryz.prog) w w.heap.size T ty E i z i.size i.bytes hT.ty hi hz rfl rfl h3 hT.pos (.slice none 0 0) 0 xs ⟨hown.1, .inl ⟨rfl, rfl⟩⟩ ad m c news hs.len (hs.at_ ad rfl) hs.one h63 hbytes (Nat.le_refl _)
      rw [d1] at e1'
      cases e1'
      exact (World.ownsRow.lt d2 b hb).1
    · by_cases hroom : n + m ≤ cap
      · have hfit : n * i.size + news.length ≤ cur.size := by rw [hs.len, hcs, ← Nat.add_mul]; exact Nat.mul_le_mul_right _ hroom
        have hr := run_append_room (P := Tryz.prog) w T ty E i hT.ty hi g n cap cur hg ad m c news hs.len (hs.at_ ad rfl) hs.one hroom hfit
        rw [hr] at e1
        cases e1
        have hx1 := hown.1
        refine ⟨⟨hown.1, .inr ⟨g, cap, _, rfl, hbg, setRow_heap w g cur _ E _ hg, hnc, hcm, ?_, ?_⟩⟩, fun b hb => .inl hb⟩
        · simp only [List.size_toArray, List.length_append, List.length_take, List.length_drop, Array.length_toList]
          omega
        · rw [htake, List.append_assoc, ← hx1]
          exact List.take_left
      · have holds : ∀ j u, xs[j]? = some u → w.cell? ((⟨g, 0, none⟩ : Addr).add j) = some u := hown.cells (g := g) rfl
        have hr := run_append_grow (P := Tryz.prog) w T ty E i z hT.ty hi hz ⟨g, 0, none⟩ n cap xs hown.1 holds ad m c news hs.len (hs.at_ ad rfl) (by omega) (by simp only [maxLen] at h63; omega) (growslice_fits (by omega) hbytes)
        rw [hr] at e1
        cases e1
        refine ⟨⟨hown.1, .inr ⟨g, cap, cur, rfl, hbg, ?_, hnc, hcm, hcs, htake⟩⟩, fun b hb => .inr (by simp [Value.ownBlock] at hb; omega)⟩
        rw [heap_alloc_old w.drew _ (lt_of_heap hg)]
        exact hg
section
variable {ops : Array Oper}
theorem wpList_appK {rest : List Oper} {o : Oper} {a : Act} {w : World} {Q : Exit → Act → World → Prop} (hgd : o.guard = none) (s x : Operand) (T : TypeId)
    (ho : o.op = .call { callee := .builtin .append, args := #[s, x], argTypes := #[T, T] }) {E : TypeId} {size bytes : Nat} (hT : EL T E size bytes) (B : Nat) (v : Value) (n : Nat) (xs : List Value) (hs : a.eval s = v) (hown : w.ownsRow B E size v n xs) (hB : B ≤ w.heap.size)
    (ad : Option Addr) (m c : Nat) (news : List Value) (hx : a.eval x = .slice ad m c) (hsc : SG w size ad m news) (h63 : n + m ≤ maxLen) (hbytes : (n + m) * bytes ≤ 140737488355328)
    (h : ∀ v' w', w'.ownsRow B E size v' (n + m) (xs ++ news) → w.grownBy w' v.ownBlock → w'.ownsRow B E size v n xs → (∀ b, v'.ownBlock = some b → v.ownBlock = some b ∨ w.heap.size ≤ b) → wpList Tryz.prog ops Q rest (a.put o.dst v') w') : wpList Tryz.prog ops Q (o :: rest) a w := by
  obtain ⟨v', w', hr, h2, h3, h4, h5⟩ := run_appK hT o.type v n xs hown ad m c news hsc h63 hbytes hB
  refine wpList_plain hgd fun _ hK => ?_
  unfold Oper.wp execOp
  simp only [ho, resolve, invoke, builtin, Sem.run_bind, Sem.run_pure, Result.andThen_ok, List.map_toArray, List.map_cons, List.map_nil, hs, hx, hr]
  exact hK _ _ (h v' w' h2 h3 h4 h5)
end
end Go.Proofs.YtfjjnffifnohkaaGreat
end

/- vec.Leq, vec.Same. By an AI agent. -/
section
namespace Go.Proofs.YtfjjnffifnohkaaGreat
open Go.RowKit

set_option maxHeartbeats 400000 in
theorem leq_any (a b : Option Addr) (n m ca cb : Nat) (xs ys : List Int) (w : World) (hx : IA w a n xs) (hy : IA w b m ys) :
    Calls Tryz.prog 27 #[.slice a n ca, .slice b m cb] w fun e w' => e = .returned (.bool (leqL xs ys)) ∧ w = w' := by
  have hx1 := hx.cap
  have hy1 := hy.cap
  by_cases hl : n = m
  · subst hl
    have HLL := Lib.hid (hx.len.trans hy.len.symm)
    have HX := Lib.hid hx.len
    have h2 : ((n : Int) != (n : Int)) = false := by simp
    go_enter Tryz.func27, Tryz.ntmps27
    go_wp2
    go_loop [14] (fun i => ∃ k : Nat, k ≤ n ∧ i = .int .i64 k ∧ ∀ j, j < k → nth xs j ≤ nth ys j) (fun i => n - (intOf i).toNat)
    case atStart => exact ⟨0, Nat.zero_le _, rfl, fun j h => by omega⟩
    case round =>
      obtain ⟨k, hk, rfl, hle⟩ := hrel
      have HLE := Lib.hid hle; clear hle
      by_cases hlt : k < n
      · obtain ⟨ba, oa, rfl, hca⟩ := hx.cells k hlt
        obtain ⟨bb, ob, rfl, hcb⟩ := hy.cells k hlt
        have ha := hca k hlt
        have hb := hcb k hlt
        clear hca hcb
        by_cases hgt : nth ys k < nth xs k
        · have HR := Lib.hid (leqL_false HLL.out (by rw [HX.out]; exact hlt) hgt)
          go_wp2
          go_ret
          exact ⟨ret_bool HR.out.symm, rfl⟩
        · go_wp2
          go_round
          case rel => exact ⟨k + 1, by omega, by go_num, fun j hj => by
            by_cases e : j = k
            · subst e; omega
            · exact HLE.out j (by omega)⟩
          case measure => simp [intOf]; omega
      · have HR := Lib.hid ((leqL_iff HLL.out).2 (fun j hj => HLE.out j (by rw [HX.out] at hj; omega)))
        go_wp2
        go_ret
        exact ⟨ret_bool HR.out.symm, rfl⟩
  · have h2 : ((n : Int) != (m : Int)) = true := by simp; omega
    have HR := Lib.hid (leqL_len (xs := xs) (ys := ys) (by rw [hx.len, hy.len]; exact hl))
    go_enter Tryz.func27, Tryz.ntmps27
    go_wp2
    go_ret
    exact ⟨ret_bool HR.out.symm, rfl⟩



end Go.Proofs.YtfjjnffifnohkaaGreat
end

/- rows of versions that a call makes out of versions that lie before it; fold.Read. By an AI agent. -/
section
set_option linter.unusedVariables false
set_option linter.unusedSimpArgs false
namespace Go.Proofs.YtfjjnffifnohkaaGreat
open Go.RowKit

theorem el_vr : EL 22 59 8 96 := el_of (by kernel_rfl) (by kernel_rfl) (by decide)
/-- a row of versions whose lists lay in W0 -/
structure SV (W0 W : World) (v : Value) (xs : List VC) : Prop where
  own : OVS W0.heap.size W v xs.length (flat xs)
  els : ∀ x ∈ xs, IA W0 x.ad x.n x.at_ ∧ x.act.Ok
theorem SV.nil (W0 W : World) : SV W0 W (.slice none 0 0) [] := ⟨World.ownsRow_nil _ _ _ _, fun x hx => by cases hx⟩
theorem SV.keep {W0 W W' : World} {v : Value} {xs : List VC} (h : SV W0 W v xs) (hb : Bl W W') : SV W0 W' v xs := ⟨h.own.keep hb, h.els⟩
theorem flat_one (y : VC) : flat [y] = y.cs := by rw [flat_cons]; exact List.append_nil _
theorem SV.push {W0 W W' : World} {v v' : Value} {xs : List VC} {y : VC} (h : SV W0 W v xs) (hy : IA W0 y.ad y.n y.at_) (hok : y.act.Ok) (ho : OVS W0.heap.size W' v' (xs.length + 1) (flat xs ++ y.cs)) : SV W0 W' v' (xs ++ [y]) := by
  refine ⟨?_, fun x hx => ?_⟩
  · rw [List.length_append, flat_append, flat_one]; exact ho
  · rcases List.mem_append.1 hx with q | q
    · exact h.els x q
    · rw [List.mem_singleton] at q; subst q; exact ⟨hy, hok⟩
/-- two rows in two blocks -/
def APt (u v : Value) : Prop := ∀ b, v.ownBlock = some b → u.ownBlock = some b → False
theorem APt.symm {u v : Value} (h : APt u v) : APt v u := fun b e q => h b q e
theorem SV.other {W0 W W' : World} {u v : Value} {ys : List VC} (h : SV W0 W u ys) (hg : W.grownBy W' v.ownBlock) (hne : APt u v) : SV W0 W' u ys :=
  ⟨((Fr.refl (fun b => v.ownBlock = some b) W).grown hg (fun i e => e)).own h.own (fun b e q => hne b q e), h.els⟩
theorem SV.apart {W0 W : World} {u v v' : Value} {ys : List VC} (h : SV W0 W u ys) (hne : APt u v) (hb : ∀ b, v'.ownBlock = some b → v.ownBlock = some b ∨ W.heap.size ≤ b) : APt u v' := fun b e q => by
  rcases hb b e with k | k
  · exact hne b k q
  · have := (World.ownsRow.lt h.own b q).2; omega
theorem SV.grown {W0 W W' : World} {v : Value} {xs : List VC} (h : SV W0 W v xs) (hb : Bl W0 W) (hg : W.grownBy W' v.ownBlock) : Bl W0 W' := Bl.grownRow hb h.own (Nat.le_refl _) hg
theorem SV.va {W0 W : World} {v : Value} {xs : List VC} (h : SV W0 W v xs) (hb : Bl W0 W) {n : Nat} (hn : xs.length = n) (hc : n ≤ 140737488351232) : ∃ a ca, v = .slice a n ca ∧ VA W a n (xs.map VC.ver) := by
  subst hn
  have ho := h.own
  obtain ⟨h1, ⟨rfl, h2⟩ | ⟨g, cap, cur, rfl, hB, hg, hc1, hm, hs, ht⟩⟩ := h.own
  · refine ⟨none, 0, by rw [h2], ⟨by rw [List.length_map], hc, fun j hj => absurd hj (by omega)⟩⟩
  · refine ⟨_, cap, rfl, ?_⟩
    have hr : RW W W g (xs ++ []) := by
      rw [List.append_nil]
      refine ⟨FrG.refl _ _, ⟨cur.toList.drop (xs.length * 8), ⟨59, ?_⟩⟩, fun x hx => ?_⟩
      · rw [hg, ← ht, List.take_append_drop]
      · obtain ⟨f, k⟩ := h.els x hx
        refine ⟨f.keep hb, k, ?_⟩
        by_cases h0 : x.n = 0
        · exact .inl h0
        · refine .inr fun b off e q => ?_
          obtain ⟨b2, off2, e2, hcell⟩ := f.cells 0 (by omega)
          rw [e] at e2
          simp only [Option.some.injEq, Addr.mk.injEq] at e2
          have hlt := World.block_lt_of_cell? _ _ (hcell 0 (by omega))
          simp at hlt
          omega
    exact hr.va rfl hc
theorem take_filter {α : Type} (p : α → Bool) (l : List α) (x : α) (k : Nat) (h : l.take (k + 1) = l.take k ++ [x]) : (l.take (k + 1)).filter p = if p x then (l.take k).filter p ++ [x] else (l.take k).filter p := by
  rw [h, List.filter_append]
  by_cases q : p x = true
  · rw [if_pos q, List.filter_cons_of_pos q]; rfl
  · rw [if_neg q, List.filter_cons_of_neg q]; simp
set_option maxHeartbeats 3200000 in
set_option maxRecDepth 100000 in
theorem fread_any (key : ByteArray) (a : Option Addr) (n ca : Nat) (vs : List VerL) (fa : Option Addr) (fn fc : Nat) (at_ : List Int) (w : World) (hkey : key.size ≤ 140737488351232) (hv : VA w a n vs) (hn1 : n ≤ 1000) (hf : IA w fa fn at_) :
    Calls Tryz.prog 14 #[.string key, .slice a n ca, .slice fa fn fc] w fun e w' => e = .returned (ValL.v (readL key vs at_)) ∧ Bl w w' := by
  have hsf := store_fl
  have hbx : Bl w (w.alloc (.cells #[.bool false, .float .f64 0, .int .i64 0, .string ⟨#[]⟩] 51)) := (Bl.refl w).alloc _
  have hac := AC.new w w.heap.size rfl [.bool false, .float .f64 0, .int .i64 0, .string ⟨#[]⟩] 51
  go_enter Tryz.func14, Tryz.ntmps14
  go_wp2_with fail
  refine (fOrder_any a n ca vs _ (hv.keep hbx) hn1).mono ?_
  rintro e W0 ⟨a0, m, c0, rfl, hv0, hb0⟩
  have HW := Lib.hid (hbx.trans hb0)
  have HF := Lib.hid (hf.keep (hbx.trans hb0))
  have HAC := Lib.hid (hac.keep hb0)
  have hmn : m ≤ 1000 := by rw [← hv0.len]; exact Nat.le_trans (order_len _) (by rw [hv.len]; exact hn1)
  obtain ⟨os, hos⟩ : ∃ os, orderOf vs = os := ⟨_, rfl⟩
  rw [hos] at hv0
  have HOS := Lib.hid hos
  have HL := Lib.hid hv0.len
  clear hb0 hf hos hv hac hbx
  go_wp2_with fail
  go_loopw [7, 13] (fun sv iv wr => ∃ (k : Nat) (xs : List VC), k ≤ m ∧ xs.map VC.ver = (os.take k).filter (leqV at_) ∧ SV W0 wr sv xs ∧ Bl W0 wr ∧ iv = .int .i64 (k : Int)) (fun _ iv _ => m - (intOf iv).toNat)
  case atStart => exact ⟨0, [], Nat.zero_le _, by rw [List.take_zero]; rfl, SV.nil _ _, Bl.refl _, by go_num⟩
  case round =>
    obtain ⟨k, xs, hk, hm, hsv, hbw, rfl⟩ := hrel
    have HM := Lib.hid hm
    have HS := Lib.hid hsv
    have HB := Lib.hid hbw
    have hxl : xs.length ≤ k := by
      have h1 := congrArg List.length HM.out
      rw [List.length_map] at h1
      have h2 := List.length_filter_le (leqV at_) (os.take k)
      rw [List.length_take] at h2
      omega
    clear hm hsv hbw
    by_cases hlt : k < m
    · obtain ⟨b, off, rfl, hc⟩ := hv0.cells k hlt
      have E0 := hc k hlt
      have E := E0.keep HB.out
      have HT := Lib.hid (take_filter (leqV at_) os _ k (take_nthR (vs := os) (k := k) (by rw [HL.out]; exact hlt)))
      obtain ⟨V, hV⟩ : ∃ V, nthR os k = V := ⟨_, rfl⟩
      rw [hV] at E E0 HT
      clear hV hc
      have HA := Lib.hid E.ok
      obtain ⟨va, vn, vc, e1', hI⟩ := E0.at_
      have e1 := HB.out.cell e1'
      have HI := Lib.hid hI
      have ba : Bl wr (wr.alloc (.cells #[.string V.key, .slice va vn vc, .int .i64 V.origin, .int .i64 V.tx, .int .i64 V.act.k, .float .f64 V.act.x, .int .i64 V.act.n, .string V.act.s] 59)) := (Bl.refl wr).alloc _
      have hx := AC.new wr wr.heap.size rfl [.string V.key, .slice va vn vc, .int .i64 V.origin, .int .i64 V.tx, .int .i64 V.act.k, .float .f64 V.act.x, .int .i64 V.act.n, .string V.act.s] 59
      obtain ⟨v0, v1, v2, v3, v4, v5, v6, v7⟩ := AC.ver (key := V.key) (a := va) (n := vn) (ca := vc) (o := V.origin) (t := V.tx) (k := V.act.k) (x := V.act.x) (m := V.act.n) (s := V.act.s) hx
      have HIA := Lib.hid (hI.keep (HB.out.trans ba))
      have HFA := Lib.hid (HF.out.keep (HB.out.trans ba))
      have HSA := Lib.hid (HS.out.keep ba)
      have HBA := Lib.hid (HB.out.trans ba)
      clear hx ba
      have e0 := E.c0
      have e2 := E.c2
      have e3 := E.c3
      have e4 := E.c4
      have e5 := E.c5
      have e6 := E.c6
      have e7 := E.c7
      clear hI E E0 e1'
      obtain ⟨r, hr⟩ : ∃ r, leqL V.at_ at_ = r := ⟨_, rfl⟩
      have HR := Lib.hid hr
      clear hr
      clear HS HB
      go_wp2_with fail
      clear e0 e1 e2 e3 e4 e5 e6 e7
      refine (leq_any va fa vn fn vc fc V.at_ at_ _ HIA.out HFA.out).mono ?_
      rintro e w2 ⟨rfl, rfl⟩
      rw [HR.out]
      cases r
      case false =>
        have HN := Lib.hid (show (os.take (k + 1)).filter (leqV at_) = (os.take k).filter (leqV at_) by rw [HT.out, if_neg (by show ¬ leqL V.at_ at_ = true; rw [HR.out]; decide)])
        go_wp2_with fail
        go_roundw
        case rel => exact ⟨k + 1, xs, by omega, by rw [HN.out]; exact HM.out, HSA.out, HBA.out, by go_num⟩
        case measure => simp [intOf]; omega
      case true =>
        have HN := Lib.hid (show (os.take (k + 1)).filter (leqV at_) = (os.take k).filter (leqV at_) ++ [V] by rw [HT.out]; exact if_pos HR.out)
        clear HIA HFA HT HR
        generalize wr.heap.size = gv at *
        generalize wr.alloc _ = wa at *
        have HSB := Lib.hid (HSA.out.keep ((Bl.refl wa).alloc (.cells #[.string V.key, .slice va vn vc, .int .i64 V.origin, .int .i64 V.tx, .int .i64 V.act.k, .float .f64 V.act.x, .int .i64 V.act.n, .string V.act.s] 59)))
        have HBB := Lib.hid (HBA.out.alloc (.cells #[.string V.key, .slice va vn vc, .int .i64 V.origin, .int .i64 V.tx, .int .i64 V.act.k, .float .f64 V.act.x, .int .i64 V.act.n, .string V.act.s] 59))
        have HLT := Lib.hid (SG.lit (heap_alloc_new wa (.cells #[.string V.key, .slice va vn vc, .int .i64 V.origin, .int .i64 V.tx, .int .i64 V.act.k, .float .f64 V.act.x, .int .i64 V.act.n, .string V.act.s] 59)) (show [.string V.key, .slice va vn vc, .int .i64 V.origin, .int .i64 V.tx, .int .i64 V.act.k, .float .f64 V.act.x, .int .i64 V.act.n, .string V.act.s].length = 1 * 8 from rfl) (by simp [Value.oneCell']))
        go_wp2_with (at_builtin; refine wpList_appK rfl _ _ _ rfl el_vr W0.heap.size _ _ _ rfl HSB.out.own ?cB _ 1 1 _ rfl HLT.out ?cM ?cN ?_)
        case cB => exact HBB.out.size
        case cM => have := hxl; unfold maxLen; omega
        case cN => have := hxl; omega
        intro vq w3 ho3 hg3 hz1 hz2
        clear hz1 hz2
        have HS3 := Lib.hid (HSB.out.push (y := ⟨V.key, va, vn, vc, V.at_, V.origin, V.tx, V.act⟩) HI.out HA.out ho3)
        have HB3 := Lib.hid (HSB.out.grown HBB.out hg3)
        clear ho3 hg3 HSB HBB HLT HSA HBA v0 v1 v2 v3 v4 v5 v6 v7
        go_wp2_with fail
        go_roundw
        case rel => exact ⟨k + 1, xs ++ [⟨V.key, va, vn, vc, V.at_, V.origin, V.tx, V.act⟩], by omega, by rw [List.map_append, HM.out, HN.out]; rfl, HS3.out, HB3.out, by go_num⟩
        case measure => simp [intOf]; omega
    · have HO := Lib.hid (show xs.map VC.ver = os.filter (leqV at_) by rw [HM.out, List.take_of_length_le (by rw [HL.out]; omega)])
      obtain ⟨xn, hxn⟩ : ∃ xn, xs.length = xn := ⟨_, rfl⟩
      obtain ⟨sa, sc, rfl, hva⟩ := HS.out.va HB.out hxn (by omega)
      have HV := Lib.hid hva
      clear hva HM
      have HE := Lib.hid (show readL key vs at_ = valueL key (xs.map VC.ver) by unfold readL; rw [HOS.out, HO.out])
      have HACW := Lib.hid (HAC.out.keep HB.out)
      have HWW := Lib.hid (HW.out.trans HB.out)
      clear HS HO HAC HW HOS
      go_wp2_with fail
      refine (value_any key sa xn sc _ wr hkey HV.out).mono ?_
      rintro e w2 ⟨rfl, hb2⟩
      have HAC2 := Lib.hid (HACW.out.keep hb2)
      have HB2 := Lib.hid (HWW.out.trans hb2)
      clear hb2 HACW HWW
      rw [← HE.out]
      obtain ⟨⟨rb, rx, rn, rz⟩, hr⟩ : ∃ r, readL key vs at_ = r := ⟨_, rfl⟩
      have HQ := Lib.hid hr
      rw [hr]
      clear hr HE HV
      unfold ValL.v
      have c0 := HAC2.out.cell 0 _ rfl
      have c1 := HAC2.out.cell 1 _ rfl
      have c2 := HAC2.out.cell 2 _ rfl
      have c3 := HAC2.out.cell 3 _ rfl
      have fz := HAC2.out.frozen
      go_wp2_with fail
      have E := (((HAC2.out.putj 0 (.bool rb)).putj 1 (.float .f64 rx)).putj 2 (.int .i64 rn)).putj 3 (.string rz)
      have d0 := E.cell 0 _ rfl
      have d1 := E.cell 1 _ rfl
      have d2 := E.cell 2 _ rfl
      have d3 := E.cell 3 _ rfl
      refine bodyPost_ret (v := .agg #[.bool rb, .float .f64 rx, .int .i64 rn, .string rz]) (by simp [results, Tryz.results14, go_sem, d0, d1, d2, d3]) rfl ⟨by rw [HQ.out]; rfl, ?_⟩
      exact (((HB2.out.setCell (p := ⟨w.heap.size, 0, none⟩) (Nat.le_refl _) _).setCell (p := ⟨w.heap.size, 1, none⟩) (Nat.le_refl _) _).setCell (p := ⟨w.heap.size, 2, none⟩) (Nat.le_refl _) _).setCell (p := ⟨w.heap.size, 3, none⟩) (Nat.le_refl _) _
end Go.Proofs.YtfjjnffifnohkaaGreat
end

/- slices.Min; what lastOf asks of what stays. By an AI agent. -/
section
set_option linter.unusedVariables false
set_option linter.unusedSimpArgs false
namespace Go.Proofs.YtfjjnffifnohkaaGreat
open Go.RowKit
attribute [local go_sem] eOp eOper eUpon

theorem minV_take {xs : List Int} {k : Nat} (h1 : 1 ≤ k) (h : k < xs.length) : minV (xs.take (k + 1)) = min (minV (xs.take k)) (nth xs k) := by
  cases xs with
  | nil => simp at h
  | cons x xs =>
    obtain ⟨j, rfl⟩ : ∃ j, k = j + 1 := ⟨k - 1, by omega⟩
    simp only [List.take_succ_cons, minV]
    have hj : j < xs.length := by simpa using h
    rw [List.take_succ_eq_append_getElem hj, List.foldl_append]
    simp [nth, List.getD, hj]
set_option maxHeartbeats 800000 in
theorem minS_any (a : Option Addr) (n ca : Nat) (xs : List Int) (w : World) (hx : IA w a n xs) (h0 : 0 < n) :
    Calls Tryz.prog 126 #[.slice a n ca] w fun e w' => e = .returned (.int .i64 (minV xs)) ∧ w = w' := by
  have HX := Lib.hid hx.len
  have hnb := hx.cap
  obtain ⟨ba, oa, rfl, hc0⟩ := hx.at_k 0 h0
  have hn1 : ¬ ((n : Int) < 1) := by omega
  have hn2 : (0 : Int) < (n : Int) := by omega
  have hc1 : w.cell? ⟨ba, oa, none⟩ = some (.int .i64 (nth xs 0)) := hc0
  go_enter Tryz.func126, Tryz.ntmps126
  go_wp2_with fail
  go_loop [3, 4] (fun v i => ∃ k : Nat, 1 ≤ k ∧ k ≤ n ∧ i = .int .i64 k ∧ v = .int .i64 (minV (xs.take k))) (fun _ i => n - (intOf i).toNat)
  case atStart =>
    refine ⟨1, Nat.le_refl _, h0, rfl, ?_⟩
    have hl := HX.out
    cases xs with
    | nil => simp at hl; omega
    | cons x xs => rfl
  case round =>
    clear hc0 hc1
    obtain ⟨k, h1, hk, rfl, rfl⟩ := hrel
    by_cases hlt : k < n
    · obtain ⟨b2, o2, e2, hck⟩ := hx.at_k k hlt
      simp only [Option.some.injEq, Addr.mk.injEq] at e2
      obtain ⟨rfl, rfl, _⟩ := e2
      have HM := Lib.hid (minV_take h1 (xs := xs) (k := k) (by rw [HX.out]; exact hlt))
      go_wp2_with fail
      go_round
      case rel => exact ⟨k + 1, by omega, by omega, by go_num, by rw [HM.out]⟩
      case measure => simp [intOf]; omega
    · have HE : Hid (xs.take k = xs) := Lib.hid (List.take_of_length_le (by have := HX.out; omega))
      go_wp2_with fail
      go_ret
      exact ⟨ret_int (by rw [HE.out]), rfl⟩
theorem VOk.of {W : World} {v : VC} (h : IA W v.ad v.n v.at_) (k : v.act.Ok) : VOk W W.heap.size v := by
  refine ⟨h, k, ?_⟩
  by_cases h0 : v.n = 0
  · exact .inl h0
  · refine .inr fun b off e q => ?_
    obtain ⟨b2, off2, e2, hcell⟩ := h.cells 0 (by omega)
    rw [e] at e2
    simp only [Option.some.injEq, Addr.mk.injEq] at e2
    have hlt := World.block_lt_of_cell? _ _ (hcell 0 (by omega))
    simp at hlt
    omega
/-- does v come later than x -/
def lateB (x v : VerL) : Bool := decide (orderL x v < 0)
set_option maxHeartbeats 1600000 in
set_option maxRecDepth 100000 in
theorem late_any (x y : VC) (g : Nat) (w : World) (hx : AC w g x.cs) (hxi : IA w x.ad x.n x.at_) (hyi : IA w y.ad y.n y.at_) (hxo : x.act.Ok) (hyo : y.act.Ok) :
    Calls Tryz.prog 125 #[.agg #[.string y.key, .slice y.ad y.n y.ca, .int .i64 y.origin, .int .i64 y.tx, .int .i64 y.act.k, .float .f64 y.act.x, .int .i64 y.act.n, .string y.act.s], .pointer (some ⟨g, 0, none⟩)] w fun e w' => e = .returned (.bool (lateB x.ver y.ver)) ∧ Bl w w' := by
  have hb := (Bl.refl w).alloc (.cells y.cs.toArray 59)
  have hg := AC.new w w.heap.size rfl y.cs 59
  have HXA := Lib.hid (hx.keep hb)
  have HXI := Lib.hid (hxi.keep hb)
  have HYI := Lib.hid (hyi.keep hb)
  obtain ⟨R, hR⟩ : ∃ R, orderL x.ver y.ver = R := ⟨_, rfl⟩
  have HR := Lib.hid hR
  unfold VC.cs at *
  obtain ⟨x0, x1, x2, x3, x4, x5, x6, x7⟩ := AC.ver HXA.out
  obtain ⟨y0, y1, y2, y3, y4, y5, y6, y7⟩ := AC.ver hg
  unfold verC at *
  have HB := Lib.hid hb
  clear hx hxi hyi hg hb hR
  go_enter Tryz.func125, Tryz.ntmps125
  go_wp2_with fail
  refine (forder_w x y R _ (VOk.of HXI.out hxo) ⟨HYI.out, hyo, (VOk.of HYI.out hyo).far⟩ HR).mono ?_
  rintro e w2 ⟨rfl, hb2⟩
  go_wp2_with fail
  go_ret
  exact ⟨ret_bool (by unfold lateB; rw [HR.out]), HB.out.trans hb2⟩
set_option maxHeartbeats 1600000 in
set_option maxRecDepth 100000 in
theorem indexL_any (x : VC) (g : Nat) (a : Option Addr) (n ca : Nat) (vs : List VerL) (w : World) (hx : AC w g x.cs) (hxi : IA w x.ad x.n x.at_) (hxo : x.act.Ok) (hv : VA w a n vs) :
    Calls Tryz.prog 178 #[.slice a n ca, .func (.func 125) #[] #[.pointer (some ⟨g, 0, none⟩)]] w fun e w' => ∃ k : Int, e = .returned (.int .i64 k) ∧ (k ≥ 0 ↔ vs.any (lateB x.ver) = true) ∧ Bl w w' := by
  have hcap := hv.cap
  have HL := Lib.hid hv.len
  have HX := Lib.hid hx
  have HXI := Lib.hid hxi
  clear hx hxi
  go_enter Tryz.func178, Tryz.ntmps178
  go_wp2_with fail
  go_loopw [8] (fun i wr => ∃ k : Nat, k ≤ n ∧ i = .int .i64 k ∧ Bl w wr ∧ ∀ j, j < k → lateB x.ver (nthR vs j) = false) (fun i _ => n - (intOf i).toNat)
  case atStart => exact ⟨0, Nat.zero_le _, by go_num, Bl.refl _, fun j hj => absurd hj (Nat.not_lt_zero _)⟩
  case round =>
    obtain ⟨k, hk, rfl, hbl, hok⟩ := hrel
    have HBL := Lib.hid hbl
    have HOK := Lib.hid hok
    clear hbl hok
    by_cases hlt : k < n
    · obtain ⟨b, off, rfl, hc⟩ := hv.cells k hlt
      have E := (hc k hlt).keep HBL.out
      obtain ⟨V, hV⟩ : ∃ V, nthR vs k = V := ⟨_, rfl⟩
      rw [hV] at E
      have HV := Lib.hid hV
      clear hV hc
      obtain ⟨va, vn, vc, e1, hI⟩ := E.at_
      have e0 := E.c0
      have e2 := E.c2
      have e3 := E.c3
      have e4 := E.c4
      have e5 := E.c5
      have e6 := E.c6
      have e7 := E.c7
      have HA := Lib.hid E.ok
      have HI := Lib.hid hI
      clear hI E
      go_wp2_with fail
      refine (late_any x ⟨V.key, va, vn, vc, V.at_, V.origin, V.tx, V.act⟩ g _ (HX.out.keep HBL.out) (HXI.out.keep HBL.out) HI.out hxo HA.out).mono ?_
      rintro e w1 ⟨rfl, hb1⟩
      have HB1 := Lib.hid (HBL.out.trans hb1)
      clear e0 e1 e2 e3 e4 e5 e6 e7 hb1
      obtain ⟨r, hr⟩ : ∃ r, lateB x.ver V = r := ⟨_, rfl⟩
      have hr2 : lateB x.ver (VC.ver ⟨V.key, va, vn, vc, V.at_, V.origin, V.tx, V.act⟩) = r := hr
      rw [hr2]
      clear hr2
      have HF := Lib.hid hr
      clear hr
      cases r
      · go_wp2_with fail
        go_roundw
        case rel => exact ⟨k + 1, by omega, by go_num, HB1.out, fun j hj => by
            by_cases e : j = k
            · subst e; rw [HV.out]; exact HF.out
            · exact HOK.out j (by omega)⟩
        case measure => simp [intOf]; omega
      · go_wp2_with fail
        go_ret
        refine ⟨(k : Int), rfl, ⟨fun _ => ?_, fun _ => by omega⟩, HB1.out⟩
        rw [List.any_eq_true]
        exact ⟨V, by rw [← HV.out, nthR_eq (by rw [HL.out]; exact hlt)]; exact List.getElem_mem _, HF.out⟩
    · have hkn : k = n := by omega
      subst hkn
      go_wp2_with fail
      go_ret
      refine ⟨-1, rfl, ⟨fun h => by omega, fun h => ?_⟩, HBL.out⟩
      obtain ⟨t, ht, hof⟩ := List.any_eq_true.1 h
      obtain ⟨j, hj, rfl⟩ := List.getElem_of_mem ht
      have := HOK.out j (by rw [← HL.out]; exact hj)
      rw [nthR_eq hj, hof] at this
      cases this
theorem containsL_any (x : VC) (g : Nat) (a : Option Addr) (n ca : Nat) (vs : List VerL) (w : World) (hx : AC w g x.cs) (hxi : IA w x.ad x.n x.at_) (hxo : x.act.Ok) (hv : VA w a n vs) :
    Calls Tryz.prog 124 #[.slice a n ca, .func (.func 125) #[] #[.pointer (some ⟨g, 0, none⟩)]] w fun e w' => e = .returned (.bool (vs.any (lateB x.ver))) ∧ Bl w w' := by
  go_enter Tryz.func124, Tryz.ntmps124
  go_wp2_with fail
  refine (indexL_any x g a n ca vs _ hx hxi hxo hv).mono ?_
  rintro e w' ⟨k, rfl, hk, hb⟩
  have HK := Lib.hid hk
  clear hk
  go_wp2_with fail
  go_ret
  refine ⟨ret_bool ?_, hb⟩
  have := HK.out
  cases hq : vs.any (lateB x.ver)
  · rw [hq] at this; simp at this ⊢; omega
  · rw [hq] at this; simp at this ⊢; omega
end Go.Proofs.YtfjjnffifnohkaaGreat
end
