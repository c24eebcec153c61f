/- the state of proto.GetReply's closure. By an AI agent. -/
import Derived.Test.YtechiehbigmjbaaReply3
import Derived.Test.YtechiehbigmjbaaFill
import Derived.Test.YtechiehbigmjbaaProt7
set_option linter.unusedVariables false
set_option linter.unusedSimpArgs false
namespace Go.Proofs.Ytechiehbigmjbaa
open Go.RowKit

/-! ### worlds that agree below a block -/
theorem AC.below {B : Nat} {w w' : World} {g : Nat} {cs : List Value} (h : AC w g cs) (hb : Below B w w') (hg : g < B) : AC w' g cs := by
  obtain ⟨t, h⟩ := h
  exact ⟨t, by rw [hb.block g hg]; exact h⟩
theorem C1.below {B : Nat} {w w' : World} {g : Nat} {v : Value} (h : C1 w g v) (hb : Below B w w') (hg : g < B) : C1 w' g v := by
  obtain ⟨t, h⟩ := h
  exact ⟨t, by rw [hb.block g hg]; exact h⟩
theorem IA.below {B : Nat} {w w' : World} {a : Option Addr} {n : Nat} {xs : List Int} (h : IA w a n xs) (hb : Below B w w') (hg : ∀ b off, a = some ⟨b, off, none⟩ → n = 0 ∨ b < B) : IA w' a n xs := by
  refine ⟨h.len, h.cap, fun i hi => ?_, h.wf⟩
  obtain ⟨b, off, e, hc⟩ := h.cells i hi
  refine ⟨b, off, e, fun i hi => ?_⟩
  have hB : b < B := by
    have := hg b off e
    omega
  rw [← hc i hi]
  unfold World.cell?
  rw [hb.block b hB]

/-! ### a slice of pairs that lies from a block on -/
theorem PA.apart {w : World} {a : Option Addr} {n : Nat} {ps : List (ByteArray × ValL)} (h : PA w a n ps) {q : Nat} (hq : ∀ b off, a = some ⟨b, off, none⟩ → n = 0 ∨ b ≠ q) (j : Nat) (u : Value) : PA (w.setCell ⟨q, j, none⟩ u) a n ps := by
  refine ⟨h.len, h.cap, fun i hi => ?_⟩
  obtain ⟨b, off, e, hc⟩ := h.cells i hi
  refine ⟨b, off, e, fun i hi => ?_⟩
  have hne : b ≠ q := by
    have := hq b off e
    omega
  have key : ∀ k v, w.cell? ⟨b, k, none⟩ = some v → (w.setCell ⟨q, j, none⟩ u).cell? ⟨b, k, none⟩ = some v := fun k v hv => by
    rw [← hv]
    unfold World.cell?
    rw [Below.heap_setCell _ _ _ _ hne]
  have c := hc i hi
  exact ⟨key _ _ c.c0, key _ _ c.c1, key _ _ c.c2, key _ _ c.c3, key _ _ c.c4⟩
def FarPA (B : Nat) (w : World) (a : Option Addr) (n : Nat) (ps : List (ByteArray × ValL)) : Prop := PA w a n ps ∧ ∀ b off, a = some ⟨b, off, none⟩ → n = 0 ∨ B ≤ b
theorem FarPA.keep {B : Nat} {w w' : World} {a : Option Addr} {n : Nat} {ps : List (ByteArray × ValL)} (h : FarPA B w a n ps) (hb : Bl w w') : FarPA B w' a n ps := ⟨h.1.keep hb, h.2⟩
theorem FarPA.mono {B B' : Nat} {w : World} {a : Option Addr} {n : Nat} {ps : List (ByteArray × ValL)} (h : FarPA B w a n ps) (hB : B' ≤ B) : FarPA B' w a n ps := ⟨h.1, fun b off e => by have := h.2 b off e; omega⟩
theorem FarPA.set {B : Nat} {w : World} {a : Option Addr} {n : Nat} {ps : List (ByteArray × ValL)} (h : FarPA B w a n ps) {q : Nat} (hq : q < B) (j : Nat) (u : Value) : FarPA B (w.setCell ⟨q, j, none⟩ u) a n ps :=
  ⟨h.1.apart (fun b off e => by have := h.2 b off e; omega) j u, h.2⟩
theorem FarPA.fill {B : Nat} {a : Option Addr} {n : Nat} {ps : List (ByteArray × ValL)} {q : Nat} (hq : q < B) (vs : List Value) : ∀ (w : World) (j : Nat), FarPA B w a n ps → FarPA B (Go.Proofs.Ytechiehbigmjbaa.fill w q j vs) a n ps := by
  induction vs with
  | nil => intro w j h; exact h
  | cons v vs ih => intro w j h; exact ih _ _ (h.set hq j v)
theorem FarPA.nil (B : Nat) (w : World) : FarPA B w none 0 [] := ⟨⟨rfl, by decide, fun j hj => absurd hj (Nat.not_lt_zero _)⟩, fun _ _ _ => .inl rfl⟩

/-! ### own rows of pairs -/
def cellsP (ps : List (ByteArray × ValL)) : List Value := ps.flatMap pairCs
theorem cellsP_snoc (ps : List (ByteArray × ValL)) (p : ByteArray × ValL) : cellsP (ps ++ [p]) = cellsP ps ++ pairCs p := by simp [cellsP]
theorem cellsP_len (ps : List (ByteArray × ValL)) : (cellsP ps).length = ps.length * 5 := by
  induction ps with
  | nil => rfl
  | cons p ps ih =>
    have : cellsP (p :: ps) = pairCs p ++ cellsP ps := by simp [cellsP]
    rw [this, List.length_append, ih]
    show 5 + _ = _
    rw [List.length_cons]; omega
theorem cellsP_get : ∀ (ps : List (ByteArray × ValL)) (j : Nat), j < ps.length → ∀ r, r < 5 → (cellsP ps)[j * 5 + r]? = (pairCs (nthQ ps j))[r]?
  | [], j, hj, _, _ => by simp at hj
  | p :: ps, 0, _, r, hr => by
    have e : cellsP (p :: ps) = pairCs p ++ cellsP ps := by simp [cellsP]
    rw [e, Nat.zero_mul, Nat.zero_add, List.getElem?_append_left (show r < (pairCs p).length from hr)]
    rfl
  | p :: ps, j + 1, hj, r, hr => by
    have e : cellsP (p :: ps) = pairCs p ++ cellsP ps := by simp [cellsP]
    have hl : (pairCs p).length = 5 := rfl
    rw [e, List.getElem?_append_right (by rw [hl]; omega), hl, show (j + 1) * 5 + r - 5 = j * 5 + r by omega]
    have h1 := cellsP_get ps j (by simpa using hj) r hr
    rw [h1]
    have h2 : nthQ (p :: ps) (j + 1) = nthQ ps j := by unfold nthQ; simp
    rw [h2]
def OPR (B : Nat) (w : World) (v : Value) (k : Nat) (ps : List (ByteArray × ValL)) : Prop := ps.length = k ∧ w.ownsRow B 87 5 v k (cellsP ps)
theorem OPR.nil (B : Nat) (w : World) : OPR B w (.slice none 0 0) 0 [] := ⟨rfl, World.ownsRow_nil _ _ _ _⟩
theorem OPR.keep {B : Nat} {w w' : World} {v : Value} {k : Nat} {ps : List (ByteArray × ValL)} (h : OPR B w v k ps) (hb : Bl w w') : OPR B w' v k ps := ⟨h.1, ownsRow_bl h.2 hb⟩
theorem OPR.set {B : Nat} {w : World} {v : Value} {k : Nat} {ps : List (ByteArray × ValL)} (h : OPR B w v k ps) {q : Nat} (hq : q < B) (j : Nat) (u : Value) : OPR B (w.setCell ⟨q, j, none⟩ u) v k ps := by
  refine ⟨h.1, ?_⟩
  obtain ⟨h1, h2 | ⟨g, cap, cur, hv, hB, hg, r⟩⟩ := h.2
  · exact ⟨h1, .inl h2⟩
  · exact ⟨h1, .inr ⟨g, cap, cur, hv, hB, by rw [Below.heap_setCell _ _ _ _ (show g ≠ q by omega)]; exact hg, r⟩⟩
theorem OPR.form {B : Nat} {w : World} {v : Value} {k : Nat} {ps : List (ByteArray × ValL)} (h : OPR B w v k ps) : ∃ a ca, v = .slice a k ca := by
  obtain ⟨h1, ⟨hv, hk⟩ | ⟨g, cap, cur, hv, hB, hg, r⟩⟩ := h.2
  · subst hk; exact ⟨_, _, hv⟩
  · exact ⟨_, _, hv⟩
theorem OPR.far {B : Nat} {w : World} {a : Option Addr} {k k' ca : Nat} {ps : List (ByteArray × ValL)} (h : OPR B w (.slice a k' ca) k ps) (hk : k ≤ 10000) : FarPA B w a k ps := by
  obtain ⟨h0, hown⟩ := h
  obtain ⟨h1, ⟨hv, hk0⟩ | ⟨g, cap, cur, hv, hB, hg, r⟩⟩ := hown
  · simp only [Value.slice.injEq] at hv
    obtain ⟨rfl, -, -⟩ := hv
    subst hk0
    have : ps = [] := List.eq_nil_of_length_eq_zero h0
    subst this
    exact FarPA.nil _ _
  · simp only [Value.slice.injEq] at hv
    obtain ⟨rfl, rfl, rfl⟩ := hv
    have hown : w.ownsRow B 87 5 (.slice (some ⟨g, 0, none⟩) k' ca) k' (cellsP ps) := ⟨h1, .inr ⟨g, ca, cur, rfl, hB, hg, r⟩⟩
    refine ⟨⟨h0, hk, fun j0 _ => ⟨g, 0, rfl, fun j hj => ?_⟩⟩, fun b off e => ?_⟩
    · have key : ∀ r, r < 5 → w.cell? ⟨g, 0 + j * 5 + r, none⟩ = (pairCs (nthQ ps j))[r]? := fun r hr => by
        rw [show 0 + j * 5 + r = j * 5 + r by omega, hown.cellAt (j * 5 + r) (by omega), cellsP_get ps j (by omega) r hr]
      exact ⟨key 0 (by decide), key 1 (by decide), key 2 (by decide), key 3 (by decide), key 4 (by decide)⟩
    · simp only [Option.some.injEq, Addr.mk.injEq, and_true] at e
      exact .inr (by omega)
theorem el_pair : EL 73 87 5 56 := el_of Try.underlying73 (by kernel_rfl) (by decide)

/-! ### the closure's boxes -/
def zeroRepCs : List Value := repCs 0 0 none 0 0 false 0 0 ⟨#[]⟩ none 0 0 ⟨#[]⟩
structure GR (w W : World) (l : List UInt8) : Prop where
  bl : Bl w W
  r : AC W w.heap.size zeroRepCs
  c : C1 W (w.heap.size + 1) (.string (strL l))
theorem GR.keep {w W W' : World} {l : List UInt8} (h : GR w W l) (k : Bl W W') : GR w W' l := ⟨h.bl.trans k, h.r.keep k, h.c.keep k⟩
theorem GR.set {w W : World} {l : List UInt8} (h : GR w W l) (m : List UInt8) : GR w (W.setCell ⟨w.heap.size + 1, 0, none⟩ (.string (strL m))) m :=
  ⟨h.bl.setCell (p := ⟨w.heap.size + 1, 0, none⟩) (Nat.le_succ _) _, h.r.other (by omega), h.c.set _⟩
theorem GR.new (w : World) (l : List UInt8) (T U : TypeId) : GR w ((w.alloc (.cells zeroRepCs.toArray T)).alloc (.cells #[.string (strL l)] U)) l :=
  ⟨((Bl.refl w).alloc _).alloc _, (AC.new w _ rfl zeroRepCs T).keep ((Bl.refl _).alloc _), C1.new _ (w.heap.size + 1) (by simp) _ U⟩
theorem GR.bad {w W W' : World} {l : List UInt8} (h : GR w W l) {r : ByteArray} (hb : Bl (W.setCell ⟨w.heap.size + 1, 0, none⟩ (.string r)) W') : Bl w W' :=
  (show Bl w (W.setCell ⟨w.heap.size + 1, 0, none⟩ (.string r)) from h.bl.setCell (p := ⟨w.heap.size + 1, 0, none⟩) (Nat.le_succ _) _).trans hb
theorem GR.lt {w W : World} {l : List UInt8} (h : GR w W l) : w.heap.size + 1 < W.heap.size := h.c.lt
/-- .. and the answer's own box, with its pairs so far -/
structure PG (w W : World) (l : List UInt8) (gx : Nat) (cs : List Value) (ad : Option Addr) (n : Nat) (xs : List Int) (pv : Value) (k : Nat) (acc : List (ByteArray × ValL)) : Prop where
  g : GR w W l
  a : AC W gx cs
  x : IA W ad n xs
  ap : ∀ b off, ad = some ⟨b, off, none⟩ → n = 0 ∨ (w.heap.size + 1 + 1 ≤ b ∧ b < gx)
  o : OPR (gx + 1) W pv k acc
  ge : w.heap.size + 1 + 1 ≤ gx
  lt : gx < W.heap.size
theorem PG.keep {w W W' : World} {l : List UInt8} {gx : Nat} {cs : List Value} {ad : Option Addr} {n : Nat} {xs : List Int} {pv : Value} {k : Nat} {acc : List (ByteArray × ValL)} (h : PG w W l gx cs ad n xs pv k acc) (b : Bl W W') : PG w W' l gx cs ad n xs pv k acc :=
  ⟨h.g.keep b, h.a.keep b, h.x.keep b, h.ap, h.o.keep b, h.ge, Nat.lt_of_lt_of_le h.lt b.size⟩
theorem PG.set {w W : World} {l : List UInt8} {gx : Nat} {cs : List Value} {ad : Option Addr} {n : Nat} {xs : List Int} {pv : Value} {k : Nat} {acc : List (ByteArray × ValL)} (h : PG w W l gx cs ad n xs pv k acc) (m : List UInt8) : PG w (W.setCell ⟨w.heap.size + 1, 0, none⟩ (.string (strL m))) m gx cs ad n xs pv k acc :=
  ⟨h.g.set m, h.a.other (by have := h.ge; omega), h.x.apart (fun b off e => by have := h.ap b off e; omega) _ _, h.ap, h.o.set (by have := h.ge; omega) _ _, h.ge, by simpa using h.lt⟩
theorem PG.new {w W : World} {l : List UInt8} {ad : Option Addr} {n : Nat} {xs : List Int} (g : GR w W l) (x : FarIA (w.heap.size + 1 + 1) W ad n xs) (cs : List Value) (T : TypeId) : PG w (W.alloc (.cells cs.toArray T)) l W.heap.size cs ad n xs (.slice none 0 0) 0 [] :=
  ⟨g.keep ((Bl.refl W).alloc _), AC.new W _ rfl cs T, x.1.keep ((Bl.refl W).alloc _), fun b off e => by have h1 := x.2 b off e; have h2 := x.1.block b off e; omega, OPR.nil _ _, g.lt, by simp⟩
/-- a pair is put behind the others -/
theorem PG.app {w W W' : World} {l : List UInt8} {gx : Nat} {cs : List Value} {ad : Option Addr} {n : Nat} {xs : List Int} {pv v' : Value} {k : Nat} {acc : List (ByteArray × ValL)} (h : PG w W l gx cs ad n xs pv k acc) (p : ByteArray × ValL)
    (ho : W'.ownsRow (gx + 1) 87 5 v' (k + 1) (cellsP acc ++ pairCs p)) (hg : W.grownBy W' pv.ownBlock) : PG w W' l gx cs ad n xs v' (k + 1) (acc ++ [p]) := by
  have hb : Below (gx + 1) W W' := Below.grown (Below.refl _ W) hg (by have := h.lt; omega) (fun q hq => (World.ownsRow.lt h.o.2 q hq).1)
  have hge := h.ge
  refine ⟨⟨Below.trans h.g.bl (Below.mono hb (by omega)), h.g.r.below hb (by omega), h.g.c.below hb (by omega)⟩, h.a.below hb (by omega), h.x.below hb (fun b off e => by have := h.ap b off e; omega), h.ap, ⟨by rw [List.length_append, h.o.1]; rfl, by rw [cellsP_snoc]; exact ho⟩, h.ge, Nat.lt_of_lt_of_le h.lt hb.size⟩
/-- .. and stored -/
theorem PG.store {w W : World} {l : List UInt8} {gx : Nat} {cs : List Value} {ad : Option Addr} {n : Nat} {xs : List Int} {pv : Value} {k : Nat} {acc : List (ByteArray × ValL)} (h : PG w W l gx cs ad n xs pv k acc) (j : Nat) (v : Value) : PG w (W.setCell ⟨gx, j, none⟩ v) l gx (cs.set j v) ad n xs pv k acc := by
  have hge := h.ge
  exact ⟨⟨h.g.bl.setCell (p := ⟨gx, j, none⟩) (by show w.heap.size ≤ gx; omega) v, h.g.r.other (by omega), h.g.c.otherj (by omega)⟩, h.a.setj j v, h.x.apart (fun b off e => by have := h.ap b off e; omega) _ _, h.ap, h.o.set (Nat.lt_succ_self _) _ _, h.ge, by simpa using h.lt⟩

/-- what the closure comes to -/
def RepPost (w : World) (l : List UInt8) (e : Ending) (w' : World) : Prop :=
  (∃ (r : ReplyL) (ad : Option Addr) (n ca : Nat) (pd : Option Addr) (pn pc : Nat), rdReply l = some r ∧ e = .returned (repV r.code r.num ad n ca r.val.there r.val.x r.val.n r.val.s pd pn pc r.text) ∧ FarIA w.heap.size w' ad n r.at_ ∧ FarPA w.heap.size w' pd pn r.pairs ∧ Bl w w') ∨
  (rdReply l = none ∧ e = panE ∧ Bl w w')
theorem gr_results {tmps : Array Value} {W : World} {g : Nat} {code num : Int} {ad : Option Addr} {n ca : Nat} {t : Bool} {x : Nat} {m : Int} {s : ByteArray} {pd : Option Addr} {pn pc : Nat} {text : ByteArray} (h : tmps.getD 1 undef = .pointer (some ⟨g, 0, none⟩)) (hc : AC W g (repCs code num ad n ca t x m s pd pn pc text)) :
    (results Try.f120 tmps).run Try.prog W = .ok (repV code num ad n ca t x m s pd pn pc text) W := by
  rw [Array.getD_eq_getD_getElem?] at h
  obtain ⟨c0, c1, c2, c3, c4, c5, c6, c7, c8⟩ := hc.rep
  simp [results, Try.results120, go_sem, h, c0, c1, c2, c3, c4, c5, c6, c7, c8, repV]
end Go.Proofs.Ytechiehbigmjbaa
