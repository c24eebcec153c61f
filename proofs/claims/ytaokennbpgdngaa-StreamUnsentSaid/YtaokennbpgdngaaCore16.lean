import Derived.Test.YtaokennbpgdngaaCore7
import Derived.Test.YtaokennbpgdngaaCore13

/- slices of writes, own rows of writes. By an AI agent. -/
section
set_option linter.unusedVariables false
set_option linter.unusedSimpArgs false
namespace Go.Proofs.Ytaokennbpgdngaa
open Go.RowKit

def writeCs (p : ByteArray × ActL) : List Value := [.string p.1, .int .i64 p.2.k, .float .f64 p.2.x, .int .i64 p.2.n, .string p.2.s]
/-- the five cells of a pair -/
structure WC (w : World) (b off : Nat) (p : ByteArray × ActL) : Prop where
  c0 : w.cell? ⟨b, off, none⟩ = some (.string p.1)
  c1 : w.cell? ⟨b, off + 1, none⟩ = some (.int .i64 p.2.k)
  c2 : w.cell? ⟨b, off + 2, none⟩ = some (.float .f64 p.2.x)
  c3 : w.cell? ⟨b, off + 3, none⟩ = some (.int .i64 p.2.n)
  c4 : w.cell? ⟨b, off + 4, none⟩ = some (.string p.2.s)
theorem WC.keep {w w' : World} {b off : Nat} {p : ByteArray × ActL} (h : WC w b off p) (k : Bl w w') : WC w' b off p := ⟨k.cell h.c0, k.cell h.c1, k.cell h.c2, k.cell h.c3, k.cell h.c4⟩
/-- a slice that reads as pairs -/
structure WA (w : World) (a : Option Addr) (n : Nat) (ps : List (ByteArray × ActL)) : Prop where
  len : ps.length = n
  cap : n ≤ 1000000
  cells : ∀ j, j < n → ∃ b off, a = some ⟨b, off, none⟩ ∧ ∀ j, j < n → WC w b (off + j * 5) (nthW ps j)
theorem WA.keep {w w' : World} {a : Option Addr} {n : Nat} {ps : List (ByteArray × ActL)} (h : WA w a n ps) (k : Bl w w') : WA w' a n ps :=
  ⟨h.len, h.cap, fun j hj => by
    obtain ⟨b, off, e, hc⟩ := h.cells j hj
    exact ⟨b, off, e, fun j hj => (hc j hj).keep k⟩⟩
theorem WA.get {w W : World} {b off n : Nat} {ps : List (ByteArray × ActL)} (h : WA w (some ⟨b, off, none⟩) n ps) (hb : Bl w W) {k : Nat} (hk : k < n) : WC W b (off + k * 5) (nthW ps k) := by
  obtain ⟨b', off', e, hc⟩ := h.cells k hk
  cases e
  exact (hc k hk).keep hb

/-! ### a slice of pairs that lies from a block on -/
theorem WA.apart {w : World} {a : Option Addr} {n : Nat} {ps : List (ByteArray × ActL)} (h : WA w a n ps) {q : Nat} (hq : ∀ b off, a = some ⟨b, off, none⟩ → n = 0 ∨ b ≠ q) (j : Nat) (u : Value) : WA (w.setCell ⟨q, j, none⟩ u) a n ps := by
  refine ⟨h.len, h.cap, fun i hi => ?_⟩
  obtain ⟨b, off, e, hc⟩ := h.cells i hi
  refine ⟨b, off, e, fun i hi => ?_⟩
  have hne : b ≠ q := by
    have := hq b off e
    omega
  have key : ∀ k v, w.cell? ⟨b, k, none⟩ = some v → (w.setCell ⟨q, j, none⟩ u).cell? ⟨b, k, none⟩ = some v := fun k v hv => by
    rw [← hv]
    unfold World.cell?
    rw [Below.heap_setCell _ _ _ _ hne]
  have c := hc i hi
  exact ⟨key _ _ c.c0, key _ _ c.c1, key _ _ c.c2, key _ _ c.c3, key _ _ c.c4⟩
def FarWA (B : Nat) (w : World) (a : Option Addr) (n : Nat) (ps : List (ByteArray × ActL)) : Prop := WA w a n ps ∧ ∀ b off, a = some ⟨b, off, none⟩ → n = 0 ∨ B ≤ b
theorem FarWA.keep {B : Nat} {w w' : World} {a : Option Addr} {n : Nat} {ps : List (ByteArray × ActL)} (h : FarWA B w a n ps) (hb : Bl w w') : FarWA B w' a n ps := ⟨h.1.keep hb, h.2⟩
theorem FarWA.mono {B B' : Nat} {w : World} {a : Option Addr} {n : Nat} {ps : List (ByteArray × ActL)} (h : FarWA B w a n ps) (hB : B' ≤ B) : FarWA B' w a n ps := ⟨h.1, fun b off e => by have := h.2 b off e; omega⟩
theorem FarWA.set {B : Nat} {w : World} {a : Option Addr} {n : Nat} {ps : List (ByteArray × ActL)} (h : FarWA B w a n ps) {q : Nat} (hq : q < B) (j : Nat) (u : Value) : FarWA B (w.setCell ⟨q, j, none⟩ u) a n ps :=
  ⟨h.1.apart (fun b off e => by have := h.2 b off e; omega) j u, h.2⟩
theorem FarWA.nil (B : Nat) (w : World) : FarWA B w none 0 [] := ⟨⟨rfl, by decide, fun j hj => absurd hj (Nat.not_lt_zero _)⟩, fun _ _ _ => .inl rfl⟩

/-! ### own rows of pairs -/
def cellsW (ps : List (ByteArray × ActL)) : List Value := ps.flatMap writeCs
theorem cellsW_snoc (ps : List (ByteArray × ActL)) (p : ByteArray × ActL) : cellsW (ps ++ [p]) = cellsW ps ++ writeCs p := by simp [cellsW]
theorem cellsW_len (ps : List (ByteArray × ActL)) : (cellsW ps).length = ps.length * 5 := by
  induction ps with
  | nil => rfl
  | cons p ps ih =>
    have : cellsW (p :: ps) = writeCs p ++ cellsW ps := by simp [cellsW]
    rw [this, List.length_append, ih]
    show 5 + _ = _
    rw [List.length_cons]; omega
theorem cellsW_get : ∀ (ps : List (ByteArray × ActL)) (j : Nat), j < ps.length → ∀ r, r < 5 → (cellsW ps)[j * 5 + r]? = (writeCs (nthW ps j))[r]?
  | [], j, hj, _, _ => by simp at hj
  | p :: ps, 0, _, r, hr => by
    have e : cellsW (p :: ps) = writeCs p ++ cellsW ps := by simp [cellsW]
    rw [e, Nat.zero_mul, Nat.zero_add, List.getElem?_append_left (show r < (writeCs p).length from hr)]
    rfl
  | p :: ps, j + 1, hj, r, hr => by
    have e : cellsW (p :: ps) = writeCs p ++ cellsW ps := by simp [cellsW]
    have hl : (writeCs p).length = 5 := rfl
    rw [e, List.getElem?_append_right (by rw [hl]; omega), hl, show (j + 1) * 5 + r - 5 = j * 5 + r by omega]
    have h1 := cellsW_get ps j (by simpa using hj) r hr
    rw [h1]
    have h2 : nthW (p :: ps) (j + 1) = nthW ps j := by unfold nthW; simp
    rw [h2]
def OWR (B : Nat) (w : World) (v : Value) (k : Nat) (ps : List (ByteArray × ActL)) : Prop := ps.length = k ∧ w.ownsRow B 56 5 v k (cellsW ps)
theorem OWR.nil (B : Nat) (w : World) : OWR B w (.slice none 0 0) 0 [] := ⟨rfl, World.ownsRow_nil _ _ _ _⟩
theorem OWR.keep {B : Nat} {w w' : World} {v : Value} {k : Nat} {ps : List (ByteArray × ActL)} (h : OWR B w v k ps) (hb : Bl w w') : OWR B w' v k ps := ⟨h.1, ownsRow_bl h.2 hb⟩
theorem OWR.set {B : Nat} {w : World} {v : Value} {k : Nat} {ps : List (ByteArray × ActL)} (h : OWR B w v k ps) {q : Nat} (hq : q < B) (j : Nat) (u : Value) : OWR B (w.setCell ⟨q, j, none⟩ u) v k ps := by
  refine ⟨h.1, ?_⟩
  obtain ⟨h1, h2 | ⟨g, cap, cur, hv, hB, hg, r⟩⟩ := h.2
  · exact ⟨h1, .inl h2⟩
  · exact ⟨h1, .inr ⟨g, cap, cur, hv, hB, by rw [Below.heap_setCell _ _ _ _ (show g ≠ q by omega)]; exact hg, r⟩⟩
theorem OWR.form {B : Nat} {w : World} {v : Value} {k : Nat} {ps : List (ByteArray × ActL)} (h : OWR B w v k ps) : ∃ a ca, v = .slice a k ca := by
  obtain ⟨h1, ⟨hv, hk⟩ | ⟨g, cap, cur, hv, hB, hg, r⟩⟩ := h.2
  · subst hk; exact ⟨_, _, hv⟩
  · exact ⟨_, _, hv⟩
theorem OWR.far {B : Nat} {w : World} {a : Option Addr} {k k' ca : Nat} {ps : List (ByteArray × ActL)} (h : OWR B w (.slice a k' ca) k ps) (hk : k ≤ 1000000) : FarWA B w a k ps := by
  obtain ⟨h0, hown⟩ := h
  obtain ⟨h1, ⟨hv, hk0⟩ | ⟨g, cap, cur, hv, hB, hg, r⟩⟩ := hown
  · simp only [Value.slice.injEq] at hv
    obtain ⟨rfl, -, -⟩ := hv
    subst hk0
    have : ps = [] := List.eq_nil_of_length_eq_zero h0
    subst this
    exact FarWA.nil _ _
  · simp only [Value.slice.injEq] at hv
    obtain ⟨rfl, rfl, rfl⟩ := hv
    have hown : w.ownsRow B 56 5 (.slice (some ⟨g, 0, none⟩) k' ca) k' (cellsW ps) := ⟨h1, .inr ⟨g, ca, cur, rfl, hB, hg, r⟩⟩
    refine ⟨⟨h0, hk, fun j0 _ => ⟨g, 0, rfl, fun j hj => ?_⟩⟩, fun b off e => ?_⟩
    · have key : ∀ r, r < 5 → w.cell? ⟨g, 0 + j * 5 + r, none⟩ = (writeCs (nthW ps j))[r]? := fun r hr => by
        rw [show 0 + j * 5 + r = j * 5 + r by omega, hown.cellAt (j * 5 + r) (by omega), cellsW_get ps j (by omega) r hr]
      exact ⟨key 0 (by decide), key 1 (by decide), key 2 (by decide), key 3 (by decide), key 4 (by decide)⟩
    · simp only [Option.some.injEq, Addr.mk.injEq, and_true] at e
      exact .inr (by omega)
theorem el_wr : EL 27 56 5 56 := el_of Try.underlying27 (by kernel_rfl) (by decide)
end Go.Proofs.Ytaokennbpgdngaa
end

/- what it is that a value reads as a transaction, a slice as transactions. By an AI agent. -/
section
set_option linter.unusedVariables false
set_option linter.unusedSimpArgs false
namespace Go.Proofs.Ytaokennbpgdngaa
open Go.RowKit

/-- a slice that reads as writes, however long -/
structure WW (w : World) (a : Option Addr) (n : Nat) (ps : List (ByteArray × ActL)) : Prop where
  len : ps.length = n
  cap : n * 56 ≤ 140737488351232
  cells : ∀ j, j < n → ∃ b off, a = some ⟨b, off, none⟩ ∧ ∀ j, j < n → WC w b (off + j * 5) (nthW ps j)
  ok : ∀ p ∈ ps, WrOk p
theorem WW.keep {w w' : World} {a : Option Addr} {n : Nat} {ps : List (ByteArray × ActL)} (h : WW w a n ps) (k : Bl w w') : WW w' a n ps :=
  ⟨h.len, h.cap, fun j hj => by
    obtain ⟨b, off, e, hc⟩ := h.cells j hj
    exact ⟨b, off, e, fun j hj => (hc j hj).keep k⟩, h.ok⟩
theorem WW.get {w W : World} {b off n : Nat} {ps : List (ByteArray × ActL)} (h : WW w (some ⟨b, off, none⟩) n ps) (hb : Bl w W) {k : Nat} (hk : k < n) : WC W b (off + k * 5) (nthW ps k) := by
  obtain ⟨b', off', e, hc⟩ := h.cells k hk
  cases e
  exact (hc k hk).keep hb
theorem WW.wa {w : World} {a : Option Addr} {n : Nat} {ps : List (ByteArray × ActL)} (h : WW w a n ps) (hn : n ≤ 1000000) : WA w a n ps := ⟨h.len, hn, h.cells⟩
theorem WA.ww {w : World} {a : Option Addr} {n : Nat} {ps : List (ByteArray × ActL)} (h : WA w a n ps) (ok : ∀ p ∈ ps, WrOk p) : WW w a n ps := ⟨h.len, by have := h.cap; omega, h.cells, ok⟩
theorem WW.nil (w : World) (a : Option Addr) : WW w a 0 [] := ⟨rfl, by decide, fun j hj => absurd hj (Nat.not_lt_zero _), fun p h => by simp at h⟩
theorem WA.lit1 (w : World) (p : ByteArray × ActL) (T : TypeId) : WA (w.alloc (.cells (writeCs p).toArray T)) (some ⟨w.heap.size, 0, none⟩) 1 [p] := by
  have h := AC.new w _ rfl (writeCs p) T
  refine ⟨rfl, by decide, fun j hj => ⟨_, _, rfl, fun j hj => ?_⟩⟩
  obtain rfl : j = 0 := by omega
  exact ⟨h.cell 0 _ rfl, h.cell 1 _ rfl, h.cell 2 _ rfl, h.cell 3 _ rfl, h.cell 4 _ rfl⟩

/-- where a transaction's three lists lie -/
structure TxAt where
  da : Option Addr
  dn : Nat
  dc : Nat
  aa : Option Addr
  an : Nat
  ac : Nat
  wa : Option Addr
  wn : Nat
  wc : Nat
def txCs (t : TxnL) (s : TxAt) : List Value := [.int .i64 t.o, .int .i64 t.num, .int .i64 t.prev, .slice s.da s.dn s.dc, .slice s.aa s.an s.ac, .slice s.wa s.wn s.wc]
def txV (t : TxnL) (s : TxAt) : Value := .agg #[.int .i64 t.o, .int .i64 t.num, .int .i64 t.prev, .slice s.da s.dn s.dc, .slice s.aa s.an s.ac, .slice s.wa s.wn s.wc]
structure TX (w : World) (s : TxAt) (t : TxnL) : Prop where
  deps : IA w s.da s.dn t.deps
  at_ : IA w s.aa s.an t.at_
  ws : WW w s.wa s.wn t.ws
  o : -9223372036854775808 ≤ t.o ∧ t.o ≤ 9223372036854775807
  num : -9223372036854775808 ≤ t.num ∧ t.num ≤ 9223372036854775807
  prev : -9223372036854775808 ≤ t.prev ∧ t.prev ≤ 9223372036854775807
theorem TX.keep {w w' : World} {s : TxAt} {t : TxnL} (h : TX w s t) (k : Bl w w') : TX w' s t := ⟨h.deps.keep k, h.at_.keep k, h.ws.keep k, h.o, h.num, h.prev⟩
theorem TX.txOk {w : World} {s : TxAt} {t : TxnL} (h : TX w s t) : TxOk t := ⟨h.o, h.num, h.prev, h.ws.ok⟩
theorem AC.tx {w : World} {g : Nat} {t : TxnL} {s : TxAt} (h : AC w g (txCs t s)) :
    w.cell? ⟨g, 0, none⟩ = some (.int .i64 t.o) ∧ w.cell? ⟨g, 1, none⟩ = some (.int .i64 t.num) ∧ w.cell? ⟨g, 2, none⟩ = some (.int .i64 t.prev) ∧ w.cell? ⟨g, 3, none⟩ = some (.slice s.da s.dn s.dc) ∧ w.cell? ⟨g, 4, none⟩ = some (.slice s.aa s.an s.ac) ∧ w.cell? ⟨g, 5, none⟩ = some (.slice s.wa s.wn s.wc) :=
  ⟨h.cell 0 _ rfl, h.cell 1 _ rfl, h.cell 2 _ rfl, h.cell 3 _ rfl, h.cell 4 _ rfl, h.cell 5 _ rfl⟩
def nilTx : TxnL := ⟨0, 0, 0, [], [], []⟩
def nthT (ts : List TxnL) (j : Nat) : TxnL := ts.getD j nilTx
theorem nthT_eq {ts : List TxnL} {j : Nat} (h : j < ts.length) : nthT ts j = ts[j] := by
  unfold nthT
  rw [List.getD_eq_getElem?_getD, List.getElem?_eq_getElem h]; rfl
theorem nthT_mem {ts : List TxnL} {j : Nat} (h : j < ts.length) : nthT ts j ∈ ts := by
  rw [nthT_eq h]; exact List.getElem_mem h
/-- the six cells of a transaction -/
structure TC (w : World) (b off : Nat) (t : TxnL) (s : TxAt) : Prop where
  c0 : w.cell? ⟨b, off, none⟩ = some (.int .i64 t.o)
  c1 : w.cell? ⟨b, off + 1, none⟩ = some (.int .i64 t.num)
  c2 : w.cell? ⟨b, off + 2, none⟩ = some (.int .i64 t.prev)
  c3 : w.cell? ⟨b, off + 3, none⟩ = some (.slice s.da s.dn s.dc)
  c4 : w.cell? ⟨b, off + 4, none⟩ = some (.slice s.aa s.an s.ac)
  c5 : w.cell? ⟨b, off + 5, none⟩ = some (.slice s.wa s.wn s.wc)
theorem TC.keep {w w' : World} {b off : Nat} {t : TxnL} {s : TxAt} (h : TC w b off t s) (k : Bl w w') : TC w' b off t s := ⟨k.cell h.c0, k.cell h.c1, k.cell h.c2, k.cell h.c3, k.cell h.c4, k.cell h.c5⟩
/-- a slice that reads as transactions -/
structure TS (w : World) (a : Option Addr) (n : Nat) (ts : List TxnL) (f : Nat → TxAt) : Prop where
  len : ts.length = n
  cap : n * 96 ≤ 140737488351232
  cells : ∀ j, j < n → ∃ b off, a = some ⟨b, off, none⟩ ∧ ∀ j, j < n → TC w b (off + j * 6) (nthT ts j) (f j)
  tx : ∀ j, j < n → TX w (f j) (nthT ts j)
theorem TS.keep {w w' : World} {a : Option Addr} {n : Nat} {ts : List TxnL} {f : Nat → TxAt} (h : TS w a n ts f) (k : Bl w w') : TS w' a n ts f :=
  ⟨h.len, h.cap, fun j hj => by
    obtain ⟨b, off, e, hc⟩ := h.cells j hj
    exact ⟨b, off, e, fun j hj => (hc j hj).keep k⟩, fun j hj => (h.tx j hj).keep k⟩
theorem TS.get {w W : World} {b off n : Nat} {ts : List TxnL} {f : Nat → TxAt} (h : TS w (some ⟨b, off, none⟩) n ts f) (hb : Bl w W) {k : Nat} (hk : k < n) : TC W b (off + k * 6) (nthT ts k) (f k) := by
  obtain ⟨b', off', e, hc⟩ := h.cells k hk
  cases e
  exact (hc k hk).keep hb
theorem TS.nil (w : World) (a : Option Addr) (f : Nat → TxAt) : TS w a 0 [] f := ⟨rfl, by decide, fun j hj => absurd hj (Nat.not_lt_zero _), fun j hj => absurd hj (Nat.not_lt_zero _)⟩
theorem TS.lit1 {w : World} {t : TxnL} {s : TxAt} (h : TX w s t) (T : TypeId) : TS (w.alloc (.cells (txCs t s).toArray T)) (some ⟨w.heap.size, 0, none⟩) 1 [t] (fun _ => s) := by
  have g := AC.new w _ rfl (txCs t s) T
  refine ⟨rfl, by decide, fun j hj => ⟨_, _, rfl, fun j hj => ?_⟩, fun j hj => ?_⟩
  · obtain rfl : j = 0 := by omega
    exact ⟨g.cell 0 _ rfl, g.cell 1 _ rfl, g.cell 2 _ rfl, g.cell 3 _ rfl, g.cell 4 _ rfl, g.cell 5 _ rfl⟩
  · obtain rfl : j = 0 := by omega
    exact h.keep ((Bl.refl w).alloc _)
end Go.Proofs.Ytaokennbpgdngaa
end
