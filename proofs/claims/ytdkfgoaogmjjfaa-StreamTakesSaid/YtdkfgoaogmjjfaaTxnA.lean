/- what it is that a value reads as a transaction, a slice as transactions. By an AI agent. -/
import Derived.Test.YtdkfgoaogmjjfaaWriteA
set_option linter.unusedVariables false
set_option linter.unusedSimpArgs false
namespace Go.Proofs.Ytdkfgoaogmjjfaa
open Go.RowKit

/-- a slice that reads as writes, however long -/
structure WW (w : World) (a : Option Addr) (n : Nat) (ps : List (ByteArray × ActL)) : Prop where
  len : ps.length = n
  cap : n * 56 ≤ 140737488351232
  cells : ∀ j, j < n → ∃ b off, a = some ⟨b, off, none⟩ ∧ ∀ j, j < n → WC w b (off + j * 5) (nthW ps j)
  ok : ∀ p ∈ ps, WrOk p
theorem WW.keep {w w' : World} {a : Option Addr} {n : Nat} {ps : List (ByteArray × ActL)} (h : WW w a n ps) (k : Bl w w') : WW w' a n ps :=
  ⟨h.len, h.cap, fun j hj => by
    obtain ⟨b, off, e, hc⟩ := h.cells j hj
    exact ⟨b, off, e, fun j hj => (hc j hj).keep k⟩, h.ok⟩
theorem WW.get {w W : World} {b off n : Nat} {ps : List (ByteArray × ActL)} (h : WW w (some ⟨b, off, none⟩) n ps) (hb : Bl w W) {k : Nat} (hk : k < n) : WC W b (off + k * 5) (nthW ps k) := by
  obtain ⟨b', off', e, hc⟩ := h.cells k hk
  cases e
  exact (hc k hk).keep hb
theorem WW.wa {w : World} {a : Option Addr} {n : Nat} {ps : List (ByteArray × ActL)} (h : WW w a n ps) (hn : n ≤ 1000000) : WA w a n ps := ⟨h.len, hn, h.cells⟩
theorem WA.ww {w : World} {a : Option Addr} {n : Nat} {ps : List (ByteArray × ActL)} (h : WA w a n ps) (ok : ∀ p ∈ ps, WrOk p) : WW w a n ps := ⟨h.len, by have := h.cap; omega, h.cells, ok⟩
theorem WW.nil (w : World) (a : Option Addr) : WW w a 0 [] := ⟨rfl, by decide, fun j hj => absurd hj (Nat.not_lt_zero _), fun p h => by simp at h⟩
theorem WA.lit1 (w : World) (p : ByteArray × ActL) (T : TypeId) : WA (w.alloc (.cells (writeCs p).toArray T)) (some ⟨w.heap.size, 0, none⟩) 1 [p] := by
  have h := AC.new w _ rfl (writeCs p) T
  refine ⟨rfl, by decide, fun j hj => ⟨_, _, rfl, fun j hj => ?_⟩⟩
  obtain rfl : j = 0 := by omega
  exact ⟨h.cell 0 _ rfl, h.cell 1 _ rfl, h.cell 2 _ rfl, h.cell 3 _ rfl, h.cell 4 _ rfl⟩

/-- where a transaction's three lists lie -/
structure TxAt where
  da : Option Addr
  dn : Nat
  dc : Nat
  aa : Option Addr
  an : Nat
  ac : Nat
  wa : Option Addr
  wn : Nat
  wc : Nat
def txCs (t : TxnL) (s : TxAt) : List Value := [.int .i64 t.o, .int .i64 t.num, .int .i64 t.prev, .slice s.da s.dn s.dc, .slice s.aa s.an s.ac, .slice s.wa s.wn s.wc]
def txV (t : TxnL) (s : TxAt) : Value := .agg #[.int .i64 t.o, .int .i64 t.num, .int .i64 t.prev, .slice s.da s.dn s.dc, .slice s.aa s.an s.ac, .slice s.wa s.wn s.wc]
structure TX (w : World) (s : TxAt) (t : TxnL) : Prop where
  deps : IA w s.da s.dn t.deps
  at_ : IA w s.aa s.an t.at_
  ws : WW w s.wa s.wn t.ws
  o : -9223372036854775808 ≤ t.o ∧ t.o ≤ 9223372036854775807
  num : -9223372036854775808 ≤ t.num ∧ t.num ≤ 9223372036854775807
  prev : -9223372036854775808 ≤ t.prev ∧ t.prev ≤ 9223372036854775807
theorem TX.keep {w w' : World} {s : TxAt} {t : TxnL} (h : TX w s t) (k : Bl w w') : TX w' s t := ⟨h.deps.keep k, h.at_.keep k, h.ws.keep k, h.o, h.num, h.prev⟩
theorem TX.txOk {w : World} {s : TxAt} {t : TxnL} (h : TX w s t) : TxOk t := ⟨h.o, h.num, h.prev, h.ws.ok⟩
theorem AC.tx {w : World} {g : Nat} {t : TxnL} {s : TxAt} (h : AC w g (txCs t s)) :
    w.cell? ⟨g, 0, none⟩ = some (.int .i64 t.o) ∧ w.cell? ⟨g, 1, none⟩ = some (.int .i64 t.num) ∧ w.cell? ⟨g, 2, none⟩ = some (.int .i64 t.prev) ∧ w.cell? ⟨g, 3, none⟩ = some (.slice s.da s.dn s.dc) ∧ w.cell? ⟨g, 4, none⟩ = some (.slice s.aa s.an s.ac) ∧ w.cell? ⟨g, 5, none⟩ = some (.slice s.wa s.wn s.wc) :=
  ⟨h.cell 0 _ rfl, h.cell 1 _ rfl, h.cell 2 _ rfl, h.cell 3 _ rfl, h.cell 4 _ rfl, h.cell 5 _ rfl⟩
def nilTx : TxnL := ⟨0, 0, 0, [], [], []⟩
def nthT (ts : List TxnL) (j : Nat) : TxnL := ts.getD j nilTx
theorem nthT_eq {ts : List TxnL} {j : Nat} (h : j < ts.length) : nthT ts j = ts[j] := by
  unfold nthT
  rw [List.getD_eq_getElem?_getD, List.getElem?_eq_getElem h]; rfl
theorem nthT_mem {ts : List TxnL} {j : Nat} (h : j < ts.length) : nthT ts j ∈ ts := by
  rw [nthT_eq h]; exact List.getElem_mem h
/-- the six cells of a transaction -/
structure TC (w : World) (b off : Nat) (t : TxnL) (s : TxAt) : Prop where
  c0 : w.cell? ⟨b, off, none⟩ = some (.int .i64 t.o)
  c1 : w.cell? ⟨b, off + 1, none⟩ = some (.int .i64 t.num)
  c2 : w.cell? ⟨b, off + 2, none⟩ = some (.int .i64 t.prev)
  c3 : w.cell? ⟨b, off + 3, none⟩ = some (.slice s.da s.dn s.dc)
  c4 : w.cell? ⟨b, off + 4, none⟩ = some (.slice s.aa s.an s.ac)
  c5 : w.cell? ⟨b, off + 5, none⟩ = some (.slice s.wa s.wn s.wc)
theorem TC.keep {w w' : World} {b off : Nat} {t : TxnL} {s : TxAt} (h : TC w b off t s) (k : Bl w w') : TC w' b off t s := ⟨k.cell h.c0, k.cell h.c1, k.cell h.c2, k.cell h.c3, k.cell h.c4, k.cell h.c5⟩
/-- a slice that reads as transactions -/
structure TS (w : World) (a : Option Addr) (n : Nat) (ts : List TxnL) (f : Nat → TxAt) : Prop where
  len : ts.length = n
  cap : n * 96 ≤ 140737488351232
  cells : ∀ j, j < n → ∃ b off, a = some ⟨b, off, none⟩ ∧ ∀ j, j < n → TC w b (off + j * 6) (nthT ts j) (f j)
  tx : ∀ j, j < n → TX w (f j) (nthT ts j)
theorem TS.keep {w w' : World} {a : Option Addr} {n : Nat} {ts : List TxnL} {f : Nat → TxAt} (h : TS w a n ts f) (k : Bl w w') : TS w' a n ts f :=
  ⟨h.len, h.cap, fun j hj => by
    obtain ⟨b, off, e, hc⟩ := h.cells j hj
    exact ⟨b, off, e, fun j hj => (hc j hj).keep k⟩, fun j hj => (h.tx j hj).keep k⟩
theorem TS.get {w W : World} {b off n : Nat} {ts : List TxnL} {f : Nat → TxAt} (h : TS w (some ⟨b, off, none⟩) n ts f) (hb : Bl w W) {k : Nat} (hk : k < n) : TC W b (off + k * 6) (nthT ts k) (f k) := by
  obtain ⟨b', off', e, hc⟩ := h.cells k hk
  cases e
  exact (hc k hk).keep hb
theorem TS.nil (w : World) (a : Option Addr) (f : Nat → TxAt) : TS w a 0 [] f := ⟨rfl, by decide, fun j hj => absurd hj (Nat.not_lt_zero _), fun j hj => absurd hj (Nat.not_lt_zero _)⟩
theorem TS.lit1 {w : World} {t : TxnL} {s : TxAt} (h : TX w s t) (T : TypeId) : TS (w.alloc (.cells (txCs t s).toArray T)) (some ⟨w.heap.size, 0, none⟩) 1 [t] (fun _ => s) := by
  have g := AC.new w _ rfl (txCs t s) T
  refine ⟨rfl, by decide, fun j hj => ⟨_, _, rfl, fun j hj => ?_⟩, fun j hj => ?_⟩
  · obtain rfl : j = 0 := by omega
    exact ⟨g.cell 0 _ rfl, g.cell 1 _ rfl, g.cell 2 _ rfl, g.cell 3 _ rfl, g.cell 4 _ rfl, g.cell 5 _ rfl⟩
  · obtain rfl : j = 0 := by omega
    exact h.keep ((Bl.refl w).alloc _)
end Go.Proofs.Ytdkfgoaogmjjfaa
