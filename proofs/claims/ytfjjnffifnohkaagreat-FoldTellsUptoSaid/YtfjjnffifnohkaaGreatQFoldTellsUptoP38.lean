import Derived.Test.YtfjjnffifnohkaaGreatQFoldTellsUptoP3
import Derived.Test.YtfjjnffifnohkaaGreatQFoldTellsUptoP15
import Derived.Test.YtfjjnffifnohkaaGreatQFoldTellsUptoP37
import Derived.Test.YtfjjnffifnohkaaGreatQFoldTellsUptoP28
import Derived.Test.YtfjjnffifnohkaaGreatQFoldTellsUptoP1
import Derived.Test.YtfjjnffifnohkaaGreatQFoldTellsUptoP14
import Derived.Test.YtfjjnffifnohkaaGreatShelf
import Derived.Lib.Strings
import Derived.Lib.Slices
import Derived.Lib.Builder
import Derived.Lib.AppendStr
import Derived.Lib.UnsafeStr
import Derived.Lib.MakeNoZero
import Derived.Laws.Externs
import Derived.Deep.QuietTactic
import Derived.BigQuiet
import Derived.Test.YtfjjnffifnohkaaGreatQFoldTellsUptoP12
import Derived.Test.YtfjjnffifnohkaaGreatQFoldTellsUptoP7
import Derived.Test.YtfjjnffifnohkaaGreatQFoldTellsUptoP5
import Derived.Test.YtfjjnffifnohkaaGreatQFoldTellsUptoP35
import Derived.Test.YtfjjnffifnohkaaGreatQFoldTellsUptoP34
import Derived.Deep.DeepCutAuto

/- worlds that agree below a block. By an AI agent. -/
section
set_option linter.unusedVariables false
set_option linter.unusedSimpArgs false
namespace Go.Proofs.YtfjjnffifnohkaaGreat
open Go.RowKit

theorem AC.below {B : Nat} {w w' : World} {g : Nat} {cs : List Value} (h : AC w g cs) (hb : Below B w w') (hg : g < B) : AC w' g cs := by
  obtain ⟨t, h⟩ := h
  exact ⟨t, by rw [hb.block g hg]; exact h⟩
theorem C1.below {B : Nat} {w w' : World} {g : Nat} {v : Value} (h : C1 w g v) (hb : Below B w w') (hg : g < B) : C1 w' g v := by
  obtain ⟨t, h⟩ := h
  exact ⟨t, by rw [hb.block g hg]; exact h⟩
theorem IA.below {B : Nat} {w w' : World} {a : Option Addr} {n : Nat} {xs : List Int} (h : IA w a n xs) (hb : Below B w w') (hg : ∀ b off, a = some ⟨b, off, none⟩ → n = 0 ∨ b < B) : IA w' a n xs := by
  refine ⟨h.len, h.cap, fun i hi => ?_, h.wf⟩
  obtain ⟨b, off, e, hc⟩ := h.cells i hi
  refine ⟨b, off, e, fun i hi => ?_⟩
  have hB : b < B := by
    have := hg b off e
    omega
  rw [← hc i hi]
  unfold World.cell?
  rw [hb.block b hB]
end Go.Proofs.YtfjjnffifnohkaaGreat
end

/- transactions, and their bytes: plain definitions and laws. By an AI agent. -/
section
set_option linter.unusedVariables false
set_option linter.unusedSimpArgs false
namespace Go.Proofs.YtfjjnffifnohkaaGreat
open Go.RowKit

structure TxnL where
  o : Int
  num : Int
  prev : Int
  deps : List Int
  at_ : List Int
  ws : List (ByteArray × ActL)
def nthW (ws : List (ByteArray × ActL)) (j : Nat) : ByteArray × ActL := ws.getD j (⟨#[]⟩, ⟨0, 0, 0, ⟨#[]⟩⟩)
theorem nthW_eq {ws : List (ByteArray × ActL)} {j : Nat} (h : j < ws.length) : nthW ws j = ws[j] := by
  unfold nthW
  rw [List.getD_eq_getElem?_getD, List.getElem?_eq_getElem h]; rfl
/-- within Go's bounds -/
def WrOk (p : ByteArray × ActL) : Prop := p.1.size ≤ 140737488351232 ∧ p.2.Ok

/-! ### the same -/
def sameWs (a b : List (ByteArray × ActL)) : Bool := decide (a.length = b.length) && (List.range a.length).all fun i => decide ((nthW a i).1 = (nthW b i).1) && sameA (nthW a i).2 (nthW b i).2

theorem sameWs_iff {a b : List (ByteArray × ActL)} : sameWs a b = true ↔ a.length = b.length ∧ ∀ i, i < a.length → (nthW a i).1 = (nthW b i).1 ∧ sameA (nthW a i).2 (nthW b i).2 = true := by
  unfold sameWs
  rw [Bool.and_eq_true, decide_eq_true_eq, List.all_eq_true]
  constructor
  · rintro ⟨h1, h2⟩
    refine ⟨h1, fun i hi => ?_⟩
    have := h2 i (List.mem_range.2 hi)
    rw [Bool.and_eq_true, decide_eq_true_eq] at this
    exact this
  · rintro ⟨h1, h2⟩
    refine ⟨h1, fun i hi => ?_⟩
    rw [Bool.and_eq_true, decide_eq_true_eq]
    exact h2 i (List.mem_range.1 hi)
/-! ### in bytes -/

end Go.Proofs.YtfjjnffifnohkaaGreat
end

/- writes that are read, and folded to one a key: plain definitions and laws. By an AI agent. -/
section
set_option linter.unusedVariables false
set_option linter.unusedSimpArgs false
namespace Go.Proofs.YtfjjnffifnohkaaGreat
open Go.RowKit

theorem sameWs_refl (ws : List (ByteArray × ActL)) : sameWs ws ws = true := by
  simp only [sameWs, Bool.and_eq_true, decide_eq_true_eq, List.all_eq_true]
  exact ⟨trivial, fun i _ => ⟨trivial, by simp [sameA]⟩⟩
end Go.Proofs.YtfjjnffifnohkaaGreat
end

/- slices of writes, own rows of writes. By an AI agent. -/
section
set_option linter.unusedVariables false
set_option linter.unusedSimpArgs false
namespace Go.Proofs.YtfjjnffifnohkaaGreat
open Go.RowKit

def writeCs (p : ByteArray × ActL) : List Value := [.string p.1, .int .i64 p.2.k, .float .f64 p.2.x, .int .i64 p.2.n, .string p.2.s]
/-- the five cells of a pair -/
structure WC (w : World) (b off : Nat) (p : ByteArray × ActL) : Prop where
  c0 : w.cell? ⟨b, off, none⟩ = some (.string p.1)
  c1 : w.cell? ⟨b, off + 1, none⟩ = some (.int .i64 p.2.k)
  c2 : w.cell? ⟨b, off + 2, none⟩ = some (.float .f64 p.2.x)
  c3 : w.cell? ⟨b, off + 3, none⟩ = some (.int .i64 p.2.n)
  c4 : w.cell? ⟨b, off + 4, none⟩ = some (.string p.2.s)
theorem WC.keep {w w' : World} {b off : Nat} {p : ByteArray × ActL} (h : WC w b off p) (k : Bl w w') : WC w' b off p := ⟨k.cell h.c0, k.cell h.c1, k.cell h.c2, k.cell h.c3, k.cell h.c4⟩
/-- a slice that reads as pairs -/
structure WA (w : World) (a : Option Addr) (n : Nat) (ps : List (ByteArray × ActL)) : Prop where
  len : ps.length = n
  cap : n ≤ 1000000
  cells : ∀ j, j < n → ∃ b off, a = some ⟨b, off, none⟩ ∧ ∀ j, j < n → WC w b (off + j * 5) (nthW ps j)
theorem WA.keep {w w' : World} {a : Option Addr} {n : Nat} {ps : List (ByteArray × ActL)} (h : WA w a n ps) (k : Bl w w') : WA w' a n ps :=
  ⟨h.len, h.cap, fun j hj => by
    obtain ⟨b, off, e, hc⟩ := h.cells j hj
    exact ⟨b, off, e, fun j hj => (hc j hj).keep k⟩⟩
theorem WA.get {w W : World} {b off n : Nat} {ps : List (ByteArray × ActL)} (h : WA w (some ⟨b, off, none⟩) n ps) (hb : Bl w W) {k : Nat} (hk : k < n) : WC W b (off + k * 5) (nthW ps k) := by
  obtain ⟨b', off', e, hc⟩ := h.cells k hk
  cases e
  exact (hc k hk).keep hb

/-! ### a slice of pairs that lies from a block on -/
theorem WA.apart {w : World} {a : Option Addr} {n : Nat} {ps : List (ByteArray × ActL)} (h : WA w a n ps) {q : Nat} (hq : ∀ b off, a = some ⟨b, off, none⟩ → n = 0 ∨ b ≠ q) (j : Nat) (u : Value) : WA (w.setCell ⟨q, j, none⟩ u) a n ps := by
  refine ⟨h.len, h.cap, fun i hi => ?_⟩
  obtain ⟨b, off, e, hc⟩ := h.cells i hi
  refine ⟨b, off, e, fun i hi => ?_⟩
  have hne : b ≠ q := by
    have := hq b off e
    omega
  have key : ∀ k v, w.cell? ⟨b, k, none⟩ = some v → (w.setCell ⟨q, j, none⟩ u).cell? ⟨b, k, none⟩ = some v := fun k v hv => by
    rw [← hv]
    unfold World.cell?
    rw [Below.heap_setCell _ _ _ _ hne]
  have c := hc i hi
  exact ⟨key _ _ c.c0, key _ _ c.c1, key _ _ c.c2, key _ _ c.c3, key _ _ c.c4⟩

/-! ### own rows of pairs -/
def cellsW (ps : List (ByteArray × ActL)) : List Value := ps.flatMap writeCs
theorem cellsW_get : ∀ (ps : List (ByteArray × ActL)) (j : Nat), j < ps.length → ∀ r, r < 5 → (cellsW ps)[j * 5 + r]? = (writeCs (nthW ps j))[r]?
  | [], j, hj, _, _ => by simp at hj
  | p :: ps, 0, _, r, hr => by
    have e : cellsW (p :: ps) = writeCs p ++ cellsW ps := by simp [cellsW]
    rw [e, Nat.zero_mul, Nat.zero_add, List.getElem?_append_left (show r < (writeCs p).length from hr)]
    rfl
  | p :: ps, j + 1, hj, r, hr => by
    have e : cellsW (p :: ps) = writeCs p ++ cellsW ps := by simp [cellsW]
    have hl : (writeCs p).length = 5 := rfl
    rw [e, List.getElem?_append_right (by rw [hl]; omega), hl, show (j + 1) * 5 + r - 5 = j * 5 + r by omega]
    have h1 := cellsW_get ps j (by simpa using hj) r hr
    rw [h1]
    have h2 : nthW (p :: ps) (j + 1) = nthW ps j := by unfold nthW; simp
    rw [h2]
theorem el_wr : EL 133 169 5 56 := el_of Tryz.underlying133 (by kernel_rfl) (by decide)
end Go.Proofs.YtfjjnffifnohkaaGreat
end

/- what it is that a value reads as a transaction, a slice as transactions. By an AI agent. -/
section
set_option linter.unusedVariables false
set_option linter.unusedSimpArgs false
namespace Go.Proofs.YtfjjnffifnohkaaGreat
open Go.RowKit

/-- a slice that reads as writes, however long -/
structure WW (w : World) (a : Option Addr) (n : Nat) (ps : List (ByteArray × ActL)) : Prop where
  len : ps.length = n
  cap : n * 56 ≤ 140737488351232
  cells : ∀ j, j < n → ∃ b off, a = some ⟨b, off, none⟩ ∧ ∀ j, j < n → WC w b (off + j * 5) (nthW ps j)
  ok : ∀ p ∈ ps, WrOk p
theorem WW.keep {w w' : World} {a : Option Addr} {n : Nat} {ps : List (ByteArray × ActL)} (h : WW w a n ps) (k : Bl w w') : WW w' a n ps :=
  ⟨h.len, h.cap, fun j hj => by
    obtain ⟨b, off, e, hc⟩ := h.cells j hj
    exact ⟨b, off, e, fun j hj => (hc j hj).keep k⟩, h.ok⟩
theorem WW.get {w W : World} {b off n : Nat} {ps : List (ByteArray × ActL)} (h : WW w (some ⟨b, off, none⟩) n ps) (hb : Bl w W) {k : Nat} (hk : k < n) : WC W b (off + k * 5) (nthW ps k) := by
  obtain ⟨b', off', e, hc⟩ := h.cells k hk
  cases e
  exact (hc k hk).keep hb
theorem WW.wa {w : World} {a : Option Addr} {n : Nat} {ps : List (ByteArray × ActL)} (h : WW w a n ps) (hn : n ≤ 1000000) : WA w a n ps := ⟨h.len, hn, h.cells⟩
theorem WW.nil (w : World) (a : Option Addr) : WW w a 0 [] := ⟨rfl, by decide, fun j hj => absurd hj (Nat.not_lt_zero _), fun p h => by simp at h⟩

/-- where a transaction's three lists lie -/
structure TxAt where
  da : Option Addr
  dn : Nat
  dc : Nat
  aa : Option Addr
  an : Nat
  ac : Nat
  wa : Option Addr
  wn : Nat
  wc : Nat
def txCs (t : TxnL) (s : TxAt) : List Value := [.int .i64 t.o, .int .i64 t.num, .int .i64 t.prev, .slice s.da s.dn s.dc, .slice s.aa s.an s.ac, .slice s.wa s.wn s.wc]
theorem AC.tx {w : World} {g : Nat} {t : TxnL} {s : TxAt} (h : AC w g (txCs t s)) :
    w.cell? ⟨g, 0, none⟩ = some (.int .i64 t.o) ∧ w.cell? ⟨g, 1, none⟩ = some (.int .i64 t.num) ∧ w.cell? ⟨g, 2, none⟩ = some (.int .i64 t.prev) ∧ w.cell? ⟨g, 3, none⟩ = some (.slice s.da s.dn s.dc) ∧ w.cell? ⟨g, 4, none⟩ = some (.slice s.aa s.an s.ac) ∧ w.cell? ⟨g, 5, none⟩ = some (.slice s.wa s.wn s.wc) :=
  ⟨h.cell 0 _ rfl, h.cell 1 _ rfl, h.cell 2 _ rfl, h.cell 3 _ rfl, h.cell 4 _ rfl, h.cell 5 _ rfl⟩
end Go.Proofs.YtfjjnffifnohkaaGreat
end

/- bedrockref21.SameWrites, bedrockref21.Same. By an AI agent. -/
section
set_option linter.unusedVariables false
set_option linter.unusedSimpArgs false
namespace Go.Proofs.YtfjjnffifnohkaaGreat
open Go.RowKit
attribute [local go_sem] eOp eOper eUpon

theorem beq_key (a b : ByteArray) : (a.toList == b.toList) = decide (a = b) := by
  rw [Bool.eq_iff_iff, beq_iff_eq, decide_eq_true_iff, ByteArray.toList_eq, ByteArray.toList_eq]
  exact ⟨fun h => ByteArray.ext (Array.toList_inj.1 h), fun h => by rw [h]⟩
theorem rsameAct_any (a d : ActL) (w : World) (oa : a.Ok) (ob : d.Ok) :
    Calls Tryz.prog 130 #[.agg #[.int .i64 a.k, .float .f64 a.x, .int .i64 a.n, .string a.s], .agg #[.int .i64 d.k, .float .f64 d.x, .int .i64 d.n, .string d.s]] w fun e w' => e = .returned (.bool (sameA a d)) ∧ Bl w w' := refSameA_any a d w oa ob
end Go.Proofs.YtfjjnffifnohkaaGreat
end

/- bedrockbook.SameWrites. By an AI agent. -/
section
set_option linter.unusedVariables false
set_option linter.unusedSimpArgs false
namespace Go.Proofs.YtfjjnffifnohkaaGreat
open Go.RowKit
attribute [local go_sem] eOp eOper eUpon

set_option maxHeartbeats 6400000 in
set_option maxRecDepth 100000 in
theorem bookSameWs_any (a : Option Addr) (n ca : Nat) (xs : List (ByteArray × ActL)) (b : Option Addr) (m cb : Nat) (ys : List (ByteArray × ActL)) (w : World) (hx : WW w a n xs) (hy : WW w b m ys) :
    Calls Tryz.prog 146 #[.slice a n ca, .slice b m cb] w fun e w' => e = .returned (.bool (sameWs xs ys)) ∧ Bl w w' := by
  have hn := hx.cap
  have hm := hy.cap
  have HX := Lib.hid hx
  have HY := Lib.hid hy
  have HL := Lib.hid hx.len
  have HM := Lib.hid hy.len
  clear hx hy
  by_cases hnm : n = m
  case neg =>
    have q : ((n : Int) != (m : Int)) = true := by rw [bne_iff_ne]; omega
    have HF : Hid (sameWs xs ys = false) := Lib.hid (by
      cases h : sameWs xs ys
      · rfl
      · have := (sameWs_iff.1 h).1; have := HL.out; have := HM.out; omega)
    clear hnm
    go_enter Tryz.func146, Tryz.ntmps146
    go_wp2_with fail
    go_ret
    exact ⟨ret_bool HF.out.symm, Bl.refl _⟩
  subst hnm
  have q : ((n : Int) != (n : Int)) = false := by simp
  go_enter Tryz.func146, Tryz.ntmps146
  go_wp2_with fail
  go_loopw [5] (fun i wr => ∃ k : Nat, k ≤ n ∧ i = .int .i64 k ∧ Bl w wr ∧ ∀ j, j < k → (nthW xs j).1 = (nthW ys j).1 ∧ sameA (nthW xs j).2 (nthW ys j).2 = true) (fun i _ => n - (intOf i).toNat)
  case atStart => exact ⟨0, Nat.zero_le _, rfl, Bl.refl _, fun j hj => absurd hj (Nat.not_lt_zero _)⟩
  case round =>
    obtain ⟨k, hk, rfl, hbl, hok⟩ := hrel
    have HBL := Lib.hid hbl
    have HOK := Lib.hid hok
    clear hbl hok
    by_cases hlt : k < n
    · have hkx : k < xs.length := by rw [HL.out]; exact hlt
      have hky : k < ys.length := by rw [HM.out]; exact hlt
      obtain ⟨ba, oa, rfl, _⟩ := HX.out.cells k hlt
      obtain ⟨bb, ob, rfl, _⟩ := HY.out.cells k hlt
      have HCX := Lib.hid (HX.out.get HBL.out.drew hlt)
      have HCY := Lib.hid (HY.out.get HBL.out.drew hlt)
      have HOX : Hid (WrOk (nthW xs k)) := Lib.hid (HX.out.ok _ (by rw [nthW_eq hkx]; exact List.getElem_mem hkx))
      have HOY : Hid (WrOk (nthW ys k)) := Lib.hid (HY.out.ok _ (by rw [nthW_eq hky]; exact List.getElem_mem hky))
      have HNO : Hid (¬ ((nthW xs k).1 = (nthW ys k).1 ∧ sameA (nthW xs k).2 (nthW ys k).2 = true) → sameWs xs ys = false) := Lib.hid (fun h => by
        cases h2 : sameWs xs ys
        · rfl
        · exact absurd ((sameWs_iff.1 h2).2 k hkx) h)
      have HYES : Hid ((nthW xs k).1 = (nthW ys k).1 ∧ sameA (nthW xs k).2 (nthW ys k).2 = true → ∀ j, j < k + 1 → (nthW xs j).1 = (nthW ys j).1 ∧ sameA (nthW xs j).2 (nthW ys j).2 = true) := Lib.hid (fun h j hj => by
        rcases Nat.lt_succ_iff_lt_or_eq.1 hj with h1 | rfl
        · exact HOK.out j h1
        · exact h)
      generalize nthW xs k = p at *
      generalize nthW ys k = r at *
      obtain ⟨kx, ax⟩ := p
      obtain ⟨ky, ay⟩ := r
      dsimp only at HNO HYES
      have HA := Lib.hid (fun (q : Ext wr.drew) => rsameAct_any ax ay q.at HOX.out.2 HOY.out.2)
      have x0 : ∀ q : Ext wr.drew, _ := fun q => (HCX.out.keep q.bl).c0
      have x1 : ∀ q : Ext wr.drew, _ := fun q => (HCX.out.keep q.bl).c1
      have x2 : ∀ q : Ext wr.drew, _ := fun q => (HCX.out.keep q.bl).c2
      have x3 : ∀ q : Ext wr.drew, _ := fun q => (HCX.out.keep q.bl).c3
      have x4 : ∀ q : Ext wr.drew, _ := fun q => (HCX.out.keep q.bl).c4
      have y0 : ∀ q : Ext wr.drew, _ := fun q => (HCY.out.keep q.bl).c0
      have y1 : ∀ q : Ext wr.drew, _ := fun q => (HCY.out.keep q.bl).c1
      have y2 : ∀ q : Ext wr.drew, _ := fun q => (HCY.out.keep q.bl).c2
      have y3 : ∀ q : Ext wr.drew, _ := fun q => (HCY.out.keep q.bl).c3
      have y4 : ∀ q : Ext wr.drew, _ := fun q => (HCY.out.keep q.bl).c4
      dsimp only at x0 x1 x2 x3 x4 y0 y1 y2 y3 y4
      clear hkx hky
      by_cases hkey : kx = ky
      case neg =>
        have qk : (kx.toList == ky.toList) = false := by rw [beq_key]; exact decide_eq_false hkey
        have HF := Lib.hid (HNO.out (fun h => hkey h.1))
        clear hkey
        go_upto_region 6 with fail
        refine wp_region_allS (by kernel_rfl) (by kernel_rfl) ?_
        repeat (refine wpS_step (fun K hK => ?_); go_simp; first | (refine hK _ ?_; clear hK K) | (apply Exists.intro; refine ⟨fun q => ?_, hK _ ?_⟩; (with_reducible exact HA.out q); clear hK K))
        refine wpS_nil ?_
        intro q1
        have HBN := Lib.hid (HBL.out.trans (((Bl.refl wr).drew).trans q1.bl))
        clear x0 x1 x2 x3 x4 y0 y1 y2 y3 y4
        generalize ExtC.at q1 = Y at *
        go_wp2_with fail
        go_ret
        exact ⟨ret_bool HF.out.symm, HBN.out⟩
      have qk : (kx.toList == ky.toList) = true := by rw [beq_key]; exact decide_eq_true hkey
      cases hs : sameA ax ay
      · have HF := Lib.hid (HNO.out (fun h => by rw [hs] at h; cases h.2))
        have HAF := Lib.hid (fun q => by have := HA.out q; rw [hs] at this; exact this)
        clear hkey hs
        go_upto_region 6 with fail
        refine wp_region_allS (by kernel_rfl) (by kernel_rfl) ?_
        repeat (refine wpS_step (fun K hK => ?_); go_simp; first | (refine hK _ ?_; clear hK K) | (apply Exists.intro; refine ⟨fun q => ?_, hK _ ?_⟩; (with_reducible exact HAF.out q); clear hK K))
        refine wpS_nil ?_
        intro q1
        have HBN := Lib.hid (HBL.out.trans (((Bl.refl wr).drew).trans q1.bl))
        clear x0 x1 x2 x3 x4 y0 y1 y2 y3 y4
        generalize ExtC.at q1 = Y at *
        go_wp2_with fail
        go_ret
        exact ⟨ret_bool HF.out.symm, HBN.out⟩
      · have HF := Lib.hid (HYES.out ⟨hkey, hs⟩)
        have HAF := Lib.hid (fun q => by have := HA.out q; rw [hs] at this; exact this)
        clear hkey hs
        go_upto_region 6 with fail
        refine wp_region_allS (by kernel_rfl) (by kernel_rfl) ?_
        repeat (refine wpS_step (fun K hK => ?_); go_simp; first | (refine hK _ ?_; clear hK K) | (apply Exists.intro; refine ⟨fun q => ?_, hK _ ?_⟩; (with_reducible exact HAF.out q); clear hK K))
        refine wpS_nil ?_
        intro q1
        have HBN := Lib.hid (HBL.out.trans (((Bl.refl wr).drew).trans q1.bl))
        clear x0 x1 x2 x3 x4 y0 y1 y2 y3 y4
        generalize ExtC.at q1 = Y at *
        go_wp2_with fail
        go_roundw
        case rel => exact ⟨k + 1, by omega, by go_num, HBN.out, HF.out⟩
        case measure => simp [intOf]; omega
    · obtain rfl : k = n := by omega
      have HF : Hid (sameWs xs ys = true) := Lib.hid (sameWs_iff.2 ⟨by rw [HL.out, HM.out], fun i hi => HOK.out i (by rw [HL.out] at hi; exact hi)⟩)
      go_wp2_with fail
      go_ret
      exact ⟨ret_bool HF.out.symm, HBL.out⟩
end Go.Proofs.YtfjjnffifnohkaaGreat
end

/- bedrockbook over Writes: what they read as, their marks, their copies. By an AI agent. -/
section
namespace Go.Proofs.YtfjjnffifnohkaaGreat
open Go.RowKit

/-- an own row reads as what its cells are -/
theorem WW.own {B : Nat} {w : World} {a : Option Addr} {n c : Nat} {ps : List (ByteArray × ActL)} (h : w.ownsRow B 169 5 (.slice a n c) n (cellsW ps)) (hl : ps.length = n) (hn : n ≤ 1000000) (hok : ∀ p ∈ ps, WrOk p) : WW w a n ps := by
  refine ⟨hl, by omega, fun j0 hj0 => ?_, hok⟩
  obtain ⟨h1, ⟨e, h2⟩ | ⟨g, cap, cur, e, hB, hg, hnc, hm, hs, ht⟩⟩ := h
  · cases e; omega
  · simp only [Value.slice.injEq, true_and] at e
    obtain ⟨rfl, rfl⟩ := e
    refine ⟨g, 0, rfl, fun j hj => ?_⟩
    have ho : w.ownsRow B 169 5 (.slice (some ⟨g, 0, none⟩) n c) n (cellsW ps) := ⟨h1, .inr ⟨g, c, cur, rfl, hB, hg, hnc, hm, hs, ht⟩⟩
    have key : ∀ r, r < 5 → w.cell? ⟨g, 0 + j * 5 + r, none⟩ = (writeCs (nthW ps j))[r]? := fun r hr => by
      rw [Nat.zero_add, ho.cellAt (j * 5 + r) (by omega)]
      exact cellsW_get ps j (by omega) r hr
    exact ⟨key 0 (by omega), key 1 (by omega), key 2 (by omega), key 3 (by omega), key 4 (by omega)⟩
theorem WW.fr {S : Nat → Prop} {w w' : World} (h : Fr S w w') {a : Option Addr} {n : Nat} {ps : List (ByteArray × ActL)} (hp : WW w a n ps) (hs : ∀ b off, a = some ⟨b, off, none⟩ → 0 < n → ¬ S b) : WW w' a n ps := by
  refine ⟨hp.len, hp.cap, fun j0 hj0 => ?_, hp.ok⟩
  obtain ⟨b, off, e, hc⟩ := hp.cells j0 hj0
  have hS := hs b off e (by omega)
  exact ⟨b, off, e, fun j hj => ⟨h.cell (hc j hj).c0 hS, h.cell (hc j hj).c1 hS, h.cell (hc j hj).c2 hS, h.cell (hc j hj).c3 hS, h.cell (hc j hj).c4 hS⟩⟩
/-- the marks -/
def markW (i f n : Nat) : List (ByteArray × ActL) := (List.range n).map fun k => (nameB i (f + k), ⟨0, 0, 0, ⟨#[]⟩⟩)
def mkW : MK := ⟨5, fun i k => writeCs (nameB i k, ⟨0, 0, 0, ⟨#[]⟩⟩), fun _ _ => rfl, by decide⟩
theorem markW_len (i f n : Nat) : (markW i f n).length = n := by simp [markW]
theorem markW_cells (i f n : Nat) : cellsW (markW i f n) = mkW.row i f n := by
  unfold cellsW markW MK.row
  rw [List.flatMap_map]
  rfl
theorem markW_ok (i f n : Nat) : ∀ p ∈ markW i f n, WrOk p := by
  intro p hp
  simp only [markW, List.mem_map, List.mem_range] at hp
  obtain ⟨k, _, rfl⟩ := hp
  exact ⟨by rw [nameB_size]; decide, (show ActL.Ok ⟨0, 0, 0, ⟨#[]⟩⟩ from ⟨by decide, by decide, by decide, by decide⟩)⟩
theorem bookSameWs_anyY (a : Option Addr) (n ca : Nat) (ps : List (ByteArray × ActL)) (b : Option Addr) (cb : Nat) (w : World) (hx : WW w a n ps) (hy : WW w b n ps) :
    Calls Tryz.prog 146 #[.slice a n ca, .slice b n cb] w fun e w' => e = .returned (.bool true) ∧ Bl w w' := by
  have h := bookSameWs_any a n ca ps b n cb ps w hx hy
  rwa [sameWs_refl ps] at h

set_option maxHeartbeats 1000000 in
theorem markWrites_any (i f n : Nat) (w : World) (hi250 : i < 250) (hf : f + n ≤ 100000) :
    Calls Tryz.prog 165 #[.int .i64 i, .int .i64 f, .int .i64 n] w fun e w' => ∃ v, e = .returned v ∧ w'.ownsRow w.heap.size 169 5 v n (mkW.row i f n) ∧ Bl w w' := by
  have hfi : (f : Int) + (n : Int) ≤ 100000 := by omega
  have hsf := store_fl
  go_enter Tryz.func165, Tryz.ntmps165
  go_wp2_with fail
  go_loopw [7, 8] (fun v c wr => ∃ k : Nat, k ≤ n ∧ c = .int .i64 ((f + k : Nat) : Int) ∧ Bl w wr ∧ wr.ownsRow w.heap.size 169 5 v k (mkW.row i f k)) (fun _ c _ => f + n - (intOf c).toNat)
  case atStart => exact ⟨0, Nat.zero_le _, rfl, Bl.refl _, World.ownsRow_nil _ _ _ _⟩
  case round =>
    obtain ⟨k, hk, rfl, hbl, hown⟩ := hrel
    have hbs := hbl.size
    obtain ⟨c, hc⟩ : ∃ c, f + k = c := ⟨_, rfl⟩
    rw [hc]
    by_cases hlt : k < n
    · have hlt2 : (c : Int) < (f : Int) + (n : Int) := by omega
      have hlt3 : c < f + n := by omega
      have hcb : c < 100000 := by omega
      have HC := Lib.hid hc
      clear hc
      go_wp2_with fail
      refine (name_any i c wr hi250 hcb).mono ?_
      rintro e W1 ⟨rfl, hb1⟩
      obtain ⟨nm, hnm⟩ : ∃ x, nameB i c = x := ⟨_, rfl⟩
      have HNM := Lib.hid hnm
      rw [hnm]
      have hbA := hb1.alloc (.cells #[.string nm, .int .i64 0, .float .f64 0, .int .i64 0, .string ⟨#[]⟩] 169)
      have howA := ownsRow_bl hown hbA
      have hsz := hbA.size
      have HBA := Lib.hid (hbl.trans hbA)
      have HOA := Lib.hid howA
      clear hnm hb1 hown howA hbA hbl
      go_wp2_with (at_builtin; refine wpList_appG rfl _ _ _ rfl el_wr w.heap.size _ _ _ rfl HOA.out ?c1 _ 1 1 [.string nm, .int .i64 0, .float .f64 0, .int .i64 0, .string ⟨#[]⟩] rfl (SG.lit (heap_alloc_new _ _) rfl (by simp [Value.oneCell'])) ?c2 ?c3 ?_)
      case c1 => omega
      case c2 => unfold maxLen; omega
      case c3 => omega
      intro v' w1 hown' hgrow
      have HB1 := Lib.hid (HBA.out.ownRow HOA.out (Nat.le_refl _) hgrow)
      have HO1 := Lib.hid (show w1.ownsRow w.heap.size 169 5 v' (k + 1) (mkW.row i f (k + 1)) by
        rw [mkW.row_succ, HC.out]
        show w1.ownsRow w.heap.size 169 5 v' (k + 1) (mkW.row i f k ++ writeCs (nameB i c, ⟨0, 0, 0, ⟨#[]⟩⟩))
        rw [HNM.out]
        exact hown')
      clear hown' hgrow HBA HOA
      go_wp2_with fail
      go_roundw
      case rel => exact ⟨k + 1, by omega, by have := HC.out; go_num, HB1.out, HO1.out⟩
      case measure => simp [intOf]; omega
    · have hge : ¬ ((c : Int) < (f : Int) + (n : Int)) := by omega
      have e1 : k = n := by omega
      subst e1
      go_wp2_with fail
      go_ret
      exact ⟨_, rfl, hown, hbl⟩
end Go.Proofs.YtfjjnffifnohkaaGreat
end

/- bedrockbook over Writes that are kept: stillWrites, markedWrites. By an AI agent. -/
section
namespace Go.Proofs.YtfjjnffifnohkaaGreat
open Go.RowKit
attribute [local go_sem] eOp eOper eUpon

/-- a list and its copy read alike -/
def TwoW (v u : Value) (W : World) (D : Nat → Prop) : Prop := ∃ (ps : List (ByteArray × ActL)) (a b : Option Addr) (n c d : Nat), v = .slice a n c ∧ u = .slice b n d ∧ WW W a n ps ∧ WW W b n ps ∧ (∀ x off, a = some ⟨x, off, none⟩ → 0 < n → D x) ∧ (∀ x off, b = some ⟨x, off, none⟩ → 0 < n → D x)
theorem TwoW.st {v u : Value} {W W' : World} {S D : Nat → Prop} (hf : Fr S W W') (hd : ∀ b, D b → ¬ S b) (h : TwoW v u W D) : TwoW v u W' D := by
  obtain ⟨ps, a, b, n, c, d, e1, e2, r1, r2, d1, d2⟩ := h
  exact ⟨ps, a, b, n, c, d, e1, e2, r1.fr hf (fun x off e hn => hd x (d1 x off e hn)), r2.fr hf (fun x off e hn => hd x (d2 x off e hn)), d1, d2⟩
theorem stillWrites_any (g : Nat) (va ua : Option Addr) (n cv cu : Nat) (vs us : Nat → Value) (D : Nat → Nat → Prop) (w : World) (hn : n ≤ 250) (hc4 : w.cell? ⟨g, 12, none⟩ = some (.slice va n cv)) (hc5 : w.cell? ⟨g, 13, none⟩ = some (.slice ua n cu))
    (hv : LA w va n vs) (hu : LA w ua n us) (h : ∀ j, j < n → TwoW (vs j) (us j) w (D j)) :
    Calls Tryz.prog 59 #[.pointer (some ⟨g, 0, none⟩)] w fun e w' => e = .returned (.bool true) ∧ Bl w w' := by
  have HC4 := Lib.hid hc4
  have HC5 := Lib.hid hc5
  have HH := Lib.hid h
  clear hc4 hc5 h
  go_enter Tryz.func59, Tryz.ntmps59
  go_wp2_with fail
  go_loopw [3] (fun i w' => ∃ k : Nat, k ≤ n ∧ i = .int .i64 k ∧ Bl w w') (fun i _ => n - (intOf i).toNat)
  case atStart => exact ⟨0, Nat.zero_le _, rfl, Bl.refl _⟩
  case round =>
    obtain ⟨k, hk, rfl, hbl⟩ := hrel
    have c4 := hbl.cell HC4.out
    by_cases hlt : k < n
    · obtain ⟨b, off, rfl, hcv⟩ := hv k hlt
      obtain ⟨b2, off2, rfl, hcu⟩ := hu k hlt
      obtain ⟨ps, a1, a2, n1, c1, c2, e1, e2, I1, I2, -, -⟩ := HH.out k hlt
      have HV := Lib.hid (hcv k hlt)
      have HU := Lib.hid (hcu k hlt)
      rw [e1] at HV
      rw [e2] at HU
      have HS := Lib.hid (fun (W : World) (hb : Bl w W) => bookSameWs_anyY a1 n1 c1 ps a2 c2 W (I1.keep hb) (I2.keep hb))
      clear e1 e2 I1 I2 hcv hcu
      go_upto_region 4 with fail
      refine wp_region_extall (by kernel_rfl) (by kernel_rfl) ?_
      have HBZ := Lib.hid hbl.drew
      generalize World.drew _ = Z at *
      clear c4
      have p0 : ∀ q : Ext Z, _ := fun q => (HBZ.out.trans q.bl).cell HC4.out
      have p1 : ∀ q : Ext Z, _ := fun q => (HBZ.out.trans q.bl).cell HC5.out
      have p2 : ∀ q : Ext Z, _ := fun q => (HBZ.out.trans q.bl).cell HV.out
      have p3 : ∀ q : Ext Z, _ := fun q => (HBZ.out.trans q.bl).cell HU.out
      repeat (refine wpE_step (fun K hK => ?_); go_simp; first | (refine hK _ ?_; clear hK K) | (apply Exists.intro; refine ⟨fun q => ?_, hK _ ?_⟩; (with_reducible exact HS.out _ (HBZ.out.trans q.bl)); clear hK K))
      refine wpE_nil ?_
      intro q9
      have HBX := Lib.hid (HBZ.out.trans q9.bl)
      clear p0 p1 p2 p3 HBZ
      generalize ExtC.at q9 = X at *
      go_wp2_with fail
      go_roundw
      case rel => exact ⟨k + 1, by omega, by go_num, HBX.out⟩
      case measure => simp [intOf]; omega
    · go_wp2_with fail
      go_ret
      exact ⟨rfl, hbl⟩

theorem markedWrites_any (la : Option Addr) (n lc : Nat) (vs : Nat → Value) (ms : Nat → Nat) (B : Nat) (w : World) (hn : n ≤ 250) (hv : LA w la n vs) (h : ∀ j, j < n → w.ownsRow B 169 5 (vs j) (ms j) (mkW.row j 0 (ms j)) ∧ ms j ≤ 100000) :
    Calls Tryz.prog 104 #[.slice la n lc] w fun e w' => e = .returned (.bool true) ∧ Bl w w' := by
  have HH := Lib.hid h
  clear h
  go_enter Tryz.func104, Tryz.ntmps104
  go_wp2_with fail
  go_loopw [3] (fun i w' => ∃ k : Nat, k ≤ n ∧ i = .int .i64 k ∧ Bl w w') (fun i _ => n - (intOf i).toNat)
  case atStart => exact ⟨0, Nat.zero_le _, rfl, Bl.refl _⟩
  case round =>
    obtain ⟨k, hk, rfl, hbl⟩ := hrel
    by_cases hlt : k < n
    · obtain ⟨b, off, rfl, hcv⟩ := hv k hlt
      obtain ⟨ho, hm⟩ := HH.out k hlt
      obtain ⟨a1, c1, e1⟩ := row_shape' ho
      have HV := Lib.hid (hcv k hlt)
      rw [e1] at HV ho
      obtain ⟨n1, hn1⟩ : ∃ n1, ms k = n1 := ⟨_, rfl⟩
      rw [hn1] at HV ho hm
      have HI := Lib.hid (WW.own (by rw [markW_cells]; exact ho) (markW_len k 0 n1) (by omega) (markW_ok k 0 n1))
      clear e1 ho hcv hn1
      go_upto_region 4 with fail
      refine wp_region_idx [0, 1, 2, 3, 4, 5, 6, 7, 8, 9] 3 (Bl w) (fun _ _ h k => h.trans k) hbl.drew (by kernel_rfl) rfl (by kernel_rfl) (by kernel_rfl) ?_
      have HBZ := Lib.hid hbl.drew
      generalize World.drew _ = Z at *
      clear hbl
      haveI : Nonempty (ExtC (Bl w)) := ⟨⟨Z, HBZ.out⟩⟩
      have p2 : ∀ q : ExtC (Bl w), _ := fun q => q.ok.cell HV.out
      repeat (refine wpI_step rfl (fun K hK => ?_); go_simp; first | (refine hK _ ?_; clear hK K) | (apply Exists.intro; refine ⟨fun q => ?_, hK _ ?_⟩; fail; clear hK K))
      refine wpI_nil ?_
      clear p2 this
      refine wpAnyE_one (i := 10) (by kernel_rfl) ?_
      intro X1 hx1
      have HB1 := Lib.hid (HBZ.out.trans hx1)
      clear HBZ hx1
      go_simp
      refine (markWrites_any k 0 n1 X1 (by omega) (by omega)).mono ?_
      rintro e X2 ⟨v, rfl, hf, hb2⟩
      have HB2 := Lib.hid (HB1.out.trans hb2)
      obtain ⟨a2, c2, rfl⟩ := row_shape' hf
      have HI2 := Lib.hid (WW.own (by rw [markW_cells]; exact hf) (markW_len k 0 n1) (by omega) (markW_ok k 0 n1))
      clear HB1 hb2 hf
      go_simp
      refine ⟨HB2.out, ?_⟩
      refine wpAnyE_one (i := 11) (by kernel_rfl) ?_
      intro X3 hx3
      have HB3 := Lib.hid (HB2.out.trans hx3)
      go_simp
      refine (bookSameWs_anyY a1 n1 c1 (markW k 0 n1) a2 c2 X3 (HI.out.keep HB3.out) (HI2.out.keep hx3)).mono ?_
      rintro e X4 ⟨rfl, hb4⟩
      have HB4 := Lib.hid (HB3.out.trans hb4)
      clear HB3 HB2 hx3 hb4 HI2
      go_simp
      refine ⟨HB4.out, ?_⟩
      refine wpAnyE_one (i := 12) (by kernel_rfl) ?_
      intro X5 hx5
      have HB5 := Lib.hid (HB4.out.trans hx5)
      clear HB4 hx5
      go_simp
      refine ⟨HB5.out, ?_⟩
      refine wpAnyE_done (by kernel_rfl) ?_
      intro X6 hx6
      have HB6 := Lib.hid (HB5.out.trans hx6)
      clear HB5 hx6
      go_wp2_with fail
      go_roundw
      case rel => exact ⟨k + 1, by omega, by go_num, HB6.out⟩
      case measure => simp [intOf]; omega
    · go_wp2_with fail
      go_ret
      exact ⟨rfl, hbl⟩
end Go.Proofs.YtfjjnffifnohkaaGreat
end

/- bedrockbook over Writes that are kept: putWrites. By an AI agent. -/
section
namespace Go.Proofs.YtfjjnffifnohkaaGreat
open Go.RowKit
attribute [local go_sem] eOp eOper eUpon

set_option maxHeartbeats 2000000 in
set_option maxRecDepth 100000 in
theorem putWrites_any (B g : Nat) (va : Option Addr) (n cv : Nat) (vs : Nat → Value) (ln : Nat → Nat) (cs : Nat → List Value) (w : World) (hn : n ≤ 250) (hc4 : w.cell? ⟨g, 12, none⟩ = some (.slice va n cv)) (hv : LA w va n vs)
    (h : ∀ j, j < n → w.ownsRow B 169 5 (vs j) (ln j) (cs j) ∧ ln j ≤ 100000) (hap : ∀ i j, i < n → j < n → i ≠ j → (vs i).ownBlock = none ∨ (vs i).ownBlock ≠ (vs j).ownBlock)
    (hg : ¬ SBk n vs g) (hva : ∀ b off, va = some ⟨b, off, none⟩ → ¬ SBk n vs b) :
    Calls Tryz.prog 78 #[.pointer (some ⟨g, 0, none⟩)] w fun e w' => e = .returned (.tuple #[]) ∧ Fr (SBk n vs) w w' ∧ ∀ j, j < n → w'.ownsRow B 169 5 (vs j) (ln j) (mkW.row j 0 (ln j)) := by
  have hsf := store_fl
  have HC4 := Lib.hid hc4
  have HH := Lib.hid h
  have HAP := Lib.hid hap
  have HG := Lib.hid hg
  have HVA := Lib.hid hva
  have HLT := Lib.hid (show ∀ b, SBk n vs b → b < w.heap.size from fun b ⟨j, hj, e⟩ => (World.ownsRow.lt (h j hj).1 b e).2)
  have HLEN := Lib.hid (show ∀ j, j < n → (cs j).length = ln j * mkW.z from fun j hj => (h j hj).1.1)
  clear hc4 h hap hg hva
  go_enter Tryz.func78, Tryz.ntmps78
  go_wp2_with fail
  go_loopw [2] (fun i w' => ∃ k : Nat, k ≤ n ∧ i = .int .i64 k ∧ Fr (SBk n vs) w w' ∧ ∀ j, j < n → w'.ownsRow B 169 5 (vs j) (ln j) (curC mkW cs ln k 0 j)) (fun i _ => n - (intOf i).toNat)
  case atStart => exact ⟨0, Nat.zero_le _, rfl, Fr.refl _ _, fun j hj => by rw [curC_zero]; exact (HH.out j hj).1⟩
  case round =>
    obtain ⟨k, hk, rfl, hfr, hoi⟩ := hrel
    have HFR := Lib.hid hfr
    have HOI := Lib.hid hoi
    clear hfr hoi
    have c4 := HFR.out.cell HC4.out HG.out
    by_cases hlt : k < n
    · obtain ⟨b, off, rfl, hcv⟩ := hv k hlt
      have hcv' := HFR.out.cell (hcv k hlt) (HVA.out b off rfl)
      obtain ⟨a1, c1, e1⟩ := row_shape' (HOI.out k hlt)
      have hmx := (HH.out k hlt).2
      have hgi : 0 < ln k → ∃ gi, a1 = some ⟨gi, 0, none⟩ := fun hp => by
        have := HOI.out k hlt
        rw [e1] at this
        obtain ⟨_, ⟨e, h2⟩ | ⟨gi, cap, cur, e, _⟩⟩ := this
        · omega
        · simp only [Value.slice.injEq] at e; exact ⟨gi, e.1⟩
      obtain ⟨m, hm⟩ : ∃ m, ln k = m := ⟨_, rfl⟩
      rw [hm] at e1 hmx hgi
      have HM := Lib.hid hm
      have HE1 := Lib.hid e1
      rw [e1] at hcv'
      have HCV := Lib.hid (hcv k hlt)
      rw [e1] at HCV
      clear hm e1 hcv
      go_wp2_with fail
      refine (markWrites_any k 0 m wr (by omega) (by omega)).mono ?_
      rintro e W1 ⟨v, rfl, hf, hb1⟩
      obtain ⟨a2, c2, rfl⟩ := row_shape' hf
      have hna : ∀ b off, a2 = some ⟨b, off, none⟩ → 0 < m → ¬ SBk n vs b := fun b off e hp hs => by
        have hob : (Value.slice a2 m c2).ownBlock = some b := by
          obtain ⟨_, ⟨e3, h2⟩ | ⟨gi, cap, cur, e3, _⟩⟩ := hf
          · cases e3; omega
          · simp only [Value.slice.injEq] at e3; rw [e3.1] at e; cases e; rw [e3.1]; rfl
        have h1 := (World.ownsRow.lt hf b hob).1
        have h2 := HLT.out b hs
        have h3 := HFR.out.size
        omega
      have HNA := Lib.hid hna
      have HF1 := Lib.hid (HFR.out.bl hb1)
      have HO1 := Lib.hid (fun j (hj : j < n) => ownsRow_bl (HOI.out j hj) hb1)
      have HI2 := Lib.hid (WW.own (by rw [markW_cells]; exact hf) (markW_len k 0 m) (by omega) (markW_ok k 0 m))
      clear HFR HOI hf hb1 hna c4 hcv'
      go_wp2_with fail
      go_loopw [4] (fun t Y => ∃ q : Nat, q ≤ m ∧ t = .int .i64 q ∧ Fr (SBk n vs) W1 Y ∧ ∀ j, j < n → Y.ownsRow B 169 5 (vs j) (ln j) (curC mkW cs ln k q j)) (fun t _ => m - (intOf t).toNat)
      case atStart => exact ⟨0, Nat.zero_le _, rfl, Fr.refl _ _, HO1.out⟩
      case round =>
        obtain ⟨q, hq, rfl, hfy, hoy⟩ := hrel
        have HFY := Lib.hid hfy
        have HOY := Lib.hid hoy
        clear hfy hoy
        by_cases hql : q < m
        · obtain ⟨gi, rfl⟩ := hgi (by omega)
          obtain ⟨b2, off2, rfl, hmc⟩ := HI2.out.cells q hql
          have HMC := Lib.hid (HI2.out.fr HFY.out (fun b off e hp => HNA.out b off e hp))
          have HCY := Lib.hid ((HF1.out.trans HFY.out).cell HC4.out HG.out)
          have HRY := Lib.hid ((HF1.out.trans HFY.out).cell HCV.out (HVA.out b off rfl))
          have HOK := Lib.hid (show wr.ownsRow B 169 5 (.slice (some ⟨gi, 0, none⟩) m c1) m (curC mkW cs ln k q k) from by have h := HOY.out k hlt; rw [HE1.out, HM.out] at h; exact h)
          have HMK := Lib.hid (show nthW (markW k 0 m) q = (nameB k q, ⟨0, 0, 0, ⟨#[]⟩⟩) by
            rw [nthW_eq (by rw [markW_len]; exact hql)]
            simp [markW])
          obtain ⟨nm, hnm⟩ : ∃ x, nameB k q = x := ⟨_, rfl⟩
          have HNM := Lib.hid hnm
          rw [hnm] at HMK
          clear hnm hmc
          go_upto_region 7 with fail
          refine wp_region_idx [0, 1, 2, 3, 4, 5, 6, 7, 8, 9, 10, 11, 12] 1 (Fr (SBk n vs) wr) (fun _ _ h k => h.bl k) ((Fr.refl _ wr).bl (Bl.refl wr).drew) (by kernel_rfl) rfl (by kernel_rfl) (by kernel_rfl) ?_
          have HBZ := Lib.hid (Bl.refl wr).drew
          generalize hz : World.drew _ = Z at *
          clear hz
          haveI : Nonempty (ExtC (Fr (SBk n vs) wr)) := ⟨⟨Z, (Fr.refl _ wr).bl HBZ.out⟩⟩
          have p0 : ∀ q : ExtC (Fr (SBk n vs) wr), _ := fun q => q.ok.cell HCY.out HG.out
          have p1 : ∀ q : ExtC (Fr (SBk n vs) wr), _ := fun q => q.ok.cell HRY.out (HVA.out b off rfl)
          have PC : ∀ x : ExtC (Fr (SBk n vs) wr), WC x.at b2 (off2 + q * 5) (nm, ⟨0, 0, 0, ⟨#[]⟩⟩) := fun x => by
            have h1 := (HMC.out.fr x.ok (fun b off e hp => HNA.out b off e hp)).get (Bl.refl _) hql
            rwa [HMK.out] at h1
          have p2 : ∀ q : ExtC (Fr (SBk n vs) wr), _ := fun q => (PC q).c0
          have p3 : ∀ q : ExtC (Fr (SBk n vs) wr), _ := fun q => (PC q).c1
          have p4 : ∀ q : ExtC (Fr (SBk n vs) wr), _ := fun q => (PC q).c2
          have p5 : ∀ q : ExtC (Fr (SBk n vs) wr), _ := fun q => (PC q).c3
          have p6 : ∀ q : ExtC (Fr (SBk n vs) wr), _ := fun q => (PC q).c4
          dsimp only at p2 p3 p4 p5 p6
          repeat (refine wpI_step rfl (fun K hK => ?_); go_simp; first | (refine hK _ ?_; clear hK K) | (apply Exists.intro; refine ⟨fun q => ?_, hK _ ?_⟩; fail; clear hK K))
          refine wpI_nil ?_
          clear p0 p1 p2 p3 p4 p5 p6 PC this
          refine wpAnyE_one (i := 13) (by kernel_rfl) ?_
          intro X hx
          have HX := Lib.hid (HBZ.out.trans hx)
          have hok := ownsRow_bl HOK.out HX.out
          have hcl : (curC mkW cs ln k q k).length = m * 5 := hok.1
          obtain ⟨y0, y1, y2, y3, y4, x0, x1, x2, x3, x4, f0, f1, f2, f3, f4⟩ := own_fives hok (o := q * 5) (by omega)
          have hst := own_setCs [.string nm, .int .i64 0, .float .f64 0, .int .i64 0, .string ⟨#[]⟩] X _ (q * 5) hok
          clear hx hok hcl
          go_simp
          clear x0 x1 x2 x3 x4 f0 f1 f2 f3 f4
          obtain ⟨X2, hX2⟩ : ∃ x, (((((X.setCell ⟨gi, q * 5, none⟩ (.string nm)).setCell ⟨gi, q * 5 + 1, none⟩ (.int .i64 0)).setCell ⟨gi, q * 5 + 2, none⟩ (.float .f64 0)).setCell ⟨gi, q * 5 + 3, none⟩ (.int .i64 0)).setCell ⟨gi, q * 5 + 4, none⟩ (.string ⟨#[]⟩)) = x := ⟨_, rfl⟩
          rw [hX2]
          have HST := Lib.hid (show X2.ownsRow B 169 5 (.slice (some ⟨gi, 0, none⟩) m c1) m (setL (curC mkW cs ln k q k) (q * 5) [.string nm, .int .i64 0, .float .f64 0, .int .i64 0, .string ⟨#[]⟩]) ∧ X.grownBy X2 (some gi) from by rw [← hX2]; exact hst)
          clear hst hX2
          have hown : (vs k).ownBlock = some gi := by rw [HE1.out]; rfl
          have hfrS : Fr (SBk n vs) wr X2 := ((Fr.refl _ wr).bl HX.out).grown HST.out.2 (fun i e => by cases e; exact ⟨k, hlt, hown⟩)
          have hoi5 : ∀ j, j < n → X2.ownsRow B 169 5 (vs j) (ln j) (curC mkW cs ln k (q + 1) j) := fun j hj => by
            by_cases e : j = k
            · subst e
              have h1 := HST.out.1
              have hcs := curC_step (m := mkW) (cs := cs) (ln := ln) (k := j) (q := q) (HLEN.out j hj) (by rw [HM.out]; exact hql)
              have hel : mkW.el j q = [.string nm, .int .i64 0, .float .f64 0, .int .i64 0, .string ⟨#[]⟩] := by
                show writeCs (nameB j q, ⟨0, 0, 0, ⟨#[]⟩⟩) = _
                rw [HNM.out]; rfl
              rw [hel] at hcs
              have hcs' : setL (curC mkW cs ln j q j) (q * 5) [.string nm, .int .i64 0, .float .f64 0, .int .i64 0, .string ⟨#[]⟩] = curC mkW cs ln j (q + 1) j := hcs
              rw [hcs'] at h1
              rw [HE1.out, HM.out]
              exact h1
            · rw [curC_ne e]
              exact World.ownsRow.kept (ownsRow_bl (HOY.out j hj) HX.out) HST.out.2 (by rw [← hown]; exact HAP.out j k hj hlt e)
          have HFX := Lib.hid (HFY.out.trans hfrS)
          have HOX := Lib.hid hoi5
          refine ⟨hfrS, ?_⟩
          clear HST hown hfrS hoi5 HX HFY HOY HOK HCY HRY HMC HMK HNM
          refine wpAnyE_done (by kernel_rfl) ?_
          intro X3 hx3
          have HFX3 := Lib.hid (HFX.out.bl hx3)
          have HOX3 := Lib.hid (fun j (hj : j < n) => ownsRow_bl (HOX.out j hj) hx3)
          clear HFX HOX hx3
          go_wp2_with fail
          go_roundw
          case rel => exact ⟨q + 1, by omega, by go_num, HFX3.out, HOX3.out⟩
          case measure => simp [intOf]; omega
        · have hqe : q = m := by omega
          have HFN := Lib.hid (HF1.out.trans HFY.out)
          have HON := Lib.hid (fun j (hj : j < n) => (show wr.ownsRow B 169 5 (vs j) (ln j) (curC mkW cs ln (k + 1) 0 j) from by rw [← curC_next (HLEN.out k hlt), HM.out, ← hqe]; exact HOY.out j hj))
          clear hqe HFY HOY
          go_wp2_with fail
          go_roundw
          case rel => exact ⟨k + 1, by omega, by go_num, HFN.out, HON.out⟩
          case measure => simp [intOf]; omega
    · go_wp2_with fail
      go_end0
      have e1 : k = n := by omega
      subst e1
      exact ⟨rfl, HFR.out, fun j hj => by rw [← curC_end hj 0]; exact HOI.out j hj⟩
end Go.Proofs.YtfjjnffifnohkaaGreat
end
