import Derived.Test.YtaplefelfiefaaaGreatQArchiveTellsUptoP35
import Derived.Test.YtaplefelfiefaaaGreatQArchiveTellsUptoP9
import Derived.Test.YtaplefelfiefaaaGreatQArchiveTellsUptoP3
import Derived.StillTailTactics
import Derived.Test.YtaplefelfiefaaaGreatQArchiveTellsUptoP11
import Derived.Deep.DeepCutAuto
import Derived.Test.YtaplefelfiefaaaGreatQArchiveTellsUptoP18
import Derived.Test.YtaplefelfiefaaaGreatQArchiveTellsUptoP2

/- bedrockbook.LentWrites, StaysWrites. By an AI agent. -/
section
set_option linter.unusedVariables false
namespace Go.Proofs.YtaplefelfiefaaaGreat
open Go.RowKit

def markPr : ByteArray := ⟨#[109, 97, 114, 107]⟩
theorem markPr_eq : (markPr.toList == [109, 97, 114, 107]) = true := by rw [ByteArray.toList_eq]; rfl
/-- a slice of n pairs, behind which a mark stands in the same block -/
structure LPr (B : Nat) (W : World) (g n c : Nat) (ws : List (ByteArray × ValL)) : Prop where
  own : W.ownsRow B 58 5 (.slice (some ⟨g, 0, none⟩) (n + 1) c) (n + 1) (cellsP (ws ++ [(markPr, ⟨false, 0, 0, ⟨#[]⟩⟩)]))
  len : ws.length = n
  cap : n ≤ 100000
  ok : ∀ p ∈ ws, PaOk p
theorem LPr.keep {B : Nat} {W W' : World} {g n c : Nat} {ws : List (ByteArray × ValL)} (h : LPr B W g n c ws) (hb : Bl W W') : LPr B W' g n c ws := ⟨ownsRow_bl h.own hb, h.len, h.cap, h.ok⟩
theorem LPr.pp {B : Nat} {W : World} {g n c : Nat} {ws : List (ByteArray × ValL)} (h : LPr B W g n c ws) : PP W (some ⟨g, 0, none⟩) n ws := by
  have hm := PP.own h.own (by simp [h.len]) (by have := h.cap; omega) (fun p hp => by
    rcases List.mem_append.1 hp with q | q
    · exact h.ok p q
    · rw [List.mem_singleton] at q; subst q; exact ⟨by decide, ⟨by decide, by decide, by decide⟩⟩)
  refine ⟨h.len, by have := h.cap; omega, fun j0 hj0 => ?_, h.ok⟩
  obtain ⟨b, off, e, hc⟩ := hm.cells j0 (by omega)
  refine ⟨b, off, e, fun j hj => ?_⟩
  have := hc j (by omega)
  rw [nthQ_eq (by simp [h.len]; omega), List.getElem_append_left (by rw [h.len]; exact hj), ← nthQ_eq (by rw [h.len]; exact hj)] at this
  exact this
theorem LPr.mark {B : Nat} {W : World} {g n c : Nat} {ws : List (ByteArray × ValL)} (h : LPr B W g n c ws) : W.cell? ⟨g, n * 5, none⟩ = some (.string markPr) ∧ n + 1 ≤ c := by
  refine ⟨?_, ?_⟩
  · rw [h.own.cellAt (n * 5) (by omega)]
    have := cellsP_get (ws ++ [(markPr, ⟨false, 0, 0, ⟨#[]⟩⟩)]) n (by simp [h.len]) 0 (by omega)
    rw [Nat.add_zero, nthQ_eq (by simp [h.len]), List.getElem_append_right (by rw [h.len]; exact Nat.le_refl _)] at this
    rw [this]
    simp [pairCs, h.len]
  · obtain ⟨_, ⟨e, _⟩ | ⟨g', cap, cur, e, hB, hg, hn, _⟩⟩ := h.own
    · cases e
    · simp only [Value.slice.injEq, Option.some.injEq, Addr.mk.injEq, and_true, true_and] at e
      omega
theorem LPr.setq {B : Nat} {W : World} {g n c : Nat} {ws : List (ByteArray × ValL)} (h : LPr B W g n c ws) {q : Nat} (hq : q < B) (j : Nat) (u : Value) : LPr B (W.setCell ⟨q, j, none⟩ u) g n c ws := by
  refine ⟨?_, h.len, h.cap, h.ok⟩
  obtain ⟨h1, h2 | ⟨g, cap, cur, hv, hB, hg, r⟩⟩ := h.own
  · exact ⟨h1, .inl h2⟩
  · exact ⟨h1, .inr ⟨g, cap, cur, hv, hB, by rw [Below.heap_setCell _ _ _ _ (by show g ≠ q; omega)]; exact hg, r⟩⟩
end Go.Proofs.YtaplefelfiefaaaGreat
end

/- proto.Valid. By an AI agent. -/
section
set_option linter.unusedVariables false
set_option linter.unusedSimpArgs false
namespace Go.Proofs.YtaplefelfiefaaaGreat
open Go.RowKit

/-- the box of a request -/
def askCs (k s t i m : Int) (ad : Option Addr) (n ca : Nat) (key text : ByteArray) (ak : Int) (ax : Nat) (an : Int) (az : ByteArray) : List Value :=
  [.int .i64 k, .int .i64 s, .int .i64 t, .int .i64 i, .int .i64 m, .slice ad n ca, .string key, .string text, .int .i64 ak, .float .f64 ax, .int .i64 an, .string az]



end Go.Proofs.YtaplefelfiefaaaGreat
end

/- proto.GetAsk's closure (printed in part by wip/gen/prot7.py). By an AI agent. -/
section
set_option linter.unusedVariables false
set_option linter.unusedSimpArgs false
namespace Go.Proofs.YtaplefelfiefaaaGreat
open Go.RowKit

def zeroAskCs : List Value := askCs 0 0 0 0 0 none 0 0 ⟨#[]⟩ ⟨#[]⟩ 0 0 0 ⟨#[]⟩
/-- the closure's boxes: the result, the reader -/
structure GS (w W : World) (l : List UInt8) : Prop where
  bl : Bl w W
  r : AC W w.heap.size zeroAskCs
  c : C1 W (w.heap.size + 1) (.string (strL l))
theorem GS.keep {w W W' : World} {l : List UInt8} (h : GS w W l) (k : Bl W W') : GS w W' l := ⟨h.bl.trans k, h.r.keep k, h.c.keep k⟩
theorem GS.set {w W : World} {l : List UInt8} (h : GS w W l) (m : List UInt8) : GS w (W.setCell ⟨w.heap.size + 1, 0, none⟩ (.string (strL m))) m :=
  ⟨h.bl.setCell (p := ⟨w.heap.size + 1, 0, none⟩) (Nat.le_succ _) _, h.r.other (by omega), h.c.set _⟩
theorem GS.new (w : World) (l : List UInt8) (T U : TypeId) : GS w ((w.alloc (.cells zeroAskCs.toArray T)).alloc (.cells #[.string (strL l)] U)) l :=
  ⟨((Bl.refl w).alloc _).alloc _, (AC.new w _ rfl zeroAskCs T).keep ((Bl.refl _).alloc _), C1.new _ (w.heap.size + 1) (by simp) _ U⟩
theorem GS.bad {w W W' : World} {l : List UInt8} (h : GS w W l) {r : ByteArray} (hb : Bl (W.setCell ⟨w.heap.size + 1, 0, none⟩ (.string r)) W') : Bl w W' :=
  (show Bl w (W.setCell ⟨w.heap.size + 1, 0, none⟩ (.string r)) from h.bl.setCell (p := ⟨w.heap.size + 1, 0, none⟩) (Nat.le_succ _) _).trans hb
theorem GS.lt {w W : World} {l : List UInt8} (h : GS w W l) : w.heap.size + 1 < W.heap.size := h.c.lt
/-- the closure's boxes, when the request's own is there too -/
structure G3 (w W : World) (l : List UInt8) (ga : Nat) (cs : List Value) (ad : Option Addr) (n ca : Nat) (xs : List Int) : Prop where
  g : GS w W l
  a : AC W ga cs
  x : FarO (w.heap.size + 1 + 1) W ad n ca xs
  ap : ∀ b off, ad = some ⟨b, off, none⟩ → w.heap.size + 1 + 1 ≤ b ∧ b ≠ ga
  ne1 : ga ≠ w.heap.size + 1
  ne0 : ga ≠ w.heap.size
  le : w.heap.size ≤ ga
theorem G3.keep {w W W' : World} {l : List UInt8} {ga : Nat} {cs : List Value} {ad : Option Addr} {n ca : Nat} {xs : List Int} (h : G3 w W l ga cs ad n ca xs) (k : Bl W W') : G3 w W' l ga cs ad n ca xs := ⟨h.g.keep k, h.a.keep k, h.x.keep k, h.ap, h.ne1, h.ne0, h.le⟩
theorem G3.set {w W : World} {l : List UInt8} {ga : Nat} {cs : List Value} {ad : Option Addr} {n ca : Nat} {xs : List Int} (h : G3 w W l ga cs ad n ca xs) (m : List UInt8) : G3 w (W.setCell ⟨w.heap.size + 1, 0, none⟩ (.string (strL m))) m ga cs ad n ca xs :=
  ⟨h.g.set m, h.a.other h.ne1, h.x.apart (fun b off e => by have := h.ap b off e; omega) _ _, h.ap, h.ne1, h.ne0, h.le⟩
theorem G3.put {w W : World} {l : List UInt8} {ga : Nat} {cs : List Value} {ad : Option Addr} {n ca : Nat} {xs : List Int} (h : G3 w W l ga cs ad n ca xs) (j : Nat) (v : Value) : G3 w (W.setCell ⟨ga, j, none⟩ v) l ga (cs.set j v) ad n ca xs :=
  ⟨⟨h.g.bl.setCell (p := ⟨ga, j, none⟩) h.le v, h.g.r.other (Ne.symm h.ne0), h.g.c.otherj (Ne.symm h.ne1)⟩, h.a.setj j v, h.x.apart (fun b off e => by have := h.ap b off e; omega) _ _, h.ap, h.ne1, h.ne0, h.le⟩
theorem G3.new {w W : World} {l : List UInt8} {ad : Option Addr} {n ca : Nat} {xs : List Int} (g : GS w W l) (x : FarO (w.heap.size + 1 + 1) W ad n ca xs) (cs : List Value) (T : TypeId) : G3 w (W.alloc (.cells cs.toArray T)) l W.heap.size cs ad n ca xs :=
  ⟨g.keep ((Bl.refl W).alloc _), AC.new W _ rfl cs T, x.keep ((Bl.refl W).alloc _), fun b off e => by have h1 := x.block b off e; omega, by have := g.lt; omega, by have := g.lt; omega, by have := g.lt; omega⟩


end Go.Proofs.YtaplefelfiefaaaGreat
end
