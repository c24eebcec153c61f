import Derived.Test.YtaelghbjbopilaaGreatQProtoRepliesUptoP18
import Derived.Test.YtaelghbjbopilaaGreatQProtoRepliesUptoP21
import Derived.Test.YtaelghbjbopilaaGreatQBkApVP
import Derived.Test.YtaelghbjbopilaaGreatQProtoRepliesUptoP38
import Derived.Test.YtaelghbjbopilaaGreatQProtoRepliesUptoP22
import Derived.Test.YtaelghbjbopilaaGreatQProtoRepliesUptoP11
import Derived.Test.YtaelghbjbopilaaGreatQProtoRepliesUptoP19
import Derived.Test.YtaelghbjbopilaaGreatQProtoRepliesUptoP1
import Derived.Laws.IdiomStrings
import Derived.Laws.BitsAllLaws
import Derived.Test.YtaelghbjbopilaaGreatQProtoRepliesUptoP17

/- own pairs among boxes that turn; own vectors below a block. By an AI agent. -/
section
set_option linter.unusedVariables false
namespace Go.Proofs.YtaelghbjbopilaaGreat
open Go.RowKit

def FarPO (B : Nat) (w : World) (a : Option Addr) (n ca : Nat) (ps : List (ByteArray × ValL)) : Prop := OPR B w (.slice a n ca) n ps
theorem FarPO.keep {B : Nat} {w w' : World} {a : Option Addr} {n ca : Nat} {ps : List (ByteArray × ValL)} (h : FarPO B w a n ca ps) (hb : Bl w w') : FarPO B w' a n ca ps := OPR.keep h hb
theorem FarPO.mono {B B' : Nat} {w : World} {a : Option Addr} {n ca : Nat} {ps : List (ByteArray × ValL)} (h : FarPO B w a n ca ps) (hB : B' ≤ B) : FarPO B' w a n ca ps := by
  obtain ⟨h0, h1, h2 | ⟨g, cap, cur, hv, hg, r⟩⟩ := h
  · exact ⟨h0, h1, .inl h2⟩
  · exact ⟨h0, h1, .inr ⟨g, cap, cur, hv, Nat.le_trans hB hg, r⟩⟩
theorem FarPO.set {B : Nat} {w : World} {a : Option Addr} {n ca : Nat} {ps : List (ByteArray × ValL)} (h : FarPO B w a n ca ps) {q : Nat} (hq : q < B) (j : Nat) (u : Value) : FarPO B (w.setCell ⟨q, j, none⟩ u) a n ca ps := OPR.set h hq j u
theorem FarPO.fill {B : Nat} {a : Option Addr} {n ca : Nat} {ps : List (ByteArray × ValL)} {q : Nat} (hq : q < B) (vs : List Value) : ∀ (w : World) (j : Nat), FarPO B w a n ca ps → FarPO B (Go.Proofs.YtaelghbjbopilaaGreat.fill w q j vs) a n ca ps := by
  induction vs with
  | nil => intro w j h; exact h
  | cons v vs ih => intro w j h; exact ih _ _ (h.set hq j v)
theorem FarPO.far {B : Nat} {w : World} {a : Option Addr} {n ca : Nat} {ps : List (ByteArray × ValL)} (h : FarPO B w a n ca ps) (hk : n ≤ 1000000) : FarPA B w a n ps := OPR.far h hk
/-- the room of the slice that stands in a box's third cell -/
def capV : Value → Nat
  | .slice _ _ c => c
  | _ => 0
def cap2 (cs : List Value) : Nat := (cs[2]?.map capV).getD 0
theorem cap2_set (cs : List Value) {j : Nat} (hj : j ≠ 2) (v : Value) : cap2 (cs.set j v) = cap2 cs := by
  unfold cap2
  rw [List.getElem?_set_ne hj]
theorem FarO.below {B B' : Nat} {w w' : World} {a : Option Addr} {n ca : Nat} {xs : List Int} (h : FarO B w a n ca xs) (hb : Below B' w w') (hq : ∀ b off, a = some ⟨b, off, none⟩ → b < B') : FarO B w' a n ca xs := by
  refine ⟨?_, h.cap, h.wf⟩
  obtain ⟨h1, h2 | ⟨g, cap, cur, hv, hB2, hg, r⟩⟩ := h.own
  · exact ⟨h1, .inl h2⟩
  · have hlt : g < B' := by
      cases hv
      exact hq g 0 rfl
    exact ⟨h1, .inr ⟨g, cap, cur, hv, hB2, by rw [hb.block g hlt]; exact hg, r⟩⟩
end Go.Proofs.YtaelghbjbopilaaGreat
end

/- a vector and a list of pairs laid into a book one behind the other. By an AI agent. -/
section
set_option linter.unusedVariables false
namespace Go.Proofs.YtaelghbjbopilaaGreat
open Go.RowKit

theorem Bl.frV {w0 w w' : World} {S : Nat → Prop} (h : Bl w0 w) (k : Fr S w w') (hs : ∀ b, S b → w0.heap.size ≤ b) : Bl w0 w' := Below.trans h (k.below h.size hs)
theorem FI.wider {B B' : Nat} {w : World} {v : Value} {xs : List Int} (h : FI B w v xs) (hb : B' ≤ B) : FI B' w v xs := ⟨own_mono' h.own hb, h.cap, h.wf⟩
theorem OPR.wider {B B' : Nat} {w : World} {v : Value} {k : Nat} {ps : List (ByteArray × ValL)} (h : OPR B w v k ps) (hb : B' ≤ B) : OPR B' w v k ps := ⟨h.1, own_mono' h.2 hb⟩
theorem vp_apart {A B : Nat} {W : World} {u v : Value} {n : Nat} {xs : List Int} {ps : List (ByteArray × ValL)} (hx : FI A W u xs) (hp : OPR B W v n ps) : u.ownBlock = none ∨ u.ownBlock ≠ v.ownBlock := by
  obtain ⟨_, ⟨e, _⟩ | ⟨g, cap, cur, e, hB, hg, _⟩⟩ := hx.own
  · subst e; exact .inl rfl
  · subst e
    refine .inr (fun e2 => ?_)
    obtain ⟨_, ⟨e3, _⟩ | ⟨g2, cap2, cur2, e3, hB2, hg2, _⟩⟩ := hp.2
    · subst e3; cases e2
    · subst e3
      have e4 : g = g2 := Option.some.inj e2
      subst e4
      rw [hg] at hg2
      simp only [Option.some.injEq, Obj.cells.injEq] at hg2
      exact absurd hg2.2.1 (by decide)
/-- ahead of the book's calls: w1 the world that holds the arguments' boxes, W now; gy the box from which both lists are read -/
structure VPm (w1 W : World) (g : Nat) (v : Value) (xs : List Int) (q : Value) (k : Nat) (ps : List (ByteArray × ValL)) (gy : Nat) (cs : List Value) : Prop where
  bl : Bl w1 W
  bq : BQ bkVP w1.heap.size W g (fun b => b < w1.heap.size ∨ v.ownBlock = some b ∨ q.ownBlock = some b ∨ b = gy)
  hv : FI w1.heap.size W v xs
  hq : OPR w1.heap.size W q k ps
  box : AC W gy cs
  ly : w1.heap.size ≤ gy
  lv : v.ownBlock ≠ some gy
  lq : q.ownBlock ≠ some gy
theorem VPm.new {w1 wr wa wy W : World} {g : Nat} {v : Value} {xs : List Int} {q : Value} {k : Nat} {ps : List (ByteArray × ValL)} {gy : Nat} {cs : List Value} (hbl : Bl w1 wr) (hq : BQ bkVP w1.heap.size wr g (fun b => b < w1.heap.size)) (ha : Bl wr wa) (hay : Bl wa wy) (hW : Bl wy W)
    (h1 : FI wa.heap.size wy v xs) (h2 : OPR wa.heap.size wy q k ps) (hg : wy.heap.size = gy) (box : AC W gy cs) : VPm w1 W g v xs q k ps gy cs := by
  have l1 := hbl.size
  have l2 := ha.size
  have l3 := hay.size
  have l4 := box.lt
  refine ⟨hbl.trans (ha.trans (hay.trans hW)), (hq.more (ha.trans (hay.trans hW))).less (fun b hb => ?_), (h1.keep hW).wider (by omega), (h2.keep hW).wider (by omega), box, by omega, fun e => ?_, fun e => ?_⟩
  · rcases hb with e | e | e | e
    · exact .inl e
    · have := World.ownsRow.lt (h1.keep hW).own b e
      exact .inr ⟨by omega, this.2⟩
    · have := World.ownsRow.lt (h2.keep hW).2 b e
      exact .inr ⟨by omega, this.2⟩
    · exact .inr ⟨by omega, by omega⟩
  · have := World.ownsRow.lt h1.own gy e; omega
  · have := World.ownsRow.lt h2.2 gy e; omega
/-- behind the vector -/
structure VPo (w1 W : World) (g : Nat) (q : Value) (k : Nat) (ps : List (ByteArray × ValL)) (gy : Nat) (cs : List Value) : Prop where
  bl : Bl w1 W
  bq : BQ bkVP w1.heap.size W g (fun b => b < w1.heap.size ∨ q.ownBlock = some b ∨ b = gy)
  hq : OPR w1.heap.size W q k ps
  box : AC W gy cs
theorem vp_first (w1 W : World) (g g' : Nat) (v : Value) (xs : List Int) (q : Value) (k : Nat) (ps : List (ByteArray × ValL)) (gy : Nat) (cs : List Value) (h : VPm w1 W g v xs q k ps gy cs) (hn : xs.length ≤ 50000) (hg : g = g') :
    Calls Tryz.prog 13 #[.pointer (some ⟨g', 0, none⟩), v] W fun e W' => e = .returned (.tuple #[]) ∧ VPo w1 W' g q k ps gy cs := by
  subst hg
  obtain ⟨a, c, e⟩ := row_shape' h.hv.own
  subst e
  have H := Lib.hid (bqVP_Vecs w1.heap.size g a xs.length c xs _ W h.bl.size h.bq h.hv.own rfl hn h.hv.wf (fun b hb => .inr (.inl hb)))
  have HM := Lib.hid h
  clear h hn
  go_enter Tryz.func13, Tryz.ntmps13
  go_wp2_with fail
  refine H.out.mono ?_
  rintro e W' ⟨rfl, hq, hf⟩
  have HQ := Lib.hid hq
  have HF := Lib.hid hf
  clear hq hf H
  go_wp2_with fail
  go_end0
  have hno : ∀ b, q.ownBlock = some b → (Value.slice a xs.length c).ownBlock ≠ some b := fun b e e2 => by
    rcases vp_apart HM.out.hv HM.out.hq with s | s
    · rw [s] at e2; cases e2
    · exact s (e2.trans e.symm)
  refine ⟨rfl, HM.out.bl.frV HF.out (fun b hb => Nat.le_of_not_lt (fun s => hb (.inl s))), HQ.out.less (fun b hb => ?_), ⟨HM.out.hq.1, HF.out.own HM.out.hq.2 (fun b e => not_not_intro (.inr (.inr (.inl e))))⟩, HF.out.ac HM.out.box (not_not_intro (.inr (.inr (.inr rfl))))⟩
  rcases hb with s | s | s
  · exact ⟨.inl s, fun e => by have := World.ownsRow.lt HM.out.hv.own b e; omega⟩
  · exact ⟨.inr (.inr (.inl s)), hno b s⟩
  · exact ⟨.inr (.inr (.inr s)), by rw [s]; exact HM.out.lv⟩
theorem vp_last (w1 W : World) (g g' : Nat) (q : Value) (k : Nat) (ps : List (ByteArray × ValL)) (gy : Nat) (cs : List Value) (h : VPo w1 W g q k ps gy cs) (hn : k ≤ 50000) (hok : ∀ p ∈ ps, PaOk p) (hg : g = g') :
    Calls Tryz.prog 14 #[.pointer (some ⟨g', 0, none⟩), q] W fun e W' => e = .returned (.tuple #[]) ∧ Bl w1 W' ∧ BQ bkVP w1.heap.size W' g (fun b => b < w1.heap.size) := by
  subst hg
  obtain ⟨a, c, e⟩ := h.hq.form
  subst e
  refine (bqVP_Pairs w1.heap.size g a k c ps _ W h.bl.size h.bq h.hq.2 h.hq.1 hn hok (fun b hb => .inr (.inl hb))).mono ?_
  rintro e W' ⟨rfl, hq, hf⟩
  exact ⟨rfl, h.bl.frV hf (fun b hb => Nat.le_of_not_lt (fun s => hb (.inl s))), hq.less (fun b hb => ⟨.inl hb, fun e => by have := World.ownsRow.lt h.hq.2 b e; omega⟩)⟩
end Go.Proofs.YtaelghbjbopilaaGreat
end

/- bedrockbook.LentWrites, StaysWrites. By an AI agent. -/
section
set_option linter.unusedVariables false
namespace Go.Proofs.YtaelghbjbopilaaGreat
open Go.RowKit

def markPr : ByteArray := ⟨#[109, 97, 114, 107]⟩
theorem markPr_eq : (markPr.toList == [109, 97, 114, 107]) = true := by rw [ByteArray.toList_eq]; rfl
/-- a slice of n pairs, behind which a mark stands in the same block -/
structure LPr (B : Nat) (W : World) (g n c : Nat) (ws : List (ByteArray × ValL)) : Prop where
  own : W.ownsRow B 52 5 (.slice (some ⟨g, 0, none⟩) (n + 1) c) (n + 1) (cellsP (ws ++ [(markPr, ⟨false, 0, 0, ⟨#[]⟩⟩)]))
  len : ws.length = n
  cap : n ≤ 100000
  ok : ∀ p ∈ ws, PaOk p
theorem LPr.keep {B : Nat} {W W' : World} {g n c : Nat} {ws : List (ByteArray × ValL)} (h : LPr B W g n c ws) (hb : Bl W W') : LPr B W' g n c ws := ⟨ownsRow_bl h.own hb, h.len, h.cap, h.ok⟩
theorem LPr.pp {B : Nat} {W : World} {g n c : Nat} {ws : List (ByteArray × ValL)} (h : LPr B W g n c ws) : PP W (some ⟨g, 0, none⟩) n ws := by
  have hm := PP.own h.own (by simp [h.len]) (by have := h.cap; omega) (fun p hp => by
    rcases List.mem_append.1 hp with q | q
    · exact h.ok p q
    · rw [List.mem_singleton] at q; subst q; exact ⟨by decide, ⟨by decide, by decide, by decide⟩⟩)
  refine ⟨h.len, by have := h.cap; omega, fun j0 hj0 => ?_, h.ok⟩
  obtain ⟨b, off, e, hc⟩ := hm.cells j0 (by omega)
  refine ⟨b, off, e, fun j hj => ?_⟩
  have := hc j (by omega)
  rw [nthQ_eq (by simp [h.len]; omega), List.getElem_append_left (by rw [h.len]; exact hj), ← nthQ_eq (by rw [h.len]; exact hj)] at this
  exact this
theorem LPr.mark {B : Nat} {W : World} {g n c : Nat} {ws : List (ByteArray × ValL)} (h : LPr B W g n c ws) : W.cell? ⟨g, n * 5, none⟩ = some (.string markPr) ∧ n + 1 ≤ c := by
  refine ⟨?_, ?_⟩
  · rw [h.own.cellAt (n * 5) (by omega)]
    have := cellsP_get (ws ++ [(markPr, ⟨false, 0, 0, ⟨#[]⟩⟩)]) n (by simp [h.len]) 0 (by omega)
    rw [Nat.add_zero, nthQ_eq (by simp [h.len]), List.getElem_append_right (by rw [h.len]; exact Nat.le_refl _)] at this
    rw [this]
    simp [pairCs, h.len]
  · obtain ⟨_, ⟨e, _⟩ | ⟨g', cap, cur, e, hB, hg, hn, _⟩⟩ := h.own
    · cases e
    · simp only [Value.slice.injEq, Option.some.injEq, Addr.mk.injEq, and_true, true_and] at e
      omega
theorem LPr.setq {B : Nat} {W : World} {g n c : Nat} {ws : List (ByteArray × ValL)} (h : LPr B W g n c ws) {q : Nat} (hq : q < B) (j : Nat) (u : Value) : LPr B (W.setCell ⟨q, j, none⟩ u) g n c ws := by
  refine ⟨?_, h.len, h.cap, h.ok⟩
  obtain ⟨h1, h2 | ⟨g, cap, cur, hv, hB, hg, r⟩⟩ := h.own
  · exact ⟨h1, .inl h2⟩
  · exact ⟨h1, .inr ⟨g, cap, cur, hv, hB, by rw [Below.heap_setCell _ _ _ _ (by show g ≠ q; omega)]; exact hg, r⟩⟩
end Go.Proofs.YtaelghbjbopilaaGreat
end

/- the state of proto.GetReply's closure. By an AI agent. -/
section
set_option linter.unusedVariables false
set_option linter.unusedSimpArgs false
namespace Go.Proofs.YtaelghbjbopilaaGreat
open Go.RowKit

theorem FarPA.fill {B : Nat} {a : Option Addr} {n : Nat} {ps : List (ByteArray × ValL)} {q : Nat} (hq : q < B) (vs : List Value) : ∀ (w : World) (j : Nat), FarPA B w a n ps → FarPA B (Go.Proofs.YtaelghbjbopilaaGreat.fill w q j vs) a n ps := by
  induction vs with
  | nil => intro w j h; exact h
  | cons v vs ih => intro w j h; exact ih _ _ (h.set hq j v)

/-! ### the closure's boxes -/
def zeroRepCs : List Value := repCs 0 0 none 0 0 false 0 0 ⟨#[]⟩ none 0 0 ⟨#[]⟩
structure GR (w W : World) (l : List UInt8) : Prop where
  bl : Bl w W
  r : AC W w.heap.size zeroRepCs
  c : C1 W (w.heap.size + 1) (.string (strL l))
theorem GR.keep {w W W' : World} {l : List UInt8} (h : GR w W l) (k : Bl W W') : GR w W' l := ⟨h.bl.trans k, h.r.keep k, h.c.keep k⟩
theorem GR.set {w W : World} {l : List UInt8} (h : GR w W l) (m : List UInt8) : GR w (W.setCell ⟨w.heap.size + 1, 0, none⟩ (.string (strL m))) m :=
  ⟨h.bl.setCell (p := ⟨w.heap.size + 1, 0, none⟩) (Nat.le_succ _) _, h.r.other (by omega), h.c.set _⟩
theorem GR.new (w : World) (l : List UInt8) (T U : TypeId) : GR w ((w.alloc (.cells zeroRepCs.toArray T)).alloc (.cells #[.string (strL l)] U)) l :=
  ⟨((Bl.refl w).alloc _).alloc _, (AC.new w _ rfl zeroRepCs T).keep ((Bl.refl _).alloc _), C1.new _ (w.heap.size + 1) (by simp) _ U⟩
theorem GR.bad {w W W' : World} {l : List UInt8} (h : GR w W l) {r : ByteArray} (hb : Bl (W.setCell ⟨w.heap.size + 1, 0, none⟩ (.string r)) W') : Bl w W' :=
  (show Bl w (W.setCell ⟨w.heap.size + 1, 0, none⟩ (.string r)) from h.bl.setCell (p := ⟨w.heap.size + 1, 0, none⟩) (Nat.le_succ _) _).trans hb
theorem GR.lt {w W : World} {l : List UInt8} (h : GR w W l) : w.heap.size + 1 < W.heap.size := h.c.lt
/-- .. and the answer's own box, with its pairs so far -/
structure PG (w W : World) (l : List UInt8) (gx : Nat) (cs : List Value) (ad : Option Addr) (n : Nat) (xs : List Int) (pv : Value) (k : Nat) (acc : List (ByteArray × ValL)) : Prop where
  g : GR w W l
  a : AC W gx cs
  x : FarO (w.heap.size + 1 + 1) W ad n (cap2 cs) xs
  ap : ∀ b off, ad = some ⟨b, off, none⟩ → w.heap.size + 1 + 1 ≤ b ∧ b < gx
  o : OPR (gx + 1) W pv k acc
  ge : w.heap.size + 1 + 1 ≤ gx
  lt : gx < W.heap.size
theorem PG.keep {w W W' : World} {l : List UInt8} {gx : Nat} {cs : List Value} {ad : Option Addr} {n : Nat} {xs : List Int} {pv : Value} {k : Nat} {acc : List (ByteArray × ValL)} (h : PG w W l gx cs ad n xs pv k acc) (b : Bl W W') : PG w W' l gx cs ad n xs pv k acc :=
  ⟨h.g.keep b, h.a.keep b, h.x.keep b, h.ap, h.o.keep b, h.ge, Nat.lt_of_lt_of_le h.lt b.size⟩
theorem PG.set {w W : World} {l : List UInt8} {gx : Nat} {cs : List Value} {ad : Option Addr} {n : Nat} {xs : List Int} {pv : Value} {k : Nat} {acc : List (ByteArray × ValL)} (h : PG w W l gx cs ad n xs pv k acc) (m : List UInt8) : PG w (W.setCell ⟨w.heap.size + 1, 0, none⟩ (.string (strL m))) m gx cs ad n xs pv k acc :=
  ⟨h.g.set m, h.a.other (by have := h.ge; omega), h.x.set (by omega) _ _, h.ap, h.o.set (by have := h.ge; omega) _ _, h.ge, by simpa using h.lt⟩
theorem PG.new {w W : World} {l : List UInt8} {ad : Option Addr} {n : Nat} {xs : List Int} (g : GR w W l) (cs : List Value) (x : FarO (w.heap.size + 1 + 1) W ad n (cap2 cs) xs) (T : TypeId) : PG w (W.alloc (.cells cs.toArray T)) l W.heap.size cs ad n xs (.slice none 0 0) 0 [] :=
  ⟨g.keep ((Bl.refl W).alloc _), AC.new W _ rfl cs T, x.keep ((Bl.refl W).alloc _), fun b off e => x.block b off e, OPR.nil _ _, g.lt, by simp⟩
/-- a pair is put behind the others -/
theorem PG.app {w W W' : World} {l : List UInt8} {gx : Nat} {cs : List Value} {ad : Option Addr} {n : Nat} {xs : List Int} {pv v' : Value} {k : Nat} {acc : List (ByteArray × ValL)} (h : PG w W l gx cs ad n xs pv k acc) (p : ByteArray × ValL)
    (ho : W'.ownsRow (gx + 1) 52 5 v' (k + 1) (cellsP acc ++ pairCs p)) (hg : W.grownBy W' pv.ownBlock) : PG w W' l gx cs ad n xs v' (k + 1) (acc ++ [p]) := by
  have hb : Below (gx + 1) W W' := Below.grown (Below.refl _ W) hg (by have := h.lt; omega) (fun q hq => (World.ownsRow.lt h.o.2 q hq).1)
  have hge := h.ge
  refine ⟨⟨Below.trans h.g.bl (Below.mono hb (by omega)), h.g.r.below hb (by omega), h.g.c.below hb (by omega)⟩, h.a.below hb (by omega), h.x.below hb (fun b off e => by have := h.ap b off e; omega), h.ap, ⟨by rw [List.length_append, h.o.1]; rfl, by rw [cellsP_snoc]; exact ho⟩, h.ge, Nat.lt_of_lt_of_le h.lt hb.size⟩
/-- .. and stored -/
theorem PG.store {w W : World} {l : List UInt8} {gx : Nat} {cs : List Value} {ad : Option Addr} {n : Nat} {xs : List Int} {pv : Value} {k : Nat} {acc : List (ByteArray × ValL)} (h : PG w W l gx cs ad n xs pv k acc) (j : Nat) (v : Value) (hj : j ≠ 2 := by decide) : PG w (W.setCell ⟨gx, j, none⟩ v) l gx (cs.set j v) ad n xs pv k acc := by
  have hge := h.ge
  exact ⟨⟨h.g.bl.setCell (p := ⟨gx, j, none⟩) (by show w.heap.size ≤ gx; omega) v, h.g.r.other (by omega), h.g.c.otherj (by omega)⟩, h.a.setj j v, by rw [cap2_set cs hj]; exact h.x.apart (fun b off e => by have := h.ap b off e; omega) _ _, h.ap, h.o.set (Nat.lt_succ_self _) _ _, h.ge, by simpa using h.lt⟩

/-- what the closure comes to -/
def RepPost (w : World) (l : List UInt8) (e : Ending) (w' : World) : Prop :=
  (∃ (r : ReplyL) (ad : Option Addr) (n ca : Nat) (pd : Option Addr) (pn pc : Nat), rdReply l = some r ∧ e = .returned (repV r.code r.num ad n ca r.val.there r.val.x r.val.n r.val.s pd pn pc r.text) ∧ FarO w.heap.size w' ad n ca r.at_ ∧ FarPO w.heap.size w' pd pn pc r.pairs ∧ Bl w w') ∨
  (rdReply l = none ∧ e = panE ∧ Bl w w')
theorem gr_results {tmps : Array Value} {W : World} {g : Nat} {code num : Int} {ad : Option Addr} {n ca : Nat} {t : Bool} {x : Nat} {m : Int} {s : ByteArray} {pd : Option Addr} {pn pc : Nat} {text : ByteArray} (h : tmps.getD 1 undef = .pointer (some ⟨g, 0, none⟩)) (hc : AC W g (repCs code num ad n ca t x m s pd pn pc text)) :
    (results Tryz.f39 tmps).run Tryz.prog W = .ok (repV code num ad n ca t x m s pd pn pc text) W := by
  rw [Array.getD_eq_getD_getElem?] at h
  obtain ⟨c0, c1, c2, c3, c4, c5, c6, c7, c8⟩ := hc.rep
  simp [results, Tryz.results39, go_sem, h, c0, c1, c2, c3, c4, c5, c6, c7, c8, repV]
end Go.Proofs.YtaelghbjbopilaaGreat
end

/- the bytes of a string in a row of their own ([]byte(s)). By an AI agent. -/
section
namespace Go.Proofs.YtaelghbjbopilaaGreat
open Go.RowKit

/-- the bytes of a string, in a row of their own -/
structure BR (W : World) (g : Nat) (l : List UInt8) : Prop where
  cells : ∀ j (hj : j < l.length), W.cell? ⟨g, j, none⟩ = some (.int .u8 (l[j].toNat : Int))
  free : ∀ j, j < l.length → W.frozen? ⟨g, j, none⟩ = false
theorem BR.new (w : World) (p : ByteArray) (cap : Nat) (e : TypeId) (l : List UInt8) (hp : SB p l) :
    BR (w.drew.alloc (.cells (bytesRow p cap) e ((bytesRow p cap).size, (bytesRow p cap).size + 1))) w.heap.size l := by
  have hl := hp.size
  have hh : (w.drew.alloc (.cells (bytesRow p cap) e ((bytesRow p cap).size, (bytesRow p cap).size + 1))).heap[w.heap.size]? = some (.cells (bytesRow p cap) e ((bytesRow p cap).size, (bytesRow p cap).size + 1)) := heap_alloc_new w.drew _
  refine ⟨fun j hj => ?_, fun j hj => ?_⟩
  · rw [cell_of_row _ _ j _ _ _ hh]
    have h2 : l[j] = p[j]'(by omega) := (hp.get j (by omega) hj).symm
    rw [h2]
    have hjs : j < p.data.size := by have : p.data.size = p.size := rfl; omega
    simp [bytesRow, Array.getElem?_append]
    rw [if_pos (by omega), Array.getElem?_eq_getElem hjs]
    rfl
  · unfold World.frozen?
    dsimp only
    rw [hh]
    simp [bytesRow]
    omega
theorem BR.set {W : World} {g : Nat} {l : List UInt8} (h : BR W g l) (K : Nat) (hK : K < l.length) (c : UInt8) : ∀ j (hj : j < (l.set K c).length), (W.setCell ⟨g, K, none⟩ (.int .u8 (c.toNat : Int))).cell? ⟨g, j, none⟩ = some (.int .u8 ((l.set K c)[j].toNat : Int)) := by
  intro j hj
  have hj2 : j < l.length := by simpa using hj
  by_cases hjk : K = j
  · subst hjk
    rw [World.cell?_setCell_same _ _ _ (h.cells K hK)]
    simp
  · rw [World.cell?_setCell_other _ _ _ _ (fun e => hjk (by cases e; rfl)), h.cells j hj2]
    simp [hjk]

end Go.Proofs.YtaelghbjbopilaaGreat
end

/- proto.reader.value. By an AI agent. -/
section
set_option linter.unusedVariables false
set_option linter.unusedSimpArgs false
namespace Go.Proofs.YtaelghbjbopilaaGreat
open Go.RowKit

/-- value's boxes: the result, the reader (an older one) -/
structure SV (w : World) (b : Nat) (W : World) (l : List UInt8) : Prop where
  bl : Bl (w.setCell ⟨b, 0, none⟩ (.string (strL l))) W
  r : AC W w.heap.size [.bool false, .float .f64 0, .int .i64 0, .string ⟨#[]⟩]
  c : C1 W b (.string (strL l))
  lt : b < w.heap.size
theorem SV.keep {w : World} {b : Nat} {W W' : World} {l : List UInt8} (h : SV w b W l) (k : Bl W W') : SV w b W' l := ⟨h.bl.trans k, h.r.keep k, h.c.keep k, h.lt⟩
theorem SV.set {w : World} {b : Nat} {W : World} {l : List UInt8} {v : Value} (hc : C1 w b v) (h : SV w b W l) (m : List UInt8) : SV w b (W.setCell ⟨b, 0, none⟩ (.string (strL m))) m :=
  ⟨Bl.reset hc h.bl, h.r.other (by have := h.lt; omega), h.c.set _, h.lt⟩
theorem SV.new {w : World} {b : Nat} {l : List UInt8} (hc : C1 w b (.string (strL l))) (T : TypeId) : SV w b (w.alloc (.cells #[.bool false, .float .f64 0, .int .i64 0, .string ⟨#[]⟩] T)) l :=
  ⟨(Bl.same hc).trans ((Bl.refl w).alloc _), AC.new w _ rfl [.bool false, .float .f64 0, .int .i64 0, .string ⟨#[]⟩] T, hc.keep ((Bl.refl w).alloc _), hc.lt⟩
/-- what reading a value comes to -/
def ValPost (w : World) (b : Nat) (l : List UInt8) (e : Ending) (w' : World) : Prop :=
  (∃ (v : ValL) (r : List UInt8), rdVal l = some (v, r) ∧ e = .returned (.agg #[.bool v.there, .float .f64 v.x, .int .i64 v.n, .string v.s]) ∧ Bl (w.setCell ⟨b, 0, none⟩ (.string (strL r))) w') ∨
  (rdVal l = none ∧ e = panE ∧ ∃ r, Bl (w.setCell ⟨b, 0, none⟩ (.string r)) w')
theorem pval_results {tmps : Array Value} {W : World} {g : Nat} {t : Bool} {x : Nat} {n : Int} {s : ByteArray} (h : tmps.getD 2 undef = .pointer (some ⟨g, 0, none⟩)) (hc : AC W g [.bool t, .float .f64 x, .int .i64 n, .string s]) :
    (results Tryz.f43 tmps).run Tryz.prog W = .ok (.agg #[.bool t, .float .f64 x, .int .i64 n, .string s]) W := by
  rw [Array.getD_eq_getD_getElem?] at h
  obtain ⟨c0, c1, c2, c3⟩ := hc.val
  simp [results, Tryz.results43, go_sem, h, c0, c1, c2, c3]
theorem ptake_any (b : Nat) (l : List UInt8) (n : Nat) (w : World) (hc : C1 w b (.string (strL l))) :
    Calls Tryz.prog 128 #[.pointer (some ⟨b, 0, none⟩), .int .i64 n] w fun e w' =>
      (∃ t r, rdTake n l = some (t, r) ∧ e = .returned (.string (strL t)) ∧ w' = w.setCell ⟨b, 0, none⟩ (.string (strL r))) ∨ (rdTake n l = none ∧ e = panE ∧ w = w') := by
  unfold rdTake
  by_cases hn : n ≤ l.length
  · rw [if_pos hn]
    refine (ptake_some b l n w hc hn).mono ?_
    rintro e w' ⟨rfl, rfl⟩
    exact .inl ⟨_, _, rfl, rfl, rfl⟩
  · rw [if_neg hn]
    refine (ptake_none b l n w hc (by omega)).mono ?_
    rintro e w' ⟨rfl, rfl⟩
    exact .inr ⟨rfl, rfl, rfl⟩
theorem getN8_lt {t : List UInt8} {k : Nat} (hk : k ≤ 7) : getN (t.take k) * 256 + 255 < 18446744073709551616 ∧ 0 ≤ getN (t.take k) := by
  have hbd := getN_bound (t.take k)
  have h4 : (t.take k).length ≤ 7 := Nat.le_trans (List.length_take_le _ _) hk
  generalize (t.take k).length = q at *
  have hq : q = 0 ∨ q = 1 ∨ q = 2 ∨ q = 3 ∨ q = 4 ∨ q = 5 ∨ q = 6 ∨ q = 7 := by omega
  have h7 : getN (t.take k) < 256 ^ 7 := by
    rcases hq with rfl | rfl | rfl | rfl | rfl | rfl | rfl | rfl <;> exact Int.lt_of_lt_of_le hbd.2 (by decide)
  rw [show (256 : Int) ^ 7 = 72057594037927936 from rfl] at h7
  omega
theorem getN_takeL {t : List UInt8} {k : Nat} (h : k < t.length) : getN (t.take (k + 1)) = getN (t.take k) * 256 + t[k].toNat := by
  rw [List.take_succ_eq_append_getElem h, getN_snoc]

set_option maxHeartbeats 6400000 in
set_option maxRecDepth 100000 in
theorem pval_any (b : Nat) (l : List UInt8) (w : World) (hc : C1 w b (.string (strL l))) (hz : l.length ≤ 1000000) :
    Calls Tryz.prog 43 #[.pointer (some ⟨b, 0, none⟩)] w (ValPost w b l) := by
  have hsf := store_float
  have HC := Lib.hid hc
  have G := SV.new hc 27
  clear hc
  go_enter Tryz.func43, Tryz.ntmps43
  go_wp2_with fail
  have HG := Lib.hid (show w.heap.size = w.heap.size from rfl)
  generalize w.alloc _ = W0 at *
  have GH := Lib.hid G
  clear G
  refine (pnum_any b l 1 _ GH.out.c (by decide) (by decide)).mono ?_
  rintro e W1 (⟨t, l1, h1, rfl, rfl⟩ | ⟨hn, rfl, rfl⟩)
  case inr =>
    unfold panE
    go_wp2_with fail
    exact ⟨rfl, .inr ⟨by simp [rdVal, hn], rfl, _, GH.out.bl⟩⟩
  have H1 := Lib.hid h1
  have hz1 : l1.length ≤ 1000000 := by have := rdNum_len h1; omega
  replace GH := Lib.hid (GH.out.set HC.out l1)
  clear h1
  generalize World.setCell _ _ (.string (strL l1)) = W1 at *
  go_wp2_with fail
  refine (ptake_any b l1 8 _ GH.out.c).mono ?_
  rintro e W2 (⟨p2, l2, h2, rfl, rfl⟩ | ⟨hn, rfl, rfl⟩)
  case inr =>
    unfold panE
    go_wp2_with fail
    exact ⟨rfl, .inr ⟨by simp [rdVal, H1.out, hn], rfl, _, GH.out.bl⟩⟩
  have H2 := Lib.hid h2
  have hz2 : l2.length ≤ 1000000 := by have := (rdTake_len h2).1; omega
  have hp2 : p2.length = 8 := (rdTake_back h2).2
  replace GH := Lib.hid (GH.out.set HC.out l2)
  have HQ := Lib.hid (fun w => rget_any (strL p2) w (by rw [strL_size]; exact hp2))
  rw [show (strL p2).data.toList = p2 from rfl] at HQ
  have hX := gR_lt (gN_lt8 hp2).2
  have hcodes : (getR (getN p2).toNat).2 = 0 ∨ (getR (getN p2).toNat).2 = 4 := by
    unfold getR
    (repeat' split) <;> first | exact .inl rfl | exact .inr rfl
  clear h2 hp2
  obtain ⟨X, hXe⟩ : ∃ X, (getR (getN p2).toNat).1 = X := ⟨_, rfl⟩
  obtain ⟨c, hce⟩ : ∃ c, (getR (getN p2).toNat).2 = c := ⟨_, rfl⟩
  rw [hXe, hce] at HQ
  rw [hXe] at hX
  rw [hce] at hcodes
  have HXE := Lib.hid hXe
  have HCE := Lib.hid hce
  have HX := Lib.hid hX
  clear hXe hce hX
  generalize strL p2 = s2 at *
  generalize World.setCell _ _ (.string (strL l2)) = W2 at *
  go_wp2_with fail
  refine (HQ.out _).mono ?_
  rintro e W3 ⟨rfl, rfl⟩
  rcases hcodes with hc0 | hc4
  case inr =>
    subst hc4
    go_wp2_with fail
    refine (pwant_no _).mono ?_
    rintro e W12 ⟨rfl, rfl⟩
    unfold panE
    go_wp2_with fail
    exact ⟨rfl, .inr ⟨by simp [rdVal, H1.out, H2.out, HCE.out], rfl, _, GH.out.bl⟩⟩
  subst hc0
  by_cases ht : t ≤ 1
  case neg =>
    have qt : decide (t ≤ 1) = false := decide_eq_false ht
    have HT := Lib.hid ht
    clear ht
    go_wp2_with fail
    refine (pwant_no _).mono ?_
    rintro e W12 ⟨rfl, rfl⟩
    unfold panE
    go_wp2_with fail
    exact ⟨rfl, .inr ⟨by have h9 := HT.out; simp [rdVal, H1.out, H2.out, HCE.out]; intro h; omega, rfl, _, GH.out.bl⟩⟩
  have qt : decide (t ≤ 1) = true := decide_eq_true ht
  have HT := Lib.hid ht
  clear ht
  go_wp2_with fail
  refine (pwant_yes _).mono ?_
  rintro e W12 ⟨rfl, rfl⟩
  clear qt
  go_wp2_with fail
  refine (ptake_any b l2 8 _ GH.out.c).mono ?_
  rintro e W4 (⟨p3, l3, h3, rfl, rfl⟩ | ⟨hn, rfl, rfl⟩)
  case inr =>
    unfold panE
    go_wp2_with fail
    exact ⟨rfl, .inr ⟨by simp [rdVal, H1.out, H2.out, HCE.out, HT.out, hn], rfl, _, GH.out.bl⟩⟩
  have H3 := Lib.hid h3
  have hz3 : l3.length ≤ 1000000 := by have := (rdTake_len h3).1; omega
  have hp3 : p3.length = 8 := (rdTake_back h3).2
  replace GH := Lib.hid (GH.out.set HC.out l3)
  clear h3
  generalize World.setCell _ _ (.string (strL l3)) = W4 at *
  have z3 := strL_size p3
  rw [hp3] at z3
  have HS3 := Lib.hid (strL_SB p3)
  obtain ⟨s3, hs3⟩ : ∃ s, s = strL p3 := ⟨_, rfl⟩
  rw [← hs3] at z3 HS3 ⊢
  clear hs3
  have hconv := run_bytes_of_string (P := Tryz.prog) W4 9 78 5 s3 Tryz.underlying9 Tryz.underlying78 Tryz.underlying5
  have BR0 := BR.new W4 s3 (grownCap W4 s3.size 0 5) 5 p3 HS3.out
  have hbD : Bl W4 (W4.drew.alloc (.cells (bytesRow s3 (grownCap W4 s3.size 0 5)) 5 ((bytesRow s3 (grownCap W4 s3.size 0 5)).size, (bytesRow s3 (grownCap W4 s3.size 0 5)).size + 1))) := ((Bl.refl W4).drew).alloc _
  obtain ⟨cap, hcap⟩ : ∃ cap, grownCap W4 s3.size 0 5 = cap := ⟨_, rfl⟩
  rw [hcap] at hconv BR0 hbD
  rw [z3] at hconv
  clear hcap
  generalize W4.drew.alloc (.cells (bytesRow s3 cap) 5 ((bytesRow s3 cap).size, (bytesRow s3 cap).size + 1)) = BW at *
  generalize W4.heap.size = g at *
  replace GH := Lib.hid (GH.out.keep hbD)
  have HBR := Lib.hid BR0
  clear BR0 hbD
  go_wp2_with fail
  go_loop [6, 28] (fun u i => ∃ k : Nat, k ≤ 8 ∧ i = .int .i64 k ∧ u = .int .u64 (getN (p3.take k))) (fun _ i => 8 - (intOf i).toNat)
  case atStart => exact ⟨0, Nat.zero_le _, rfl, rfl⟩
  case round =>
    obtain ⟨k, hk, rfl, rfl⟩ := hrel
    by_cases hlt : k < 8
    · obtain ⟨hb1, hb0⟩ := getN8_lt (t := p3) (show k ≤ 7 by omega)
      have hcell := HBR.out.cells k (by omega)
      have hc8 := UInt8.toNat_lt (p3[k]'(by omega))
      have HTK := Lib.hid (getN_takeL (t := p3) (k := k) (by omega))
      generalize (p3[k]'(by omega)) = d at *
      generalize getN (p3.take k) = u at *
      have HO := Lib.hid (or_u8 u d.toNat hb0 hb1 (by omega) (by omega))
      go_wp2
      go_round
      case rel => exact ⟨k + 1, by omega, by go_num, by rw [HTK.out, ← HO.out]⟩
      case measure => simp [intOf]; omega
    · have e8 : k = 8 := by omega
      subst e8
      rw [List.take_of_length_le (by omega)]
      obtain ⟨N, hN⟩ : ∃ N, getN p3 = N := ⟨_, rfl⟩
      rw [hN]
      have HN := Lib.hid hN
      clear hN hconv
      go_wp2_with fail
      refine (ptext_any b l3 _ GH.out.c hz3).mono ?_
      rintro e W5 (⟨tx, l4, h4, rfl, hb⟩ | ⟨hn, rfl, r, hb⟩)
      case inr =>
        unfold panE
        go_wp2_with fail
        exact ⟨rfl, .inr ⟨by simp [rdVal, H1.out, H2.out, HCE.out, HT.out, H3.out, hn], rfl, _, (Bl.reset HC.out GH.out.bl).trans hb⟩⟩
      have H4 := Lib.hid h4
      replace GH := Lib.hid ((GH.out.set HC.out l4).keep hb)
      clear h4 hb
      obtain ⟨r0, r1, r2, r3⟩ := GH.out.r.val
      have fr := GH.out.r.frozen
      go_wp2_with fail
      refine bodyPost_ret (pval_results rfl (GH.out.r.set4 (.bool (t == 1)) (.float .f64 X) (.int .i64 (wrap64 N)) (.string (strL tx)))) rfl (.inl ⟨⟨decide (t = 1), X, wrap64 N, strL tx⟩, l4, ?_, rfl, ?_⟩)
      · simp [rdVal, H1.out, H2.out, HCE.out, HT.out, H3.out, H4.out, HXE.out, HN.out, strL]
      · have h4 := Bl.store4 (w := w.setCell ⟨b, 0, none⟩ (.string (strL l4))) GH.out.bl (g := w.heap.size) (by rw [setCell_size]; exact Nat.le_refl _) (.bool (t == 1)) (.float .f64 X) (.int .i64 (wrap64 N)) (.string (strL tx))
        exact h4
end Go.Proofs.YtaelghbjbopilaaGreat
end
