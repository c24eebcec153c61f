import Derived.Test.YtfmabjoindlfeaaGreatQTxnTellsUptoP18
import Derived.Test.YtfmabjoindlfeaaGreatQTxnTellsUptoP32
import Derived.Test.YtfmabjoindlfeaaGreatQTxnTellsUptoP5
import Derived.Test.YtfmabjoindlfeaaGreatQTxnTellsUptoP21

/- an own slice of ints among boxes that turn. By an AI agent. -/
section
set_option linter.unusedVariables false
namespace Go.Proofs.YtfmabjoindlfeaaGreat
open Go.RowKit

/-- an own slice, in parts -/
def FarO (B : Nat) (w : World) (a : Option Addr) (n ca : Nat) (xs : List Int) : Prop := FI B w (.slice a n ca) xs
theorem FarO.nil (B : Nat) (w : World) : FarO B w none 0 0 [] := FI.nil B w
theorem FarO.keep {B : Nat} {w w' : World} {a : Option Addr} {n ca : Nat} {xs : List Int} (h : FarO B w a n ca xs) (hb : Bl w w') : FarO B w' a n ca xs := FI.keep h hb
theorem FarO.block {B : Nat} {w : World} {a : Option Addr} {n ca : Nat} {xs : List Int} (h : FarO B w a n ca xs) : ∀ b off, a = some ⟨b, off, none⟩ → B ≤ b ∧ b < w.heap.size := by
  intro b off e
  obtain ⟨-, ⟨h1, -⟩ | ⟨g, cap, cur, hv, hB, hg, -⟩⟩ := h.own
  · cases h1; cases e
  · cases hv
    cases e
    exact ⟨hB, lt_of_heap hg⟩
theorem FarO.apart {B : Nat} {w : World} {a : Option Addr} {n ca : Nat} {xs : List Int} (h : FarO B w a n ca xs) {q : Nat} (hq : ∀ b off, a = some ⟨b, off, none⟩ → b ≠ q) (j : Nat) (u : Value) : FarO B (w.setCell ⟨q, j, none⟩ u) a n ca xs := by
  refine ⟨?_, h.cap, h.wf⟩
  obtain ⟨h1, h2 | ⟨g, cap, cur, hv, hB, hg, r⟩⟩ := h.own
  · exact ⟨h1, .inl h2⟩
  · have hne : g ≠ q := by
      cases hv
      exact hq g 0 rfl
    exact ⟨h1, .inr ⟨g, cap, cur, hv, hB, by rw [Below.heap_setCell _ _ _ _ hne]; exact hg, r⟩⟩
theorem FarO.mono {B B' : Nat} {w : World} {a : Option Addr} {n ca : Nat} {xs : List Int} (h : FarO B w a n ca xs) (hB : B' ≤ B) : FarO B' w a n ca xs := by
  refine ⟨?_, h.cap, h.wf⟩
  obtain ⟨h1, h2 | ⟨g, cap, cur, hv, hB2, r⟩⟩ := h.own
  · exact ⟨h1, .inl h2⟩
  · exact ⟨h1, .inr ⟨g, cap, cur, hv, Nat.le_trans hB hB2, r⟩⟩
theorem FarO.set {B : Nat} {w : World} {a : Option Addr} {n ca : Nat} {xs : List Int} (h : FarO B w a n ca xs) {q : Nat} (hq : q < B) (j : Nat) (u : Value) : FarO B (w.setCell ⟨q, j, none⟩ u) a n ca xs :=
  h.apart (fun b off e => by have := h.block b off e; omega) j u
theorem FarO.fill {B : Nat} {a : Option Addr} {n ca : Nat} {xs : List Int} {q : Nat} (hq : q < B) (vs : List Value) : ∀ (w : World) (j : Nat), FarO B w a n ca xs → FarO B (Go.Proofs.YtfmabjoindlfeaaGreat.fill w q j vs) a n ca xs := by
  induction vs with
  | nil => intro w j h; exact h
  | cons v vs ih => intro w j h; exact ih _ _ (h.set hq j v)
theorem FarO.far {B : Nat} {w : World} {a : Option Addr} {n ca : Nat} {xs : List Int} (h : FarO B w a n ca xs) : FarIA B w a n xs := FI.far h
end Go.Proofs.YtfmabjoindlfeaaGreat
end

/- the state of txn.read. By an AI agent. -/
section
set_option linter.unusedVariables false
set_option linter.unusedSimpArgs false
namespace Go.Proofs.YtfmabjoindlfeaaGreat
open Go.RowKit

/-- the room of the slice that stands in a box's cell j -/
def roomT : Value → Nat
  | .slice _ _ c => c
  | _ => 0
def capT (cs : List Value) (j : Nat) : Nat := (cs[j]?.map roomT).getD 0
theorem capT_set (cs : List Value) {i j : Nat} (hj : j ≠ i) (v : Value) : capT (cs.set j v) i = capT cs i := by
  unfold capT
  rw [List.getElem?_set_ne hj]
theorem FarO.belowT {B B' : Nat} {w w' : World} {a : Option Addr} {n ca : Nat} {xs : List Int} (h : FarO B w a n ca xs) (hb : Below B' w w') (hq : ∀ b off, a = some ⟨b, off, none⟩ → b < B') : FarO B w' a n ca xs := by
  refine ⟨?_, h.cap, h.wf⟩
  obtain ⟨h1, h2 | ⟨g, cap, cur, hv, hB2, hg, r⟩⟩ := h.own
  · exact ⟨h1, .inl h2⟩
  · have hlt : g < B' := by
      cases hv
      exact hq g 0 rfl
    exact ⟨h1, .inr ⟨g, cap, cur, hv, hB2, by rw [hb.block g hlt]; exact hg, r⟩⟩
theorem OWR.monoT {B B' : Nat} {w : World} {v : Value} {k : Nat} {ps : List (ByteArray × ActL)} (h : OWR B w v k ps) (hB : B' ≤ B) : OWR B' w v k ps := by
  obtain ⟨h0, h1, h2 | ⟨g, cap, cur, hv, hB2, r⟩⟩ := h
  · exact ⟨h0, h1, .inl h2⟩
  · exact ⟨h0, h1, .inr ⟨g, cap, cur, hv, Nat.le_trans hB hB2, r⟩⟩
theorem OWR.fillT {B : Nat} {v : Value} {k : Nat} {ps : List (ByteArray × ActL)} {q : Nat} (hq : q < B) (vs : List Value) : ∀ (w : World) (j : Nat), OWR B w v k ps → OWR B (fill w q j vs) v k ps := by
  induction vs with
  | nil => intro w j h; exact h
  | cons u vs ih => intro w j h; exact ih _ _ (h.set hq j u)
def txL (o num prev : Int) (dd : Option Addr) (dn dc : Nat) (ad : Option Addr) (an ac : Nat) (pd : Option Addr) (pn pc : Nat) : List Value := [.int .i64 o, .int .i64 num, .int .i64 prev, .slice dd dn dc, .slice ad an ac, .slice pd pn pc]
/-- the result's box and the reader's -/
structure TGR (w W : World) (l : List UInt8) : Prop where
  bl : Bl w W
  r : AC W w.heap.size zTx
  c : C1 W (w.heap.size + 1) (.string (strL l))
theorem TGR.keep {w W W' : World} {l : List UInt8} (h : TGR w W l) (k : Bl W W') : TGR w W' l := ⟨h.bl.trans k, h.r.keep k, h.c.keep k⟩
theorem TGR.set {w W : World} {l : List UInt8} (h : TGR w W l) (m : List UInt8) : TGR w (W.setCell ⟨w.heap.size + 1, 0, none⟩ (.string (strL m))) m :=
  ⟨h.bl.setCell (p := ⟨w.heap.size + 1, 0, none⟩) (Nat.le_succ _) _, h.r.other (by omega), h.c.set _⟩
theorem TGR.new (w : World) (l : List UInt8) (T U : TypeId) : TGR w ((w.alloc (.cells zTx.toArray T)).alloc (.cells #[.string (strL l)] U)) l :=
  ⟨((Bl.refl w).alloc _).alloc _, (AC.new w _ rfl zTx T).keep ((Bl.refl _).alloc _), C1.new _ (w.heap.size + 1) (by simp) _ U⟩
theorem TGR.lt {w W : World} {l : List UInt8} (h : TGR w W l) : w.heap.size + 1 < W.heap.size := h.c.lt
theorem TGR.stored {w W : World} {l : List UInt8} (h : TGR w W l) {g : Nat} (hg : w.heap.size + 1 + 1 ≤ g) (j : Nat) (v : Value) : TGR w (W.setCell ⟨g, j, none⟩ v) l :=
  ⟨h.bl.setCell (p := ⟨g, j, none⟩) (by show w.heap.size ≤ g; omega) v, h.r.other (by omega), h.c.otherj (by omega)⟩
theorem TGR.fr {w W W' : World} {l : List UInt8} (h : TGR w W l) {B : Nat} (hb : Below B W W') (hB : w.heap.size + 1 + 1 ≤ B) : TGR w W' l :=
  ⟨Below.trans h.bl (Below.mono hb (by omega)), h.r.below hb (by omega), h.c.below hb (by omega)⟩
/-- .. and the transaction's own box, its two vectors, its writes so far (which lie from block B on) -/
structure TPG (w W : World) (l : List UInt8) (gx B : Nat) (cs : List Value) (dd : Option Addr) (dn : Nat) (ds : List Int) (ad : Option Addr) (an : Nat) (xs : List Int) (pv : Value) (k : Nat) (acc : List (ByteArray × ActL)) : Prop where
  g : TGR w W l
  a : AC W gx cs
  x : FarO (gx + 1) W dd dn (capT cs 3) ds
  ap : ∀ b off, dd = some ⟨b, off, none⟩ → gx < b ∧ b < B
  y : FarO (gx + 1) W ad an (capT cs 4) xs
  aq : ∀ b off, ad = some ⟨b, off, none⟩ → gx < b ∧ b < B
  xy : ∀ b off, dd = some ⟨b, off, none⟩ → ∀ b' off', ad = some ⟨b', off', none⟩ → b ≠ b'
  o : OWR B W pv k acc
  ge : w.heap.size + 1 + 1 ≤ gx
  gb : gx < B
  lt : B ≤ W.heap.size
section
variable {w W W' : World} {l : List UInt8} {gx B : Nat} {cs : List Value} {dd : Option Addr} {dn : Nat} {ds : List Int} {ad : Option Addr} {an : Nat} {xs : List Int} {pv v' : Value} {k : Nat} {acc : List (ByteArray × ActL)}
theorem TPG.keep (h : TPG w W l gx B cs dd dn ds ad an xs pv k acc) (b : Bl W W') : TPG w W' l gx B cs dd dn ds ad an xs pv k acc :=
  ⟨h.g.keep b, h.a.keep b, h.x.keep b, h.ap, h.y.keep b, h.aq, h.xy, h.o.keep b, h.ge, h.gb, Nat.le_trans h.lt b.size⟩
theorem TPG.set (h : TPG w W l gx B cs dd dn ds ad an xs pv k acc) (m : List UInt8) : TPG w (W.setCell ⟨w.heap.size + 1, 0, none⟩ (.string (strL m))) m gx B cs dd dn ds ad an xs pv k acc := by
  have hge := h.ge
  have hgb := h.gb
  exact ⟨h.g.set m, h.a.other (by omega), h.x.apart (fun b off e => by have := h.ap b off e; omega) _ _, h.ap, h.y.apart (fun b off e => by have := h.aq b off e; omega) _ _, h.aq, h.xy, h.o.set (by omega) _ _, h.ge, h.gb, by simpa using h.lt⟩
theorem TPG.new (g : TGR w W l) (a : AC W gx cs) (x : FarO (gx + 1) W dd dn (capT cs 3) ds) (y : FarO (gx + 1) W ad an (capT cs 4) xs) (xy : ∀ b off, dd = some ⟨b, off, none⟩ → ∀ b' off', ad = some ⟨b', off', none⟩ → b ≠ b') (hge : w.heap.size + 1 + 1 ≤ gx) : TPG w W l gx W.heap.size cs dd dn ds ad an xs (.slice none 0 0) 0 [] :=
  ⟨g, a, x, fun b off e => by have h1 := x.block b off e; omega, y, fun b off e => by have h1 := y.block b off e; omega, xy, OWR.nil _ _, hge, a.lt, Nat.le_refl _⟩
/-- a write is put behind the others -/
theorem TPG.app (h : TPG w W l gx B cs dd dn ds ad an xs pv k acc) (p : ByteArray × ActL)
    (ho : W'.ownsRow B 63 5 v' (k + 1) (cellsW acc ++ writeCs p)) (hg : W.grownBy W' pv.ownBlock) : TPG w W' l gx B cs dd dn ds ad an xs v' (k + 1) (acc ++ [p]) := by
  have hb : Below B W W' := Below.grown (Below.refl _ W) hg h.lt (fun q hq => (World.ownsRow.lt h.o.2 q hq).1)
  have hge := h.ge
  have hgb := h.gb
  refine ⟨h.g.fr hb (by omega), h.a.below hb (by omega), h.x.belowT hb (fun b off e => by have := h.ap b off e; omega), h.ap, h.y.belowT hb (fun b off e => by have := h.aq b off e; omega), h.aq, h.xy, ⟨by rw [List.length_append, h.o.1]; rfl, by rw [cellsW_snoc]; exact ho⟩, h.ge, h.gb, Nat.le_trans h.lt hb.size⟩
/-- .. and stored -/
theorem TPG.store (h : TPG w W l gx B cs dd dn ds ad an xs pv k acc) (j : Nat) (v : Value) (hj : j ≠ 3 ∧ j ≠ 4 := by decide) : TPG w (W.setCell ⟨gx, j, none⟩ v) l gx B (cs.set j v) dd dn ds ad an xs pv k acc := by
  have hge := h.ge
  have hgb := h.gb
  exact ⟨h.g.stored hge j v, h.a.setj j v, by rw [capT_set cs hj.1]; exact h.x.apart (fun b off e => by have := h.ap b off e; omega) _ _, h.ap, by rw [capT_set cs hj.2]; exact h.y.apart (fun b off e => by have := h.aq b off e; omega) _ _, h.aq, h.xy, h.o.set (by omega) _ _, h.ge, h.gb, by simpa using h.lt⟩
end
/-- a transaction of which all lists lie from block B on -/
structure TXF (B : Nat) (w : World) (s : TxAt) (t : TxnL) : Prop where
  d : FarO B w s.da s.dn s.dc t.deps
  a : FarO B w s.aa s.an s.ac t.at_
  ws : OWR B w (.slice s.wa s.wn s.wc) s.wn t.ws
  da : ∀ b off, s.da = some ⟨b, off, none⟩ → ∀ b' off', s.aa = some ⟨b', off', none⟩ → b ≠ b'
  wz : s.wn ≤ 1000000
theorem TXF.keep {B : Nat} {w w' : World} {s : TxAt} {t : TxnL} (h : TXF B w s t) (k : Bl w w') : TXF B w' s t := ⟨h.d.keep k, h.a.keep k, h.ws.keep k, h.da, h.wz⟩
theorem TXF.mono {B B' : Nat} {w : World} {s : TxAt} {t : TxnL} (h : TXF B w s t) (k : B' ≤ B) : TXF B' w s t := ⟨h.d.mono k, h.a.mono k, h.ws.monoT k, h.da, h.wz⟩
theorem TXF.fill {B : Nat} {w : World} {s : TxAt} {t : TxnL} (h : TXF B w s t) {q : Nat} (hq : q < B) (vs : List Value) (j : Nat) : TXF B (Go.Proofs.YtfmabjoindlfeaaGreat.fill w q j vs) s t := ⟨FarO.fill hq vs _ _ h.d, FarO.fill hq vs _ _ h.a, OWR.fillT hq vs _ _ h.ws, h.da, h.wz⟩
theorem TXF.tx {B : Nat} {w : World} {s : TxAt} {t : TxnL} (h : TXF B w s t) (ok : TxOk t) : TX w s t := ⟨h.d.far.1, h.a.far.1, (OWR.far h.ws h.wz).1.ww ok.ws, ok.o, ok.num, ok.prev⟩
/-- what reading comes to -/
def TxPost (w : World) (l : List UInt8) (e : Ending) (w' : World) : Prop :=
  (∃ (t : TxnL) (s : TxAt), rdTx l = some t ∧ e = .returned (txV t s) ∧ TXF w.heap.size w' s t ∧ Bl w w') ∨
  (rdTx l = none ∧ e = panE ∧ Bl w w')
theorem tx_results {tmps : Array Value} {W : World} {g : Nat} {o num prev : Int} {dd : Option Addr} {dn dc : Nat} {ad : Option Addr} {an ac : Nat} {pd : Option Addr} {pn pc : Nat} (h : tmps.getD 2 undef = .pointer (some ⟨g, 0, none⟩)) (hc : AC W g (txL o num prev dd dn dc ad an ac pd pn pc)) :
    (results Tryz.f52 tmps).run Tryz.prog W = .ok (.agg #[.int .i64 o, .int .i64 num, .int .i64 prev, .slice dd dn dc, .slice ad an ac, .slice pd pn pc]) W := by
  rw [Array.getD_eq_getD_getElem?] at h
  have c0 := hc.cell 0 _ rfl
  have c1 := hc.cell 1 _ rfl
  have c2 := hc.cell 2 _ rfl
  have c3 := hc.cell 3 _ rfl
  have c4 := hc.cell 4 _ rfl
  have c5 := hc.cell 5 _ rfl
  simp [results, Tryz.results52, go_sem, h, c0, c1, c2, c3, c4, c5]
/-- why nothing is read -/
theorem rdTx_none {l body : List UInt8} (hb : l.take (l.length - 4) = body) (h : rdBodyT body = none) : rdTx l = none := by
  unfold rdTx
  rw [hb, h]
  split <;> rfl
theorem rdTx_short {l : List UInt8} (h : ¬ (4 ≤ l.length ∧ l.length ≤ 65000)) : rdTx l = none := by
  unfold rdTx
  rw [if_neg (fun q => h ⟨q.1, q.2.1⟩)]
theorem rdTx_sum {l : List UInt8} (h : numB (sumL (l.take (l.length - 4)) : Int) 4 ≠ l.drop (l.length - 4)) : rdTx l = none := by
  unfold rdTx
  rw [if_neg (fun q => h q.2.2)]
theorem rdTx_of {l body : List UInt8} {t : TxnL} (h1 : 4 ≤ l.length) (h2 : l.length ≤ 65000) (hb : l.take (l.length - 4) = body) (hs : numB (sumL body : Int) 4 = l.drop (l.length - 4)) (h : rdBodyT body = some t) :
    rdTx l = if validT t = true then some t else none := by
  unfold rdTx
  rw [hb, if_pos ⟨h1, h2, hs⟩, h, Option.bind_some]
theorem rdWrs_nil (f : Nat) : rdWrs f [] = some [] := by cases f <;> rfl
theorem rdWrs_cons (f : Nat) {l : List UInt8} (h : l ≠ []) : rdWrs (f + 1) l = (rdWr l).bind fun p => (rdWrs f p.2).map fun q => p.1 :: q := by
  show (if l.length = 0 then some [] else _) = _
  rw [if_neg (fun q => h (List.eq_nil_of_length_eq_zero q))]
theorem filled_T {l : List UInt8} (h : l ≠ []) : (strL l).toList.isEmpty = false := by
  rw [ByteArray.toList_eq]
  show l.isEmpty = false
  cases l with
  | nil => exact absurd rfl h
  | cons a l => rfl
theorem rdNumT_len {n : Nat} {l m : List UInt8} {x : Int} (h : rdNum n l = some (x, m)) : m.length + n ≤ l.length := by
  obtain ⟨e, -⟩ := rdNum_back h
  rw [e, List.length_append, numB_len]; omega
theorem txread_short (l : List UInt8) (w : World) (h : ¬ (4 ≤ l.length ∧ l.length ≤ 65000)) :
    Calls Tryz.prog 52 #[.string (strL l)] w (TxPost w l) := by
  have zl := strL_size l
  have HR := Lib.hid (rdTx_short h)
  have hb := (Bl.refl w).alloc (.cells zTx.toArray 26)
  have HB := Lib.hid hb
  unfold zTx at HB
  clear hb
  generalize strL l = sl at *
  generalize l.length = N at *
  by_cases h12 : 4 ≤ N
  · have q1 : decide ((4 : Int) ≤ (N : Int)) = true := decide_eq_true (by omega)
    have q2 : decide ((N : Int) ≤ 65000) = false := decide_eq_false (by omega)
    have q3 : decide (4 ≤ N) = true := decide_eq_true (by omega)
    have q4 : decide (N ≤ 65000) = false := decide_eq_false (by omega)
    clear h h12
    go_enter Tryz.func52, Tryz.ntmps52
    go_wp2_with fail
    refine (twant_no _).mono ?_
    rintro e W12 ⟨rfl, rfl⟩
    unfold panE
    go_wp2_with fail
    exact ⟨rfl, .inr ⟨HR.out, rfl, HB.out⟩⟩
  · have q1 : decide ((4 : Int) ≤ (N : Int)) = false := decide_eq_false (by omega)
    have q3 : decide (4 ≤ N) = false := decide_eq_false (by omega)
    clear h h12
    go_enter Tryz.func52, Tryz.ntmps52
    go_wp2_with fail
    refine (twant_no _).mono ?_
    rintro e W12 ⟨rfl, rfl⟩
    unfold panE
    go_wp2_with fail
    exact ⟨rfl, .inr ⟨HR.out, rfl, HB.out⟩⟩
end Go.Proofs.YtfmabjoindlfeaaGreat
end

/- txn.read. By an AI agent. -/
section
set_option linter.unusedVariables false
set_option linter.unusedSimpArgs false
namespace Go.Proofs.YtfmabjoindlfeaaGreat
open Go.RowKit
attribute [local go_sem] eOp eOper eUpon pOp pOper pUpon

set_option maxHeartbeats 12800000 in
set_option maxRecDepth 100000 in
theorem txread_long (l body tr : List UInt8) (m : Nat) (w : World) (hm : l.length = m + 4) (hmx : m + 4 ≤ 65000) (hbd : l.take m = body) (htr : l.drop m = tr) :
    Calls Tryz.prog 52 #[.string (strL l)] w (TxPost w l) := by
  have hsf := store_float
  have zl := strL_size l
  rw [hm] at zl
  have e1 : (strL l).extract 0 m = strL body := by rw [strL_take, hbd]
  have e2 : (strL l).extract m (m + 4) = strL tr := by
    have := strL_drop l m
    rw [zl, htr] at this
    exact this
  have hbl : body.length = m := by rw [← hbd, List.length_take]; omega
  have HBD : Hid (l.take (l.length - 4) = body) := Lib.hid (by rw [hm, Nat.add_sub_cancel]; exact hbd)
  have HTR : Hid (l.drop (l.length - 4) = tr) := Lib.hid (by rw [hm, Nat.add_sub_cancel]; exact htr)
  have HL := Lib.hid hm
  have HBL := Lib.hid hbl
  have hb := TGR.new w body 26 153
  unfold zTx at hb
  have q1 : decide ((4 : Int) ≤ ((m + 4 : Nat) : Int)) = true := decide_eq_true (by omega)
  have q2 : decide (((m + 4 : Nat) : Int) ≤ 65000) = true := decide_eq_true (by omega)
  have hsub : ((m + 4 : Nat) : Int) - 4 = (m : Int) := by omega
  have hwr : IntKind.i64.wrap (m : Int) = (m : Int) := by rw [IntKind.wrap_i64]; omega
  have hmN : m ≤ m + 4 := Nat.le_add_right _ _
  generalize hN : m + 4 = N at *
  have HN := Lib.hid hN
  clear hN hm hbd htr hbl
  generalize hsl : strL l = sl at *
  have HSL := Lib.hid hsl
  clear hsl
  go_enter Tryz.func52, Tryz.ntmps52
  go_wp2_with fail
  refine (twant_yes _).mono ?_
  rintro e W12 ⟨rfl, rfl⟩
  go_upto_region 3 with fail
  generalize (w.alloc (.cells #[.int .i64 0, .int .i64 0, .int .i64 0, .slice none 0 0, .slice none 0 0, .slice none 0 0] 26)).alloc _ = W at *
  have HS := Lib.hid (fun w => sum_any (strL body) w (by rw [strL_size, HBL.out]; omega))
  rw [show (strL body).data.toList = body from rfl] at HS
  have hsl := sumL_lt body
  have HN4 := Lib.hid (fun w => tnum4 (sumL body : Int) w (by omega) (by omega))
  have HSB : Hid (∀ w, Calls Tryz.prog 30 #[.string (strL body)] w fun e w' => e = .returned (.int .i64 (sumL body)) ∧ Bl w w') := Lib.hid (fun w => by
    refine (HS.out w).mono ?_
    rintro e w' ⟨rfl, rfl⟩
    exact ⟨rfl, Bl.refl _⟩)
  clear HS
  have hbD := hb.keep ((Bl.refl W).drew)
  clear hb
  by_cases hs : numB (sumL body : Int) 4 = tr
  · have qe : ((strL (numB (sumL body : Int) 4)).toList == (strL tr).toList) = true := by rw [SB.beq (strL_SB _) (strL_SB _)]; exact decide_eq_true hs
    have HSS' := Lib.hid hs
    clear hs
    generalize strL (numB (sumL body : Int) 4) = qx at *
    generalize strL tr = qt at *
    generalize hsb : strL body = sb at *
    have hsmE : ∃ sm, sumL body = sm := ⟨_, rfl⟩
    obtain ⟨sm, hsm⟩ := hsmE
    have HSMB := Lib.hid hsm
    rw [hsm] at HSB HN4
    clear hsm hsl
    refine wp_region_panicsT [0, 1, 2, 3, 4, 5, 6, 7, 8, 9, 10, 11] 1 (HasBox (w.heap.size + 1) [.string sb]) HasBox.keep (by rw [← hsb]; exact hbD.c) [12] (fun c W' => False) ?hR (by kernel_rfl) rfl (by kernel_rfl) (by kernel_rfl) (by kernel_rfl) ?_
    case hR => intro c tt W' h; exact h.elim
    generalize W.drew = WD at *
    haveI : Nonempty (ExtC (HasBox (w.heap.size + 1) [.string sb])) := ⟨⟨WD, by rw [← hsb]; exact hbD.c⟩⟩
    have d7 : ∀ q : ExtC (HasBox (w.heap.size + 1) [.string sb]), _ := fun q => AC.cell q.ok 0 _ rfl
    repeat (refine wpI_step rfl (fun K hK => ?_); go_simp; first | (refine hK _ ?_; clear hK K) | (apply Exists.intro; refine ⟨fun q => ?_, hK _ ?_⟩; (first | with_reducible exact HSB.out _ | with_reducible exact HN4.out _); clear hK K))
    refine wpI_nil ?_
    clear d7 this qe e1 e2 hsub hwr hmN q1 q2
    refine wpAnyP_one (i := 12) (by kernel_rfl) ?_
    intro W8 hb8
    go_simp
    refine (twant_yes _).mono ?_
    rintro e W13 ⟨rfl, rfl⟩
    refine ⟨_, rfl, ?_⟩
    refine wpAnyP_done (by kernel_rfl) ?_
    intro W14 hb14
    have G := Lib.hid (hbD.keep (hb8.trans hb14))
    clear hb8 hb14 hbD
    have hz0 : body.length ≤ 65000 := by rw [HBL.out]; have := HN.out; omega
    go_wp2_with fail
    refine (tnumR_any (w.heap.size + 1) body 1 _ G.out.c (by decide) (by decide)).mono ?_
    rintro e W15 (⟨o, l9, h9, rfl, rfl⟩ | ⟨hn, rfl, rfl⟩)
    case inr =>
      unfold panE
      go_wp2_with fail
      exact ⟨rfl, .inr ⟨rdTx_none HBD.out (by simp [rdBodyT, rdHead, hn]), rfl, G.out.bl⟩⟩
    have H9 := Lib.hid h9
    have hz9 : l9.length ≤ 65000 := by have := rdNumT_len h9; omega
    replace G := Lib.hid (G.out.set l9)
    have hbo := rdNum_back h9
    obtain ⟨oi, rfl⟩ := Int.eq_ofNat_of_zero_le hbo.2.1
    have ho256 : (oi : Int) < 256 := hbo.2.2
    clear h9 hbo
    generalize World.setCell _ _ (.string (strL l9)) = W15 at *
    go_wp2_with fail
    refine (tnumR_any (w.heap.size + 1) l9 6 _ G.out.c (by decide) (by decide)).mono ?_
    rintro e W16 (⟨num, l10, h10, rfl, rfl⟩ | ⟨hn, rfl, rfl⟩)
    case inr =>
      unfold panE
      go_wp2_with fail
      exact ⟨rfl, .inr ⟨rdTx_none HBD.out (by simp [rdBodyT, rdHead, H9.out, hn]), rfl, G.out.bl⟩⟩
    have H10 := Lib.hid h10
    have hz10 : l10.length ≤ 65000 := by have := rdNumT_len h10; omega
    replace G := Lib.hid (G.out.set l10)
    clear h10
    generalize World.setCell _ _ (.string (strL l10)) = W16 at *
    go_wp2_with fail
    refine (tnumR_any (w.heap.size + 1) l10 6 _ G.out.c (by decide) (by decide)).mono ?_
    rintro e W17 (⟨prev, l11, h11, rfl, rfl⟩ | ⟨hn, rfl, rfl⟩)
    case inr =>
      unfold panE
      go_wp2_with fail
      exact ⟨rfl, .inr ⟨rdTx_none HBD.out (by simp [rdBodyT, rdHead, H9.out, H10.out, hn]), rfl, G.out.bl⟩⟩
    have H11 := Lib.hid h11
    have hz11 : l11.length ≤ 65000 := by have := rdNumT_len h11; omega
    replace G := Lib.hid (G.out.set l11)
    clear h11
    generalize World.setCell _ _ (.string (strL l11)) = W17 at *
    have hga := AC.new W17 _ rfl (txL (oi : Int) num prev none 0 0 none 0 0 none 0 0) 26
    have hgb := (Bl.refl W17).alloc (.cells (txL (oi : Int) num prev none 0 0 none 0 0 none 0 0).toArray 26)
    unfold txL at hga hgb
    have hlt := G.out.lt
    have G2 := Lib.hid (G.out.keep hgb)
    have cz := G2.out.c.cell
    go_wp2_with fail
    have GA := Lib.hid hga
    have hsz : (W17.alloc (.cells #[.int .i64 (oi : Int), .int .i64 num, .int .i64 prev, .slice none 0 0, .slice none 0 0, .slice none 0 0] 26)).heap.size = W17.heap.size + 1 := by simp
    clear hga hgb cz G
    generalize W17.alloc _ = W18 at *
    generalize W17.heap.size = gx at *
    refine (vget_rd (strL l11) l11 _ (strL_SB _) (by omega)).mono ?_
    rintro e W19 (⟨ds, l12, v, hv, rfl, hfi, hb⟩ | ⟨hv, c, hc, rfl, hb⟩)
    case inr =>
      have HNN := Lib.hid (rdTx_none HBD.out (by simp [rdBodyT, rdHead, H9.out, H10.out, H11.out, hv]))
      have HB := Lib.hid (G2.out.bl.trans hb)
      clear hv hb
      rcases hc with rfl | rfl
      · go_wp2_with fail
        refine (twant_no _).mono ?_
        rintro e W20 ⟨rfl, rfl⟩
        unfold panE
        go_wp2_with fail
        exact ⟨rfl, .inr ⟨HNN.out, rfl, HB.out⟩⟩
      · go_wp2_with fail
        refine (twant_no _).mono ?_
        rintro e W20 ⟨rfl, rfl⟩
        unfold panE
        go_wp2_with fail
        exact ⟨rfl, .inr ⟨HNN.out, rfl, HB.out⟩⟩
    obtain ⟨va, vn, vc, rfl, hI⟩ := hfi.si
    have HV := Lib.hid hv
    have hvl := rdV_len hv
    have hdr : l11.drop (1 + 6 * ds.length) = l12 := by rw [(rdV_back hv).1, List.drop_left' (by rw [putL_len])]
    have hF0 : FarO _ _ va vn vc ds := hfi
    rw [hsz] at hF0
    generalize hk : 1 + 6 * ds.length = kv at *
    have G3 := Lib.hid (G2.out.keep hb)
    have GA3 := Lib.hid (GA.out.keep hb)
    have HF3 := Lib.hid hF0
    have HDR := Lib.hid hdr
    have hz12 : l12.length ≤ 65000 := by omega
    have hkl : kv ≤ l11.length := by omega
    clear hv hfi hI hb hF0 hdr G2 GA hsz hk hvl
    go_wp2_with fail
    refine (twant_yes _).mono ?_
    rintro e W20 ⟨rfl, rfl⟩
    go_wp2_with fail
    refine (ttake_some (w.heap.size + 1) l11 kv _ G3.out.c hkl).mono ?_
    rintro e W20 ⟨rfl, rfl⟩
    rw [HDR.out]
    have G4 := Lib.hid (G3.out.set l12)
    have GA4 := Lib.hid (GA3.out.other (j := 0) (u := .string (strL l12)) (by omega : gx ≠ w.heap.size + 1))
    have HF4 := Lib.hid (HF3.out.set (q := w.heap.size + 1) (by omega) 0 (.string (strL l12)))
    clear G3 GA3 HF3
    generalize World.setCell _ _ (.string (strL l12)) = W21 at *
    have a3 := GA4.out.cell 3 _ rfl
    have f3 := GA4.out.frozen 3
    have G5 := Lib.hid (G4.out.stored (g := gx) (by omega) 3 (.slice va vn vc))
    have GA5 := Lib.hid (show AC (W21.setCell ⟨gx, 3, none⟩ (.slice va vn vc)) gx (txL (oi : Int) num prev va vn vc none 0 0 none 0 0) from GA4.out.setj 3 (.slice va vn vc))
    have HF5 := Lib.hid (HF4.out.set (q := gx) (Nat.lt_succ_self _) 3 (.slice va vn vc))
    clear G4 GA4 HF4
    go_upto_region 9 with fail
    clear a3 f3
    generalize (W21.setCell ⟨gx, 3, none⟩ (.slice va vn vc)) = W22 at *
    have G6 := Lib.hid (G5.out.keep (Bl.refl W22).drew)
    have GA6 := Lib.hid (GA5.out.keep (Bl.refl W22).drew)
    have HF6 := Lib.hid (HF5.out.keep (Bl.refl W22).drew)
    clear G5 GA5 HF5
    refine wp_region_panicsT [0, 1, 2, 3] 4 (HasBox gx (txL (oi : Int) num prev va vn vc none 0 0 none 0 0)) HasBox.keep GA6.out [7] (fun c W' => c = [{ v := .iface 49 (.int .i64 4), recovered := false }] ∧ rdTx l = none ∧ Bl w W') ?hR (by kernel_rfl) rfl (by kernel_rfl) (by kernel_rfl) (by kernel_rfl) ?_
    case hR =>
      rintro c tt W' ⟨rfl, hn, hb⟩
      go_simp
      go_wp2_with fail
      exact ⟨rfl, .inr ⟨hn, rfl, hb⟩⟩
    generalize W22.drew = WD at *
    haveI : Nonempty (ExtC (HasBox gx (txL (oi : Int) num prev va vn vc none 0 0 none 0 0))) := ⟨⟨WD, GA6.out⟩⟩
    have d0 : ∀ q : ExtC (HasBox gx (txL (oi : Int) num prev va vn vc none 0 0 none 0 0)), _ := fun q => AC.cell q.ok 0 _ rfl
    repeat (refine wpI_step rfl (fun K hK => ?_); go_simp; first | (refine hK _ ?_; clear hK K) | (apply Exists.intro; refine ⟨fun q => ?_, hK _ ?_⟩; (fail); clear hK K))
    refine wpI_nil ?_
    clear d0 this
    refine wpAnyP_one (i := 4) (by kernel_rfl) ?_
    intro Y1 hy1
    go_simp
    have G7 := Lib.hid (G6.out.keep hy1)
    have GA7 := Lib.hid (GA6.out.keep hy1)
    have HF7 := Lib.hid (HF6.out.keep hy1)
    clear hy1 G6 GA6 HF6
    refine (tnumR_any (w.heap.size + 1) l12 6 _ G7.out.c (by decide) (by decide)).mono ?_
    rintro e Y2 (⟨tm, l13, h13, rfl, rfl⟩ | ⟨hn, rfl, rfl⟩)
    case inr => exact .inr ⟨_, rfl, rfl, rdTx_none HBD.out (by simp [rdBodyT, rdHead, H9.out, H10.out, H11.out, HV.out, hn]), G7.out.bl⟩
    have H13 := Lib.hid h13
    have hz13 : l13.length ≤ 65000 := by have := rdNumT_len h13; omega
    have hbt := rdNum_back h13
    have htm : -9223372036854775808 ≤ tm ∧ tm ≤ 9223372036854775807 := by have h1 := hbt.2.1; have h2 := hbt.2.2; rw [show (256 : Int) ^ 6 = 281474976710656 from rfl] at h2; omega
    have G8 := Lib.hid (G7.out.set l13)
    have GA8 := Lib.hid (GA7.out.other (j := 0) (u := .string (strL l13)) (by omega : gx ≠ w.heap.size + 1))
    have HF8 := Lib.hid (HF7.out.set (q := w.heap.size + 1) (by omega) 0 (.string (strL l13)))
    clear h13 hbt G7 GA7 HF7
    generalize World.setCell _ _ (.string (strL l13)) = Y2 at *
    refine .inl ⟨_, rfl, GA8.out, ?_⟩
    refine wpAnyP_one (i := 5) (by kernel_rfl) ?_
    intro Y3 hy3
    go_simp
    have G9 := Lib.hid (G8.out.keep hy3)
    have GA9 := Lib.hid (GA8.out.keep hy3)
    have HF9 := Lib.hid (HF8.out.keep hy3)
    clear hy3 G8 GA8 HF8
    refine (with_any va vn vc ds (oi : Int) tm _ HF9.out.far.1 htm).mono ?_
    rintro e Y4 ⟨xv, rfl, hxf, hb4⟩
    obtain ⟨xa, xn, xc, rfl, hI⟩ := hxf.si
    have HX10 := Lib.hid ((show FarO _ Y4 xa xn xc _ from hxf).mono (B' := gx + 1) GA9.out.lt)
    have HXY := Lib.hid (fun b off (e : va = some ⟨b, off, none⟩) b' off' (e' : xa = some ⟨b', off', none⟩) => (show b ≠ b' from by have h1 := HF9.out.block b off e; have h2 := FarO.block (show FarO _ Y4 xa xn xc _ from hxf) b' off' e'; omega))
    have G10 := Lib.hid (G9.out.keep hb4)
    have GA10 := Lib.hid (GA9.out.keep hb4)
    have HF10 := Lib.hid (HF9.out.keep hb4)
    clear hxf hI hb4 G9 GA9 HF9
    refine .inl ⟨_, rfl, GA10.out, ?_⟩
    refine wpAnyP_one (i := 6) (by kernel_rfl) ?_
    intro Y45 hy45
    go_simp
    refine ⟨GA10.out.keep hy45, ?_⟩
    refine wpAnyP_one (i := 7) (by kernel_rfl) ?_
    intro Y5 hy5
    replace hy5 := hy45.trans hy5
    have G11 := Lib.hid (G10.out.keep hy5)
    have GA11 := Lib.hid (GA10.out.keep hy5)
    have HF11 := Lib.hid (HF10.out.keep hy5)
    have HX11 := Lib.hid (HX10.out.keep hy5)
    clear hy5 G10 GA10 HF10 HX10
    have a4 := GA11.out.cell 4 _ rfl
    have f4 := GA11.out.frozen 4
    go_simp
    clear a4 f4
    have G12 := Lib.hid (G11.out.stored (g := gx) (by omega) 4 (.slice xa xn xc))
    have GA12 := Lib.hid (show AC (Y5.setCell ⟨gx, 4, none⟩ (.slice xa xn xc)) gx (txL (oi : Int) num prev va vn vc xa xn xc none 0 0) from GA11.out.setj 4 (.slice xa xn xc))
    have HF12 := Lib.hid (HF11.out.set (q := gx) (Nat.lt_succ_self _) 4 (.slice xa xn xc))
    have HX12 := Lib.hid (HX11.out.set (q := gx) (Nat.lt_succ_self _) 4 (.slice xa xn xc))
    clear G11 GA11 HF11 HX11
    generalize World.setCell _ _ (.slice xa xn xc) = Y6 at *
    refine wpAnyP_done (by kernel_rfl) ?_
    intro Y7 hy7
    have Q := Lib.hid (TPG.new (G12.out.keep hy7) (GA12.out.keep hy7) (HF12.out.keep hy7) (HX12.out.keep hy7) HXY.out (by omega : w.heap.size + 1 + 1 ≤ gx))
    clear hy7 G12 GA12 HF12 HX12
    have HRB : Hid (rdBodyT body = (rdWrs l13.length l13).map fun q => txOf ((oi : Int), num, prev, ds, tm) q) := Lib.hid (by
      unfold rdBodyT rdHead
      rw [H9.out, Option.bind_some]
      dsimp only
      rw [H10.out, Option.bind_some]
      dsimp only
      rw [H11.out, Option.bind_some]
      dsimp only
      rw [HV.out, Option.bind_some]
      dsimp only
      rw [H13.out, Option.bind_some, Option.bind_some])
    clear H9 H10 H11 HV H13 hz0 hz9 hz10 hz11 hz12 hkl HDR
    generalize hBB : Y7.heap.size = B at *
    clear hBB
    go_wp2_with fail
    go_loopw [10] (fun _ wr => ∃ (k f : Nat) (lk : List UInt8) (acc : List (ByteArray × ActL)) (pd : Option Addr) (pc : Nat), TPG w wr lk gx B (txL (oi : Int) num prev va vn vc xa xn xc pd k pc) va vn ds xa xn (withL ds (oi : Int) tm) (.slice pd k pc) k acc ∧ k + lk.length ≤ 65000 ∧ lk.length ≤ f ∧ rdWrs l13.length l13 = (rdWrs f lk).map fun p => acc ++ p) (fun _ wr => cellLen wr (w.heap.size + 1))
    case atStart => exact ⟨0, l13.length, l13, [], none, 0, Q.out, by omega, Nat.le_refl _, by simp⟩
    case round =>
      clear Q hz13
      obtain ⟨k, f, lk, acc, pd, pc, hP, hzk, hf, hrd⟩ := hrel
      have Q := Lib.hid hP
      have HD := Lib.hid hrd
      have HZ := Lib.hid hzk
      have HCL := Lib.hid (cellLen_of hP.g.c)
      clear hP hrd hzk
      have cz := Q.out.g.c.cell
      by_cases hne : lk = []
      · subst hne
        have HE : Hid (rdWrs l13.length l13 = some acc) := Lib.hid (by rw [HD.out, rdWrs_nil]; simp)
        have qz : (strL []).toList.isEmpty = true := by rw [ByteArray.toList_eq]; rfl
        have hbk := rdWrs_back _ _ _ HE.out
        have hOK : ∀ p ∈ acc, WrOk p := fun p hp => ⟨by have := (hbk.2 p hp).1; omega, (hbk.2 p hp).2⟩
        have hk6 : k ≤ 1000000 := by have := HZ.out; omega
        have HFP := Lib.hid (Q.out.o.far hk6)
        have HWW := Lib.hid (HFP.out.1.ww hOK)
        have HAR : Hid (rdTx l = if validT ⟨(oi : Int), num, prev, ds, withL ds (oi : Int) tm, acc⟩ = true then some ⟨(oi : Int), num, prev, ds, withL ds (oi : Int) tm, acc⟩ else none) := Lib.hid (rdTx_of (by rw [HL.out]; have := HN.out; omega) (by rw [HL.out]; exact hmx) HBD.out (by rw [HTR.out]; exact HSS'.out) (by rw [HRB.out, HE.out]; rfl))
        clear hbk hOK HD HE
        generalize strL [] = s0 at *
        have b0 := Q.out.a.cell 0 _ rfl
        have b1 := Q.out.a.cell 1 _ rfl
        have b2 := Q.out.a.cell 2 _ rfl
        have b3 := Q.out.a.cell 3 _ rfl
        have b4 := Q.out.a.cell 4 _ rfl
        have b5 := Q.out.a.cell 5 _ rfl
        go_wp2_with fail
        clear b0 b1 b2 b3 b4 b5 cz qz
        obtain ⟨R, hR⟩ : ∃ R, validT ⟨(oi : Int), num, prev, ds, withL ds (oi : Int) tm, acc⟩ = R := ⟨_, rfl⟩
        rw [hR] at HAR
        refine (txValid_hid (oi : Int) num prev va vn vc ds xa xn xc (withL ds (oi : Int) tm) pd k pc acc _ Q.out.x.far.1 Q.out.y.far.1 HWW.out R (Lib.hid hR)).mono ?_
        rintro e Z1 ⟨rfl, hb1⟩
        clear hR
        have Q1 := Lib.hid (Q.out.keep hb1)
        have HFP1 := Lib.hid (HFP.out.keep hb1)
        clear hb1 Q HFP HWW
        cases R
        · go_wp2_with fail
          refine (twant_no _).mono ?_
          rintro e Z2 ⟨rfl, rfl⟩
          unfold panE
          go_wp2_with fail
          exact ⟨rfl, .inr ⟨by rw [HAR.out]; rfl, rfl, Q1.out.g.bl⟩⟩
        · go_wp2_with fail
          refine (twant_yes _).mono ?_
          rintro e Z2 ⟨rfl, rfl⟩
          have b0 := Q1.out.a.cell 0 _ rfl
          have b1 := Q1.out.a.cell 1 _ rfl
          have b2 := Q1.out.a.cell 2 _ rfl
          have b3 := Q1.out.a.cell 3 _ rfl
          have b4 := Q1.out.a.cell 4 _ rfl
          have b5 := Q1.out.a.cell 5 _ rfl
          have fr := Q1.out.g.r.frozen
          have r0 := Q1.out.g.r.cell 0 _ rfl
          have r1 := Q1.out.g.r.cell 1 _ rfl
          have r2 := Q1.out.g.r.cell 2 _ rfl
          have r3 := Q1.out.g.r.cell 3 _ rfl
          have r4 := Q1.out.g.r.cell 4 _ rfl
          have r5 := Q1.out.g.r.cell 5 _ rfl
          go_wp2_with fail
          have HT : TXF (gx + 1) Z1 ⟨va, vn, vc, xa, xn, xc, pd, k, pc⟩ ⟨(oi : Int), num, prev, ds, withL ds (oi : Int) tm, acc⟩ := ⟨Q1.out.x, Q1.out.y, OWR.monoT Q1.out.o Q1.out.gb, Q1.out.xy, hk6⟩
          refine bodyPost_ret (tx_results rfl (Q1.out.g.r.fill (txL (oi : Int) num prev va vn vc xa xn xc pd k pc) rfl)) rfl (.inl ⟨⟨(oi : Int), num, prev, ds, withL ds (oi : Int) tm, acc⟩, ⟨va, vn, vc, xa, xn, xc, pd, k, pc⟩, by rw [HAR.out]; rfl, rfl, ?_, ?_⟩)
          · exact (HT.fill (q := w.heap.size) (by have := Q1.out.ge; omega) (txL (oi : Int) num prev va vn vc xa xn xc pd k pc) 0).mono (by have := Q1.out.ge; omega)
          · exact Bl.fill (Nat.le_refl _) (txL (oi : Int) num prev va vn vc xa xn xc pd k pc) _ 0 Q1.out.g.bl
      · obtain ⟨f', rfl⟩ : ∃ f', f = f' + 1 := ⟨f - 1, by have := List.length_pos_iff.2 hne; omega⟩
        have HD2 := Lib.hid (HD.out.trans (congrArg _ (rdWrs_cons f' hne)))
        have HNO : Hid (rdWr lk = none → rdTx l = none) := Lib.hid (fun h => rdTx_none HBD.out (by rw [HRB.out, HD2.out, h]; rfl))
        have qz : (strL lk).toList.isEmpty = false := filled_T hne
        clear hne HD
        have hzk : lk.length ≤ 65000 := by have := HZ.out; omega
        go_wp2_with fail
        clear cz qz
        refine (tnumR_any (w.heap.size + 1) lk 1 _ Q.out.g.c (by decide) (by decide)).mono ?_
        rintro e X1 (⟨kn, la, ha, rfl, rfl⟩ | ⟨hn, rfl, rfl⟩)
        case inr =>
          unfold panE
          go_wp2_with fail
          exact ⟨rfl, .inr ⟨HNO.out (by simp [rdWr, hn]), rfl, Q.out.g.bl⟩⟩
        have HA := Lib.hid ha
        have HZA := Lib.hid (rdNumT_len ha)
        have hbk := rdNum_back ha
        obtain ⟨kn, rfl⟩ := Int.eq_ofNat_of_zero_le hbk.2.1
        have Q1 := Lib.hid (Q.out.set la)
        clear ha hbk
        generalize World.setCell _ _ (.string (strL la)) = X1 at *
        go_wp2_with fail
        refine (ttake_any (w.heap.size + 1) la kn _ Q1.out.g.c).mono ?_
        rintro e X2 (⟨key, lb, hb, rfl, rfl⟩ | ⟨hn, rfl, rfl⟩)
        case inr =>
          unfold panE
          go_wp2_with fail
          exact ⟨rfl, .inr ⟨HNO.out (by simp [rdWr, HA.out, hn]), rfl, Q1.out.g.bl⟩⟩
        have HB := Lib.hid hb
        have HZB : Hid (lb.length + key.length ≤ la.length) := Lib.hid (by have := rdTake_back hb; have h2 := congrArg List.length this.1; rw [List.length_append] at h2; omega)
        have Q2 := Lib.hid (Q1.out.set lb)
        clear hb Q1
        generalize World.setCell _ _ (.string (strL lb)) = X2 at *
        have HCL2 := Lib.hid (fun w => cloneB_any (strL key) w (by rw [strL_size]; have := HZA.out; have := HZB.out; omega))
        go_wp2_with fail
        refine (HCL2.out _).mono ?_
        rintro e X3 ⟨rfl, hb3⟩
        have Q3 := Lib.hid (Q2.out.keep hb3)
        clear hb3 Q2 HCL2
        go_wp2_with fail
        refine (tnumR_any (w.heap.size + 1) lb 2 _ Q3.out.g.c (by decide) (by decide)).mono ?_
        rintro e X4 (⟨an, lc, hc, rfl, rfl⟩ | ⟨hn, rfl, rfl⟩)
        case inr =>
          unfold panE
          go_wp2_with fail
          exact ⟨rfl, .inr ⟨HNO.out (by simp [rdWr, HA.out, HB.out, hn]), rfl, Q3.out.g.bl⟩⟩
        have HC := Lib.hid hc
        have HZC := Lib.hid (rdNumT_len hc)
        have hbk := rdNum_back hc
        obtain ⟨an, rfl⟩ := Int.eq_ofNat_of_zero_le hbk.2.1
        have Q4 := Lib.hid (Q3.out.set lc)
        clear hc hbk Q3
        generalize World.setCell _ _ (.string (strL lc)) = X4 at *
        go_wp2_with fail
        refine (ttake_any (w.heap.size + 1) lc an _ Q4.out.g.c).mono ?_
        rintro e X5 (⟨ta, ld, hd, rfl, rfl⟩ | ⟨hn, rfl, rfl⟩)
        case inr =>
          unfold panE
          go_wp2_with fail
          exact ⟨rfl, .inr ⟨HNO.out (by simp [rdWr, HA.out, HB.out, HC.out, hn]), rfl, Q4.out.g.bl⟩⟩
        have HDD := Lib.hid hd
        have HZD : Hid (ld.length + 3 ≤ lk.length) := Lib.hid (by have := rdTake_back hd; have h2 := congrArg List.length this.1; rw [List.length_append] at h2; have := HZA.out; have := HZB.out; have := HZC.out; omega)
        have Q5 := Lib.hid (Q4.out.set ld)
        have hkz : (strL key).size ≤ 140737488351232 := by rw [strL_size]; have := HZA.out; have := HZB.out; omega
        clear hd Q4 HZA HZB HZC
        generalize World.setCell _ _ (.string (strL ld)) = X5 at *
        have HOG := Lib.hid (fun w => oget_any (strL ta) ta w (strL_SB ta))
        have HGC := Lib.hid (getA_codes ta)
        have HRP : Hid (rdWr lk = if (getA ta).2 = 0 then some ((strL key, (getA ta).1), ld) else none) := Lib.hid (by
          unfold rdWr
          rw [HA.out, Option.bind_some]
          dsimp only
          rw [Int.toNat_natCast, HB.out, Option.bind_some]
          dsimp only
          rw [HC.out, Option.bind_some]
          dsimp only
          rw [Int.toNat_natCast, HDD.out, Option.bind_some]
          rfl)
        clear HA HB HC HDD
        generalize getA ta = gta at *
        obtain ⟨⟨ak, ax, an2, az⟩, code⟩ := gta
        try dsimp only at HOG HGC HRP
        generalize strL key = ks at *
        generalize strL ta = ts at *
        go_wp2_with fail
        refine (HOG.out _).mono ?_
        rintro e X6 ⟨rfl, hb6⟩
        have Q6 := Lib.hid (Q5.out.keep hb6)
        clear hb6 Q5 HOG
        have hgact := AC.new X6 _ rfl [.int .i64 ak, .float .f64 ax, .int .i64 an2, .string az] 61
        have hbact := (Bl.refl X6).alloc (.cells #[.int .i64 ak, .float .f64 ax, .int .i64 an2, .string az] 61)
        obtain ⟨g0, g1, g2, g3⟩ := hgact.act
        rcases HGC.out with hcode | hcode
        case inr =>
          subst hcode
          have HN1 := Lib.hid (HNO.out (by rw [HRP.out, if_neg (by decide)]))
          clear hgact
          go_wp2_with fail
          refine (twant_no _).mono ?_
          rintro e X7 ⟨rfl, rfl⟩
          unfold panE
          go_wp2_with fail
          exact ⟨rfl, .inr ⟨HN1.out, rfl, Q6.out.g.bl.trans hbact⟩⟩
        subst hcode
        have HS : Hid (rdWrs l13.length l13 = (rdWrs f' ld).map fun p => ((acc ++ [(ks, (⟨ak, ax, an2, az⟩ : ActL))]) ++ p)) := Lib.hid (by
          rw [HD2.out, HRP.out, if_pos rfl, Option.bind_some, Option.map_map]
          congr 1
          funext p
          simp)
        clear HRP HNO HD2 HGC
        go_wp2_with fail
        have HGA := Lib.hid hgact
        have Q7 := Lib.hid (Q6.out.keep hbact)
        clear hgact hbact g0 g1 g2 g3 Q6
        generalize X6.alloc _ = X7 at *
        generalize X6.heap.size = ga at *
        refine (twant_yes _).mono ?_
        rintro e X8 ⟨rfl, rfl⟩
        obtain ⟨g0, g1, g2, g3⟩ := HGA.out.act
        have a5 := Q7.out.a.cell 5 _ rfl
        have hlit : (X7.alloc (.cells #[.string ks, .int .i64 ak, .float .f64 ax, .int .i64 an2, .string az] 63)).heap[X7.heap.size]? = some (.cells (writeCs (ks, ⟨ak, ax, an2, az⟩)).toArray 63 (0, 0)) := heap_alloc_new X7 _
        have HS5 := Lib.hid (SG.lit (size := 5) hlit rfl (by simp [writeCs, Value.oneCell']))
        have Q8 := Lib.hid (Q7.out.keep ((Bl.refl X7).alloc (.cells #[.string ks, .int .i64 ak, .float .f64 ax, .int .i64 an2, .string az] 63)))
        have hoa := Q8.out.o.2
        have hk6 : k ≤ 65000 := by have := HZ.out; omega
        clear hlit
        go_wp2_with (at_builtin; refine wpList_appG rfl _ _ _ rfl el_wr B _ k _ rfl hoa ?cB (some ⟨X7.heap.size, 0, none⟩) 1 1 _ rfl HS5.out ?cM ?cN ?_)
        case cB => have := Q7.out.lt; first | exact this | (simp; omega)
        case cM => unfold maxLen; omega
        case cN => omega
        intro v' X9 ho hgr
        have Q9 := Lib.hid (Q8.out.app (ks, ⟨ak, ax, an2, az⟩) ho hgr)
        clear ho hgr hoa Q8 Q7 HS5 g0 g1 g2 g3 a5 HGA
        obtain ⟨pd', pc', rfl⟩ := OWR.form Q9.out.o
        have f5 := Q9.out.a.frozen 5
        have e5 := Q9.out.a.cell 5 _ rfl
        have QA := Lib.hid (show TPG w (X9.setCell ⟨gx, 5, none⟩ (.slice pd' (k + 1) pc')) ld gx B (txL (oi : Int) num prev va vn vc xa xn xc pd' (k + 1) pc') va vn ds xa xn (withL ds (oi : Int) tm) (.slice pd' (k + 1) pc') (k + 1) _ from Q9.out.store 5 (.slice pd' (k + 1) pc'))
        clear Q9
        go_wp2_with fail
        go_roundw
        case rel => exact ⟨k + 1, f', ld, _, pd', pc', QA.out, by have := HZ.out; have := HZD.out; omega, by have := HZD.out; omega, HS.out⟩
        case measure => rw [cellLen_of QA.out.g.c, HCL.out, strL_size, strL_size]; have := HZD.out; omega
  · have HRN : Hid (rdTx l = none) := Lib.hid (rdTx_sum (by rw [HBD.out, HTR.out]; exact hs))
    have qe : ((strL (numB (sumL body : Int) 4)).toList == (strL tr).toList) = false := by rw [SB.beq (strL_SB _) (strL_SB _)]; exact decide_eq_false hs
    clear hs
    generalize strL (numB (sumL body : Int) 4) = qx at *
    generalize strL tr = qt at *
    generalize hsb : strL body = sb at *
    generalize sumL body = sm at *
    refine wp_region_panicsT [0, 1, 2, 3, 4, 5, 6, 7, 8, 9, 10, 11] 1 (HasBox (w.heap.size + 1) [.string sb]) HasBox.keep (by rw [← hsb]; exact hbD.c) [] (fun c W' => c = [{ v := .iface 49 (.int .i64 4), recovered := false }] ∧ Bl w W') ?hR (by kernel_rfl) rfl (by kernel_rfl) (by kernel_rfl) (by kernel_rfl) ?_
    case hR =>
      rintro c tt W' ⟨rfl, hb⟩
      go_simp
      go_wp2_with fail
      exact ⟨rfl, .inr ⟨HRN.out, rfl, hb⟩⟩
    generalize W.drew = WD at *
    haveI : Nonempty (ExtC (HasBox (w.heap.size + 1) [.string sb])) := ⟨⟨WD, by rw [← hsb]; exact hbD.c⟩⟩
    have d7 : ∀ q : ExtC (HasBox (w.heap.size + 1) [.string sb]), _ := fun q => AC.cell q.ok 0 _ rfl
    repeat (refine wpI_step rfl (fun K hK => ?_); go_simp; first | (refine hK _ ?_; clear hK K) | (apply Exists.intro; refine ⟨fun q => ?_, hK _ ?_⟩; (first | with_reducible exact HSB.out _ | with_reducible exact HN4.out _); clear hK K))
    refine wpI_nil ?_
    clear d7 this
    refine wpAnyP_one (i := 12) (by kernel_rfl) ?_
    intro W8 hb8
    go_simp
    refine (twant_no _).mono ?_
    rintro e W9 ⟨rfl, rfl⟩
    exact .inr ⟨_, rfl, rfl, hbD.bl.trans hb8⟩
end Go.Proofs.YtfmabjoindlfeaaGreat
end
