import Derived.Test.YtfmabjoindlfeaaGreatQTxnTellsUptoP34
import Derived.Test.YtfmabjoindlfeaaGreatQTxnTellsUptoP1
import Derived.Deep.QuietTactic
import Derived.BigQuiet
import Derived.Test.YtfmabjoindlfeaaGreatQTxnTellsUptoP27
import Derived.Test.YtfmabjoindlfeaaGreatQTxnTellsUptoP29
import Derived.Test.YtfmabjoindlfeaaGreatQTxnTellsUptoP24
import Derived.Test.YtfmabjoindlfeaaGreatQTxnTellsUptoP23
import Derived.Test.YtfmabjoindlfeaaGreatQTxnTellsUptoP7
import Derived.Test.YtfmabjoindlfeaaGreatQTxnTellsUptoP5

/- bedrocklaw25.light, proto.SameAsk (printed by wip/gen/apart0.py). By an AI agent. -/
section
set_option linter.unusedVariables false
set_option linter.unusedSimpArgs false
namespace Go.Proofs.YtfmabjoindlfeaaGreat
open Go.RowKit

/-- SameAsk's two boxes -/
structure AB (w W : World) (c1 c2 : List Value) : Prop where
  bl : Bl w W
  a : AC W w.heap.size c1
  b : AC W (w.heap.size + 1) c2
theorem AB.keep {w W W' : World} {c1 c2 : List Value} (h : AB w W c1 c2) (k : Bl W W') : AB w W' c1 c2 := ⟨h.bl.trans k, h.a.keep k, h.b.keep k⟩
theorem AB.new (w : World) (T U : TypeId) (c1 c2 : List Value) : AB w ((w.alloc (.cells c1.toArray T)).alloc (.cells c2.toArray U)) c1 c2 :=
  ⟨((Bl.refl w).alloc _).alloc _, (AC.new w w.heap.size rfl c1 T).keep ((Bl.refl _).alloc _), AC.new _ (w.heap.size + 1) (by simp) c2 U⟩
end Go.Proofs.YtfmabjoindlfeaaGreat
end

/- TxnTells, beside its walk: a light transaction fits; its versions and the transaction read back, laid into a book that is the newest block. By an AI agent. -/
section
set_option linter.unusedVariables false
set_option linter.unusedSimpArgs false
namespace Go.Proofs.YtfmabjoindlfeaaGreat
open Go.RowKit

theorem putWr_light (p : ByteArray × ActL) : (putWr p).length ≤ weightW p := by
  have h1 : p.1.data.toList.length = p.1.size := by simp
  have h2 : (putA p.2).length ≤ p.2.s.size + 10 := by
    have h3 : p.2.s.data.toList.length = p.2.s.size := by simp
    unfold putA
    (repeat' split) <;> simp only [List.length_cons, bytesN8_len, List.length_nil] <;> omega
  unfold putWr weightW
  simp only [List.length_append, numB_len]
  omega
theorem putWrs_light : ∀ (ws : List (ByteArray × ActL)), (ws.flatMap putWr).length ≤ (ws.map weightW).sum
  | [] => by simp
  | p :: ws => by
    rw [List.flatMap_cons, List.length_append, List.map_cons, List.sum_cons]
    have := putWr_light p
    have := putWrs_light ws
    omega
theorem putTx_light {t : TxnL} (hv : validT t = true) (hl : lightB t.ws = true) : (putTx t).length ≤ 65000 := by
  have h1 := headTx_len (validT_parts hv).deps
  have h2 := putWrs_light t.ws
  have h3 : (t.ws.map weightW).sum < 20000 := by
    have h4 := of_decide_eq_true hl
    unfold sumW at h4
    rw [List.take_length] at h4
    exact h4
  unfold putTx
  rw [sealL_len]
  unfold bodyTx
  rw [List.length_append]
  omega
theorem ptC_light {t : TxnL} (hl : lightB t.ws = true) : (ptC t = 0 ∧ validT t = true ∧ ptL t = putTx t ∧ (putTx t).length ≤ 65000) ∨ (ptC t = 1 ∧ validT t = false ∧ ptL t = []) := by
  cases hv : validT t with
  | true => exact .inl ⟨(ptC_put hv (putTx_light hv hl)).1, rfl, (ptC_put hv (putTx_light hv hl)).2, putTx_light hv hl⟩
  | false =>
    refine .inr ⟨?_, rfl, ?_⟩
    · unfold ptC; rw [hv]; rfl
    · unfold ptL; rw [hv]; rfl
theorem versT_len (t : TxnL) : (versT t).length ≤ t.ws.length := by
  unfold versT
  split
  · rw [List.length_map]; exact Nat.le_refl _
  · exact Nat.zero_le _
theorem OVL.va {B : Nat} {W : World} {a : Option Addr} {n c : Nat} {xs : List VC} {vs : List VerL} (h : OVL B W a n c xs) (e : xs.map VC.ver = vs) (hn : n ≤ 1000000) : VA W a n vs := e ▸ (h.rv hn).va
theorem OVL.len2 {B : Nat} {W : World} {a : Option Addr} {n c : Nat} {xs : List VC} {vs : List VerL} (h : OVL B W a n c xs) (e : xs.map VC.ver = vs) : n = vs.length := by rw [← e, List.length_map]; exact h.len.symm
theorem Bl.frT {w0 w w' : World} {S : Nat → Prop} (h : Bl w0 w) (k : Fr S w w') (hs : ∀ b, S b → w0.heap.size ≤ b) : Bl w0 w' := Below.trans h (k.below h.size hs)
/-- the versions, ahead of the book's call: w1 the world that holds the arguments' boxes -/
structure DM (w1 W : World) (g : Nat) (a : Option Addr) (n c : Nat) (xs : List VC) : Prop where
  bl : Bl w1 W
  bq : BQ bkURW w1.heap.size W g (fun b => b < w1.heap.size ∨ (Value.slice a n c).ownBlock = some b ∨ ∃ i, i < n ∧ (vecV (el xs i)).ownBlock = some b)
  ov : OVL w1.heap.size W a n c xs
  old : ∀ b, b < w1.heap.size → (Value.slice a n c).ownBlock ≠ some b ∧ ∀ i, i < n → (vecV (el xs i)).ownBlock ≠ some b
theorem DM.new {w1 wr wa wb W : World} {g : Nat} {a : Option Addr} {n c : Nat} {xs : List VC} (hbl : Bl w1 wr) (hq : BQ bkURW w1.heap.size wr g (fun b => b < w1.heap.size)) (ha : Bl wr wa) (ho : OVL wa.heap.size wb a n c xs) (hab : Bl wa wb) (hW : Bl wb W) : DM w1 W g a n c xs := by
  have l1 := hbl.size
  have l2 := ha.size
  have B1 := ha.trans (hab.trans hW)
  have hoW := ho.keep hW
  refine ⟨hbl.trans B1, (hq.more B1).less (fun b hb => ?_), hoW.wider (by omega), fun b hb => ⟨fun e => ?_, fun i hi e => ?_⟩⟩
  · rcases hb with q | q | ⟨i, hi, q⟩
    · exact .inl q
    · have := World.ownsRow.lt hoW.row b q
      exact .inr ⟨by omega, this.2⟩
    · have := World.ownsRow.lt (hoW.vec i hi).own b q
      exact .inr ⟨by omega, this.2⟩
  · have := World.ownsRow.lt ho.row b e; omega
  · have := World.ownsRow.lt (ho.vec i hi).own b e; omega
theorem deep_last (w1 W : World) (g g' : Nat) (a : Option Addr) (n c : Nat) (xs : List VC) (h : DM w1 W g a n c xs) (hn : n ≤ 50000) (hg : g = g') :
    Calls Tryz.prog 16 #[.pointer (some ⟨g', 0, none⟩), .slice a n c] W fun e W' => e = .returned (.tuple #[]) ∧ Bl w1 W' ∧ BQ bkURW w1.heap.size W' g (fun b => b < w1.heap.size) := by
  subst hg
  refine (deep_any w1.heap.size g a n c xs _ W h.bl.size h.bq h.ov hn (fun b hb => .inr (.inl hb)) (fun i hi b hb => .inr (.inr ⟨i, hi, hb⟩))).mono ?_
  rintro e W' ⟨rfl, hq, hf⟩
  exact ⟨rfl, h.bl.frT hf (fun b hb => Nat.le_of_not_lt (fun q => hb (.inl q))), hq.less (fun b hb => ⟨.inl hb, (h.old b hb).1, (h.old b hb).2⟩)⟩
theorem txF_last (w1 wr wa wb W : World) (g g' : Nat) (t : TxnL) (s : TxAt) (hbl : Bl w1 wr) (hq : BQ bkURW w1.heap.size wr g (fun b => b < w1.heap.size)) (ha : Bl wr wa) (ho : TXF wa.heap.size wb s t) (hab : Bl wa wb) (hW : Bl wb W) (ok : TxOk t) (hd : t.deps.length ≤ 50000) (hx : t.at_.length ≤ 50000) (hw : t.ws.length ≤ 50000) (hg : g = g') :
    Calls Tryz.prog 18 #[.pointer (some ⟨g', 0, none⟩), txV t s] W fun e W' => e = .returned (.tuple #[]) ∧ Bl w1 W' ∧ BQ bkURW w1.heap.size W' g (fun b => b < w1.heap.size) := by
  subst hg
  have l1 := hbl.size
  have l2 := ha.size
  have B1 := ha.trans (hab.trans hW)
  have hoW := ho.keep hW
  have hwl : t.ws.length = s.wn := hoW.ws.1
  have hdl := FI.len' hoW.d
  have hxl := FI.len' hoW.a
  have gd : ∀ b, (Value.slice s.da s.dn s.dc).ownBlock = some b → wa.heap.size ≤ b := fun b e => (World.ownsRow.lt (show W.ownsRow _ _ _ _ _ _ from (show FI _ _ _ _ from hoW.d).own) b e).1
  have ga : ∀ b, (Value.slice s.aa s.an s.ac).ownBlock = some b → wa.heap.size ≤ b := fun b e => (World.ownsRow.lt (show W.ownsRow _ _ _ _ _ _ from (show FI _ _ _ _ from hoW.a).own) b e).1
  have gw : ∀ b, (Value.slice s.wa s.wn s.wc).ownBlock = some b → wa.heap.size ≤ b := fun b e => (World.ownsRow.lt hoW.ws.2 b e).1
  have ld : ∀ b, (Value.slice s.da s.dn s.dc).ownBlock = some b → b < W.heap.size := fun b e => (World.ownsRow.lt (show W.ownsRow _ _ _ _ _ _ from (show FI _ _ _ _ from hoW.d).own) b e).2
  have la : ∀ b, (Value.slice s.aa s.an s.ac).ownBlock = some b → b < W.heap.size := fun b e => (World.ownsRow.lt (show W.ownsRow _ _ _ _ _ _ from (show FI _ _ _ _ from hoW.a).own) b e).2
  have lw : ∀ b, (Value.slice s.wa s.wn s.wc).ownBlock = some b → b < W.heap.size := fun b e => (World.ownsRow.lt hoW.ws.2 b e).2
  refine (bookTxn_any w1.heap.size g t.o t.num t.prev s.da s.dn s.dc t.deps s.aa s.an s.ac t.at_ s.wa s.wn s.wc t.ws _ W (hbl.trans B1).size (hq.more B1) (FI.wider hoW.d (by omega)) (FI.wider hoW.a (by omega)) (own_mono' hoW.ws.2 (by omega)) hwl ok.ws hd hx (by omega)
    (fun b e => .inr ⟨by have := gd b e; omega, ld b e⟩) (fun b e => .inr ⟨by have := ga b e; omega, la b e⟩) (fun b e => .inr ⟨by have := gw b e; omega, lw b e⟩) (fun b e e2 => ?_)).mono ?_
  · obtain ⟨_, ⟨e3, _⟩ | ⟨p, cap, cur, e3, _⟩⟩ := (show FI _ _ _ _ from hoW.d).own
    · rw [e3] at e; cases e
    · obtain ⟨_, ⟨e4, _⟩ | ⟨p2, cap2, cur2, e4, _⟩⟩ := (show FI _ _ _ _ from hoW.a).own
      · rw [e4] at e2; cases e2
      · have h1 : p = b := by rw [e3] at e; exact Option.some.inj e
        have h2 : p2 = b := by rw [e4] at e2; exact Option.some.inj e2
        simp only [Value.slice.injEq] at e3 e4
        exact ho.da p 0 e3.1 p2 0 e4.1 (h1.trans h2.symm)
  · rintro e W' ⟨rfl, hq2, hf⟩
    refine ⟨rfl, (hbl.trans B1).frT hf (fun b hb => Nat.le_of_not_lt (fun q => hb (.inl q))), hq2.less (fun b hb => ⟨.inl hb, fun e => ?_, fun e => ?_, fun e => ?_⟩)⟩
    · have := gd b e; omega
    · have := ga b e; omega
    · have := gw b e; omega
end Go.Proofs.YtfmabjoindlfeaaGreat
end

/- bedrockbook.LentWrites, StaysWrites. By an AI agent. -/
section
set_option linter.unusedVariables false
namespace Go.Proofs.YtfmabjoindlfeaaGreat
open Go.RowKit

def markT : ByteArray := ⟨#[109, 97, 114, 107]⟩
theorem mark_eq : (markT.toList == [109, 97, 114, 107]) = true := by rw [ByteArray.toList_eq]; rfl
/-- a slice of n writes, behind which a mark stands in the same block -/
structure LWr (B : Nat) (W : World) (g n c : Nat) (ws : List (ByteArray × ActL)) : Prop where
  own : W.ownsRow B 63 5 (.slice (some ⟨g, 0, none⟩) (n + 1) c) (n + 1) (cellsW (ws ++ [(markT, ⟨0, 0, 0, ⟨#[]⟩⟩)]))
  len : ws.length = n
  cap : n ≤ 100000
  ok : ∀ p ∈ ws, WrOk p
theorem LWr.keep {B : Nat} {W W' : World} {g n c : Nat} {ws : List (ByteArray × ActL)} (h : LWr B W g n c ws) (hb : Bl W W') : LWr B W' g n c ws := ⟨ownsRow_bl h.own hb, h.len, h.cap, h.ok⟩
theorem LWr.ww {B : Nat} {W : World} {g n c : Nat} {ws : List (ByteArray × ActL)} (h : LWr B W g n c ws) : WW W (some ⟨g, 0, none⟩) n ws := by
  have hm := WW.own h.own (by simp [h.len]) (by have := h.cap; omega) (fun p hp => by
    rcases List.mem_append.1 hp with q | q
    · exact h.ok p q
    · rw [List.mem_singleton] at q; subst q; exact ⟨by decide, ⟨by decide, by decide, by decide, by decide⟩⟩)
  refine ⟨h.len, by have := h.cap; omega, fun j0 hj0 => ?_, h.ok⟩
  obtain ⟨b, off, e, hc⟩ := hm.cells j0 (by omega)
  refine ⟨b, off, e, fun j hj => ?_⟩
  have := hc j (by omega)
  rw [nthW_eq (by simp [h.len]; omega), List.getElem_append_left (by rw [h.len]; exact hj), ← nthW_eq (by rw [h.len]; exact hj)] at this
  exact this
theorem LWr.mark {B : Nat} {W : World} {g n c : Nat} {ws : List (ByteArray × ActL)} (h : LWr B W g n c ws) : W.cell? ⟨g, n * 5, none⟩ = some (.string markT) ∧ n + 1 ≤ c := by
  refine ⟨?_, ?_⟩
  · rw [h.own.cellAt (n * 5) (by omega)]
    have := cellsW_get (ws ++ [(markT, ⟨0, 0, 0, ⟨#[]⟩⟩)]) n (by simp [h.len]) 0 (by omega)
    rw [Nat.add_zero, nthW_eq (by simp [h.len]), List.getElem_append_right (by rw [h.len]; exact Nat.le_refl _)] at this
    rw [this]
    simp [writeCs, h.len]
  · obtain ⟨_, ⟨e, _⟩ | ⟨g', cap, cur, e, hB, hg, hn, _⟩⟩ := h.own
    · cases e
    · simp only [Value.slice.injEq, Option.some.injEq, Addr.mk.injEq, and_true, true_and] at e
      omega
theorem lentWrites_any (a : Option Addr) (n c : Nat) (ws : List (ByteArray × ActL)) (w : World) (hx : WW w a n ws) (hn : n ≤ 100000) :
    Calls Tryz.prog 24 #[.slice a n c] w fun e w' => ∃ g c', e = .returned (.slice (some ⟨g, 0, none⟩) n c') ∧ LWr w.heap.size w' g n c' ws ∧ Bl w w' := by
  have hsf := store_fl
  have HL := Lib.hid hx.len
  have HO := Lib.hid hx.ok
  have HX := Lib.hid hx.sg5
  clear hx
  go_enter Tryz.func24, Tryz.ntmps24
  go_wp2_with (at_builtin; refine wpList_appG rfl _ _ _ rfl el_wr w.heap.size (.slice none 0 0) 0 [] rfl (World.ownsRow_nil _ _ _ _) (Nat.le_refl _) a n c _ rfl HX.out ?cM ?cN ?_)
  case cM => unfold maxLen; omega
  case cN => omega
  intro v w1 ho hg
  have hb : Bl w w1 := (Bl.refl w).ownRow (World.ownsRow_nil w w.heap.size 63 5) (Nat.le_refl _) hg
  have hoi : w1.ownsRow w.heap.size 63 5 v n (cellsW ws) := by simpa using ho
  have hsz := hb.size
  have HLT := Lib.hid (SG.lit (size := 5) (E := 63) (cs := [.string markT, .int .i64 0, .float .f64 0, .int .i64 0, .string ⟨#[]⟩]) (heap_alloc_new w1 _) rfl (by simp [Value.oneCell']))
  have hoa := ownsRow_bl hoi ((Bl.refl w1).alloc (.cells #[.string markT, .int .i64 0, .float .f64 0, .int .i64 0, .string ⟨#[]⟩] 63))
  have HBA := Lib.hid (hb.alloc (.cells #[.string markT, .int .i64 0, .float .f64 0, .int .i64 0, .string ⟨#[]⟩] 63))
  clear ho hg hb hoi
  go_wp2_with (at_builtin; refine wpList_appG rfl _ _ _ rfl el_wr w.heap.size _ _ _ rfl hoa ?cB2 (some ⟨w1.heap.size, 0, none⟩) 1 1 _ rfl HLT.out ?cM2 ?cN2 ?_)
  case cB2 => simp; omega
  case cM2 => unfold maxLen; omega
  case cN2 => omega
  intro v2 w2 ho2 hg2
  have hb2 : Bl w w2 := HBA.out.ownRow hoa (Nat.le_refl _) hg2
  obtain ⟨g, c', rfl⟩ : ∃ g c', v2 = .slice (some ⟨g, 0, none⟩) (n + 1) c' := by
    obtain ⟨_, ⟨_, e⟩ | ⟨g', cap, cur, e, _⟩⟩ := ho2
    · omega
    · exact ⟨g', cap, e⟩
  have hlv : LWr w.heap.size w2 g n c' ws := ⟨by rw [cellsW_snoc]; exact ho2, HL.out, hn, HO.out⟩
  have hmc := hlv.mark.2
  have HLV := Lib.hid hlv
  have HB2 := Lib.hid hb2
  clear ho2 hg2 hoa HLT HBA hlv hb2
  go_wp2_with fail
  go_ret
  exact ⟨_, _, rfl, HLV.out, HB2.out⟩
theorem staysWrites_any (B g n c : Nat) (a : Option Addr) (ca : Nat) (ws : List (ByteArray × ActL)) (w : World) (h : LWr B w g n c ws) (hx : WW w a n ws) :
    Calls Tryz.prog 48 #[.slice (some ⟨g, 0, none⟩) n c, .slice a n ca] w fun e w' => e = .returned (.bool true) ∧ Bl w w' := by
  have HS := Lib.hid (bookSameWs_anyY (some ⟨g, 0, none⟩) n c ws a ca w h.ww hx)
  have HM := Lib.hid h.mark
  have hc := h.mark.2
  have hcap := h.cap
  have hmm : (markT.toList == markT.toList) = true := by simp
  go_enter Tryz.func48, Tryz.ntmps48
  go_wp2_with fail
  refine HS.out.mono ?_
  rintro e w1 ⟨rfl, hb⟩
  have c0 := hb.cell HM.out.1
  go_wp2_with fail
  go_ret
  exact ⟨by show Ending.returned (.bool (markT.toList == [109, 97, 114, 107])) = _; rw [mark_eq], hb⟩
end Go.Proofs.YtfmabjoindlfeaaGreat
end

/- Regions that draw their order, where the class of worlds holds until a given operation is listed: stores may stand at the end. By an AI agent. -/
section
namespace Go.Proofs.YtfmabjoindlfeaaGreat
open Go.RowKit
section
variable {P : Program} {ops : Array Oper} {md : Region.Mode} {C : World → Prop}
/-- as wpAnyE, but the class is asked for only while operation k is not listed -/
def wpAnyK (P : Program) (md : Region.Mode) (ops : Array Oper) (k : Nat) (C : World → Prop) (Q : Act → World → Prop) : Nat → Array Bool → Act → World → Prop
  | 0, listed, a, w => Region.ready md ops listed = [] ∧ ∀ w', Bl w w' → Q a w'
  | fuel + 1, listed, a, w =>
    (Region.ready md ops listed = [] → ∀ w', Bl w w' → Q a w') ∧
    ∀ i ∈ Region.ready md ops listed, ∀ w', Bl w w' → eOp P ops i (fun a'' w'' => ((listed.setIfInBounds i true).getD k false = false → C w'') ∧ wpAnyK P md ops k C Q fuel (listed.setIfInBounds i true) a'' w'') a w'
theorem wpAnyK_ext {k : Nat} {Q : Act → World → Prop} : ∀ {fuel : Nat} {listed : Array Bool} {a : Act} {w w' : World}, Bl w w' → wpAnyK P md ops k C Q fuel listed a w → wpAnyK P md ops k C Q fuel listed a w'
  | 0, _, _, _, _, hb, h => ⟨h.1, fun w'' h2 => h.2 w'' (hb.trans h2)⟩
  | _ + 1, _, _, _, _, hb, h => ⟨fun h0 w'' h2 => h.1 h0 w'' (hb.trans h2), fun i hi w'' h2 => h.2 i hi w'' (hb.trans h2)⟩
theorem wpAny_of_K {k : Nat} {Q : Act → World → Prop} {Q' : Exit → Act → World → Prop} (hQ : ∀ a w, Q a w → Q' .normal a w) : ∀ (fuel : Nat) (listed : Array Bool) (a : Act) (w : World),
    wpAnyK P md ops k C Q fuel listed a w → wpAny P md ops Q' fuel listed a w
  | 0, _, _, _, h => ⟨h.1, hQ _ _ (h.2 _ (Bl.refl _))⟩
  | fuel + 1, _, _, _, h => ⟨fun h0 => hQ _ _ (h.1 h0 _ (Bl.refl _)), fun i hi => wpOp_mono (fun _ _ j => wpAny_of_K hQ fuel _ _ _ j.2) (wpOp_of_eOp (h.2 i hi _ (Bl.refl _)))⟩
theorem wpAnyE_subK {C C' : World → Prop} (h : ∀ w, C' w → C w) {Q : Act → World → Prop} : ∀ {fuel : Nat} {listed : Array Bool} {a : Act} {w : World}, wpAnyE P md ops C' Q fuel listed a w → wpAnyE P md ops C Q fuel listed a w
  | 0, _, _, _, hh => hh
  | _ + 1, _, _, _, hh => ⟨hh.1, fun i hi w' hb => eOp_mono (fun _ _ k => ⟨h _ k.1, wpAnyE_subK h k.2⟩) (hh.2 i hi w' hb)⟩
/-- what is listed has what it waits for listed -/
def Down (md : Region.Mode) (ops : Array Oper) (listed : Array Bool) : Prop := ∀ j oj, ops[j]? = some oj → listed.getD j false = true → ∀ e ∈ oj.after, Region.binds md e = true → listed.getD e.on false = true
theorem Down.none (n : Nat) : Down md ops (Array.replicate n false) := fun j oj _ h => by
  rw [Array.getD_eq_getD_getElem?, Array.getElem?_replicate] at h
  split at h <;> cases h
theorem Down.set {listed : Array Bool} (h : Down md ops listed) {i : Nat} (hi : i ∈ Region.ready md ops listed) : Down md ops (listed.setIfInBounds i true) := fun j oj hj hl e he hb => by
  by_cases hij : i = j
  · subst hij
    obtain ⟨_, o, ho, hall⟩ := mem_ready.1 hi
    rw [hj] at ho; cases ho
    exact getD_set_true (hall e he hb)
  · rw [getD_set_ne false hij] at hl
    exact getD_set_true (h j oj hj hl e he hb)
def leadsB (md : Region.Mode) (ops : Array Oper) (k : Nat) : Nat → Nat → Bool
  | 0, i => i == k
  | f + 1, i => i == k || (List.range ops.size).any fun j => (match ops[j]? with | some o => o.after.any (fun e => Region.binds md e && e.on == i) | none => false) && leadsB md ops k f j
theorem leads_spec {k : Nat} {listed : Array Bool} (hd : Down md ops listed) (hk : listed.getD k false = true) : ∀ (f i : Nat), leadsB md ops k f i = true → listed.getD i false = true
  | 0, i, h => by
    have : i = k := by simpa [leadsB] using h
    rw [this]; exact hk
  | f + 1, i, h => by
    unfold leadsB at h
    rcases Bool.or_eq_true _ _ ▸ h with h | h
    · have : i = k := by simpa using h
      rw [this]; exact hk
    · rw [List.any_eq_true] at h
      obtain ⟨j, _, h⟩ := h
      rw [Bool.and_eq_true] at h
      obtain ⟨h1, h2⟩ := h
      have hj := leads_spec hd hk f j h2
      cases ho : ops[j]? with
      | none => rw [ho] at h1; cases h1
      | some o =>
        rw [ho] at h1
        obtain ⟨e, he, h3⟩ := Array.any_eq_true'.1 h1
        rw [Bool.and_eq_true] at h3
        have : e.on = i := by simpa using h3.2
        rw [← this]
        exact hd j o ho hj e he h3.1
theorem not_false_of {listed : Array Bool} {i : Nat} (h : listed.getD i true = false) : listed.getD i false = false := by
  rw [Array.getD_eq_getD_getElem?] at h ⊢
  cases hi : listed[i]? with
  | none => rw [hi] at h; cases h
  | some b => rw [hi] at h; simpa using h
theorem wpAnyK_first (hcl : ∀ w w', C w → Bl w w' → C w') {Q : Act → World → Prop} {i k f : Nat} {oi : Oper} {v : Value} (hi : ops[i]? = some oi) (hsel : ∀ (j : Nat) (o : Oper) cs b, ops[j]? = some o → o.op ≠ .select cs b) (hik : i ≠ k) (hle : leadsB md ops k f i = true) :
    ∀ (fuel : Nat) (listed : Array Bool) (a : Act) (w : World), Down md ops listed → C w →
      (∀ j oj, ops[j]? = some oj → j ≠ i → listed.getD j true = false → (∀ e ∈ oj.after, Region.binds md e = true → e.on ≠ i) → oi.apart ops oj = true) →
      i ∈ Region.ready md ops listed → YE P ops C oi v a →
      wpAnyK P md ops k C Q fuel (listed.setIfInBounds i true) (a.put oi.dst v) w → wpAnyK P md ops k C Q (fuel + 1) listed a w := by
  intro fuel
  induction fuel with
  | zero =>
    intro listed a w hd hb _ hr hy H
    refine ⟨fun h => (by rw [h] at hr; cases hr), fun j hj w' hb' => ?_⟩
    by_cases hji : j = i
    · subst hji; exact hy.eOp hi (hcl _ _ hb hb') fun w'' hb'' => ⟨fun _ => hcl _ _ hb (hb'.trans hb''), wpAnyK_ext (hb'.trans hb'') H⟩
    · have := ready_mono hj hji
      rw [H.1] at this
      cases this
  | succ fuel ih =>
    intro listed a w hd hb hfree hr hy H
    refine ⟨fun h => (by rw [h] at hr; cases hr), fun j hj w' hb' => ?_⟩
    by_cases hji : j = i
    · subst hji; exact hy.eOp hi (hcl _ _ hb hb') fun w'' hb'' => ⟨fun _ => hcl _ _ hb (hb'.trans hb''), wpAnyK_ext (hb'.trans hb'') H⟩
    · have h1 := H.2 j (ready_mono hj hji) w' hb'
      obtain ⟨hjun, oj, hoj, hall⟩ := mem_ready.1 hj
      have hnot : ∀ e ∈ oj.after, Region.binds md e = true → e.on ≠ i := fun e he hb heq => by
        have h1 := hall e he hb
        have h0 := not_false_of (mem_ready.1 hr).1
        rw [heq, h0] at h1
        cases h1
      have h2 := eOp_put hoj (hfree j oj hoj hji hjun hnot) (fun cs b => hsel i oi cs b hi) (fun cs b => hsel j oj cs b hoj) hy h1
      have hfree' : ∀ q oq, ops[q]? = some oq → q ≠ i → (listed.setIfInBounds j true).getD q true = false →
          (∀ e ∈ oq.after, Region.binds md e = true → e.on ≠ i) → oi.apart ops oq = true := fun q oq hq hqi hun hno => by
        refine hfree q oq hq hqi ?_ hno
        by_cases hjq : j = q
        · subst hjq; exact hjun
        · rw [getD_set_ne true hjq] at hun; exact hun
      have hd' := hd.set hj
      have hk : ((listed.setIfInBounds i true).setIfInBounds j true).getD k false = false := by
        rw [Array.setIfInBounds_comm _ _ (Ne.symm hji), getD_set_ne false hik]
        cases hkk : (listed.setIfInBounds j true).getD k false with
        | false => rfl
        | true =>
          have h3 := leads_spec hd' hkk f i hle
          rw [getD_set_ne false hji, not_false_of (mem_ready.1 hr).1] at h3
          cases h3
      refine eOp_mono (fun a' w'' h3 => ⟨fun _ => h3.2.1 hk, ih (listed.setIfInBounds j true) a' w'' hd' (h3.2.1 hk) hfree' (ready_mono hr (Ne.symm hji)) h3.1 ?_⟩) h2
      rw [Array.setIfInBounds_comm _ _ hji]
      exact h3.2.2
theorem wpAnyK_all {k : Nat} {Q : Act → World → Prop} {rs : List Nat} {fuel : Nat} {listed : Array Bool} {a : Act} {w : World} (hr : Region.ready md ops listed = rs) (hne : rs ≠ [])
    (h : ∀ i ∈ rs, ∀ w', Bl w w' → eOp P ops i (fun a'' w'' => ((listed.setIfInBounds i true).getD k false = false → C w'') ∧ wpAnyK P md ops k C Q fuel (listed.setIfInBounds i true) a'' w'') a w') : wpAnyK P md ops k C Q (fuel + 1) listed a w :=
  ⟨fun h0 => absurd (hr.symm.trans h0) hne, fun i hi => h i (hr ▸ hi)⟩
/-- one operation, the class kept -/
theorem wpAnyK_one {k : Nat} {Q : Act → World → Prop} {i fuel : Nat} {listed : Array Bool} {a : Act} {w : World} (hr : Region.ready md ops listed = [i])
    (h : ∀ w', Bl w w' → eOp P ops i (fun a'' w'' => C w'' ∧ wpAnyK P md ops k C Q fuel (listed.setIfInBounds i true) a'' w'') a w') : wpAnyK P md ops k C Q (fuel + 1) listed a w :=
  wpAnyK_all hr (by simp) fun j hj w' hb => by
    rw [List.mem_singleton] at hj; subst hj; exact eOp_mono (fun _ _ h => ⟨fun _ => h.1, h.2⟩) (h w' hb)
/-- operation k is listed: no class any more -/
theorem wpAnyK_late {k : Nat} {Q : Act → World → Prop} : ∀ {fuel : Nat} {listed : Array Bool} {a : Act} {w : World}, listed.getD k false = true → wpAnyE P md ops (fun _ => True) Q fuel listed a w → wpAnyK P md ops k C Q fuel listed a w
  | 0, _, _, _, _, h => h
  | _ + 1, _, _, _, hk, h => ⟨h.1, fun i hi w' hb => eOp_mono (fun _ _ h3 => ⟨fun h4 => (by rw [getD_set_true hk] at h4; cases h4), wpAnyK_late (getD_set_true hk) h3.2⟩) (h.2 i hi w' hb)⟩
/-- operation k itself -/
theorem wpAnyK_turn {k : Nat} {Q : Act → World → Prop} {fuel : Nat} {listed : Array Bool} {a : Act} {w : World} (hr : Region.ready md ops listed = [k]) (hlt : k < listed.size)
    (h : ∀ w', Bl w w' → eOp P ops k (fun a'' w'' => wpAnyE P md ops (fun _ => True) Q fuel (listed.setIfInBounds k true) a'' w'') a w') : wpAnyK P md ops k C Q (fuel + 1) listed a w :=
  wpAnyK_all hr (by simp) fun j hj w' hb => by
    rw [List.mem_singleton] at hj; subst hj
    have hl : (listed.setIfInBounds j true).getD j false = true := by simp [hlt]
    exact eOp_mono (fun _ _ h => ⟨fun h4 => (by rw [hl] at h4; cases h4), wpAnyK_late hl h⟩) (h w' hb)
def preK (md : Region.Mode) (ops : Array Oper) (k f : Nat) (is : List Nat) : Bool := is.all fun i => i != k && leadsB md ops k f i
theorem wpAnyK_idx (hcl : ∀ w w', C w → Bl w w' → C w') {Q : Act → World → Prop} (hs : Region.noSelect ops = true) (k f m : Nat) (w : World) (hw : C w) : ∀ (is : List Nat) (listed : Array Bool) (a : Act), Down md ops listed →
    preB md ops is listed = true → preK md ops k f is = true → wpI P ops C (fun a' => wpAnyK P md ops k C Q m (setAll is listed) a' w) is a → wpAnyK P md ops k C Q (is.length + m) listed a w
  | [], _, _, _, _, _, h => by rw [List.length_nil, Nat.zero_add]; exact h
  | i :: is, listed, a, hd, hB, hK, h => by
    simp only [preB, Bool.and_eq_true] at hB
    obtain ⟨⟨hr, hf⟩, hB'⟩ := hB
    simp only [preK, List.all_cons, Bool.and_eq_true, bne_iff_ne] at hK
    obtain ⟨⟨hik, hle⟩, hK'⟩ := hK
    obtain ⟨o, h0, h⟩ := h
    rw [List.length_cons, show is.length + 1 + m = (is.length + m) + 1 by omega]
    have hr' : i ∈ Region.ready md ops listed := by simpa using hr
    have key : ∀ v, YE P ops C o v a → wpI P ops C (fun a' => wpAnyK P md ops k C Q m (setAll (i :: is) listed) a' w) is (a.put o.dst v) → wpAnyK P md ops k C Q (is.length + m + 1) listed a w := fun v hy hK =>
      wpAnyK_first hcl h0 (Region.noSelect_spec hs) hik hle (is.length + m) listed a w hd hw (Region.free_spec h0 hf) hr' hy
        (wpAnyK_idx hcl hs k f m w hw is _ _ (hd.set hr') hB' hK' hK)
    split at h
    · rename_i hw
      obtain ⟨v, hv, hK⟩ := h
      exact key v (.inl ⟨hw, fun w hb => hv ⟨w, hb⟩⟩) hK
    · rename_i hw
      exact key undef (.inr ⟨by simpa using hw, rfl⟩) h
/-- a region of which the named operations only tell or call and may be taken first; the class holds until operation k -/
theorem wp_region_idxK {id : Nat} {Q : Exit → Act → World → Prop} {a : Act} {w : World} {l : List Oper} (is : List Nat) (k f m : Nat) (C : World → Prop) (hcl : ∀ w w', C w → Bl w w' → C w') (hw : C w.drew) (hm : P.follows .mixedOrders = true) (hn : l.length = is.length + m)
    (hs : Region.noSelect l.toArray = true) (hB : preB .any l.toArray is (Array.replicate l.length false) = true) (hK : preK .any l.toArray k f is = true)
    (h : wpI P l.toArray C (fun a' => wpAnyK P .any l.toArray k C (fun a w => Q .normal a w) m (setAll is (Array.replicate l.length false)) a' w.drew) is a) :
    (Code.region id l.toArray true).wp P Q a w := by
  refine wp_region_any hm (wpAny_of_K (k := k) (C := C) (Q := fun a w => Q .normal a w) (fun _ _ h => h) _ _ _ _ ?_)
  have hk := wpAnyK_idx (md := .any) hcl (Q := fun a w => Q .normal a w) hs k f m w.drew hw is (Array.replicate l.length false) a (Down.none _) hB hK h
  have e : is.length + m = l.toArray.size := by simp; omega
  rw [e] at hk
  simpa using hk
end
end Go.Proofs.YtfmabjoindlfeaaGreat
end

/- bedrockbook.LentTxn, StaysTxn. By an AI agent. -/
section
set_option linter.unusedVariables false
set_option linter.unusedSimpArgs false
namespace Go.Proofs.YtfmabjoindlfeaaGreat
open Go.RowKit
attribute [local go_sem] eOp eOper eUpon

theorem LV.setT {B : Nat} {W : World} {g n c : Nat} {xs : List Int} (h : LV B W g n c xs) {q : Nat} (hq : q < B) (j : Nat) (u : Value) : LV B (W.setCell ⟨q, j, none⟩ u) g n c xs := by
  refine ⟨?_, h.len, h.cap, h.wf⟩
  have ho := h.own
  unfold OI at ho ⊢
  obtain ⟨h1, h2 | ⟨g, cap, cur, hv, hB, hg, r⟩⟩ := ho
  · exact ⟨h1, .inl h2⟩
  · exact ⟨h1, .inr ⟨g, cap, cur, hv, hB, by rw [Below.heap_setCell _ _ _ _ (by show g ≠ q; omega)]; exact hg, r⟩⟩
theorem LV.lowT {B B' : Nat} {W : World} {g n c : Nat} {xs : List Int} (h : LV B W g n c xs) (hb : B' ≤ B) : LV B' W g n c xs := ⟨own_mono' h.own hb, h.len, h.cap, h.wf⟩
theorem LWr.setT {B : Nat} {W : World} {g n c : Nat} {ws : List (ByteArray × ActL)} (h : LWr B W g n c ws) {q : Nat} (hq : q < B) (j : Nat) (u : Value) : LWr B (W.setCell ⟨q, j, none⟩ u) g n c ws := by
  refine ⟨?_, h.len, h.cap, h.ok⟩
  obtain ⟨h1, h2 | ⟨g, cap, cur, hv, hB, hg, r⟩⟩ := h.own
  · exact ⟨h1, .inl h2⟩
  · exact ⟨h1, .inr ⟨g, cap, cur, hv, hB, by rw [Below.heap_setCell _ _ _ _ (by show g ≠ q; omega)]; exact hg, r⟩⟩
theorem LWr.lowT {B B' : Nat} {W : World} {g n c : Nat} {ws : List (ByteArray × ActL)} (h : LWr B W g n c ws) (hb : B' ≤ B) : LWr B' W g n c ws := ⟨own_mono' h.own hb, h.len, h.cap, h.ok⟩
def txC6 (o num prev : Int) (da : Option Addr) (dn dc : Nat) (aa : Option Addr) (an ac : Nat) (wa : Option Addr) (wn wc : Nat) : List Value := [.int .i64 o, .int .i64 num, .int .i64 prev, .slice da dn dc, .slice aa an ac, .slice wa wn wc]
theorem lentTxn_results {tmps : Array Value} {W : World} {g : Nat} {v0 v1 v2 v3 v4 v5 : Value} (h : tmps.getD 2 undef = .pointer (some ⟨g, 0, none⟩)) (hc : AC W g [v0, v1, v2, v3, v4, v5]) :
    (results Tryz.f6 tmps).run Tryz.prog W = .ok (.agg #[v0, v1, v2, v3, v4, v5]) W := by
  rw [Array.getD_eq_getD_getElem?] at h
  have c0 := hc.cell 0 _ rfl
  have c1 := hc.cell 1 _ rfl
  have c2 := hc.cell 2 _ rfl
  have c3 := hc.cell 3 _ rfl
  have c4 := hc.cell 4 _ rfl
  have c5 := hc.cell 5 _ rfl
  simp [results, Tryz.results6, go_sem, h, c0, c1, c2, c3, c4, c5]
set_option maxHeartbeats 3200000 in
set_option maxRecDepth 100000 in
theorem lentTxn_any (o num prev : Int) (da : Option Addr) (dn dc : Nat) (ds : List Int) (aa : Option Addr) (an ac : Nat) (xs : List Int) (wa : Option Addr) (wn wc : Nat) (ws : List (ByteArray × ActL)) (w : World) (hd : IA w da dn ds) (hx : IA w aa an xs) (hw : WW w wa wn ws) (hdn : dn ≤ 1000000) (han : an ≤ 1000000) (hwn : wn ≤ 100000) :
    Calls Tryz.prog 6 #[.agg #[.int .i64 o, .int .i64 num, .int .i64 prev, .slice da dn dc, .slice aa an ac, .slice wa wn wc]] w fun e w' => ∃ gd cd ga ca gw cw, e = .returned (.agg #[.int .i64 o, .int .i64 num, .int .i64 prev, .slice (some ⟨gd, 0, none⟩) dn cd, .slice (some ⟨ga, 0, none⟩) an ca, .slice (some ⟨gw, 0, none⟩) wn cw]) ∧
      LV w.heap.size w' gd dn cd ds ∧ LV w.heap.size w' ga an ca xs ∧ LWr w.heap.size w' gw wn cw ws ∧ Bl w w' := by
  have hsf := store_fl
  have G := AB.new w 26 26 (txC6 o num prev da dn dc aa an ac wa wn wc) (txC6 0 0 0 none 0 0 none 0 0 none 0 0)
  unfold txC6 at G
  have HD := Lib.hid hd
  have HX := Lib.hid hx
  have HW := Lib.hid hw
  have GH := Lib.hid G
  have hsz : w.heap.size + 1 + 1 ≤ ((w.alloc (.cells #[.int .i64 o, .int .i64 num, .int .i64 prev, .slice da dn dc, .slice aa an ac, .slice wa wn wc] 26)).alloc (.cells #[.int .i64 0, .int .i64 0, .int .i64 0, .slice none 0 0, .slice none 0 0, .slice none 0 0] 26)).heap.size := by simp
  clear G hd hx hw
  go_enter Tryz.func6, Tryz.ntmps6
  go_upto_region 1 with fail
  generalize (w.alloc _).alloc _ = W at *
  have HDR := Lib.hid ((Bl.refl W).drew)
  refine wp_region_idxK [0, 1, 3, 4, 6, 7] 10 4 9 (HasBox w.heap.size [.int .i64 o, .int .i64 num, .int .i64 prev, .slice da dn dc, .slice aa an ac, .slice wa wn wc]) HasBox.keep (GH.out.a.keep HDR.out) (by kernel_rfl) rfl (by kernel_rfl) (by kernel_rfl) (by kernel_rfl) ?_
  have GZ := Lib.hid (GH.out.keep HDR.out)
  have hszZ := Nat.le_trans hsz HDR.out.size
  generalize W.drew = Z at *
  haveI : Nonempty (ExtC (HasBox w.heap.size [.int .i64 o, .int .i64 num, .int .i64 prev, .slice da dn dc, .slice aa an ac, .slice wa wn wc])) := ⟨⟨Z, GZ.out.a⟩⟩
  have e3 : ∀ q : ExtC (HasBox w.heap.size [.int .i64 o, .int .i64 num, .int .i64 prev, .slice da dn dc, .slice aa an ac, .slice wa wn wc]), _ := fun q => AC.cell (show AC q.at w.heap.size [.int .i64 o, .int .i64 num, .int .i64 prev, .slice da dn dc, .slice aa an ac, .slice wa wn wc] from q.ok) 3 _ rfl
  have e4 : ∀ q : ExtC (HasBox w.heap.size [.int .i64 o, .int .i64 num, .int .i64 prev, .slice da dn dc, .slice aa an ac, .slice wa wn wc]), _ := fun q => AC.cell (show AC q.at w.heap.size [.int .i64 o, .int .i64 num, .int .i64 prev, .slice da dn dc, .slice aa an ac, .slice wa wn wc] from q.ok) 4 _ rfl
  have e5 : ∀ q : ExtC (HasBox w.heap.size [.int .i64 o, .int .i64 num, .int .i64 prev, .slice da dn dc, .slice aa an ac, .slice wa wn wc]), _ := fun q => AC.cell (show AC q.at w.heap.size [.int .i64 o, .int .i64 num, .int .i64 prev, .slice da dn dc, .slice aa an ac, .slice wa wn wc] from q.ok) 5 _ rfl
  repeat (refine wpI_step rfl (fun K hK => ?_); go_simp; first | (refine hK _ ?_; clear hK K) | (apply Exists.intro; refine ⟨fun q => ?_, hK _ ?_⟩; (fail); clear hK K))
  refine wpI_nil ?_
  clear e3 e4 e5 this
  refine wpAnyK_one (i := 2) (by kernel_rfl) ?_
  intro Y1 hy1
  go_simp
  refine (lentVec_any da dn dc ds _ (HD.out.keep (GZ.out.bl.trans hy1)) hdn).mono ?_
  rintro e Y2 ⟨gd, cd, rfl, ld, hb⟩
  have HB2 := Lib.hid (hy1.trans hb)
  have LD := Lib.hid (ld.lowT (Nat.le_trans hszZ hy1.size))
  clear ld hy1 hb
  refine ⟨_, rfl, GZ.out.a.keep HB2.out, ?_⟩
  refine wpAnyK_all (rs := [5, 9]) (by kernel_rfl) (by decide) ?_
  intro i0 hi0 Y3 hy3
  simp only [List.mem_cons, List.not_mem_nil, or_false] at hi0
  rcases hi0 with rfl | rfl
  · go_simp
    refine (lentVec_any aa an ac xs _ (HX.out.keep (GZ.out.bl.trans (HB2.out.trans hy3))) han).mono ?_
    rintro e V1 ⟨ga, ca, rfl, la, hb⟩
    have HB1_ := Lib.hid (HB2.out.trans (hy3.trans hb))
    have LA1 := Lib.hid (la.lowT (Nat.le_trans hszZ (HB2.out.trans hy3).size))
    have LD1_ := Lib.hid (LD.out.keep (hy3.trans hb))
    clear la hy3 hb LD HB2
    refine ⟨_, rfl, fun _ => GZ.out.a.keep HB1_.out, ?_⟩
    refine wpAnyK_all (rs := [8, 9]) (by kernel_rfl) (by decide) ?_
    intro i0 hi0 Y5 hy5
    simp only [List.mem_cons, List.not_mem_nil, or_false] at hi0
    rcases hi0 with rfl | rfl
    · go_simp
      refine (lentWrites_any wa wn wc ws _ (HW.out.keep (GZ.out.bl.trans (HB1_.out.trans hy5))) hwn).mono ?_
      rintro e V2 ⟨gw, cw, rfl, lw, hb⟩
      have HB2_ := Lib.hid (HB1_.out.trans (hy5.trans hb))
      have LW2 := Lib.hid (lw.lowT (Nat.le_trans hszZ (HB1_.out.trans hy5).size))
      have LD2_ := Lib.hid (LD1_.out.keep (hy5.trans hb))
      have LA2_ := Lib.hid (LA1.out.keep (hy5.trans hb))
      clear lw hy5 hb LD1_ LA1 HB1_
      refine ⟨_, rfl, fun _ => GZ.out.a.keep HB2_.out, ?_⟩
      refine wpAnyK_all (rs := [9]) (by kernel_rfl) (by decide) ?_
      intro i0 hi0
      rw [List.mem_singleton] at hi0
      subst hi0
      intro Y7 hy7
      go_simp
      have HB3_ := Lib.hid (HB2_.out.trans hy7)
      have LD3_ := Lib.hid (LD2_.out.keep hy7)
      have LA3_ := Lib.hid (LA2_.out.keep hy7)
      have LW3_ := Lib.hid (LW2.out.keep hy7)
      clear hy7 HB2_ LD2_ LA2_ LW2
      refine ⟨fun _ => GZ.out.a.keep HB3_.out, ?_⟩
      have HG4 := Lib.hid (GZ.out.a.keep HB3_.out)
      have HO4 := Lib.hid (GZ.out.b.keep HB3_.out)
      have HW4 := Lib.hid (GZ.out.bl.trans HB3_.out)
      clear HB3_
      refine wpAnyK_turn (by kernel_rfl) (by decide) ?_
      intro X5 hx5
      have HG6 := Lib.hid (HG4.out.keep hx5)
      have HO6 := Lib.hid (HO4.out.keep hx5)
      have HW6 := Lib.hid (Bl.trans HW4.out hx5)
      have LD6_ := Lib.hid (LD3_.out.keep hx5)
      have LA6_ := Lib.hid (LA3_.out.keep hx5)
      have LW6_ := Lib.hid (LW3_.out.keep hx5)
      clear hx5 HG4 HO4 HW4 LD3_ LA3_ LW3_
      have c5 := HG6.out.cell 3 _ rfl
      have f5 := HG6.out.frozen 3
      go_simp
      clear c5 f5
      have HG7 := Lib.hid (HG6.out.setj 3 (.slice (some ⟨gd, 0, none⟩) dn cd))
      have HO7 := Lib.hid (HO6.out.other (j := 3) (u := (.slice (some ⟨gd, 0, none⟩) dn cd)) (by omega : w.heap.size + 1 ≠ w.heap.size))
      have HW7 := Lib.hid (HW6.out.setCell (p := ⟨w.heap.size, 3, none⟩) (Nat.le_refl _) (.slice (some ⟨gd, 0, none⟩) dn cd))
      have LD7_ := Lib.hid (LD6_.out.setT (q := w.heap.size) (by omega) 3 (.slice (some ⟨gd, 0, none⟩) dn cd))
      have LA7_ := Lib.hid (LA6_.out.setT (q := w.heap.size) (by omega) 3 (.slice (some ⟨gd, 0, none⟩) dn cd))
      have LW7_ := Lib.hid (LW6_.out.setT (q := w.heap.size) (by omega) 3 (.slice (some ⟨gd, 0, none⟩) dn cd))
      clear HG6 HO6 HW6 LD6_ LA6_ LW6_
      generalize World.setCell _ _ (.slice (some ⟨gd, 0, none⟩) dn cd) = Z7 at *
      refine wpAnyE_one (i := 11) (by kernel_rfl) ?_
      intro X8 hx8
      have HG9 := Lib.hid (HG7.out.keep hx8)
      have HO9 := Lib.hid (HO7.out.keep hx8)
      have HW9 := Lib.hid (Bl.trans HW7.out hx8)
      have LD9_ := Lib.hid (LD7_.out.keep hx8)
      have LA9_ := Lib.hid (LA7_.out.keep hx8)
      have LW9_ := Lib.hid (LW7_.out.keep hx8)
      clear hx8 HG7 HO7 HW7 LD7_ LA7_ LW7_
      go_simp
      refine wpAnyE_one (i := 12) (by kernel_rfl) ?_
      intro X10 hx10
      have HG11 := Lib.hid (HG9.out.keep hx10)
      have HO11 := Lib.hid (HO9.out.keep hx10)
      have HW11 := Lib.hid (Bl.trans HW9.out hx10)
      have LD11_ := Lib.hid (LD9_.out.keep hx10)
      have LA11_ := Lib.hid (LA9_.out.keep hx10)
      have LW11_ := Lib.hid (LW9_.out.keep hx10)
      clear hx10 HG9 HO9 HW9 LD9_ LA9_ LW9_
      have c10 := HG11.out.cell 4 _ rfl
      have f10 := HG11.out.frozen 4
      go_simp
      clear c10 f10
      have HG12 := Lib.hid (HG11.out.setj 4 (.slice (some ⟨ga, 0, none⟩) an ca))
      have HO12 := Lib.hid (HO11.out.other (j := 4) (u := (.slice (some ⟨ga, 0, none⟩) an ca)) (by omega : w.heap.size + 1 ≠ w.heap.size))
      have HW12 := Lib.hid (HW11.out.setCell (p := ⟨w.heap.size, 4, none⟩) (Nat.le_refl _) (.slice (some ⟨ga, 0, none⟩) an ca))
      have LD12_ := Lib.hid (LD11_.out.setT (q := w.heap.size) (by omega) 4 (.slice (some ⟨ga, 0, none⟩) an ca))
      have LA12_ := Lib.hid (LA11_.out.setT (q := w.heap.size) (by omega) 4 (.slice (some ⟨ga, 0, none⟩) an ca))
      have LW12_ := Lib.hid (LW11_.out.setT (q := w.heap.size) (by omega) 4 (.slice (some ⟨ga, 0, none⟩) an ca))
      clear HG11 HO11 HW11 LD11_ LA11_ LW11_
      generalize World.setCell _ _ (.slice (some ⟨ga, 0, none⟩) an ca) = Z12 at *
      refine wpAnyE_one (i := 13) (by kernel_rfl) ?_
      intro X13 hx13
      have HG14 := Lib.hid (HG12.out.keep hx13)
      have HO14 := Lib.hid (HO12.out.keep hx13)
      have HW14 := Lib.hid (Bl.trans HW12.out hx13)
      have LD14_ := Lib.hid (LD12_.out.keep hx13)
      have LA14_ := Lib.hid (LA12_.out.keep hx13)
      have LW14_ := Lib.hid (LW12_.out.keep hx13)
      clear hx13 HG12 HO12 HW12 LD12_ LA12_ LW12_
      go_simp
      refine wpAnyE_one (i := 14) (by kernel_rfl) ?_
      intro X15 hx15
      have HG16 := Lib.hid (HG14.out.keep hx15)
      have HO16 := Lib.hid (HO14.out.keep hx15)
      have HW16 := Lib.hid (Bl.trans HW14.out hx15)
      have LD16_ := Lib.hid (LD14_.out.keep hx15)
      have LA16_ := Lib.hid (LA14_.out.keep hx15)
      have LW16_ := Lib.hid (LW14_.out.keep hx15)
      clear hx15 HG14 HO14 HW14 LD14_ LA14_ LW14_
      have c15 := HG16.out.cell 5 _ rfl
      have f15 := HG16.out.frozen 5
      go_simp
      clear c15 f15
      have HG17 := Lib.hid (HG16.out.setj 5 (.slice (some ⟨gw, 0, none⟩) wn cw))
      have HO17 := Lib.hid (HO16.out.other (j := 5) (u := (.slice (some ⟨gw, 0, none⟩) wn cw)) (by omega : w.heap.size + 1 ≠ w.heap.size))
      have HW17 := Lib.hid (HW16.out.setCell (p := ⟨w.heap.size, 5, none⟩) (Nat.le_refl _) (.slice (some ⟨gw, 0, none⟩) wn cw))
      have LD17_ := Lib.hid (LD16_.out.setT (q := w.heap.size) (by omega) 5 (.slice (some ⟨gw, 0, none⟩) wn cw))
      have LA17_ := Lib.hid (LA16_.out.setT (q := w.heap.size) (by omega) 5 (.slice (some ⟨gw, 0, none⟩) wn cw))
      have LW17_ := Lib.hid (LW16_.out.setT (q := w.heap.size) (by omega) 5 (.slice (some ⟨gw, 0, none⟩) wn cw))
      clear HG16 HO16 HW16 LD16_ LA16_ LW16_
      generalize World.setCell _ _ (.slice (some ⟨gw, 0, none⟩) wn cw) = Z17 at *
      refine wpAnyE_done (by kernel_rfl) ?_
      intro X18 hx18
      have HG19 := Lib.hid (HG17.out.keep hx18)
      have HO19 := Lib.hid (HO17.out.keep hx18)
      have HW19 := Lib.hid (Bl.trans HW17.out hx18)
      have LD19_ := Lib.hid (LD17_.out.keep hx18)
      have LA19_ := Lib.hid (LA17_.out.keep hx18)
      have LW19_ := Lib.hid (LW17_.out.keep hx18)
      clear hx18 HG17 HO17 HW17 LD17_ LA17_ LW17_
      have a0 := HG19.out.cell 0 _ rfl
      have a1 := HG19.out.cell 1 _ rfl
      have a2 := HG19.out.cell 2 _ rfl
      have a3 := HG19.out.cell 3 _ rfl
      have a4 := HG19.out.cell 4 _ rfl
      have a5 := HG19.out.cell 5 _ rfl
      have b0 := HO19.out.cell 0 _ rfl
      have b1 := HO19.out.cell 1 _ rfl
      have b2 := HO19.out.cell 2 _ rfl
      have b3 := HO19.out.cell 3 _ rfl
      have b4 := HO19.out.cell 4 _ rfl
      have b5 := HO19.out.cell 5 _ rfl
      have fr := HO19.out.frozen
      go_wp2_with fail
      refine bodyPost_ret (lentTxn_results rfl (HO19.out.fill [.int .i64 o, .int .i64 num, .int .i64 prev, .slice (some ⟨gd, 0, none⟩) dn cd, .slice (some ⟨ga, 0, none⟩) an ca, .slice (some ⟨gw, 0, none⟩) wn cw] rfl)) rfl ⟨gd, cd, ga, ca, gw, cw, rfl, ?_, ?_, ?_, Bl.fill (g := w.heap.size + 1) (Nat.le_succ _) [.int .i64 o, .int .i64 num, .int .i64 prev, .slice (some ⟨gd, 0, none⟩) dn cd, .slice (some ⟨ga, 0, none⟩) an ca, .slice (some ⟨gw, 0, none⟩) wn cw] _ 0 HW19.out⟩
      · exact (((((((LD19_.out).setT (q := w.heap.size + 1) (by omega) 0 (.int .i64 o)).setT (q := w.heap.size + 1) (by omega) 1 (.int .i64 num)).setT (q := w.heap.size + 1) (by omega) 2 (.int .i64 prev)).setT (q := w.heap.size + 1) (by omega) 3 (.slice (some ⟨gd, 0, none⟩) dn cd)).setT (q := w.heap.size + 1) (by omega) 4 (.slice (some ⟨ga, 0, none⟩) an ca)).setT (q := w.heap.size + 1) (by omega) 5 (.slice (some ⟨gw, 0, none⟩) wn cw)).lowT (by omega)
      · exact (((((((LA19_.out).setT (q := w.heap.size + 1) (by omega) 0 (.int .i64 o)).setT (q := w.heap.size + 1) (by omega) 1 (.int .i64 num)).setT (q := w.heap.size + 1) (by omega) 2 (.int .i64 prev)).setT (q := w.heap.size + 1) (by omega) 3 (.slice (some ⟨gd, 0, none⟩) dn cd)).setT (q := w.heap.size + 1) (by omega) 4 (.slice (some ⟨ga, 0, none⟩) an ca)).setT (q := w.heap.size + 1) (by omega) 5 (.slice (some ⟨gw, 0, none⟩) wn cw)).lowT (by omega)
      · exact (((((((LW19_.out).setT (q := w.heap.size + 1) (by omega) 0 (.int .i64 o)).setT (q := w.heap.size + 1) (by omega) 1 (.int .i64 num)).setT (q := w.heap.size + 1) (by omega) 2 (.int .i64 prev)).setT (q := w.heap.size + 1) (by omega) 3 (.slice (some ⟨gd, 0, none⟩) dn cd)).setT (q := w.heap.size + 1) (by omega) 4 (.slice (some ⟨ga, 0, none⟩) an ca)).setT (q := w.heap.size + 1) (by omega) 5 (.slice (some ⟨gw, 0, none⟩) wn cw)).lowT (by omega)
    · go_simp
      have HB20_ := Lib.hid (HB1_.out.trans hy5)
      have LD20_ := Lib.hid (LD1_.out.keep hy5)
      have LA20_ := Lib.hid (LA1.out.keep hy5)
      clear hy5 HB1_ LD1_ LA1
      refine ⟨fun _ => GZ.out.a.keep HB20_.out, ?_⟩
      refine wpAnyK_all (rs := [8]) (by kernel_rfl) (by decide) ?_
      intro i0 hi0
      rw [List.mem_singleton] at hi0
      subst hi0
      intro Y7 hy7
      go_simp
      refine (lentWrites_any wa wn wc ws _ (HW.out.keep (GZ.out.bl.trans (HB20_.out.trans hy7))) hwn).mono ?_
      rintro e V21 ⟨gw, cw, rfl, lw, hb⟩
      have HB21_ := Lib.hid (HB20_.out.trans (hy7.trans hb))
      have LW21 := Lib.hid (lw.lowT (Nat.le_trans hszZ (HB20_.out.trans hy7).size))
      have LD21_ := Lib.hid (LD20_.out.keep (hy7.trans hb))
      have LA21_ := Lib.hid (LA20_.out.keep (hy7.trans hb))
      clear lw hy7 hb LD20_ LA20_ HB20_
      refine ⟨_, rfl, fun _ => GZ.out.a.keep HB21_.out, ?_⟩
      have HG22 := Lib.hid (GZ.out.a.keep HB21_.out)
      have HO22 := Lib.hid (GZ.out.b.keep HB21_.out)
      have HW22 := Lib.hid (GZ.out.bl.trans HB21_.out)
      clear HB21_
      refine wpAnyK_turn (by kernel_rfl) (by decide) ?_
      intro X23 hx23
      have HG24 := Lib.hid (HG22.out.keep hx23)
      have HO24 := Lib.hid (HO22.out.keep hx23)
      have HW24 := Lib.hid (Bl.trans HW22.out hx23)
      have LD24_ := Lib.hid (LD21_.out.keep hx23)
      have LA24_ := Lib.hid (LA21_.out.keep hx23)
      have LW24_ := Lib.hid (LW21.out.keep hx23)
      clear hx23 HG22 HO22 HW22 LD21_ LA21_ LW21
      have c23 := HG24.out.cell 3 _ rfl
      have f23 := HG24.out.frozen 3
      go_simp
      clear c23 f23
      have HG25 := Lib.hid (HG24.out.setj 3 (.slice (some ⟨gd, 0, none⟩) dn cd))
      have HO25 := Lib.hid (HO24.out.other (j := 3) (u := (.slice (some ⟨gd, 0, none⟩) dn cd)) (by omega : w.heap.size + 1 ≠ w.heap.size))
      have HW25 := Lib.hid (HW24.out.setCell (p := ⟨w.heap.size, 3, none⟩) (Nat.le_refl _) (.slice (some ⟨gd, 0, none⟩) dn cd))
      have LD25_ := Lib.hid (LD24_.out.setT (q := w.heap.size) (by omega) 3 (.slice (some ⟨gd, 0, none⟩) dn cd))
      have LA25_ := Lib.hid (LA24_.out.setT (q := w.heap.size) (by omega) 3 (.slice (some ⟨gd, 0, none⟩) dn cd))
      have LW25_ := Lib.hid (LW24_.out.setT (q := w.heap.size) (by omega) 3 (.slice (some ⟨gd, 0, none⟩) dn cd))
      clear HG24 HO24 HW24 LD24_ LA24_ LW24_
      generalize World.setCell _ _ (.slice (some ⟨gd, 0, none⟩) dn cd) = Z25 at *
      refine wpAnyE_one (i := 11) (by kernel_rfl) ?_
      intro X26 hx26
      have HG27 := Lib.hid (HG25.out.keep hx26)
      have HO27 := Lib.hid (HO25.out.keep hx26)
      have HW27 := Lib.hid (Bl.trans HW25.out hx26)
      have LD27_ := Lib.hid (LD25_.out.keep hx26)
      have LA27_ := Lib.hid (LA25_.out.keep hx26)
      have LW27_ := Lib.hid (LW25_.out.keep hx26)
      clear hx26 HG25 HO25 HW25 LD25_ LA25_ LW25_
      go_simp
      refine wpAnyE_one (i := 12) (by kernel_rfl) ?_
      intro X28 hx28
      have HG29 := Lib.hid (HG27.out.keep hx28)
      have HO29 := Lib.hid (HO27.out.keep hx28)
      have HW29 := Lib.hid (Bl.trans HW27.out hx28)
      have LD29_ := Lib.hid (LD27_.out.keep hx28)
      have LA29_ := Lib.hid (LA27_.out.keep hx28)
      have LW29_ := Lib.hid (LW27_.out.keep hx28)
      clear hx28 HG27 HO27 HW27 LD27_ LA27_ LW27_
      have c28 := HG29.out.cell 4 _ rfl
      have f28 := HG29.out.frozen 4
      go_simp
      clear c28 f28
      have HG30 := Lib.hid (HG29.out.setj 4 (.slice (some ⟨ga, 0, none⟩) an ca))
      have HO30 := Lib.hid (HO29.out.other (j := 4) (u := (.slice (some ⟨ga, 0, none⟩) an ca)) (by omega : w.heap.size + 1 ≠ w.heap.size))
      have HW30 := Lib.hid (HW29.out.setCell (p := ⟨w.heap.size, 4, none⟩) (Nat.le_refl _) (.slice (some ⟨ga, 0, none⟩) an ca))
      have LD30_ := Lib.hid (LD29_.out.setT (q := w.heap.size) (by omega) 4 (.slice (some ⟨ga, 0, none⟩) an ca))
      have LA30_ := Lib.hid (LA29_.out.setT (q := w.heap.size) (by omega) 4 (.slice (some ⟨ga, 0, none⟩) an ca))
      have LW30_ := Lib.hid (LW29_.out.setT (q := w.heap.size) (by omega) 4 (.slice (some ⟨ga, 0, none⟩) an ca))
      clear HG29 HO29 HW29 LD29_ LA29_ LW29_
      generalize World.setCell _ _ (.slice (some ⟨ga, 0, none⟩) an ca) = Z30 at *
      refine wpAnyE_one (i := 13) (by kernel_rfl) ?_
      intro X31 hx31
      have HG32 := Lib.hid (HG30.out.keep hx31)
      have HO32 := Lib.hid (HO30.out.keep hx31)
      have HW32 := Lib.hid (Bl.trans HW30.out hx31)
      have LD32_ := Lib.hid (LD30_.out.keep hx31)
      have LA32_ := Lib.hid (LA30_.out.keep hx31)
      have LW32_ := Lib.hid (LW30_.out.keep hx31)
      clear hx31 HG30 HO30 HW30 LD30_ LA30_ LW30_
      go_simp
      refine wpAnyE_one (i := 14) (by kernel_rfl) ?_
      intro X33 hx33
      have HG34 := Lib.hid (HG32.out.keep hx33)
      have HO34 := Lib.hid (HO32.out.keep hx33)
      have HW34 := Lib.hid (Bl.trans HW32.out hx33)
      have LD34_ := Lib.hid (LD32_.out.keep hx33)
      have LA34_ := Lib.hid (LA32_.out.keep hx33)
      have LW34_ := Lib.hid (LW32_.out.keep hx33)
      clear hx33 HG32 HO32 HW32 LD32_ LA32_ LW32_
      have c33 := HG34.out.cell 5 _ rfl
      have f33 := HG34.out.frozen 5
      go_simp
      clear c33 f33
      have HG35 := Lib.hid (HG34.out.setj 5 (.slice (some ⟨gw, 0, none⟩) wn cw))
      have HO35 := Lib.hid (HO34.out.other (j := 5) (u := (.slice (some ⟨gw, 0, none⟩) wn cw)) (by omega : w.heap.size + 1 ≠ w.heap.size))
      have HW35 := Lib.hid (HW34.out.setCell (p := ⟨w.heap.size, 5, none⟩) (Nat.le_refl _) (.slice (some ⟨gw, 0, none⟩) wn cw))
      have LD35_ := Lib.hid (LD34_.out.setT (q := w.heap.size) (by omega) 5 (.slice (some ⟨gw, 0, none⟩) wn cw))
      have LA35_ := Lib.hid (LA34_.out.setT (q := w.heap.size) (by omega) 5 (.slice (some ⟨gw, 0, none⟩) wn cw))
      have LW35_ := Lib.hid (LW34_.out.setT (q := w.heap.size) (by omega) 5 (.slice (some ⟨gw, 0, none⟩) wn cw))
      clear HG34 HO34 HW34 LD34_ LA34_ LW34_
      generalize World.setCell _ _ (.slice (some ⟨gw, 0, none⟩) wn cw) = Z35 at *
      refine wpAnyE_done (by kernel_rfl) ?_
      intro X36 hx36
      have HG37 := Lib.hid (HG35.out.keep hx36)
      have HO37 := Lib.hid (HO35.out.keep hx36)
      have HW37 := Lib.hid (Bl.trans HW35.out hx36)
      have LD37_ := Lib.hid (LD35_.out.keep hx36)
      have LA37_ := Lib.hid (LA35_.out.keep hx36)
      have LW37_ := Lib.hid (LW35_.out.keep hx36)
      clear hx36 HG35 HO35 HW35 LD35_ LA35_ LW35_
      have a0 := HG37.out.cell 0 _ rfl
      have a1 := HG37.out.cell 1 _ rfl
      have a2 := HG37.out.cell 2 _ rfl
      have a3 := HG37.out.cell 3 _ rfl
      have a4 := HG37.out.cell 4 _ rfl
      have a5 := HG37.out.cell 5 _ rfl
      have b0 := HO37.out.cell 0 _ rfl
      have b1 := HO37.out.cell 1 _ rfl
      have b2 := HO37.out.cell 2 _ rfl
      have b3 := HO37.out.cell 3 _ rfl
      have b4 := HO37.out.cell 4 _ rfl
      have b5 := HO37.out.cell 5 _ rfl
      have fr := HO37.out.frozen
      go_wp2_with fail
      refine bodyPost_ret (lentTxn_results rfl (HO37.out.fill [.int .i64 o, .int .i64 num, .int .i64 prev, .slice (some ⟨gd, 0, none⟩) dn cd, .slice (some ⟨ga, 0, none⟩) an ca, .slice (some ⟨gw, 0, none⟩) wn cw] rfl)) rfl ⟨gd, cd, ga, ca, gw, cw, rfl, ?_, ?_, ?_, Bl.fill (g := w.heap.size + 1) (Nat.le_succ _) [.int .i64 o, .int .i64 num, .int .i64 prev, .slice (some ⟨gd, 0, none⟩) dn cd, .slice (some ⟨ga, 0, none⟩) an ca, .slice (some ⟨gw, 0, none⟩) wn cw] _ 0 HW37.out⟩
      · exact (((((((LD37_.out).setT (q := w.heap.size + 1) (by omega) 0 (.int .i64 o)).setT (q := w.heap.size + 1) (by omega) 1 (.int .i64 num)).setT (q := w.heap.size + 1) (by omega) 2 (.int .i64 prev)).setT (q := w.heap.size + 1) (by omega) 3 (.slice (some ⟨gd, 0, none⟩) dn cd)).setT (q := w.heap.size + 1) (by omega) 4 (.slice (some ⟨ga, 0, none⟩) an ca)).setT (q := w.heap.size + 1) (by omega) 5 (.slice (some ⟨gw, 0, none⟩) wn cw)).lowT (by omega)
      · exact (((((((LA37_.out).setT (q := w.heap.size + 1) (by omega) 0 (.int .i64 o)).setT (q := w.heap.size + 1) (by omega) 1 (.int .i64 num)).setT (q := w.heap.size + 1) (by omega) 2 (.int .i64 prev)).setT (q := w.heap.size + 1) (by omega) 3 (.slice (some ⟨gd, 0, none⟩) dn cd)).setT (q := w.heap.size + 1) (by omega) 4 (.slice (some ⟨ga, 0, none⟩) an ca)).setT (q := w.heap.size + 1) (by omega) 5 (.slice (some ⟨gw, 0, none⟩) wn cw)).lowT (by omega)
      · exact (((((((LW37_.out).setT (q := w.heap.size + 1) (by omega) 0 (.int .i64 o)).setT (q := w.heap.size + 1) (by omega) 1 (.int .i64 num)).setT (q := w.heap.size + 1) (by omega) 2 (.int .i64 prev)).setT (q := w.heap.size + 1) (by omega) 3 (.slice (some ⟨gd, 0, none⟩) dn cd)).setT (q := w.heap.size + 1) (by omega) 4 (.slice (some ⟨ga, 0, none⟩) an ca)).setT (q := w.heap.size + 1) (by omega) 5 (.slice (some ⟨gw, 0, none⟩) wn cw)).lowT (by omega)
  · go_simp
    have HB38_ := Lib.hid (HB2.out.trans hy3)
    have LD38_ := Lib.hid (LD.out.keep hy3)
    clear hy3 HB2 LD
    refine ⟨fun _ => GZ.out.a.keep HB38_.out, ?_⟩
    refine wpAnyK_all (rs := [5]) (by kernel_rfl) (by decide) ?_
    intro i0 hi0
    rw [List.mem_singleton] at hi0
    subst hi0
    intro Y5 hy5
    go_simp
    refine (lentVec_any aa an ac xs _ (HX.out.keep (GZ.out.bl.trans (HB38_.out.trans hy5))) han).mono ?_
    rintro e V39 ⟨ga, ca, rfl, la, hb⟩
    have HB39_ := Lib.hid (HB38_.out.trans (hy5.trans hb))
    have LA39 := Lib.hid (la.lowT (Nat.le_trans hszZ (HB38_.out.trans hy5).size))
    have LD39_ := Lib.hid (LD38_.out.keep (hy5.trans hb))
    clear la hy5 hb LD38_ HB38_
    refine ⟨_, rfl, fun _ => GZ.out.a.keep HB39_.out, ?_⟩
    refine wpAnyK_all (rs := [8]) (by kernel_rfl) (by decide) ?_
    intro i0 hi0
    rw [List.mem_singleton] at hi0
    subst hi0
    intro Y7 hy7
    go_simp
    refine (lentWrites_any wa wn wc ws _ (HW.out.keep (GZ.out.bl.trans (HB39_.out.trans hy7))) hwn).mono ?_
    rintro e V40 ⟨gw, cw, rfl, lw, hb⟩
    have HB40_ := Lib.hid (HB39_.out.trans (hy7.trans hb))
    have LW40 := Lib.hid (lw.lowT (Nat.le_trans hszZ (HB39_.out.trans hy7).size))
    have LD40_ := Lib.hid (LD39_.out.keep (hy7.trans hb))
    have LA40_ := Lib.hid (LA39.out.keep (hy7.trans hb))
    clear lw hy7 hb LD39_ LA39 HB39_
    refine ⟨_, rfl, fun _ => GZ.out.a.keep HB40_.out, ?_⟩
    have HG41 := Lib.hid (GZ.out.a.keep HB40_.out)
    have HO41 := Lib.hid (GZ.out.b.keep HB40_.out)
    have HW41 := Lib.hid (GZ.out.bl.trans HB40_.out)
    clear HB40_
    refine wpAnyK_turn (by kernel_rfl) (by decide) ?_
    intro X42 hx42
    have HG43 := Lib.hid (HG41.out.keep hx42)
    have HO43 := Lib.hid (HO41.out.keep hx42)
    have HW43 := Lib.hid (Bl.trans HW41.out hx42)
    have LD43_ := Lib.hid (LD40_.out.keep hx42)
    have LA43_ := Lib.hid (LA40_.out.keep hx42)
    have LW43_ := Lib.hid (LW40.out.keep hx42)
    clear hx42 HG41 HO41 HW41 LD40_ LA40_ LW40
    have c42 := HG43.out.cell 3 _ rfl
    have f42 := HG43.out.frozen 3
    go_simp
    clear c42 f42
    have HG44 := Lib.hid (HG43.out.setj 3 (.slice (some ⟨gd, 0, none⟩) dn cd))
    have HO44 := Lib.hid (HO43.out.other (j := 3) (u := (.slice (some ⟨gd, 0, none⟩) dn cd)) (by omega : w.heap.size + 1 ≠ w.heap.size))
    have HW44 := Lib.hid (HW43.out.setCell (p := ⟨w.heap.size, 3, none⟩) (Nat.le_refl _) (.slice (some ⟨gd, 0, none⟩) dn cd))
    have LD44_ := Lib.hid (LD43_.out.setT (q := w.heap.size) (by omega) 3 (.slice (some ⟨gd, 0, none⟩) dn cd))
    have LA44_ := Lib.hid (LA43_.out.setT (q := w.heap.size) (by omega) 3 (.slice (some ⟨gd, 0, none⟩) dn cd))
    have LW44_ := Lib.hid (LW43_.out.setT (q := w.heap.size) (by omega) 3 (.slice (some ⟨gd, 0, none⟩) dn cd))
    clear HG43 HO43 HW43 LD43_ LA43_ LW43_
    generalize World.setCell _ _ (.slice (some ⟨gd, 0, none⟩) dn cd) = Z44 at *
    refine wpAnyE_one (i := 11) (by kernel_rfl) ?_
    intro X45 hx45
    have HG46 := Lib.hid (HG44.out.keep hx45)
    have HO46 := Lib.hid (HO44.out.keep hx45)
    have HW46 := Lib.hid (Bl.trans HW44.out hx45)
    have LD46_ := Lib.hid (LD44_.out.keep hx45)
    have LA46_ := Lib.hid (LA44_.out.keep hx45)
    have LW46_ := Lib.hid (LW44_.out.keep hx45)
    clear hx45 HG44 HO44 HW44 LD44_ LA44_ LW44_
    go_simp
    refine wpAnyE_one (i := 12) (by kernel_rfl) ?_
    intro X47 hx47
    have HG48 := Lib.hid (HG46.out.keep hx47)
    have HO48 := Lib.hid (HO46.out.keep hx47)
    have HW48 := Lib.hid (Bl.trans HW46.out hx47)
    have LD48_ := Lib.hid (LD46_.out.keep hx47)
    have LA48_ := Lib.hid (LA46_.out.keep hx47)
    have LW48_ := Lib.hid (LW46_.out.keep hx47)
    clear hx47 HG46 HO46 HW46 LD46_ LA46_ LW46_
    have c47 := HG48.out.cell 4 _ rfl
    have f47 := HG48.out.frozen 4
    go_simp
    clear c47 f47
    have HG49 := Lib.hid (HG48.out.setj 4 (.slice (some ⟨ga, 0, none⟩) an ca))
    have HO49 := Lib.hid (HO48.out.other (j := 4) (u := (.slice (some ⟨ga, 0, none⟩) an ca)) (by omega : w.heap.size + 1 ≠ w.heap.size))
    have HW49 := Lib.hid (HW48.out.setCell (p := ⟨w.heap.size, 4, none⟩) (Nat.le_refl _) (.slice (some ⟨ga, 0, none⟩) an ca))
    have LD49_ := Lib.hid (LD48_.out.setT (q := w.heap.size) (by omega) 4 (.slice (some ⟨ga, 0, none⟩) an ca))
    have LA49_ := Lib.hid (LA48_.out.setT (q := w.heap.size) (by omega) 4 (.slice (some ⟨ga, 0, none⟩) an ca))
    have LW49_ := Lib.hid (LW48_.out.setT (q := w.heap.size) (by omega) 4 (.slice (some ⟨ga, 0, none⟩) an ca))
    clear HG48 HO48 HW48 LD48_ LA48_ LW48_
    generalize World.setCell _ _ (.slice (some ⟨ga, 0, none⟩) an ca) = Z49 at *
    refine wpAnyE_one (i := 13) (by kernel_rfl) ?_
    intro X50 hx50
    have HG51 := Lib.hid (HG49.out.keep hx50)
    have HO51 := Lib.hid (HO49.out.keep hx50)
    have HW51 := Lib.hid (Bl.trans HW49.out hx50)
    have LD51_ := Lib.hid (LD49_.out.keep hx50)
    have LA51_ := Lib.hid (LA49_.out.keep hx50)
    have LW51_ := Lib.hid (LW49_.out.keep hx50)
    clear hx50 HG49 HO49 HW49 LD49_ LA49_ LW49_
    go_simp
    refine wpAnyE_one (i := 14) (by kernel_rfl) ?_
    intro X52 hx52
    have HG53 := Lib.hid (HG51.out.keep hx52)
    have HO53 := Lib.hid (HO51.out.keep hx52)
    have HW53 := Lib.hid (Bl.trans HW51.out hx52)
    have LD53_ := Lib.hid (LD51_.out.keep hx52)
    have LA53_ := Lib.hid (LA51_.out.keep hx52)
    have LW53_ := Lib.hid (LW51_.out.keep hx52)
    clear hx52 HG51 HO51 HW51 LD51_ LA51_ LW51_
    have c52 := HG53.out.cell 5 _ rfl
    have f52 := HG53.out.frozen 5
    go_simp
    clear c52 f52
    have HG54 := Lib.hid (HG53.out.setj 5 (.slice (some ⟨gw, 0, none⟩) wn cw))
    have HO54 := Lib.hid (HO53.out.other (j := 5) (u := (.slice (some ⟨gw, 0, none⟩) wn cw)) (by omega : w.heap.size + 1 ≠ w.heap.size))
    have HW54 := Lib.hid (HW53.out.setCell (p := ⟨w.heap.size, 5, none⟩) (Nat.le_refl _) (.slice (some ⟨gw, 0, none⟩) wn cw))
    have LD54_ := Lib.hid (LD53_.out.setT (q := w.heap.size) (by omega) 5 (.slice (some ⟨gw, 0, none⟩) wn cw))
    have LA54_ := Lib.hid (LA53_.out.setT (q := w.heap.size) (by omega) 5 (.slice (some ⟨gw, 0, none⟩) wn cw))
    have LW54_ := Lib.hid (LW53_.out.setT (q := w.heap.size) (by omega) 5 (.slice (some ⟨gw, 0, none⟩) wn cw))
    clear HG53 HO53 HW53 LD53_ LA53_ LW53_
    generalize World.setCell _ _ (.slice (some ⟨gw, 0, none⟩) wn cw) = Z54 at *
    refine wpAnyE_done (by kernel_rfl) ?_
    intro X55 hx55
    have HG56 := Lib.hid (HG54.out.keep hx55)
    have HO56 := Lib.hid (HO54.out.keep hx55)
    have HW56 := Lib.hid (Bl.trans HW54.out hx55)
    have LD56_ := Lib.hid (LD54_.out.keep hx55)
    have LA56_ := Lib.hid (LA54_.out.keep hx55)
    have LW56_ := Lib.hid (LW54_.out.keep hx55)
    clear hx55 HG54 HO54 HW54 LD54_ LA54_ LW54_
    have a0 := HG56.out.cell 0 _ rfl
    have a1 := HG56.out.cell 1 _ rfl
    have a2 := HG56.out.cell 2 _ rfl
    have a3 := HG56.out.cell 3 _ rfl
    have a4 := HG56.out.cell 4 _ rfl
    have a5 := HG56.out.cell 5 _ rfl
    have b0 := HO56.out.cell 0 _ rfl
    have b1 := HO56.out.cell 1 _ rfl
    have b2 := HO56.out.cell 2 _ rfl
    have b3 := HO56.out.cell 3 _ rfl
    have b4 := HO56.out.cell 4 _ rfl
    have b5 := HO56.out.cell 5 _ rfl
    have fr := HO56.out.frozen
    go_wp2_with fail
    refine bodyPost_ret (lentTxn_results rfl (HO56.out.fill [.int .i64 o, .int .i64 num, .int .i64 prev, .slice (some ⟨gd, 0, none⟩) dn cd, .slice (some ⟨ga, 0, none⟩) an ca, .slice (some ⟨gw, 0, none⟩) wn cw] rfl)) rfl ⟨gd, cd, ga, ca, gw, cw, rfl, ?_, ?_, ?_, Bl.fill (g := w.heap.size + 1) (Nat.le_succ _) [.int .i64 o, .int .i64 num, .int .i64 prev, .slice (some ⟨gd, 0, none⟩) dn cd, .slice (some ⟨ga, 0, none⟩) an ca, .slice (some ⟨gw, 0, none⟩) wn cw] _ 0 HW56.out⟩
    · exact (((((((LD56_.out).setT (q := w.heap.size + 1) (by omega) 0 (.int .i64 o)).setT (q := w.heap.size + 1) (by omega) 1 (.int .i64 num)).setT (q := w.heap.size + 1) (by omega) 2 (.int .i64 prev)).setT (q := w.heap.size + 1) (by omega) 3 (.slice (some ⟨gd, 0, none⟩) dn cd)).setT (q := w.heap.size + 1) (by omega) 4 (.slice (some ⟨ga, 0, none⟩) an ca)).setT (q := w.heap.size + 1) (by omega) 5 (.slice (some ⟨gw, 0, none⟩) wn cw)).lowT (by omega)
    · exact (((((((LA56_.out).setT (q := w.heap.size + 1) (by omega) 0 (.int .i64 o)).setT (q := w.heap.size + 1) (by omega) 1 (.int .i64 num)).setT (q := w.heap.size + 1) (by omega) 2 (.int .i64 prev)).setT (q := w.heap.size + 1) (by omega) 3 (.slice (some ⟨gd, 0, none⟩) dn cd)).setT (q := w.heap.size + 1) (by omega) 4 (.slice (some ⟨ga, 0, none⟩) an ca)).setT (q := w.heap.size + 1) (by omega) 5 (.slice (some ⟨gw, 0, none⟩) wn cw)).lowT (by omega)
    · exact (((((((LW56_.out).setT (q := w.heap.size + 1) (by omega) 0 (.int .i64 o)).setT (q := w.heap.size + 1) (by omega) 1 (.int .i64 num)).setT (q := w.heap.size + 1) (by omega) 2 (.int .i64 prev)).setT (q := w.heap.size + 1) (by omega) 3 (.slice (some ⟨gd, 0, none⟩) dn cd)).setT (q := w.heap.size + 1) (by omega) 4 (.slice (some ⟨ga, 0, none⟩) an ca)).setT (q := w.heap.size + 1) (by omega) 5 (.slice (some ⟨gw, 0, none⟩) wn cw)).lowT (by omega)
set_option maxHeartbeats 3200000 in
set_option maxRecDepth 100000 in
theorem staysTxn_any (B : Nat) (o num prev o' num' prev' : Int) (gd dn cd : Nat) (da : Option Addr) (dc : Nat) (ds : List Int) (ga an ca : Nat) (aa : Option Addr) (ac : Nat) (xs : List Int) (gw wn cw : Nat) (wa : Option Addr) (wc : Nat) (ws : List (ByteArray × ActL)) (w : World) (ld : LV B w gd dn cd ds) (la : LV B w ga an ca xs) (lw : LWr B w gw wn cw ws) (hd : IA w da dn ds) (hx : IA w aa an xs) (hw : WW w wa wn ws) (hdn : dn ≤ 1000000) (han : an ≤ 1000000) :
    Calls Tryz.prog 15 #[.agg #[.int .i64 o, .int .i64 num, .int .i64 prev, .slice (some ⟨gd, 0, none⟩) dn cd, .slice (some ⟨ga, 0, none⟩) an ca, .slice (some ⟨gw, 0, none⟩) wn cw], .agg #[.int .i64 o', .int .i64 num', .int .i64 prev', .slice da dn dc, .slice aa an ac, .slice wa wn wc]] w fun e w' => e = .returned (.bool true) ∧ Bl w w' := by
  have LD := Lib.hid ld
  have LA := Lib.hid la
  have LW := Lib.hid lw
  have HD := Lib.hid hd
  have HX := Lib.hid hx
  have HW := Lib.hid hw
  have hg := AC.new w _ rfl [.int .i64 o, .int .i64 num, .int .i64 prev, .slice (some ⟨gd, 0, none⟩) dn cd, .slice (some ⟨ga, 0, none⟩) an ca, .slice (some ⟨gw, 0, none⟩) wn cw] 26
  have hb := (Bl.refl w).alloc (.cells [Value.int .i64 o, .int .i64 num, .int .i64 prev, .slice (some ⟨gd, 0, none⟩) dn cd, .slice (some ⟨ga, 0, none⟩) an ca, .slice (some ⟨gw, 0, none⟩) wn cw].toArray 26)
  have hsz : (w.alloc (.cells [Value.int .i64 o, .int .i64 num, .int .i64 prev, .slice (some ⟨gd, 0, none⟩) dn cd, .slice (some ⟨ga, 0, none⟩) an ca, .slice (some ⟨gw, 0, none⟩) wn cw].toArray 26)).heap.size = w.heap.size + 1 := by simp
  clear ld la lw hd hx hw
  go_enter Tryz.func15, Tryz.ntmps15
  go_upto_region 1 with fail
  generalize w.alloc _ = W1 at *
  have hg2 := AC.new W1 _ rfl [.int .i64 o', .int .i64 num', .int .i64 prev', .slice da dn dc, .slice aa an ac, .slice wa wn wc] 26
  have hbb := (Bl.refl W1).alloc (.cells [Value.int .i64 o', .int .i64 num', .int .i64 prev', .slice da dn dc, .slice aa an ac, .slice wa wn wc].toArray 26)
  rw [hsz] at hg2
  have hg1 := hg.keep hbb
  have hb1 := hb.trans hbb
  clear hg hb hbb hsz
  generalize W1.alloc _ = W at *
  generalize w.heap.size = g1 at *
  have HB := Lib.hid hb1
  have c3 := hg1.cell 3 _ rfl
  have c4 := hg1.cell 4 _ rfl
  have c5 := hg1.cell 5 _ rfl
  have e3 := hg2.cell 3 _ rfl
  have e4 := hg2.cell 4 _ rfl
  have e5 := hg2.cell 5 _ rfl
  clear hg1 hg2 hb1
  go_wp2_with fail
  refine (staysVec_any B gd dn cd da dn dc ds _ (LD.out.keep HB.out) (HD.out.keep HB.out) hdn).mono ?_
  rintro e W2 ⟨rfl, hb2⟩
  have HB2 := Lib.hid (HB.out.trans hb2)
  replace c4 := hb2.cell c4
  replace c5 := hb2.cell c5
  replace e4 := hb2.cell e4
  replace e5 := hb2.cell e5
  clear hb2 c3 e3
  go_wp2_with fail
  refine (staysVec_any B ga an ca aa an ac xs _ (LA.out.keep HB2.out) (HX.out.keep HB2.out) han).mono ?_
  rintro e W3 ⟨rfl, hb3⟩
  have HB3 := Lib.hid (HB2.out.trans hb3)
  replace c5 := hb3.cell c5
  replace e5 := hb3.cell e5
  clear hb3 c4 e4
  go_wp2_with fail
  refine (staysWrites_any B gw wn cw wa wc ws _ (LW.out.keep HB3.out) (HW.out.keep HB3.out)).mono ?_
  rintro e W4 ⟨rfl, hb4⟩
  have HB4 := Lib.hid (HB3.out.trans hb4)
  clear hb4 c5 e5
  go_wp2_with fail
  go_ret
  exact ⟨rfl, HB4.out⟩
end Go.Proofs.YtfmabjoindlfeaaGreat
end
