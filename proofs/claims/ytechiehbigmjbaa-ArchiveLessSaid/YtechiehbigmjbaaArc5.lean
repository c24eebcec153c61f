/- the state of archive.read. · archive.read. By an AI agent. -/
import Derived.Test.YtechiehbigmjbaaArc3
import Derived.Test.YtechiehbigmjbaaFill
import Derived.Test.YtechiehbigmjbaaAppP
set_option linter.unusedVariables false
set_option linter.unusedSimpArgs false
namespace Go.Proofs.Ytechiehbigmjbaa
open Go.RowKit

def zeroArcCs : List Value := arcCs 0 0 none 0 0 none 0 0
structure AGR (w W : World) (l : List UInt8) : Prop where
  bl : Bl w W
  r : AC W w.heap.size zeroArcCs
  c : C1 W (w.heap.size + 1) (.string (strL l))
theorem AGR.keep {w W W' : World} {l : List UInt8} (h : AGR w W l) (k : Bl W W') : AGR w W' l := ⟨h.bl.trans k, h.r.keep k, h.c.keep k⟩
theorem AGR.set {w W : World} {l : List UInt8} (h : AGR w W l) (m : List UInt8) : AGR w (W.setCell ⟨w.heap.size + 1, 0, none⟩ (.string (strL m))) m :=
  ⟨h.bl.setCell (p := ⟨w.heap.size + 1, 0, none⟩) (Nat.le_succ _) _, h.r.other (by omega), h.c.set _⟩
theorem AGR.new (w : World) (l : List UInt8) (T U : TypeId) : AGR w ((w.alloc (.cells zeroArcCs.toArray T)).alloc (.cells #[.string (strL l)] U)) l :=
  ⟨((Bl.refl w).alloc _).alloc _, (AC.new w _ rfl zeroArcCs T).keep ((Bl.refl _).alloc _), C1.new _ (w.heap.size + 1) (by simp) _ U⟩
theorem AGR.bad {w W W' : World} {l : List UInt8} (h : AGR w W l) {r : ByteArray} (hb : Bl (W.setCell ⟨w.heap.size + 1, 0, none⟩ (.string r)) W') : Bl w W' :=
  (show Bl w (W.setCell ⟨w.heap.size + 1, 0, none⟩ (.string r)) from h.bl.setCell (p := ⟨w.heap.size + 1, 0, none⟩) (Nat.le_succ _) _).trans hb
theorem AGR.lt {w W : World} {l : List UInt8} (h : AGR w W l) : w.heap.size + 1 < W.heap.size := h.c.lt
/-- .. and the archive's own box, its vector, its pairs so far (which lie from block B on) -/
structure APG (w W : World) (l : List UInt8) (gx B : Nat) (cs : List Value) (ad : Option Addr) (n : Nat) (xs : List Int) (pv : Value) (k : Nat) (acc : List (ByteArray × ValL)) : Prop where
  g : AGR w W l
  a : AC W gx cs
  x : IA W ad n xs
  ap : ∀ b off, ad = some ⟨b, off, none⟩ → n = 0 ∨ (gx < b ∧ b < B)
  o : OPR B W pv k acc
  ge : w.heap.size + 1 + 1 ≤ gx
  gb : gx < B
  lt : B ≤ W.heap.size
theorem APG.keep {w W W' : World} {l : List UInt8} {gx B : Nat} {cs : List Value} {ad : Option Addr} {n : Nat} {xs : List Int} {pv : Value} {k : Nat} {acc : List (ByteArray × ValL)} (h : APG w W l gx B cs ad n xs pv k acc) (b : Bl W W') : APG w W' l gx B cs ad n xs pv k acc :=
  ⟨h.g.keep b, h.a.keep b, h.x.keep b, h.ap, h.o.keep b, h.ge, h.gb, Nat.le_trans h.lt b.size⟩
theorem APG.set {w W : World} {l : List UInt8} {gx B : Nat} {cs : List Value} {ad : Option Addr} {n : Nat} {xs : List Int} {pv : Value} {k : Nat} {acc : List (ByteArray × ValL)} (h : APG w W l gx B cs ad n xs pv k acc) (m : List UInt8) : APG w (W.setCell ⟨w.heap.size + 1, 0, none⟩ (.string (strL m))) m gx B cs ad n xs pv k acc := by
  have hge := h.ge
  have hgb := h.gb
  exact ⟨h.g.set m, h.a.other (by omega), h.x.apart (fun b off e => by have := h.ap b off e; omega) _ _, h.ap, h.o.set (by omega) _ _, h.ge, h.gb, by simpa using h.lt⟩
theorem APG.new {w W : World} {l : List UInt8} {gx : Nat} {cs : List Value} {ad : Option Addr} {n : Nat} {xs : List Int} (g : AGR w W l) (a : AC W gx cs) (x : FarIA (gx + 1) W ad n xs) (hge : w.heap.size + 1 + 1 ≤ gx) : APG w W l gx W.heap.size cs ad n xs (.slice none 0 0) 0 [] :=
  ⟨g, a, x.1, fun b off e => by have h1 := x.2 b off e; have h2 := x.1.block b off e; omega, OPR.nil _ _, hge, a.lt, Nat.le_refl _⟩
/-- a pair is put behind the others -/
theorem APG.app {w W W' : World} {l : List UInt8} {gx B : Nat} {cs : List Value} {ad : Option Addr} {n : Nat} {xs : List Int} {pv v' : Value} {k : Nat} {acc : List (ByteArray × ValL)} (h : APG w W l gx B cs ad n xs pv k acc) (p : ByteArray × ValL)
    (ho : W'.ownsRow B 87 5 v' (k + 1) (cellsP acc ++ pairCs p)) (hg : W.grownBy W' pv.ownBlock) : APG w W' l gx B cs ad n xs v' (k + 1) (acc ++ [p]) := by
  have hb : Below B W W' := Below.grown (Below.refl _ W) hg h.lt (fun q hq => (World.ownsRow.lt h.o.2 q hq).1)
  have hge := h.ge
  have hgb := h.gb
  refine ⟨⟨Below.trans h.g.bl (Below.mono hb (by omega)), h.g.r.below hb (by omega), h.g.c.below hb (by omega)⟩, h.a.below hb (by omega), h.x.below hb (fun b off e => by have := h.ap b off e; omega), h.ap, ⟨by rw [List.length_append, h.o.1]; rfl, by rw [cellsP_snoc]; exact ho⟩, h.ge, h.gb, Nat.le_trans h.lt hb.size⟩
/-- .. and stored -/
theorem APG.store {w W : World} {l : List UInt8} {gx B : Nat} {cs : List Value} {ad : Option Addr} {n : Nat} {xs : List Int} {pv : Value} {k : Nat} {acc : List (ByteArray × ValL)} (h : APG w W l gx B cs ad n xs pv k acc) (j : Nat) (v : Value) : APG w (W.setCell ⟨gx, j, none⟩ v) l gx B (cs.set j v) ad n xs pv k acc := by
  have hge := h.ge
  have hgb := h.gb
  exact ⟨⟨h.g.bl.setCell (p := ⟨gx, j, none⟩) (by show w.heap.size ≤ gx; omega) v, h.g.r.other (by omega), h.g.c.otherj (by omega)⟩, h.a.setj j v, h.x.apart (fun b off e => by have := h.ap b off e; omega) _ _, h.ap, h.o.set (by omega) _ _, h.ge, h.gb, by simpa using h.lt⟩

/-- what reading comes to -/
def ArcPost (w : World) (l : List UInt8) (e : Ending) (w' : World) : Prop :=
  (∃ (a : ArcL) (ad : Option Addr) (n ca : Nat) (pd : Option Addr) (pn pc : Nat), rdArc l = some a ∧ e = .returned (arcV a.n a.parts ad n ca pd pn pc) ∧ FarIA w.heap.size w' ad n a.at_ ∧ FarPA w.heap.size w' pd pn a.pairs ∧ Bl w w') ∨
  (rdArc l = none ∧ e = panR ∧ Bl w w')
theorem ar_results {tmps : Array Value} {W : World} {g : Nat} {n parts : Int} {ad : Option Addr} {an ac : Nat} {pd : Option Addr} {pn pc : Nat} (h : tmps.getD 2 undef = .pointer (some ⟨g, 0, none⟩)) (hc : AC W g (arcCs n parts ad an ac pd pn pc)) :
    (results Try.f109 tmps).run Try.prog W = .ok (arcV n parts ad an ac pd pn pc) W := by
  rw [Array.getD_eq_getD_getElem?] at h
  obtain ⟨c0, c1, c2, c3⟩ := hc.arc
  simp [results, Try.results109, go_sem, h, c0, c1, c2, c3, arcV]
/-- why nothing is read -/
theorem rdArc_none {l body : List UInt8} (hb : l.take (l.length - 4) = body) (h : rdBody body = none) : rdArc l = none := by
  unfold rdArc
  rw [hb, h]
  split <;> rfl
theorem rdArc_short {l : List UInt8} (h : ¬ (12 ≤ l.length ∧ l.length ≤ 524288)) : rdArc l = none := by
  unfold rdArc
  rw [if_neg (fun q => h ⟨q.1, q.2.1⟩)]
theorem rdArc_sum {l : List UInt8} (h : numB (sumL (l.take (l.length - 4)) : Int) 4 ≠ l.drop (l.length - 4)) : rdArc l = none := by
  unfold rdArc
  rw [if_neg (fun q => h q.2.2)]
theorem wr_iff (a : ArcL) (l : List UInt8) (hl : l.length ≤ 524288) : (wrC a = 0 ∧ wrL a = l) ↔ (validArc a = true ∧ putArc a = l) := by
  unfold wrC wrL
  cases hv : validArc a
  · simp
  · simp only [if_true, true_and]
    unfold outC outL
    have hs := sealL_len (bodyArc a)
    by_cases h : (bodyArc a).length + 4 ≤ 524288
    · rw [if_pos h, if_pos h]
      simp [putArc]
    · rw [if_neg h]
      constructor
      · rintro ⟨h1, _⟩; exact absurd h1 (by decide)
      · intro h2
        unfold putArc at h2
        rw [h2] at hs
        omega
theorem rdArc_of {l body m : List UInt8} {a : ArcL} (h1 : 12 ≤ l.length) (h2 : l.length ≤ 524288) (hb : l.take (l.length - 4) = body) (hs : numB (sumL body : Int) 4 = l.drop (l.length - 4)) (h : rdBody body = some (a, m)) :
    rdArc l = if wrC a = 0 ∧ wrL a = l then some a else none := by
  unfold rdArc
  rw [hb, if_pos ⟨h1, h2, hs⟩, h, Option.bind_some]
  dsimp only
  by_cases q : validArc a = true ∧ putArc a = l
  · rw [if_pos q, if_pos ((wr_iff a l h2).2 q)]
  · rw [if_neg q, if_neg (fun k => q ((wr_iff a l h2).1 k))]
end Go.Proofs.Ytechiehbigmjbaa

set_option linter.unusedVariables false
set_option linter.unusedSimpArgs false
namespace Go.Proofs.Ytechiehbigmjbaa
open Go.RowKit
attribute [local go_sem] eOp eOper eUpon pOp pOper pUpon

theorem FarPA.fillA {B : Nat} {a : Option Addr} {n : Nat} {ps : List (ByteArray × ValL)} {q : Nat} (hq : q < B) (vs : List Value) : ∀ (w : World) (j : Nat), FarPA B w a n ps → FarPA B (fill w q j vs) a n ps := by
  induction vs with
  | nil => intro w j h; exact h
  | cons v vs ih => intro w j h; exact ih _ _ (h.set hq j v)
/-- worlds that hold two boxes -/
def HasTwo (g : Nat) (cs : List Value) (g' : Nat) (ds : List Value) (W' : World) : Prop := AC W' g cs ∧ AC W' g' ds
theorem HasTwo.keep {g g' : Nat} {cs ds : List Value} (w w' : World) (h : HasTwo g cs g' ds w) (k : Bl w w') : HasTwo g cs g' ds w' := ⟨h.1.keep k, h.2.keep k⟩
theorem AC.grown {w w' : World} {g : Nat} {cs : List Value} {row : Option Nat} (h : AC w g cs) (hg : w.grownBy w' row) (hn : some g ≠ row) : AC w' g cs := by
  obtain ⟨t, h⟩ := h
  exact ⟨t, by rw [hg.block g (lt_of_heap h) hn]; exact h⟩
theorem rdNumC_len {n : Nat} {l m : List UInt8} {x : Int} (h : rdNum n l = some (x, m)) : m.length ≤ l.length := by
  obtain ⟨e, -⟩ := rdNum_back h
  rw [e, List.length_append]; omega
theorem arread_short (l : List UInt8) (w : World) (h : ¬ (12 ≤ l.length ∧ l.length ≤ 524288)) :
    Calls Try.prog 109 #[.string (strL l)] w (ArcPost w l) := by
  have zl := strL_size l
  have HR := Lib.hid (rdArc_short h)
  have hb := (Bl.refl w).alloc (.cells zeroArcCs.toArray 75)
  have HB := Lib.hid hb
  unfold zeroArcCs arcCs at HB
  clear hb
  generalize strL l = sl at *
  generalize l.length = N at *
  by_cases h12 : 12 ≤ N
  · have q1 : decide ((12 : Int) ≤ (N : Int)) = true := decide_eq_true (by omega)
    have q2 : decide ((N : Int) ≤ 524288) = false := decide_eq_false (by omega)
    have q3 : decide (12 ≤ N) = true := decide_eq_true (by omega)
    have q4 : decide (N ≤ 524288) = false := decide_eq_false (by omega)
    clear h h12
    go_enter Try.func109, Try.ntmps109
    go_wp2_with fail
    refine (arwant_no _).mono ?_
    rintro e W12 ⟨rfl, rfl⟩
    unfold panR
    go_wp2_with fail
    exact ⟨rfl, .inr ⟨HR.out, rfl, HB.out⟩⟩
  · have q1 : decide ((12 : Int) ≤ (N : Int)) = false := decide_eq_false (by omega)
    have q3 : decide (12 ≤ N) = false := decide_eq_false (by omega)
    clear h h12
    go_enter Try.func109, Try.ntmps109
    go_wp2_with fail
    refine (arwant_no _).mono ?_
    rintro e W12 ⟨rfl, rfl⟩
    unfold panR
    go_wp2_with fail
    exact ⟨rfl, .inr ⟨HR.out, rfl, HB.out⟩⟩

set_option maxHeartbeats 12800000 in
set_option maxRecDepth 100000 in
theorem arread_long (l body tr : List UInt8) (m : Nat) (w : World) (hm : l.length = m + 4) (h8 : 8 ≤ m) (hmx : m + 4 ≤ 524288) (hbd : l.take m = body) (htr : l.drop m = tr) :
    Calls Try.prog 109 #[.string (strL l)] w (ArcPost w l) := by
  have hsf := store_float
  have zl := strL_size l
  rw [hm] at zl
  have e1 : (strL l).extract 0 m = strL body := by rw [strL_take, hbd]
  have e2 : (strL l).extract m (m + 4) = strL tr := by
    have := strL_drop l m
    rw [zl, htr] at this
    exact this
  have hbl : body.length = m := by rw [← hbd, List.length_take]; omega
  have HBD : Hid (l.take (l.length - 4) = body) := Lib.hid (by rw [hm, Nat.add_sub_cancel]; exact hbd)
  have HTR : Hid (l.drop (l.length - 4) = tr) := Lib.hid (by rw [hm, Nat.add_sub_cancel]; exact htr)
  have HL := Lib.hid hm
  have HBL := Lib.hid hbl
  have hb := AGR.new w body 75 199
  unfold zeroArcCs arcCs at hb
  have q1 : decide ((12 : Int) ≤ ((m + 4 : Nat) : Int)) = true := decide_eq_true (by omega)
  have q2 : decide (((m + 4 : Nat) : Int) ≤ 524288) = true := decide_eq_true (by omega)
  have hsub : ((m + 4 : Nat) : Int) - 4 = (m : Int) := by omega
  have hwr : IntKind.i64.wrap (m : Int) = (m : Int) := by rw [IntKind.wrap_i64]; omega
  have hmN : m ≤ m + 4 := Nat.le_add_right _ _
  generalize hN : m + 4 = N at *
  have HN := Lib.hid hN
  clear hN hm hbd htr hbl
  generalize hsl : strL l = sl at *
  have HSL := Lib.hid hsl
  clear hsl
  go_enter Try.func109, Try.ntmps109
  go_wp2_with fail
  refine (arwant_yes _).mono ?_
  rintro e W12 ⟨rfl, rfl⟩
  go_upto_region 3 with fail
  generalize (w.alloc (.cells #[.int .i64 0, .int .i64 0, .slice none 0 0, .slice none 0 0] 75)).alloc _ = W at *
  have HS := Lib.hid (fun w => sum_any (strL body) w (by rw [strL_size, HBL.out]; omega))
  rw [show (strL body).data.toList = body from rfl] at HS
  have hsl := sumL_lt body
  have HN4 := Lib.hid (fun w => arnum4 (sumL body : Int) w (by omega) (by omega))
  have HSB : Hid (∀ w, Calls Try.prog 85 #[.string (strL body)] w fun e w' => e = .returned (.int .i64 (sumL body)) ∧ Bl w w') := Lib.hid (fun w => by
    refine (HS.out w).mono ?_
    rintro e w' ⟨rfl, rfl⟩
    exact ⟨rfl, Bl.refl _⟩)
  clear HS
  have hbD := hb.keep ((Bl.refl W).drew)
  clear hb
  by_cases hs : numB (sumL body : Int) 4 = tr
  · have qe : ((strL (numB (sumL body : Int) 4)).toList == (strL tr).toList) = true := by rw [SB.beq (strL_SB _) (strL_SB _)]; exact decide_eq_true hs
    have HSS' := Lib.hid hs
    clear hs
    generalize strL (numB (sumL body : Int) 4) = qx at *
    generalize strL tr = qt at *
    generalize hsb : strL body = sb at *
    have hsmE : ∃ sm, sumL body = sm := ⟨_, rfl⟩
    obtain ⟨sm, hsm⟩ := hsmE
    have HSMB := Lib.hid hsm
    rw [hsm] at HSB HN4
    clear hsm hsl
    refine wp_region_panicsT [0, 1, 2, 3, 4, 5, 6, 7, 8, 9, 10, 11, 12, 13] 4 (HasBox (w.heap.size + 1) [.string sb]) HasBox.keep (by rw [← hsb]; exact hbD.c) [14, 15, 16, 17] (fun c W' => c = [{ v := .iface 26 (.int .i64 70), recovered := false }] ∧ rdArc l = none ∧ Bl w W') ?hR (by kernel_rfl) rfl (by kernel_rfl) (by kernel_rfl) (by kernel_rfl) ?_
    case hR =>
      rintro c tt W' ⟨rfl, hn, hb⟩
      go_simp
      go_wp2_with fail
      exact ⟨rfl, .inr ⟨hn, rfl, hb⟩⟩
    generalize W.drew = WD at *
    haveI : Nonempty (ExtC (HasBox (w.heap.size + 1) [.string sb])) := ⟨⟨WD, by rw [← hsb]; exact hbD.c⟩⟩
    have d7 : ∀ q : ExtC (HasBox (w.heap.size + 1) [.string sb]), _ := fun q => AC.cell q.ok 0 _ rfl
    repeat (refine wpI_step rfl (fun K hK => ?_); go_simp; first | (refine hK _ ?_; clear hK K) | (apply Exists.intro; refine ⟨fun q => ?_, hK _ ?_⟩; (first | with_reducible exact HSB.out _ | with_reducible exact HN4.out _); clear hK K))
    refine wpI_nil ?_
    clear d7 this qe e1 e2 hsub hwr hmN q1 q2
    refine wpAnyP_one (i := 14) (by kernel_rfl) ?_
    intro W8 hb8
    go_simp
    have G8 := Lib.hid (hbD.keep hb8)
    clear hb8 hbD
    refine (artake_some (w.heap.size + 1) body 8 W8 G8.out.c (by rw [HBL.out]; exact h8)).mono ?_
    rintro e W9 ⟨rfl, rfl⟩
    have G9 := Lib.hid (G8.out.set (body.drop 8))
    have HT8 : Hid (rdTake 8 body = some (body.take 8, body.drop 8)) := Lib.hid (by unfold rdTake; rw [if_pos (by rw [HBL.out]; exact h8)])
    clear G8
    generalize World.setCell _ _ (.string (strL (body.drop 8))) = W9 at *
    refine .inl ⟨_, rfl, ?_⟩
    by_cases hbg : body.take 8 = beginL
    · have qb : ((strL (body.take 8)).toList == [66, 69, 68, 82, 79, 67, 75, 49]) = true := by rw [hbg, ByteArray.toList_eq]; rfl
      have HBG := Lib.hid hbg
      clear hbg
      generalize strL (body.take 8) = s8 at *
      refine wpAnyP_one (i := 15) (by kernel_rfl) ?_
      intro W10 hb10
      go_simp
      refine wpAnyP_one (i := 16) (by kernel_rfl) ?_
      intro W11 hb11
      go_simp
      refine wpAnyP_one (i := 17) (by kernel_rfl) ?_
      intro W12 hb12
      go_simp
      refine (arwant_yes _).mono ?_
      rintro e W13 ⟨rfl, rfl⟩
      refine .inl ⟨_, rfl, ?_⟩
      refine wpAnyP_done (by kernel_rfl) ?_
      intro W14 hb14
      clear qb
      have G := Lib.hid (G9.out.keep ((hb10.trans (hb11.trans hb12)).trans hb14))
      clear hb10 hb11 hb12 hb14 G9
      have hz0 : (body.drop 8).length ≤ 524288 := by rw [List.length_drop, HBL.out]; have := HN.out; omega
      generalize body.drop 8 = l8 at *
      go_wp2_with fail
      refine (arnumR_any (w.heap.size + 1) l8 1 _ G.out.c (by decide) (by decide)).mono ?_
      rintro e W15 (⟨n, l9, h9, rfl, rfl⟩ | ⟨hn, rfl, rfl⟩)
      case inr =>
        unfold panR
        go_wp2_with fail
        exact ⟨rfl, .inr ⟨rdArc_none HBD.out (by simp [rdBody, rdFront, HT8.out, HBG.out, hn]), rfl, G.out.bl⟩⟩
      have H9 := Lib.hid h9
      have hz9 : l9.length ≤ 524288 := by have := rdNumC_len h9; omega
      replace G := Lib.hid (G.out.set l9)
      clear h9
      generalize World.setCell _ _ (.string (strL l9)) = W15 at *
      go_wp2_with fail
      refine (arnumR_any (w.heap.size + 1) l9 1 _ G.out.c (by decide) (by decide)).mono ?_
      rintro e W16 (⟨parts, l10, h10, rfl, rfl⟩ | ⟨hn, rfl, rfl⟩)
      case inr =>
        unfold panR
        go_wp2_with fail
        exact ⟨rfl, .inr ⟨rdArc_none HBD.out (by simp [rdBody, rdFront, HT8.out, HBG.out, H9.out, hn]), rfl, G.out.bl⟩⟩
      have H10 := Lib.hid h10
      have hz10 : l10.length ≤ 524288 := by have := rdNumC_len h10; omega
      replace G := Lib.hid (G.out.set l10)
      clear h10
      generalize World.setCell _ _ (.string (strL l10)) = W16 at *
      have hga := AC.new W16 _ rfl (arcCs n parts none 0 0 none 0 0) 75
      have hgb := (Bl.refl W16).alloc (.cells (arcCs n parts none 0 0 none 0 0).toArray 75)
      unfold arcCs at hga hgb
      have hlt := G.out.lt
      have G2 := Lib.hid (G.out.keep hgb)
      have cz := G2.out.c.cell
      go_wp2_with fail
      have GA := Lib.hid hga
      have hsz : (W16.alloc (.cells #[.int .i64 n, .int .i64 parts, .slice none 0 0, .slice none 0 0] 75)).heap.size = W16.heap.size + 1 := by simp
      clear hga hgb cz G
      generalize W16.alloc _ = W17 at *
      generalize W16.heap.size = gx at *
      refine (vget_rd (strL l10) l10 _ (strL_SB _) (by omega)).mono ?_
      rintro e W18 (⟨xs, l11, v, hv, rfl, hfi, hb⟩ | ⟨hv, c, hc, rfl, hb⟩)
      case inr =>
        have HN := Lib.hid (rdArc_none HBD.out (by simp [rdBody, rdFront, HT8.out, HBG.out, H9.out, H10.out, hv]))
        have HB := Lib.hid (G2.out.bl.trans hb)
        clear hv hb
        rcases hc with rfl | rfl
        · go_wp2_with fail
          refine (arwant_no _).mono ?_
          rintro e W19 ⟨rfl, rfl⟩
          unfold panR
          go_wp2_with fail
          exact ⟨rfl, .inr ⟨HN.out, rfl, HB.out⟩⟩
        · go_wp2_with fail
          refine (arwant_no _).mono ?_
          rintro e W19 ⟨rfl, rfl⟩
          unfold panR
          go_wp2_with fail
          exact ⟨rfl, .inr ⟨HN.out, rfl, HB.out⟩⟩
      obtain ⟨va, vn, vc, rfl, hI⟩ := hfi.si
      have HV := Lib.hid hv
      have hvl := rdV_len hv
      have hdr : l10.drop (1 + 6 * xs.length) = l11 := by rw [(rdV_back hv).1, List.drop_left' (by rw [putL_len])]
      have hF0 := hfi.far
      rw [hsz] at hF0
      generalize hk : 1 + 6 * xs.length = kv at *
      have G3 := Lib.hid (G2.out.keep hb)
      have GA3 := Lib.hid (GA.out.keep hb)
      have HF3 := Lib.hid hF0
      have HDR := Lib.hid hdr
      have hz11 : l11.length ≤ 524288 := by omega
      have hkl : kv ≤ l10.length := by omega
      clear hv hfi hI hb hF0 hdr G2 GA hsz hk hvl
      go_wp2_with fail
      refine (arwant_yes _).mono ?_
      rintro e W19 ⟨rfl, rfl⟩
      go_wp2_with fail
      refine (artake_some (w.heap.size + 1) l10 kv _ G3.out.c hkl).mono ?_
      rintro e W19 ⟨rfl, rfl⟩
      rw [HDR.out]
      have G4 := Lib.hid (G3.out.set l11)
      have GA4 := Lib.hid (GA3.out.other (j := 0) (u := .string (strL l11)) (by omega : gx ≠ w.heap.size + 1))
      have HF4 := Lib.hid (HF3.out.set (q := w.heap.size + 1) (by omega) 0 (.string (strL l11)))
      clear G3 GA3 HF3
      generalize World.setCell _ _ (.string (strL l11)) = W19 at *
      have a2 := (AC.arc GA4.out).2.2.1
      have f2 := GA4.out.frozen 2
      have cz := G4.out.c
      have P0 := APG.new (n := vn) ⟨G4.out.bl.setCell (p := ⟨gx, 2, none⟩) (by show w.heap.size ≤ gx; omega) (.slice va vn vc), G4.out.r.other (j := 2) (u := .slice va vn vc) (by omega : w.heap.size ≠ gx), G4.out.c.otherj (j := 2) (u := .slice va vn vc) (by omega : w.heap.size + 1 ≠ gx)⟩ (GA4.out.setj 2 (.slice va vn vc)) (HF4.out.set (q := gx) (Nat.lt_succ_self _) 2 (.slice va vn vc)) (by omega : w.heap.size + 1 + 1 ≤ gx)
      clear cz
      go_wp2_with fail
      clear a2 f2 G4 GA4 HF4
      have P1 := Lib.hid (show APG w _ l11 gx _ (arcCs n parts va vn vc none 0 0) va vn xs (.slice none 0 0) 0 [] from P0)
      clear P0
      generalize (W19.setCell ⟨gx, 2, none⟩ (.slice va vn vc)) = W20 at *
      generalize hBB : W20.heap.size = B at *
      clear hBB
      refine (arnumR_any (w.heap.size + 1) l11 4 _ P1.out.g.c (by decide) (by decide)).mono ?_
      rintro e W21 (⟨pnI, l12, h12, rfl, rfl⟩ | ⟨hn, rfl, rfl⟩)
      case inr =>
        unfold panR
        go_wp2_with fail
        exact ⟨rfl, .inr ⟨rdArc_none HBD.out (by simp [rdBody, rdFront, HT8.out, HBG.out, H9.out, H10.out, HV.out, hn]), rfl, P1.out.g.bl⟩⟩
      have H12 := Lib.hid h12
      have hz12 : l12.length ≤ 524288 := by have := rdNumC_len h12; omega
      have HZ12 := Lib.hid hz12
      have hbk := rdNum_back h12
      obtain ⟨pn, rfl⟩ := Int.eq_ofNat_of_zero_le hbk.2.1
      have hpn : pn < 4294967296 := by have := hbk.2.2; rw [show (256 : Int) ^ 4 = 4294967296 from rfl] at this; omega
      have Q := Lib.hid (P1.out.set l12)
      clear h12 hbk P1
      generalize World.setCell _ _ (.string (strL l12)) = W21 at *
      have HRB : Hid (rdBody body = (rdPairsC pn l12).map fun q => (⟨n, parts, xs, q.1⟩, q.2)) := Lib.hid (by
        unfold rdBody rdFront
        rw [HT8.out, Option.bind_some, if_pos HBG.out, H9.out, Option.bind_some, H10.out, Option.bind_some, HV.out, Option.bind_some, H12.out, Option.bind_some, Option.bind_some]
        dsimp only
        rw [Int.toNat_natCast])
      clear H9 H10 H12 HV HT8 HBG hz0 hz9 hz10 hz11 hkl
      go_wp2_with fail
      go_loopw [70] (fun i wr => ∃ (k : Nat) (lk : List UInt8) (acc : List (ByteArray × ValL)) (pd : Option Addr) (pc : Nat), k ≤ pn ∧ i = .int .i64 k ∧ APG w wr lk gx B (arcCs n parts va vn vc pd k pc) va vn xs (.slice pd k pc) k acc ∧ lk.length ≤ 524288 ∧ rdPairsC pn l12 = (rdPairsC (pn - k) lk).map fun p => (acc ++ p.1, p.2)) (fun i _ => pn - (intOf i).toNat)
      case atStart => exact ⟨0, l12, [], none, 0, Nat.zero_le _, rfl, Q.out, hz12, by simp⟩
      case round =>
        clear Q hz12
        obtain ⟨k, lk, acc, pd, pc, hk, rfl, hP, hzk, hrd⟩ := hrel
        have Q := Lib.hid hP
        have HD := Lib.hid hrd
        have HZ := Lib.hid hzk
        clear hP hrd hzk
        by_cases hlt2 : k < pn
        · obtain ⟨jj, hj⟩ : ∃ jj, pn - k = jj + 1 := ⟨pn - k - 1, by omega⟩
          rw [hj] at HD
          have hnone : ∀ {x : Option ((ByteArray × ValL) × List UInt8)}, rdPairC lk = x → x = none → rdArc l = none := fun h1 h2 => rdArc_none HBD.out (by rw [HRB.out, HD.out]; simp [rdPairsC, h1, h2])
          have HNO := Lib.hid (fun (h : rdPairC lk = none) => hnone rfl h)
          clear hnone
          go_wp2_with fail
          refine (arnumR_any (w.heap.size + 1) lk 1 _ Q.out.g.c (by decide) (by decide)).mono ?_
          rintro e X1 (⟨kn, la, ha, rfl, rfl⟩ | ⟨hn, rfl, rfl⟩)
          case inr =>
            unfold panR
            go_wp2_with fail
            exact ⟨rfl, .inr ⟨HNO.out (by simp [rdPairC, hn]), rfl, Q.out.g.bl⟩⟩
          have HA := Lib.hid ha
          have hza : la.length ≤ 524288 := by have := rdNumC_len ha; have := HZ.out; omega
          have hbk := rdNum_back ha
          obtain ⟨kn, rfl⟩ := Int.eq_ofNat_of_zero_le hbk.2.1
          have Q1 := Lib.hid (Q.out.set la)
          clear ha hbk
          generalize World.setCell _ _ (.string (strL la)) = X1 at *
          go_wp2_with fail
          refine (artake_any (w.heap.size + 1) la kn _ Q1.out.g.c).mono ?_
          rintro e X2 (⟨key, lb, hb, rfl, rfl⟩ | ⟨hn, rfl, rfl⟩)
          case inr =>
            unfold panR
            go_wp2_with fail
            exact ⟨rfl, .inr ⟨HNO.out (by simp [rdPairC, HA.out, hn]), rfl, Q1.out.g.bl⟩⟩
          have HB := Lib.hid hb
          have hzb : lb.length ≤ 524288 ∧ key.length ≤ 524288 := by have := rdTake_back hb; have h2 := congrArg List.length this.1; rw [List.length_append] at h2; omega
          have Q2 := Lib.hid (Q1.out.set lb)
          clear hb Q1
          generalize World.setCell _ _ (.string (strL lb)) = X2 at *
          have HCL := Lib.hid (fun w => cloneB_any (strL key) w (by rw [strL_size]; omega))
          go_wp2_with fail
          refine (HCL.out _).mono ?_
          rintro e X3 ⟨rfl, hb3⟩
          have Q3 := Lib.hid (Q2.out.keep hb3)
          clear hb3 Q2 HCL
          go_wp2_with fail
          refine (arnumR_any (w.heap.size + 1) lb 2 _ Q3.out.g.c (by decide) (by decide)).mono ?_
          rintro e X4 (⟨an, lc, hc, rfl, rfl⟩ | ⟨hn, rfl, rfl⟩)
          case inr =>
            unfold panR
            go_wp2_with fail
            exact ⟨rfl, .inr ⟨HNO.out (by simp [rdPairC, HA.out, HB.out, hn]), rfl, Q3.out.g.bl⟩⟩
          have HC := Lib.hid hc
          have hzc : lc.length ≤ 524288 := by have := rdNumC_len hc; omega
          have hbk := rdNum_back hc
          obtain ⟨an, rfl⟩ := Int.eq_ofNat_of_zero_le hbk.2.1
          have Q4 := Lib.hid (Q3.out.set lc)
          clear hc hbk Q3
          generalize World.setCell _ _ (.string (strL lc)) = X4 at *
          go_wp2_with fail
          refine (artake_any (w.heap.size + 1) lc an _ Q4.out.g.c).mono ?_
          rintro e X5 (⟨ta, ld, hd, rfl, rfl⟩ | ⟨hn, rfl, rfl⟩)
          case inr =>
            unfold panR
            go_wp2_with fail
            exact ⟨rfl, .inr ⟨HNO.out (by simp [rdPairC, HA.out, HB.out, HC.out, hn]), rfl, Q4.out.g.bl⟩⟩
          have HDD := Lib.hid hd
          have hzd : ld.length ≤ 524288 := by have := rdTake_back hd; have h2 := congrArg List.length this.1; rw [List.length_append] at h2; omega
          have Q5 := Lib.hid (Q4.out.set ld)
          clear hd Q4
          generalize World.setCell _ _ (.string (strL ld)) = X5 at *
          have HOG := Lib.hid (fun w => oget_any (strL ta) ta w (strL_SB ta))
          have HGC := Lib.hid (getA_codes ta)
          have HGB := Lib.hid (fun h => (putA_getA ta h).2.2)
          have HRP : Hid (rdPairC lk = if (getA ta).2 = 0 ∧ fitsB (strL key) (getA ta).1 = true then some ((strL key, afterL (strL key) noVal (getA ta).1), ld) else none) := Lib.hid (by
            unfold rdPairC
            rw [HA.out, Option.bind_some]
            dsimp only
            rw [Int.toNat_natCast, HB.out, Option.bind_some]
            dsimp only
            rw [HC.out, Option.bind_some]
            dsimp only
            rw [Int.toNat_natCast, HDD.out, Option.bind_some]
            rfl)
          clear HA HB HC HDD hza hzc
          generalize getA ta = gta at *
          obtain ⟨⟨ak, ax, an2, az⟩, code⟩ := gta
          try dsimp only at HOG HGC HGB HRP
          have hkz : (strL key).size ≤ 140737488351232 := by rw [strL_size]; omega
          generalize strL key = ks at *
          generalize strL ta = ts at *
          go_wp2_with fail
          refine (HOG.out _).mono ?_
          rintro e X6 ⟨rfl, hb6⟩
          have Q6 := Lib.hid (Q5.out.keep hb6)
          clear hb6 Q5 HOG
          have hgact := AC.new X6 _ rfl [.int .i64 ak, .float .f64 ax, .int .i64 an2, .string az] 64
          have hbact := (Bl.refl X6).alloc (.cells #[.int .i64 ak, .float .f64 ax, .int .i64 an2, .string az] 64)
          obtain ⟨g0, g1, g2, g3⟩ := hgact.act
          rcases HGC.out with hcode | hcode
          case inr =>
            subst hcode
            have HN1 := Lib.hid (HNO.out (by rw [HRP.out, if_neg (by rintro ⟨h, _⟩; exact absurd h (by decide))]))
            clear hgact
            go_wp2_with fail
            refine (arwant_no _).mono ?_
            rintro e X7 ⟨rfl, rfl⟩
            unfold panR
            go_wp2_with fail
            exact ⟨rfl, .inr ⟨HN1.out, rfl, Q6.out.g.bl.trans hbact⟩⟩
          subst hcode
          have HAO := Lib.hid (HGB.out rfl)
          obtain ⟨fk, hfk⟩ : ∃ fk, fitsB ks ⟨ak, ax, an2, az⟩ = fk := ⟨_, rfl⟩
          have HFK := Lib.hid hfk
          clear hfk HGC HGB
          go_wp2_with fail
          have HGA := Lib.hid hgact
          have Q7 := Lib.hid (Q6.out.keep hbact)
          have hrow : ∀ q, (Value.slice pd k pc).ownBlock = some q → q < X6.heap.size := fun q hq => (World.ownsRow.lt Q6.out.o.2 q hq).2
          have HROW := Lib.hid hrow
          clear hgact hbact g0 g1 g2 g3 Q6 hrow
          generalize X6.alloc _ = X7 at *
          generalize X6.heap.size = ga at *
          refine (fits_agg ks ak ax an2 az fk _ HFK hkz HAO).mono ?_
          rintro e X8 ⟨rfl, hb8⟩
          have Q8 := Lib.hid (Q7.out.keep hb8)
          have HGA8 := Lib.hid (HGA.out.keep hb8)
          clear hb8 Q7 HGA
          cases fk
          case false =>
            have HN1 := Lib.hid (HNO.out (by rw [HRP.out, if_neg (by rintro ⟨_, h⟩; rw [HFK.out] at h; exact absurd h (by decide))]))
            go_wp2_with fail
            refine (arwant_no _).mono ?_
            rintro e X9 ⟨rfl, rfl⟩
            unfold panR
            go_wp2_with fail
            exact ⟨rfl, .inr ⟨HN1.out, rfl, Q8.out.g.bl⟩⟩
          go_wp2_with fail
          refine (arwant_yes _).mono ?_
          rintro e X9 ⟨rfl, rfl⟩
          obtain ⟨⟨rb, rx, rn, rs⟩, hV⟩ : ∃ V : ValL, afterL ks noVal ⟨ak, ax, an2, az⟩ = V := ⟨_, rfl⟩
          have HV2 := Lib.hid hV
          have HS : Hid (rdPairsC pn l12 = (rdPairsC jj ld).map fun p => ((acc ++ [(ks, ⟨rb, rx, rn, rs⟩)]) ++ p.1, p.2)) := Lib.hid (by
            rw [HD.out]
            simp only [rdPairsC]
            rw [HRP.out, if_pos ⟨by first | rfl | trivial, HFK.out⟩, Option.bind_some, Option.map_map, hV]
            congr 1
            funext p
            simp)
          clear hV HRP HNO HD
          go_upto_region 14 with fail
          have Q9 := Lib.hid (Q8.out.keep (Bl.refl X8).drew)
          have HGA9 := Lib.hid (HGA8.out.keep (Bl.refl X8).drew)
          clear Q8 HGA8
          refine wp_region_panicsT [0, 1, 2, 3, 4, 5, 6, 7] 4 (HasTwo gx (arcCs n parts va vn vc pd k pc) ga [.int .i64 ak, .float .f64 ax, .int .i64 an2, .string az]) HasTwo.keep ⟨Q9.out.a, HGA9.out⟩ [11] (fun c W' => False) ?hR (by kernel_rfl) rfl (by kernel_rfl) (by kernel_rfl) (by kernel_rfl) ?_
          case hR => intro c tt W' h; exact h.elim
          generalize X8.drew = XD at *
          haveI : Nonempty (ExtC (HasTwo gx (arcCs n parts va vn vc pd k pc) ga [.int .i64 ak, .float .f64 ax, .int .i64 an2, .string az])) := ⟨⟨XD, Q9.out.a, HGA9.out⟩⟩
          have d3 : ∀ q : ExtC (HasTwo gx (arcCs n parts va vn vc pd k pc) ga [.int .i64 ak, .float .f64 ax, .int .i64 an2, .string az]), _ := fun q => (AC.arc q.ok.1).2.2.2
          have a0 : ∀ q : ExtC (HasTwo gx (arcCs n parts va vn vc pd k pc) ga [.int .i64 ak, .float .f64 ax, .int .i64 an2, .string az]), _ := fun q => (AC.act q.ok.2).1
          have a1 : ∀ q : ExtC (HasTwo gx (arcCs n parts va vn vc pd k pc) ga [.int .i64 ak, .float .f64 ax, .int .i64 an2, .string az]), _ := fun q => (AC.act q.ok.2).2.1
          have a2 : ∀ q : ExtC (HasTwo gx (arcCs n parts va vn vc pd k pc) ga [.int .i64 ak, .float .f64 ax, .int .i64 an2, .string az]), _ := fun q => (AC.act q.ok.2).2.2.1
          have a3 : ∀ q : ExtC (HasTwo gx (arcCs n parts va vn vc pd k pc) ga [.int .i64 ak, .float .f64 ax, .int .i64 an2, .string az]), _ := fun q => (AC.act q.ok.2).2.2.2
          have HAF := Lib.hid (fun w => after_agg ks false 0 0 ⟨#[]⟩ ak ax an2 az rb rx rn rs w HV2 hkz (Lib.hid noVal_ok) HAO)
          repeat (refine wpI_step rfl (fun K hK => ?_); go_simp; first | (refine hK _ ?_; clear hK K) | (apply Exists.intro; refine ⟨fun q => ?_, hK _ ?_⟩; (with_reducible exact HAF.out _); clear hK K))
          refine wpI_nil ?_
          clear d3 a0 a1 a2 a3 HAF this
          refine wpAnyP_one (i := 8) (by kernel_rfl) ?_
          intro Y1 hy1
          go_simp
          have hbl := (Bl.refl Y1).alloc (.cells #[.string ks, .bool rb, .float .f64 rx, .int .i64 rn, .string rs] 87)
          have hlit : (Y1.alloc (.cells #[.string ks, .bool rb, .float .f64 rx, .int .i64 rn, .string rs] 87)).heap[Y1.heap.size]? = some (.cells (pairCs (ks, ⟨rb, rx, rn, rs⟩)).toArray 87 (0, 0)) := heap_alloc_new Y1 _
          have Q10 := Lib.hid ((Q9.out.keep hy1).keep hbl)
          have HGA10 := Lib.hid ((HGA9.out.keep hy1).keep hbl)
          have HL := Lib.hid (SG.lit (size := 5) hlit rfl (by simp [pairCs, Value.oneCell']))
          clear hlit hbl hy1 Q9 HGA9
          refine ⟨⟨Q10.out.a, HGA10.out⟩, ?_⟩
          generalize Y1.alloc _ = Y2 at *
          generalize Y1.heap.size = gl at *
          refine wpAnyP_one (i := 9) (by kernel_rfl) ?_
          intro Y3 hy3
          have Q11 := Lib.hid (Q10.out.keep hy3)
          have HGA11 := Lib.hid (HGA10.out.keep hy3)
          have HL2 := Lib.hid (HL.out.keep hy3)
          clear HL Q10 HGA10 hy3
          refine pOp_appG rfl rfl _ _ _ rfl el_pair B (.slice pd k pc) k (cellsP acc) rfl Q11.out.o.2 Q11.out.lt (some ⟨gl, 0, none⟩) 1 1 (pairCs (ks, ⟨rb, rx, rn, rs⟩)) rfl HL2.out (by unfold maxLen; omega) (by omega) ?_
          intro v' Y4 ho hgr
          have Q12 := Lib.hid (Q11.out.app (ks, ⟨rb, rx, rn, rs⟩) ho hgr)
          have HGA12 := Lib.hid (HGA11.out.grown hgr (fun e => absurd (HROW.out _ e.symm) (Nat.lt_irrefl _)))
          clear ho hgr Q11 HL2 HGA11
          obtain ⟨pd', pc', rfl⟩ := Q12.out.o.form
          refine ⟨fun _ => ⟨Q12.out.a, HGA12.out⟩, ?_⟩
          simp only [Act.put, List.setIfInBounds_toArray]
          refine wpAnyP_one (i := 10) (by kernel_rfl) ?_
          intro Y5 hy5
          go_simp
          have Q13 := Lib.hid (Q12.out.keep hy5)
          have HGA13 := Lib.hid (HGA12.out.keep hy5)
          clear hy5 Q12 HGA12
          refine ⟨⟨Q13.out.a, HGA13.out⟩, ?_⟩
          refine wpAnyP_one (i := 11) (by kernel_rfl) ?_
          intro Y6 hy6
          have Q14 := Lib.hid (Q13.out.keep hy6)
          clear hy6 Q13 HGA13
          have f3 := Q14.out.a.frozen 3
          have e3 := Q14.out.a.cell 3 _ rfl
          go_simp
          have Q15 := Lib.hid (Q14.out.store 3 (.slice pd' (k + 1) pc'))
          clear f3 e3 Q14
          generalize World.setCell _ _ (.slice pd' (k + 1) pc') = Y7 at *
          refine wpAnyP_done (by kernel_rfl) ?_
          intro Y8 hy8
          have Q16 : Hid (APG w Y8 ld gx B (arcCs n parts va vn vc pd' (k + 1) pc') va vn xs (.slice pd' (k + 1) pc') (k + 1) (acc ++ [(ks, ⟨rb, rx, rn, rs⟩)])) := Lib.hid (Q15.out.keep hy8)
          clear Q15 hy8
          go_wp2_with fail
          go_roundw
          case rel => exact ⟨k + 1, ld, _, pd', pc', by omega, by go_num, Q16.out, hzd, by rw [show pn - (k + 1) = jj by omega]; exact HS.out⟩
          case measure => simp [intOf]; omega
        · have hkp : k = pn := by omega
          subst hkp
          have HE : Hid (rdPairsC k l12 = some (acc, lk)) := Lib.hid (by
            rw [HD.out, Nat.sub_self]
            simp [rdPairsC])
          have hpo := rdPairsC_ok _ _ _ _ HE.out
          have HOKA : Hid (ArcOk ⟨n, parts, xs, acc⟩) := Lib.hid (fun p hp => by have := hpo.2.1 p hp; exact ⟨by omega, this.2⟩)
          have hk6 : k ≤ 1000000 := by have := hpo.2.2; have := HZ12.out; omega
          have HAR : Hid (rdArc l = if wrC ⟨n, parts, xs, acc⟩ = 0 ∧ wrL ⟨n, parts, xs, acc⟩ = l then some ⟨n, parts, xs, acc⟩ else none) := Lib.hid (rdArc_of (by rw [HL.out]; have := HN.out; omega) (by rw [HL.out]; exact hmx) HBD.out (by rw [HTR.out]; exact HSS'.out) (by rw [HRB.out, HE.out]; rfl))
          have HFP := Lib.hid (Q.out.o.far hk6)
          clear HE hpo HD HRB
          obtain ⟨b0, b1, b2, b3⟩ := AC.arc Q.out.a
          go_wp2_with fail
          clear b0 b1 b2 b3
          refine (arcWrite_any ⟨n, parts, xs, acc⟩ va vn vc pd k pc _ Q.out.x HFP.out.1 HOKA.out).mono ?_
          rintro e Z1 ⟨rfl, hb1⟩
          have Q1 := Lib.hid (Q.out.keep hb1)
          have HFP1 := Lib.hid (HFP.out.keep hb1)
          clear hb1 Q HFP
          generalize wrC ⟨n, parts, xs, acc⟩ = cc at *
          by_cases hcc : cc = 0
          · subst hcc
            by_cases hw : wrL ⟨n, parts, xs, acc⟩ = l
            · have HRA : Hid (rdArc l = some ⟨n, parts, xs, acc⟩) := Lib.hid (by rw [HAR.out, if_pos ⟨rfl, hw⟩])
              rw [hw, HSL.out]
              clear hw
              go_wp2_with fail
              refine (arwant_yes _).mono ?_
              rintro e Z2 ⟨rfl, rfl⟩
              obtain ⟨b0, b1, b2, b3⟩ := AC.arc Q1.out.a
              have fr := Q1.out.g.r.frozen
              obtain ⟨r0, r1, r2, r3⟩ := AC.arc Q1.out.g.r
              go_wp2_with fail
              refine bodyPost_ret (ar_results rfl (Q1.out.g.r.fill (arcCs n parts va vn vc pd k pc) rfl)) rfl (.inl ⟨⟨n, parts, xs, acc⟩, va, vn, vc, pd, k, pc, HRA.out, rfl, ⟨?_, ?_⟩, ?_, ?_⟩)
              · exact IA.fillApart (fun b off e => by have := Q1.out.ap b off e; have := Q1.out.ge; omega) (arcCs n parts va vn vc pd k pc) _ 0 Q1.out.x
              · exact fun b off e => by have := Q1.out.ap b off e; have := Q1.out.ge; omega
              · exact (FarPA.fillA (q := w.heap.size) (by have := Q1.out.ge; have := Q1.out.gb; omega) (arcCs n parts va vn vc pd k pc) _ 0 HFP1.out).mono (by have := Q1.out.ge; have := Q1.out.gb; omega)
              · exact Bl.fill (Nat.le_refl _) (arcCs n parts va vn vc pd k pc) _ 0 Q1.out.g.bl
            · have HRA : Hid (rdArc l = none) := Lib.hid (by rw [HAR.out, if_neg (fun q => hw q.2)])
              have qw : ((strL (wrL ⟨n, parts, xs, acc⟩)).toList == sl.toList) = false := by rw [← HSL.out, SB.beq (strL_SB _) (strL_SB _)]; exact decide_eq_false hw
              clear hw
              generalize strL (wrL ⟨n, parts, xs, acc⟩) = sw at *
              go_wp2_with fail
              refine (arwant_no _).mono ?_
              rintro e Z2 ⟨rfl, rfl⟩
              unfold panR
              go_wp2_with fail
              exact ⟨rfl, .inr ⟨HRA.out, rfl, Q1.out.g.bl⟩⟩
          · have HRA : Hid (rdArc l = none) := Lib.hid (by rw [HAR.out, if_neg (fun q => hcc q.1)])
            have qc : (cc == 0) = false := by rw [beq_eq_false_iff_ne]; exact hcc
            clear hcc
            go_wp2_with fail
            refine (arwant_no _).mono ?_
            rintro e Z2 ⟨rfl, rfl⟩
            unfold panR
            go_wp2_with fail
            exact ⟨rfl, .inr ⟨HRA.out, rfl, Q1.out.g.bl⟩⟩
    · have HNB : Hid (rdArc l = none) := Lib.hid (rdArc_none HBD.out (by
        unfold rdBody rdFront
        rw [HT8.out, Option.bind_some]
        dsimp only
        rw [if_neg hbg]
        rfl))
      have qb : ((strL (body.take 8)).toList == [66, 69, 68, 82, 79, 67, 75, 49]) = false := by
        rw [ByteArray.toList_eq]
        show (body.take 8 == beginL) = false
        rw [beq_eq_false_iff_ne]; exact hbg
      clear hbg
      generalize strL (body.take 8) = s8 at *
      refine wpAnyP_one (i := 15) (by kernel_rfl) ?_
      intro W10 hb10
      go_simp
      refine wpAnyP_one (i := 16) (by kernel_rfl) ?_
      intro W11 hb11
      go_simp
      refine wpAnyP_one (i := 17) (by kernel_rfl) ?_
      intro W12 hb12
      go_simp
      refine (arwant_no _).mono ?_
      rintro e W13 ⟨rfl, rfl⟩
      exact .inr ⟨_, rfl, rfl, HNB.out, G9.out.bl.trans (hb10.trans (hb11.trans hb12))⟩
  · have HRN : Hid (rdArc l = none) := Lib.hid (rdArc_sum (by rw [HBD.out, HTR.out]; exact hs))
    have qe : ((strL (numB (sumL body : Int) 4)).toList == (strL tr).toList) = false := by rw [SB.beq (strL_SB _) (strL_SB _)]; exact decide_eq_false hs
    clear hs
    generalize strL (numB (sumL body : Int) 4) = qx at *
    generalize strL tr = qt at *
    generalize hsb : strL body = sb at *
    generalize sumL body = sm at *
    refine wp_region_panicsT [0, 1, 2, 3, 4, 5, 6, 7, 8, 9, 10, 11, 12, 13, 14, 15, 16] 1 (HasBox (w.heap.size + 1) [.string sb]) HasBox.keep (by rw [← hsb]; exact hbD.c) [] (fun c W' => c = [{ v := .iface 26 (.int .i64 70), recovered := false }] ∧ Bl w W') ?hR (by kernel_rfl) rfl (by kernel_rfl) (by kernel_rfl) (by kernel_rfl) ?_
    case hR =>
      rintro c tt W' ⟨rfl, hb⟩
      go_simp
      go_wp2_with fail
      exact ⟨rfl, .inr ⟨HRN.out, rfl, hb⟩⟩
    generalize W.drew = WD at *
    haveI : Nonempty (ExtC (HasBox (w.heap.size + 1) [.string sb])) := ⟨⟨WD, by rw [← hsb]; exact hbD.c⟩⟩
    have d7 : ∀ q : ExtC (HasBox (w.heap.size + 1) [.string sb]), _ := fun q => AC.cell q.ok 0 _ rfl
    repeat (refine wpI_step rfl (fun K hK => ?_); go_simp; first | (refine hK _ ?_; clear hK K) | (apply Exists.intro; refine ⟨fun q => ?_, hK _ ?_⟩; (first | with_reducible exact HSB.out _ | with_reducible exact HN4.out _); clear hK K))
    refine wpI_nil ?_
    clear d7 this
    refine wpAnyP_one (i := 17) (by kernel_rfl) ?_
    intro W8 hb8
    go_simp
    refine (arwant_no _).mono ?_
    rintro e W9 ⟨rfl, rfl⟩
    exact .inr ⟨_, rfl, rfl, hbD.bl.trans hb8⟩
end Go.Proofs.Ytechiehbigmjbaa
