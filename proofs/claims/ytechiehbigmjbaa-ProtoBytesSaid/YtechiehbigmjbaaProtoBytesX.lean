/- the walk of ProtoBytes (printed by wip/gen/bytes.py). By an AI agent. -/
import Derived.Test.YtechiehbigmjbaaReply7
import Derived.Test.YtechiehbigmjbaaReply4
import Derived.Test.YtechiehbigmjbaaProt9
set_option linter.unusedVariables false
set_option linter.unusedSimpArgs false
namespace Go.Proofs.Ytechiehbigmjbaa
open Go.RowKit

theorem putAsk_back {l : List UInt8} {a : AskL} (h : rdAsk l = some a) {ad : Option Addr} {n ca : Nat} (w : World) (hx : IA w ad n a.at_) :
    Calls Try.prog 35 #[askV a.kind a.ses a.tx a.id a.num ad n ca a.key a.text a.act.k a.act.x a.act.n a.act.s] w fun e w' => e = .returned (.tuple #[.string (strL l), .int .i64 0]) ∧ Bl w w' := by
  obtain ⟨h1, h2, h3⟩ := rdAsk_back h
  have V := validA_parts h2
  have := putAsk_any a ad n ca w ⟨hx, by have := V.key; omega, by have := V.text; omega, h3⟩
  rw [show putAskS a = l by unfold putAskS; rw [h2, if_pos rfl, h1], show putAskC a = 0 by unfold putAskC; rw [h2]; rfl] at this
  exact this
theorem validAsk_back {l : List UInt8} {a : AskL} (h : rdAsk l = some a) {ad : Option Addr} {n ca : Nat} (w : World) (hx : IA w ad n a.at_) :
    Calls Try.prog 36 #[askV a.kind a.ses a.tx a.id a.num ad n ca a.key a.text a.act.k a.act.x a.act.n a.act.s] w fun e w' => e = .returned (.bool true) ∧ Bl w w' := by
  obtain ⟨h1, h2, h3⟩ := rdAsk_back h
  have V := validA_parts h2
  have := pvalid_any a ad n ca w ⟨hx, by have := V.key; omega, by have := V.text; omega, h3⟩
  rw [h2] at this
  exact this
theorem putReply_back {l : List UInt8} {r : ReplyL} (h : rdReply l = some r) (hz : l.length ≤ 9000) {ad : Option Addr} {n ca : Nat} {pd : Option Addr} {pn pc : Nat} (w : World) (hx : IA w ad n r.at_) (hp : PA w pd pn r.pairs) :
    Calls Try.prog 51 #[repV r.code r.num ad n ca r.val.there r.val.x r.val.n r.val.s pd pn pc r.text] w fun e w' => e = .returned (.tuple #[.string (strL l), .int .i64 0]) ∧ Bl w w' := by
  obtain ⟨h1, h2⟩ := rdReply_back h
  have := putReply_any r ad n ca pd pn pc w ⟨hx, hp⟩ h2 (by omega) (by rw [h1]; omega)
  rw [h1] at this
  exact this

set_option maxHeartbeats 6400000 in
set_option maxRecDepth 100000 in
theorem protoBytes_any (l : List UInt8) (w : World) (hl : l.length ≤ 140737488351232) :
    Calls Try.prog 11 #[.string (strL l)] w fun e w' => e = .returned (.bool true) ∧ Bl w w' := by
  have hsf := store_float
  have z := strL_size l
  by_cases h9 : 9000 < l.length
  · generalize strL l = s at *
    have q1 : decide ((9000 : Int) < (l.length : Int)) = true := decide_eq_true (by omega)
    have q2 : decide (9000 < l.length) = true := decide_eq_true h9
    go_enter Try.func11, Try.ntmps11
    go_wp2_with fail
    refine (alive25_any _).mono ?_
    rintro e w2 ⟨rfl, hb2⟩
    go_wp2_with fail
    go_ret
    exact ⟨rfl, hb2⟩
  · have HA := Lib.hid (fun w => getAsk_any l w (by omega))
    have HR := Lib.hid (fun w => getReply_any l w (by omega))
    have HB1 := Lib.hid (fun (a : AskL) (h : rdAsk l = some a) (ad : Option Addr) (n ca : Nat) (w : World) (hx : IA w ad n a.at_) => putAsk_back h (ca := ca) w hx)
    have HB2 := Lib.hid (fun (r : ReplyL) (h : rdReply l = some r) (ad : Option Addr) (n ca : Nat) (pd : Option Addr) (pn pc : Nat) (w : World) (hx : IA w ad n r.at_) (hp : PA w pd pn r.pairs) => putReply_back h (by omega) (ca := ca) (pc := pc) w hx hp)
    have q1 : decide ((9000 : Int) < (l.length : Int)) = false := decide_eq_false (by omega)
    have q2 : decide (9000 < l.length) = false := decide_eq_false h9
    clear hl h9
    generalize hsl : strL l = s at *
    clear hsl
    go_enter Try.func11, Try.ntmps11
    go_wp2_with fail
    refine (HA.out _).mono ?_
    rintro e w1 (⟨⟨k, ss, st, si, m, xs, key, text, ⟨ak, ax, an, az⟩⟩, ad, n, ca, hr, rfl, hF, hb1⟩ | ⟨hr, rfl, hb1⟩)
    · unfold askV
      dsimp only at *
      have H1 := Lib.hid (HB1.out _ hr ad n ca)
      have HV := Lib.hid (fun w hx => validAsk_back hr (ad := ad) (n := n) (ca := ca) w hx)
      have hba := (Bl.refl w1).alloc (.cells (askCs k ss st si m ad n ca key text ak ax an az).toArray 66)
      have hgA := AC.new w1 _ rfl (askCs k ss st si m ad n ca key text ak ax an az) 66
      obtain ⟨c0, c1, c2, c3, c4, c5, c6, c7, c8, c9, c10, c11⟩ := hgA.ask
      have HX := Lib.hid (hF.1.keep hba)
      have HBA := Lib.hid (hb1.trans hba)
      have HGA := Lib.hid hgA
      unfold askCs at HX HBA HGA c0 c1 c2 c3 c4 c5 c6 c7 c8 c9 c10 c11
      clear hba hgA hF hr hb1
      go_wp2_with fail
      refine (H1.out _ HX.out).mono ?_
      rintro e w2 ⟨rfl, hb2⟩
      clear c0 c1 c2 c3 c4 c5 c6 c7 c8 c9 c10 c11
      obtain ⟨c0, c1, c2, c3, c4, c5, c6, c7, c8, c9, c10, c11⟩ := AC.ask (HGA.out.keep hb2)
      go_wp2_with fail
      refine (HV.out _ (HX.out.keep hb2)).mono ?_
      rintro e w3 ⟨rfl, hb3⟩
      have HB := Lib.hid (HBA.out.trans (hb2.trans hb3))
      clear c0 c1 c2 c3 c4 c5 c6 c7 c8 c9 c10 c11 HBA HGA HX H1 HV hb2 hb3
      go_wp2_with fail
      refine (HR.out _).mono ?_
      rintro e w5 (⟨⟨code, num, ys, ⟨vt, vx, vm, vs⟩, ps, txt⟩, ad', n', ca', pd, pn, pc, hr, rfl, hF, hP, hb5⟩ | ⟨hr, rfl, hb5⟩)
      · unfold repV
        dsimp only at *
        have H2 := Lib.hid (HB2.out _ hr ad' n' ca' pd pn pc)
        have hba := (Bl.refl w5).alloc (.cells (repCs code num ad' n' ca' vt vx vm vs pd pn pc txt).toArray 94)
        have hgR := AC.new w5 _ rfl (repCs code num ad' n' ca' vt vx vm vs pd pn pc txt) 94
        obtain ⟨d0, d1, d2, d3, d4, d5, d6, d7, d8⟩ := hgR.rep
        have hX := hF.1.keep hba
        have hPP := hP.1.keep hba
        unfold repCs at hba d0 d1 d2 d3 d4 d5 d6 d7 d8 hX hPP
        have HX := Lib.hid hX
        have HP := Lib.hid hPP
        have HBA := Lib.hid (HB.out.trans (hb5.trans hba))
        clear hba hgR hX hPP hF hP hr hb5
        go_wp2_with fail
        refine (H2.out _ HX.out HP.out).mono ?_
        rintro e w6 ⟨rfl, hb6⟩
        clear d0 d1 d2 d3 d4 d5 d6 d7 d8
        go_wp2_with fail
        refine (alive25_any _).mono ?_
        rintro e w7 ⟨rfl, hb7⟩
        go_wp2_with fail
        go_ret
        exact ⟨ret_bool (by simp), HBA.out.trans (hb6.trans hb7)⟩
      · unfold repV
        have hba := (Bl.refl w5).alloc (.cells zeroRepCs.toArray 94)
        have hgR := AC.new w5 _ rfl zeroRepCs 94
        have HBA := Lib.hid (HB.out.trans (hb5.trans hba))
        have HGR := Lib.hid hgR
        unfold zeroRepCs repCs at HGR HBA
        clear hba hgR hr hb5
        go_wp2_with fail
        refine (alive25_any _).mono ?_
        rintro e w7 ⟨rfl, hb7⟩
        obtain ⟨d0, d1, d2, d3, d4, d5, d6, d7, d8⟩ := (HGR.out.keep hb7).rep
        go_wp2_with fail
        go_ret
        exact ⟨ret_bool (by simp), HBA.out.trans hb7⟩
    · unfold askV
      have hba := (Bl.refl w1).alloc (.cells zeroAskCs.toArray 66)
      have hgA := AC.new w1 _ rfl zeroAskCs 66
      obtain ⟨c0, c1, c2, c3, c4, c5, c6, c7, c8, c9, c10, c11⟩ := hgA.ask
      have HB := Lib.hid (hb1.trans hba)
      unfold zeroAskCs askCs at HB c0 c1 c2 c3 c4 c5 c6 c7 c8 c9 c10 c11
      clear hba hgA hr hb1
      go_wp2_with fail
      clear c0 c1 c2 c3 c4 c5 c6 c7 c8 c9 c10 c11
      refine (HR.out _).mono ?_
      rintro e w5 (⟨⟨code, num, ys, ⟨vt, vx, vm, vs⟩, ps, txt⟩, ad', n', ca', pd, pn, pc, hr, rfl, hF, hP, hb5⟩ | ⟨hr, rfl, hb5⟩)
      · unfold repV
        dsimp only at *
        have H2 := Lib.hid (HB2.out _ hr ad' n' ca' pd pn pc)
        have hba := (Bl.refl w5).alloc (.cells (repCs code num ad' n' ca' vt vx vm vs pd pn pc txt).toArray 94)
        have hgR := AC.new w5 _ rfl (repCs code num ad' n' ca' vt vx vm vs pd pn pc txt) 94
        obtain ⟨d0, d1, d2, d3, d4, d5, d6, d7, d8⟩ := hgR.rep
        have hX := hF.1.keep hba
        have hPP := hP.1.keep hba
        unfold repCs at hba d0 d1 d2 d3 d4 d5 d6 d7 d8 hX hPP
        have HX := Lib.hid hX
        have HP := Lib.hid hPP
        have HBA := Lib.hid (HB.out.trans (hb5.trans hba))
        clear hba hgR hX hPP hF hP hr hb5
        go_wp2_with fail
        refine (H2.out _ HX.out HP.out).mono ?_
        rintro e w6 ⟨rfl, hb6⟩
        clear d0 d1 d2 d3 d4 d5 d6 d7 d8
        go_wp2_with fail
        refine (alive25_any _).mono ?_
        rintro e w7 ⟨rfl, hb7⟩
        go_wp2_with fail
        go_ret
        exact ⟨ret_bool (by simp), HBA.out.trans (hb6.trans hb7)⟩
      · unfold repV
        have hba := (Bl.refl w5).alloc (.cells zeroRepCs.toArray 94)
        have hgR := AC.new w5 _ rfl zeroRepCs 94
        have HBA := Lib.hid (HB.out.trans (hb5.trans hba))
        have HGR := Lib.hid hgR
        unfold zeroRepCs repCs at HGR HBA
        clear hba hgR hr hb5
        go_wp2_with fail
        refine (alive25_any _).mono ?_
        rintro e w7 ⟨rfl, hb7⟩
        obtain ⟨d0, d1, d2, d3, d4, d5, d6, d7, d8⟩ := (HGR.out.keep hb7).rep
        go_wp2_with fail
        go_ret
        exact ⟨ret_bool (by simp), HBA.out.trans hb7⟩
theorem protoBytes_walk (s : ByteArray) (w : World) (hs : s.size ≤ 140737488351232) :
    Calls Try.prog 11 #[.string s] w fun e w' => e = .returned (.bool true) ∧ Bl w w' := by
  have := protoBytes_any s.data.toList w (by rw [show s.data.toList.length = s.size by simp]; exact hs)
  exact this
end Go.Proofs.Ytechiehbigmjbaa
