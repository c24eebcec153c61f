import Derived.Test.YtibabgokmacnaaaGreatQProtoAsksUptoP31
import Derived.Test.YtibabgokmacnaaaGreatQProtoAsksUptoP16
import Derived.Test.YtibabgokmacnaaaGreatQProtoAsksUptoP22
import Derived.Test.YtibabgokmacnaaaGreatQProtoAsksUptoP23
import Derived.Test.YtibabgokmacnaaaGreatQProtoAsksUptoP30
import Derived.Test.YtibabgokmacnaaaGreatQProtoAsksUptoP27

/- an argument of type api.Ask opened. By an AI agent. -/
section
namespace Go.Proofs.YtibabgokmacnaaaGreat
open Go.ChangeShapes Go.WideShapes Go.ChangeAt Go.RowKit Go.Deep

section
variable {H : Type} {enc : TypeId × Value → H}
theorem cells_ask : Tryz.prog.cellsOf 78 = 12 := by kernel_rfl
/-- the numbers of a request are ints -/
structure NumOk (A : AskL) : Prop where
  ses : -9223372036854775808 ≤ A.ses ∧ A.ses ≤ 9223372036854775807
  tx : -9223372036854775808 ≤ A.tx ∧ A.tx ≤ 9223372036854775807
  id : -9223372036854775808 ≤ A.id ∧ A.id ≤ 9223372036854775807
  num : -9223372036854775808 ≤ A.num ∧ A.num ≤ 9223372036854775807
set_option maxRecDepth 100000 in
theorem rd_askN {W : World} {cs : List Value} {d : DataW H} (h : Rd (enc := enc) W 78 cs d) (hw : Wt 78 d) :
    ∃ (ad : Option Addr) (n ca : Nat) (A : AskL), cs = askCs A.kind A.ses A.tx A.id A.num ad n ca A.key A.text A.act.k A.act.x A.act.n A.act.s ∧ AskOk W A ad n ∧ NumOk A := by
  obtain ⟨hl, hf⟩ := rd_struct Tryz.underlying78 h hw
  rw [cells_ask] at hl
  match cs, hl with
  | [c0, c1, c2, c3, c4, c5, c6, c7, c8, c9, c10, c11], _ =>
    obtain ⟨y0, r0, w0⟩ := hf 0 ⟨_, 3, 0, _, _, _, _⟩ rfl
    obtain ⟨y1, r1, w1⟩ := hf 1 ⟨_, 3, 1, _, _, _, _⟩ rfl
    obtain ⟨y2, r2, w2⟩ := hf 2 ⟨_, 3, 2, _, _, _, _⟩ rfl
    obtain ⟨y3, r3, w3⟩ := hf 3 ⟨_, 3, 3, _, _, _, _⟩ rfl
    obtain ⟨y4, r4, w4⟩ := hf 4 ⟨_, 3, 4, _, _, _, _⟩ rfl
    obtain ⟨y5, r5, w5⟩ := hf 5 ⟨_, 23, 5, _, _, _, _⟩ rfl
    obtain ⟨y6, r6, w6⟩ := hf 6 ⟨_, 9, 6, _, _, _, _⟩ rfl
    obtain ⟨y7, r7, w7⟩ := hf 7 ⟨_, 9, 7, _, _, _, _⟩ rfl
    obtain ⟨y8, r8, w8⟩ := hf 8 ⟨_, 76, 8, _, _, _, _⟩ rfl
    simp only [cells_int, cells_str, cells_vec, cells_act, List.drop_zero, List.drop_succ_cons, List.take_succ_cons, List.take_zero] at r0 r1 r2 r3 r4 r5 r6 r7 r8
    obtain ⟨k, e0, b0⟩ := rd_int Tryz.underlying3 r0
    obtain ⟨s, e1, b1⟩ := rd_int Tryz.underlying3 r1
    obtain ⟨t, e2, b2⟩ := rd_int Tryz.underlying3 r2
    obtain ⟨i, e3, b3⟩ := rd_int Tryz.underlying3 r3
    obtain ⟨m, e4, b4⟩ := rd_int Tryz.underlying3 r4
    obtain ⟨a, n, c, xs, e5, hI⟩ := rd_vec r5 w5
    obtain ⟨key, e6, b6⟩ := rd_string Tryz.underlying9 r6 w6
    obtain ⟨text, e7, b7⟩ := rd_string Tryz.underlying9 r7 w7
    obtain ⟨A, e8, hA⟩ := rd_act r8 w8
    simp only [List.cons.injEq, and_true] at e0 e1 e2 e3 e4 e5 e6 e7 e8
    obtain ⟨e8, e9, e10, e11⟩ := e8
    subst e0; subst e1; subst e2; subst e3; subst e4; subst e5; subst e6; subst e7; subst e8; subst e9; subst e10; subst e11
    exact ⟨a, n, c, ⟨k, s, t, i, m, xs, key, text, A⟩, rfl, ⟨hI, b6, b7, hA⟩, ⟨b1, b2, b3, b4⟩⟩
set_option maxRecDepth 100000 in
theorem open_askN {W : World} {base : Nat} {v : Value} {d : DataW H} {p : List MemPlace} (hval : Value.okWide Tryz.prog W .any base 78 v) (h : DataW.Trod enc Tryz.prog W 0 (fun _ => true) true 78 v d p)
    (hw : Wt 78 d) : ∃ (ad : Option Addr) (n ca : Nat) (A : AskL), v = askV A.kind A.ses A.tx A.id A.num ad n ca A.key A.text A.act.k A.act.x A.act.n A.act.s ∧ AskOk W A ad n ∧ NumOk A := by
  obtain ⟨cs, rfl, hsz⟩ := okWide_struct Tryz.underlying78 hval
  obtain ⟨ad, n, ca, A, hV, hok⟩ := rd_askN (rd_of_trod h) hw
  refine ⟨ad, n, ca, A, ?_, hok⟩
  have e2 : cs = (askCs A.kind A.ses A.tx A.id A.num ad n ca A.key A.text A.act.k A.act.x A.act.n A.act.s).toArray := by
    apply Array.toList_inj.1
    simpa [Value.cells] using hV
  rw [e2]
  rfl
set_option maxRecDepth 100000 in
theorem open_ask {W : World} {base : Nat} {v : Value} {d : DataW H} {p : List MemPlace} (hval : Value.okWide Tryz.prog W .any base 78 v) (h : DataW.Trod enc Tryz.prog W 0 (fun _ => true) true 78 v d p)
    (hw : Wt 78 d) : ∃ (ad : Option Addr) (n ca : Nat) (A : AskL), v = askV A.kind A.ses A.tx A.id A.num ad n ca A.key A.text A.act.k A.act.x A.act.n A.act.s ∧ AskOk W A ad n := by
  obtain ⟨ad, n, ca, A, h1, h2, -⟩ := open_askN hval h hw
  exact ⟨ad, n, ca, A, h1, h2⟩
end
end Go.Proofs.YtibabgokmacnaaaGreat
end

/- the walk of ProtoAsks (printed by wip/gen/protoasks.py). By an AI agent. -/
section
set_option linter.unusedVariables false
set_option linter.unusedSimpArgs false
namespace Go.Proofs.YtibabgokmacnaaaGreat
open Go.RowKit Go.Shelf

/-- where a box that lay there before is written on, a lent vector stays -/
theorem LV.set {B : Nat} {W : World} {g n c : Nat} {xs : List Int} (h : LV B W g n c xs) {q : Nat} (hq : q < B) (j : Nat) (u : Value) : LV B (W.setCell ⟨q, j, none⟩ u) g n c xs := by
  refine ⟨?_, h.len, h.cap, h.wf⟩
  have ho := h.own
  unfold OI at ho ⊢
  obtain ⟨h1, h2 | ⟨g, cap, cur, hv, hB, hg, r⟩⟩ := ho
  · exact ⟨h1, .inl h2⟩
  · exact ⟨h1, .inr ⟨g, cap, cur, hv, hB, by rw [Below.heap_setCell _ _ _ _ (by show g ≠ q; omega)]; exact hg, r⟩⟩
theorem putAsk_hid2 (k1 s1 t1 i1 m1 : Int) (ad1 : Option Addr) (n1 ca1 : Nat) (xs1 : List Int) (key1 text1 : ByteArray) (ak1 : Int) (ax1 : Nat) (an1 : Int) (az1 : ByteArray) (p : ByteArray) (c : Int) (w : World) (ok : AskOk w ⟨k1, s1, t1, i1, m1, xs1, key1, text1, ⟨ak1, ax1, an1, az1⟩⟩ ad1 n1) (h : Hid (p = strL (putAskS ⟨k1, s1, t1, i1, m1, xs1, key1, text1, ⟨ak1, ax1, an1, az1⟩⟩) ∧ putAskC ⟨k1, s1, t1, i1, m1, xs1, key1, text1, ⟨ak1, ax1, an1, az1⟩⟩ = c)) :
    Calls Tryz.prog 50 #[.agg #[.int .i64 k1, .int .i64 s1, .int .i64 t1, .int .i64 i1, .int .i64 m1, .slice ad1 n1 ca1, .string key1, .string text1, .int .i64 ak1, .float .f64 ax1, .int .i64 an1, .string az1]] w fun e w' => e = .returned (.tuple #[.string p, .int .i64 c]) ∧ Bl w w' := by
  obtain ⟨rfl, rfl⟩ := h.out
  exact putAsk_any ⟨k1, s1, t1, i1, m1, xs1, key1, text1, ⟨ak1, ax1, an1, az1⟩⟩ ad1 n1 ca1 w ok
theorem pvalid_hidA (k1 s1 t1 i1 m1 : Int) (ad1 : Option Addr) (n1 ca1 : Nat) (xs1 : List Int) (key1 text1 : ByteArray) (ak1 : Int) (ax1 : Nat) (an1 : Int) (az1 : ByteArray) (r : Bool) (w : World) (ok : AskOk w ⟨k1, s1, t1, i1, m1, xs1, key1, text1, ⟨ak1, ax1, an1, az1⟩⟩ ad1 n1) (h : Hid (validA ⟨k1, s1, t1, i1, m1, xs1, key1, text1, ⟨ak1, ax1, an1, az1⟩⟩ = r)) :
    Calls Tryz.prog 51 #[.agg #[.int .i64 k1, .int .i64 s1, .int .i64 t1, .int .i64 i1, .int .i64 m1, .slice ad1 n1 ca1, .string key1, .string text1, .int .i64 ak1, .float .f64 ax1, .int .i64 an1, .string az1]] w fun e w' => e = .returned (.bool r) ∧ Bl w w' := by
  rw [← h.out]
  exact pvalid_any ⟨k1, s1, t1, i1, m1, xs1, key1, text1, ⟨ak1, ax1, an1, az1⟩⟩ ad1 n1 ca1 w ok
theorem rvalid_hid (k1 s1 t1 i1 m1 : Int) (ad1 : Option Addr) (n1 ca1 : Nat) (xs1 : List Int) (key1 text1 : ByteArray) (ak1 : Int) (ax1 : Nat) (an1 : Int) (az1 : ByteArray) (r : Bool) (w : World) (N : NumOk ⟨k1, s1, t1, i1, m1, xs1, key1, text1, ⟨ak1, ax1, an1, az1⟩⟩) (ok : AskOk w ⟨k1, s1, t1, i1, m1, xs1, key1, text1, ⟨ak1, ax1, an1, az1⟩⟩ ad1 n1) (h : Hid (validA ⟨k1, s1, t1, i1, m1, xs1, key1, text1, ⟨ak1, ax1, an1, az1⟩⟩ = r)) :
    Calls Tryz.prog 52 #[.agg #[.int .i64 k1, .int .i64 s1, .int .i64 t1, .int .i64 i1, .int .i64 m1, .slice ad1 n1 ca1, .string key1, .string text1, .int .i64 ak1, .float .f64 ax1, .int .i64 an1, .string az1]] w fun e w' => e = .returned (.bool r) ∧ Bl w w' := by
  rw [← h.out]
  exact rvalidA_any k1 s1 t1 i1 m1 ad1 n1 ca1 xs1 key1 text1 ak1 ax1 an1 az1 w N.ses N.tx N.id N.num ok
set_option maxHeartbeats 6400000 in
set_option maxRecDepth 100000 in
theorem protoAsks_gen (k1 s1 t1 i1 m1 : Int) (ad1 : Option Addr) (n1 ca1 : Nat) (xs1 : List Int) (key1 text1 : ByteArray) (ak1 : Int) (ax1 : Nat) (an1 : Int) (az1 : ByteArray) (k2 s2 t2 i2 m2 : Int) (ad2 : Option Addr) (n2 ca2 : Nat) (xs2 : List Int) (key2 text2 : ByteArray) (ak2 : Int) (ax2 : Nat) (an2 : Int) (az2 : ByteArray) (w : World) (N1 : NumOk ⟨k1, s1, t1, i1, m1, xs1, key1, text1, ⟨ak1, ax1, an1, az1⟩⟩) (ok1 : AskOk w ⟨k1, s1, t1, i1, m1, xs1, key1, text1, ⟨ak1, ax1, an1, az1⟩⟩ ad1 n1) (ok2 : AskOk w ⟨k2, s2, t2, i2, m2, xs2, key2, text2, ⟨ak2, ax2, an2, az2⟩⟩ ad2 n2) :
    Calls Tryz.prog 5 #[.agg #[.int .i64 k1, .int .i64 s1, .int .i64 t1, .int .i64 i1, .int .i64 m1, .slice ad1 n1 ca1, .string key1, .string text1, .int .i64 ak1, .float .f64 ax1, .int .i64 an1, .string az1], .agg #[.int .i64 k2, .int .i64 s2, .int .i64 t2, .int .i64 i2, .int .i64 m2, .slice ad2 n2 ca2, .string key2, .string text2, .int .i64 ak2, .float .f64 ax2, .int .i64 an2, .string az2]] w fun e w' => e = .returned (.bool true) ∧ Bl w w' := by
  have hsf := store_float
  have G := AB.new w 78 78 (askCs k1 s1 t1 i1 m1 ad1 n1 ca1 key1 text1 ak1 ax1 an1 az1) (askCs k2 s2 t2 i2 m2 ad2 n2 ca2 key2 text2 ak2 ax2 an2 az2)
  unfold askCs at G
  obtain ⟨c0, c1, c2, c3, c4, c5, c6, c7, c8, c9, c10, c11⟩ := AC.ask (k := k1) (s := s1) (t := t1) (i := i1) (m := m1) (ad := ad1) (n := n1) (ca := ca1) (key := key1) (text := text1) (ak := ak1) (ax := ax1) (an := an1) (az := az1) G.a
  obtain ⟨d0, d1, d2, d3, d4, d5, d6, d7, d8, d9, d10, d11⟩ := AC.ask (k := k2) (s := s2) (t := t2) (i := i2) (m := m2) (ad := ad2) (n := n2) (ca := ca2) (key := key2) (text := text2) (ak := ak2) (ax := ax2) (an := an2) (az := az2) G.b
  have hk1 := ok1.key
  have ht1 := ok1.text
  have hz1 : az1.size ≤ 140737488351232 := ok1.act.s
  have hk2 := ok2.key
  have ht2 := ok2.text
  have hz2 : az2.size ≤ 140737488351232 := ok2.act.s
  have OK1 := Lib.hid ok1
  have OK2 := Lib.hid ok2
  have HN1 := Lib.hid N1
  clear ok1 ok2 N1
  dsimp only at hk1 ht1 hk2 ht2
  have GH := Lib.hid G
  clear G
  go_enter Tryz.func5, Tryz.ntmps5
  go_wp2_with fail
  generalize (w.alloc _).alloc _ = W at *
  refine (light25_any k1 s1 t1 i1 m1 ad1 n1 ca1 xs1 key1 text1 ak1 ax1 an1 az1 _ hk1 ht1 hz1).mono ?_
  rintro e W1 ⟨rfl, hb⟩
  replace GH := Lib.hid (GH.out.keep hb)
  clear hb c0 c1 c2 c3 c4 c5 c6 c7 c8 c9 c10 c11 d0 d1 d2 d3 d4 d5 d6 d7 d8 d9 d10 d11
  obtain ⟨c0, c1, c2, c3, c4, c5, c6, c7, c8, c9, c10, c11⟩ := AC.ask (k := k1) (s := s1) (t := t1) (i := i1) (m := m1) (ad := ad1) (n := n1) (ca := ca1) (key := key1) (text := text1) (ak := ak1) (ax := ax1) (an := an1) (az := az1) GH.out.a
  obtain ⟨d0, d1, d2, d3, d4, d5, d6, d7, d8, d9, d10, d11⟩ := AC.ask (k := k2) (s := s2) (t := t2) (i := i2) (m := m2) (ad := ad2) (n := n2) (ca := ca2) (key := key2) (text := text2) (ak := ak2) (ax := ax2) (an := an2) (az := az2) GH.out.b
  cases hl : lightB n1 key1 text1 az1
  · have HL := Lib.hid hl
    clear hl
    go_wp2_with fail
    refine (alive25_any _).mono ?_
    rintro e w2 ⟨rfl, hb2⟩
    go_wp2_with fail
    go_ret
    exact ⟨rfl, GH.out.bl.trans hb2⟩
  have HL1 := Lib.hid hl
  clear hl
  go_wp2_with fail
  refine (light25_any k2 s2 t2 i2 m2 ad2 n2 ca2 xs2 key2 text2 ak2 ax2 an2 az2 _ hk2 ht2 hz2).mono ?_
  rintro e W1 ⟨rfl, hb⟩
  replace GH := Lib.hid (GH.out.keep hb)
  clear hb c0 c1 c2 c3 c4 c5 c6 c7 c8 c9 c10 c11 d0 d1 d2 d3 d4 d5 d6 d7 d8 d9 d10 d11
  obtain ⟨c0, c1, c2, c3, c4, c5, c6, c7, c8, c9, c10, c11⟩ := AC.ask (k := k1) (s := s1) (t := t1) (i := i1) (m := m1) (ad := ad1) (n := n1) (ca := ca1) (key := key1) (text := text1) (ak := ak1) (ax := ax1) (an := an1) (az := az1) GH.out.a
  obtain ⟨d0, d1, d2, d3, d4, d5, d6, d7, d8, d9, d10, d11⟩ := AC.ask (k := k2) (s := s2) (t := t2) (i := i2) (m := m2) (ad := ad2) (n := n2) (ca := ca2) (key := key2) (text := text2) (ak := ak2) (ax := ax2) (an := an2) (az := az2) GH.out.b
  cases hl : lightB n2 key2 text2 az2
  · have HL := Lib.hid hl
    clear hl
    go_wp2_with fail
    refine (alive25_any _).mono ?_
    rintro e w2 ⟨rfl, hb2⟩
    go_wp2_with fail
    go_ret
    exact ⟨rfl, GH.out.bl.trans hb2⟩
  have HL2 := Lib.hid hl
  clear hl
  go_wp2_with fail
  have HNN := Lib.hid (show n1 ≤ 40 by
    have := HL1.out
    unfold lightB at this
    simp only [Bool.and_eq_true, decide_eq_true_eq] at this
    exact this.2)
  clear HL1 HL2 hk1 ht1 hz1 hk2 ht2 hz2 c0 c1 c2 c3 c4 c5 c6 c7 c8 c9 c10 c11 d0 d1 d2 d3 d4 d5 d6 d7 d8 d9 d10 d11
  have HB0 := Lib.hid (fun T => BP.new (T := fun b => b < W1.heap.size) (Nat.le_refl W1.heap.size) (AC.new W1 _ rfl (bookCs (.slice none 0 0) (.slice none 0 0)) T) (fun b hb => ⟨by simp; omega, by omega⟩))
  have KA := Lib.hid (OK1.out.keep GH.out.bl)
  have KB := Lib.hid (OK2.out.keep GH.out.bl)
  have GA := Lib.hid GH.out.a
  have GB := Lib.hid GH.out.b
  have HW := Lib.hid GH.out.bl
  clear GH OK1 OK2
  generalize w.heap.size + 1 = ga2 at *
  generalize w.heap.size = ga1 at *
  go_loopw [6] (fun kv wr => ∃ k : Nat, k ≤ 2 ∧ kv = .int .i64 k ∧ Bl W1 wr ∧ BP W1.heap.size wr W1.heap.size [] (fun b => b < W1.heap.size)) (fun kv _ => 2 - (intOf kv).toNat)
  case atStart => exact ⟨0, by omega, rfl, (Bl.refl W1).alloc _, HB0.out _⟩
  case round =>
    obtain ⟨k, hk, rfl, hb, hbp⟩ := hrel
    have HBL := Lib.hid hb
    have HBP := Lib.hid hbp
    clear hb hbp HB0
    by_cases hlt : k < 2
    · have ca := GA.out.keep HBL.out
      obtain ⟨c0, c1, c2, c3, c4, c5, c6, c7, c8, c9, c10, c11⟩ := AC.ask (k := k1) (s := s1) (t := t1) (i := i1) (m := m1) (ad := ad1) (n := n1) (ca := ca1) (key := key1) (text := text1) (ak := ak1) (ax := ax1) (an := an1) (az := az1) ca
      have G7 := Lib.hid (AC.new wr _ rfl (askCs k1 s1 t1 i1 m1 ad1 n1 ca1 key1 text1 ak1 ax1 an1 az1) 78)
      have f5 := fun o => ((Bl.refl wr).alloc o).cell c5
      unfold askCs at G7
      go_wp2_with fail
      refine (lentVec_any ad1 n1 ca1 xs1 _ (KA.out.x.keep (HBL.out.trans ((Bl.refl wr).alloc _))) (Nat.le_trans HNN.out (by decide))).mono ?_
      rintro e w2 ⟨gx, cx, rfl, lx, hb2⟩
      have hbW2 : Bl wr (w2.setCell ⟨wr.heap.size, 5, none⟩ (.slice (some ⟨gx, 0, none⟩) n1 cx)) := (((Bl.refl wr).alloc _).trans hb2).setCell (p := ⟨wr.heap.size, 5, none⟩) (Nat.le_refl _) _
      have gx7 : AC (w2.setCell ⟨wr.heap.size, 5, none⟩ (.slice (some ⟨gx, 0, none⟩) n1 cx)) wr.heap.size (askCs k1 s1 t1 i1 m1 (some ⟨gx, 0, none⟩) n1 cx key1 text1 ak1 ax1 an1 az1) := AC.setj (G7.out.keep hb2) 5 _
      have LX := Lib.hid (lx.set (q := wr.heap.size) (by simp) 5 (.slice (some ⟨gx, 0, none⟩) n1 cx))
      clear f5 lx c0 c1 c2 c3 c4 c5 c6 c7 c8 c9 c10 c11
      have fr5 := (G7.out.keep hb2).frozen
      have cc5 := (G7.out.keep hb2).cell 5 _ rfl
      obtain ⟨e0, e1, e2, e3, e4, e5, e6, e7, e8, e9, e10, e11⟩ := AC.ask (k := k1) (s := s1) (t := t1) (i := i1) (m := m1) (ad := some ⟨gx, 0, none⟩) (n := n1) (ca := cx) (key := key1) (text := text1) (ak := ak1) (ax := ax1) (an := an1) (az := az1) gx7
      have H7 := Lib.hid gx7
      have HBP2 := Lib.hid (HBP.out.keep hbW2)
      have HBW := Lib.hid (HBL.out.trans hbW2)
      clear gx7 hbW2 G7 hb2
      go_wp2_with fail
      generalize w2.setCell _ _ = U at *
      have HG7 := Lib.hid (show W1.heap.size ≤ wr.heap.size from HBL.out.size)
      generalize wr.heap.size = g7 at *
      clear HBL HBP
      have KX := Lib.hid (show AskOk U ⟨k1, s1, t1, i1, m1, xs1, key1, text1, ⟨ak1, ax1, an1, az1⟩⟩ (some ⟨gx, 0, none⟩) n1 from ⟨LX.out.ia, KA.out.key, KA.out.text, KA.out.act⟩)
      clear e0 e1 e2 e3 e4 e5 e6 e7 e8 e9 e10 e11 cc5 fr5
      cases hv : validA ⟨k1, s1, t1, i1, m1, xs1, key1, text1, ⟨ak1, ax1, an1, az1⟩⟩
      · have HPC := Lib.hid (And.intro (show (⟨#[]⟩ : ByteArray) = strL (putAskS ⟨k1, s1, t1, i1, m1, xs1, key1, text1, ⟨ak1, ax1, an1, az1⟩⟩) by unfold putAskS; rw [hv]; rfl) (show putAskC ⟨k1, s1, t1, i1, m1, xs1, key1, text1, ⟨ak1, ax1, an1, az1⟩⟩ = 1 by unfold putAskC; rw [hv]; rfl))
        have HV := Lib.hid hv
        clear hv
        refine (putAsk_hid2 k1 s1 t1 i1 m1 (some ⟨gx, 0, none⟩) n1 cx xs1 key1 text1 ak1 ax1 an1 az1 ⟨#[]⟩ 1 _ KX.out HPC).mono ?_
        rintro e w3 ⟨rfl, hb3⟩
        have B3 := Lib.hid (HBW.out.trans hb3)
        have P3 := Lib.hid (HBP2.out.keep hb3)
        have H3 := Lib.hid (H7.out.keep hb3)
        have L3 := Lib.hid (LX.out.keep hb3)
        have K3 := Lib.hid (KX.out.keep hb3)
        have KA3 := Lib.hid (KA.out.keep B3.out)
        have KB3 := Lib.hid (KB.out.keep B3.out)
        have A3 := Lib.hid (GA.out.keep B3.out)
        have C3 := Lib.hid (GB.out.keep B3.out)
        clear hb3 HBW HBP2 H7 LX KX HPC
        go_upto_region 10 with fail
        refine wp_region_allS (by kernel_rfl) (by kernel_rfl) ?_
        have bD : Bl w3 w3.drew := (Bl.refl w3).drew
        have H3d := Lib.hid (H3.out.keep bD)
        have A3d := Lib.hid (A3.out.keep bD)
        have C3d := Lib.hid (C3.out.keep bD)
        have V1 := Lib.hid (fun q : Ext w3.drew => pvalid_hidA k1 s1 t1 i1 m1 (some ⟨gx, 0, none⟩) n1 cx xs1 key1 text1 ak1 ax1 an1 az1 false q.at (K3.out.keep (bD.trans q.bl)) HV)
        have V2 := Lib.hid (fun q : Ext w3.drew => rvalid_hid k1 s1 t1 i1 m1 ad1 n1 ca1 xs1 key1 text1 ak1 ax1 an1 az1 false q.at HN1.out (KA3.out.keep (bD.trans q.bl)) HV)
        obtain ⟨r, hr⟩ : ∃ r, sameAsk ⟨k1, s1, t1, i1, m1, xs1, key1, text1, ⟨ak1, ax1, an1, az1⟩⟩ ⟨k2, s2, t2, i2, m2, xs2, key2, text2, ⟨ak2, ax2, an2, az2⟩⟩ = r := ⟨_, rfl⟩
        have V3 := Lib.hid (fun q : Ext w3.drew => sameAsk_any k1 s1 t1 i1 m1 (some ⟨gx, 0, none⟩) n1 cx xs1 key1 text1 ak1 ax1 an1 az1 k2 s2 t2 i2 m2 ad2 n2 ca2 xs2 key2 text2 ak2 ax2 an2 az2 r q.at (K3.out.x.keep (bD.trans q.bl)) (KB3.out.x.keep (bD.trans q.bl)) (Lib.hid KA3.out.act) (Lib.hid KB3.out.act) (Lib.hid hr))
        have V4 := Lib.hid (fun q : Ext w3.drew => rsameAsk_any k1 s1 t1 i1 m1 ad1 n1 ca1 xs1 key1 text1 ak1 ax1 an1 az1 k2 s2 t2 i2 m2 ad2 n2 ca2 xs2 key2 text2 ak2 ax2 an2 az2 r q.at (KA3.out.x.keep (bD.trans q.bl)) (KB3.out.x.keep (bD.trans q.bl)) (Lib.hid KA3.out.act) (Lib.hid KB3.out.act) (Lib.hid hr))
        have V5 := Lib.hid (fun q : Ext w3.drew => staysVec_any _ gx n1 cx ad1 n1 ca1 xs1 q.at (L3.out.keep (bD.trans q.bl)) (KA3.out.x.keep (bD.trans q.bl)) (Nat.le_trans HNN.out (by decide)))
        clear hr
        have x0 := fun q : Ext w3.drew => (H3d.out.keep q.bl).cell 0 _ rfl
        have y0 := fun q : Ext w3.drew => (A3d.out.keep q.bl).cell 0 _ rfl
        have z0 := fun q : Ext w3.drew => (C3d.out.keep q.bl).cell 0 _ rfl
        have x1 := fun q : Ext w3.drew => (H3d.out.keep q.bl).cell 1 _ rfl
        have y1 := fun q : Ext w3.drew => (A3d.out.keep q.bl).cell 1 _ rfl
        have z1 := fun q : Ext w3.drew => (C3d.out.keep q.bl).cell 1 _ rfl
        have x2 := fun q : Ext w3.drew => (H3d.out.keep q.bl).cell 2 _ rfl
        have y2 := fun q : Ext w3.drew => (A3d.out.keep q.bl).cell 2 _ rfl
        have z2 := fun q : Ext w3.drew => (C3d.out.keep q.bl).cell 2 _ rfl
        have x3 := fun q : Ext w3.drew => (H3d.out.keep q.bl).cell 3 _ rfl
        have y3 := fun q : Ext w3.drew => (A3d.out.keep q.bl).cell 3 _ rfl
        have z3 := fun q : Ext w3.drew => (C3d.out.keep q.bl).cell 3 _ rfl
        have x4 := fun q : Ext w3.drew => (H3d.out.keep q.bl).cell 4 _ rfl
        have y4 := fun q : Ext w3.drew => (A3d.out.keep q.bl).cell 4 _ rfl
        have z4 := fun q : Ext w3.drew => (C3d.out.keep q.bl).cell 4 _ rfl
        have x5 := fun q : Ext w3.drew => (H3d.out.keep q.bl).cell 5 _ rfl
        have y5 := fun q : Ext w3.drew => (A3d.out.keep q.bl).cell 5 _ rfl
        have z5 := fun q : Ext w3.drew => (C3d.out.keep q.bl).cell 5 _ rfl
        have x6 := fun q : Ext w3.drew => (H3d.out.keep q.bl).cell 6 _ rfl
        have y6 := fun q : Ext w3.drew => (A3d.out.keep q.bl).cell 6 _ rfl
        have z6 := fun q : Ext w3.drew => (C3d.out.keep q.bl).cell 6 _ rfl
        have x7 := fun q : Ext w3.drew => (H3d.out.keep q.bl).cell 7 _ rfl
        have y7 := fun q : Ext w3.drew => (A3d.out.keep q.bl).cell 7 _ rfl
        have z7 := fun q : Ext w3.drew => (C3d.out.keep q.bl).cell 7 _ rfl
        have x8 := fun q : Ext w3.drew => (H3d.out.keep q.bl).cell 8 _ rfl
        have y8 := fun q : Ext w3.drew => (A3d.out.keep q.bl).cell 8 _ rfl
        have z8 := fun q : Ext w3.drew => (C3d.out.keep q.bl).cell 8 _ rfl
        have x9 := fun q : Ext w3.drew => (H3d.out.keep q.bl).cell 9 _ rfl
        have y9 := fun q : Ext w3.drew => (A3d.out.keep q.bl).cell 9 _ rfl
        have z9 := fun q : Ext w3.drew => (C3d.out.keep q.bl).cell 9 _ rfl
        have x10 := fun q : Ext w3.drew => (H3d.out.keep q.bl).cell 10 _ rfl
        have y10 := fun q : Ext w3.drew => (A3d.out.keep q.bl).cell 10 _ rfl
        have z10 := fun q : Ext w3.drew => (C3d.out.keep q.bl).cell 10 _ rfl
        have x11 := fun q : Ext w3.drew => (H3d.out.keep q.bl).cell 11 _ rfl
        have y11 := fun q : Ext w3.drew => (A3d.out.keep q.bl).cell 11 _ rfl
        have z11 := fun q : Ext w3.drew => (C3d.out.keep q.bl).cell 11 _ rfl
        clear bD
        repeat (refine wpS_step (fun K hK => ?_); go_simp; first | (refine hK _ ?_; clear hK K) | (apply Exists.intro; refine ⟨fun q => ?_, hK _ ?_⟩; (first | with_reducible exact V1.out q | with_reducible exact V2.out q | with_reducible exact V3.out q | with_reducible exact V4.out q | with_reducible exact V5.out q); clear hK K))
        refine wpS_nil ?_
        intro q1
        have B4 := Lib.hid ((B3.out.trans (Bl.refl w3).drew).trans q1.bl)
        have P4 := Lib.hid (P3.out.keep ((Bl.refl w3).drew.trans q1.bl))
        have A4 := Lib.hid (A3d.out.keep q1.bl)
        have KA4 := Lib.hid (KA3.out.keep ((Bl.refl w3).drew.trans q1.bl))
        clear V1 V2 V3 V4 V5 H3 H3d A3 A3d C3 C3d K3 L3 KB3 KA3 B3 P3 x0 x1 x2 x3 x4 x5 x6 x7 x8 x9 x10 x11 y0 y1 y2 y3 y4 y5 y6 y7 y8 y9 y10 y11 z0 z1 z2 z3 z4 z5 z6 z7 z8 z9 z10 z11
        generalize q1.at = X at *
        clear q1
        go_wp2_with fail
        go_roundw
        case rel => exact ⟨k + 1, by omega, by go_num, B4.out, P4.out⟩
        case measure => simp [intOf]; omega
      · obtain ⟨p, hp⟩ : ∃ p, p = strL (putAsk ⟨k1, s1, t1, i1, m1, xs1, key1, text1, ⟨ak1, ax1, an1, az1⟩⟩) := ⟨_, rfl⟩
        have hp2 : p = strL (putAskS ⟨k1, s1, t1, i1, m1, xs1, key1, text1, ⟨ak1, ax1, an1, az1⟩⟩) := by unfold putAskS; rw [hv, if_pos rfl]; exact hp
        have hc : putAskC ⟨k1, s1, t1, i1, m1, xs1, key1, text1, ⟨ak1, ax1, an1, az1⟩⟩ = 0 := by unfold putAskC; rw [hv, if_pos rfl]
        have HP := Lib.hid hp
        have hz : p.size ≤ 40000 := by rw [hp]; exact strL_small (putAsk_len hv)
        have HZ := Lib.hid hz
        have HPC := Lib.hid (And.intro hp2 hc)
        clear hp hp2 hc hz
        have HV := Lib.hid hv
        clear hv
        refine (putAsk_hid2 k1 s1 t1 i1 m1 (some ⟨gx, 0, none⟩) n1 cx xs1 key1 text1 ak1 ax1 an1 az1 p 0 _ KX.out HPC).mono ?_
        rintro e w3 ⟨rfl, hb3⟩
        have B3 := Lib.hid (HBW.out.trans hb3)
        have P3 := Lib.hid (HBP2.out.keep hb3)
        have H3 := Lib.hid (H7.out.keep hb3)
        have L3 := Lib.hid (LX.out.keep hb3)
        have K3 := Lib.hid (KX.out.keep hb3)
        have KA3 := Lib.hid (KA.out.keep B3.out)
        have KB3 := Lib.hid (KB.out.keep B3.out)
        have A3 := Lib.hid (GA.out.keep B3.out)
        have C3 := Lib.hid (GB.out.keep B3.out)
        clear hb3 HBW HBP2 H7 LX KX HPC
        go_upto_region 10 with fail
        refine wp_region_allS (by kernel_rfl) (by kernel_rfl) ?_
        have bD : Bl w3 w3.drew := (Bl.refl w3).drew
        have H3d := Lib.hid (H3.out.keep bD)
        have A3d := Lib.hid (A3.out.keep bD)
        have C3d := Lib.hid (C3.out.keep bD)
        have V1 := Lib.hid (fun q : Ext w3.drew => pvalid_hidA k1 s1 t1 i1 m1 (some ⟨gx, 0, none⟩) n1 cx xs1 key1 text1 ak1 ax1 an1 az1 true q.at (K3.out.keep (bD.trans q.bl)) HV)
        have V2 := Lib.hid (fun q : Ext w3.drew => rvalid_hid k1 s1 t1 i1 m1 ad1 n1 ca1 xs1 key1 text1 ak1 ax1 an1 az1 true q.at HN1.out (KA3.out.keep (bD.trans q.bl)) HV)
        obtain ⟨r, hr⟩ : ∃ r, sameAsk ⟨k1, s1, t1, i1, m1, xs1, key1, text1, ⟨ak1, ax1, an1, az1⟩⟩ ⟨k2, s2, t2, i2, m2, xs2, key2, text2, ⟨ak2, ax2, an2, az2⟩⟩ = r := ⟨_, rfl⟩
        have V3 := Lib.hid (fun q : Ext w3.drew => sameAsk_any k1 s1 t1 i1 m1 (some ⟨gx, 0, none⟩) n1 cx xs1 key1 text1 ak1 ax1 an1 az1 k2 s2 t2 i2 m2 ad2 n2 ca2 xs2 key2 text2 ak2 ax2 an2 az2 r q.at (K3.out.x.keep (bD.trans q.bl)) (KB3.out.x.keep (bD.trans q.bl)) (Lib.hid KA3.out.act) (Lib.hid KB3.out.act) (Lib.hid hr))
        have V4 := Lib.hid (fun q : Ext w3.drew => rsameAsk_any k1 s1 t1 i1 m1 ad1 n1 ca1 xs1 key1 text1 ak1 ax1 an1 az1 k2 s2 t2 i2 m2 ad2 n2 ca2 xs2 key2 text2 ak2 ax2 an2 az2 r q.at (KA3.out.x.keep (bD.trans q.bl)) (KB3.out.x.keep (bD.trans q.bl)) (Lib.hid KA3.out.act) (Lib.hid KB3.out.act) (Lib.hid hr))
        have V5 := Lib.hid (fun q : Ext w3.drew => staysVec_any _ gx n1 cx ad1 n1 ca1 xs1 q.at (L3.out.keep (bD.trans q.bl)) (KA3.out.x.keep (bD.trans q.bl)) (Nat.le_trans HNN.out (by decide)))
        clear hr
        have x0 := fun q : Ext w3.drew => (H3d.out.keep q.bl).cell 0 _ rfl
        have y0 := fun q : Ext w3.drew => (A3d.out.keep q.bl).cell 0 _ rfl
        have z0 := fun q : Ext w3.drew => (C3d.out.keep q.bl).cell 0 _ rfl
        have x1 := fun q : Ext w3.drew => (H3d.out.keep q.bl).cell 1 _ rfl
        have y1 := fun q : Ext w3.drew => (A3d.out.keep q.bl).cell 1 _ rfl
        have z1 := fun q : Ext w3.drew => (C3d.out.keep q.bl).cell 1 _ rfl
        have x2 := fun q : Ext w3.drew => (H3d.out.keep q.bl).cell 2 _ rfl
        have y2 := fun q : Ext w3.drew => (A3d.out.keep q.bl).cell 2 _ rfl
        have z2 := fun q : Ext w3.drew => (C3d.out.keep q.bl).cell 2 _ rfl
        have x3 := fun q : Ext w3.drew => (H3d.out.keep q.bl).cell 3 _ rfl
        have y3 := fun q : Ext w3.drew => (A3d.out.keep q.bl).cell 3 _ rfl
        have z3 := fun q : Ext w3.drew => (C3d.out.keep q.bl).cell 3 _ rfl
        have x4 := fun q : Ext w3.drew => (H3d.out.keep q.bl).cell 4 _ rfl
        have y4 := fun q : Ext w3.drew => (A3d.out.keep q.bl).cell 4 _ rfl
        have z4 := fun q : Ext w3.drew => (C3d.out.keep q.bl).cell 4 _ rfl
        have x5 := fun q : Ext w3.drew => (H3d.out.keep q.bl).cell 5 _ rfl
        have y5 := fun q : Ext w3.drew => (A3d.out.keep q.bl).cell 5 _ rfl
        have z5 := fun q : Ext w3.drew => (C3d.out.keep q.bl).cell 5 _ rfl
        have x6 := fun q : Ext w3.drew => (H3d.out.keep q.bl).cell 6 _ rfl
        have y6 := fun q : Ext w3.drew => (A3d.out.keep q.bl).cell 6 _ rfl
        have z6 := fun q : Ext w3.drew => (C3d.out.keep q.bl).cell 6 _ rfl
        have x7 := fun q : Ext w3.drew => (H3d.out.keep q.bl).cell 7 _ rfl
        have y7 := fun q : Ext w3.drew => (A3d.out.keep q.bl).cell 7 _ rfl
        have z7 := fun q : Ext w3.drew => (C3d.out.keep q.bl).cell 7 _ rfl
        have x8 := fun q : Ext w3.drew => (H3d.out.keep q.bl).cell 8 _ rfl
        have y8 := fun q : Ext w3.drew => (A3d.out.keep q.bl).cell 8 _ rfl
        have z8 := fun q : Ext w3.drew => (C3d.out.keep q.bl).cell 8 _ rfl
        have x9 := fun q : Ext w3.drew => (H3d.out.keep q.bl).cell 9 _ rfl
        have y9 := fun q : Ext w3.drew => (A3d.out.keep q.bl).cell 9 _ rfl
        have z9 := fun q : Ext w3.drew => (C3d.out.keep q.bl).cell 9 _ rfl
        have x10 := fun q : Ext w3.drew => (H3d.out.keep q.bl).cell 10 _ rfl
        have y10 := fun q : Ext w3.drew => (A3d.out.keep q.bl).cell 10 _ rfl
        have z10 := fun q : Ext w3.drew => (C3d.out.keep q.bl).cell 10 _ rfl
        have x11 := fun q : Ext w3.drew => (H3d.out.keep q.bl).cell 11 _ rfl
        have y11 := fun q : Ext w3.drew => (A3d.out.keep q.bl).cell 11 _ rfl
        have z11 := fun q : Ext w3.drew => (C3d.out.keep q.bl).cell 11 _ rfl
        clear bD
        repeat (refine wpS_step (fun K hK => ?_); go_simp; first | (refine hK _ ?_; clear hK K) | (apply Exists.intro; refine ⟨fun q => ?_, hK _ ?_⟩; (first | with_reducible exact V1.out q | with_reducible exact V2.out q | with_reducible exact V3.out q | with_reducible exact V4.out q | with_reducible exact V5.out q); clear hK K))
        refine wpS_nil ?_
        intro q1
        have B4 := Lib.hid ((B3.out.trans (Bl.refl w3).drew).trans q1.bl)
        have P4 := Lib.hid (P3.out.keep ((Bl.refl w3).drew.trans q1.bl))
        have A4 := Lib.hid (A3d.out.keep q1.bl)
        have KA4 := Lib.hid (KA3.out.keep ((Bl.refl w3).drew.trans q1.bl))
        clear V1 V2 V3 V4 V5 H3 H3d A3 A3d C3 C3d K3 L3 KB3 KA3 B3 P3 x0 x1 x2 x3 x4 x5 x6 x7 x8 x9 x10 x11 y0 y1 y2 y3 y4 y5 y6 y7 y8 y9 y10 y11 z0 z1 z2 z3 z4 z5 z6 z7 z8 z9 z10 z11
        generalize q1.at = X at *
        clear q1
        obtain ⟨y, hy1, hy2⟩ := rdAsk_put (a := ⟨k1, s1, t1, i1, m1, xs1, key1, text1, ⟨ak1, ax1, an1, az1⟩⟩) KA4.out.act HV.out
        have QG := Lib.hid (fun w => getAskO_any (putAsk ⟨k1, s1, t1, i1, m1, xs1, key1, text1, ⟨ak1, ax1, an1, az1⟩⟩) w (by have := putAsk_len HV.out; omega))
        rw [← HP.out] at QG
        have HY := Lib.hid hy1
        have HS := Lib.hid hy2
        clear hy1 hy2
        go_wp2_with fail
        refine (QG.out _).mono ?_
        rintro e w5 (⟨a, ad3, n3, ca3, hr, rfl, hF, hb5⟩ | ⟨hr, -, -⟩)
        case inr => rw [HY.out] at hr; cases hr
        rw [HY.out] at hr
        cases hr
        have YO := Lib.hid (rdAsk_back HY.out).2.2
        have YX := Lib.hid (sameAsk_iff.1 HS.out).2.2.2.2.2.1
        obtain ⟨k3, s3, t3, i3, m3, xs3, key3, text3, ⟨ak3, ax3, an3, az3⟩⟩ := y
        unfold askV
        dsimp only at hF YX YO ⊢
        have P5 := Lib.hid (P4.out.push hb5 B4.out.size (v := .slice ad3 n3 ca3) (ys := xs3) hF (by have h1 := YX.out; have h2 := KA4.out.x.len; have h3 := HNN.out; dsimp only at h2; rw [← h1, h2]; omega))
        have F5 := Lib.hid hF.far.1
        have A5 := Lib.hid (A4.out.keep hb5)
        have K5 := Lib.hid (KA4.out.keep hb5)
        have B5 := Lib.hid (B4.out.trans hb5)
        clear hb5 hF A4 KA4 B4 P4 QG HY YX
        have g5 := AC.new w5 _ rfl (askCs k3 s3 t3 i3 m3 ad3 n3 ca3 key3 text3 ak3 ax3 an3 az3) 78
        have hb6 := (Bl.refl w5).alloc (.cells (askCs k3 s3 t3 i3 m3 ad3 n3 ca3 key3 text3 ak3 ax3 an3 az3).toArray 78)
        unfold askCs at g5 hb6
        obtain ⟨x0, x1, x2, x3, x4, x5, x6, x7, x8, x9, x10, x11⟩ := AC.ask (k := k3) (s := s3) (t := t3) (i := i3) (m := m3) (ad := ad3) (n := n3) (ca := ca3) (key := key3) (text := text3) (ak := ak3) (ax := ax3) (an := an3) (az := az3) g5
        obtain ⟨y0, y1, y2, y3, y4, y5, y6, y7, y8, y9, y10, y11⟩ := AC.ask (k := k1) (s := s1) (t := t1) (i := i1) (m := m1) (ad := ad1) (n := n1) (ca := ca1) (key := key1) (text := text1) (ak := ak1) (ax := ax1) (an := an1) (az := az1) (A5.out.keep hb6)
        have HB6 := Lib.hid hb6
        have G5 := Lib.hid g5
        have hz := HZ.out
        have R6 := Lib.hid (rsameAsk_any k3 s3 t3 i3 m3 ad3 n3 ca3 xs3 key3 text3 ak3 ax3 an3 az3 k1 s1 t1 i1 m1 ad1 n1 ca1 xs1 key1 text1 ak1 ax1 an1 az1 true _ (F5.out.keep hb6) (K5.out.x.keep hb6) YO (Lib.hid K5.out.act) (Lib.hid (sameAsk_symm HS.out)))
        clear hb6 g5
        go_wp2_with fail
        refine R6.out.mono ?_
        rintro e w6 ⟨rfl, hb6⟩
        have B6 := Lib.hid ((B5.out.trans HB6.out).trans hb6)
        have P6 := Lib.hid ((P5.out.keep HB6.out).keep hb6)
        clear x0 x1 x2 x3 x4 x5 x6 x7 x8 x9 x10 x11 y0 y1 y2 y3 y4 y5 y6 y7 y8 y9 y10 y11
        have x5 := (G5.out.keep hb6).cell 5 _ rfl
        clear hb6 R6 A5 K5 B5 P5 F5 YO HS
        rw [List.nil_append] at P6
        go_wp2_with fail
        refine (bp_vecS W1 _ xs3 [] _ B6.out P6.out).mono ?_
        rintro e w7 ⟨rfl, hp, hb7⟩
        have B7 := Lib.hid hb7
        have P7 := Lib.hid hp
        clear hp hb7 B6 P6
        go_wp2_with fail
        go_roundw
        case rel => exact ⟨k + 1, by omega, by go_num, B7.out, P7.out⟩
        case measure => simp [intOf]; omega
    · go_wp2_with fail
      refine (alive25_any _).mono ?_
      rintro e w1 ⟨rfl, hb⟩
      have HB := Lib.hid (HBL.out.trans hb)
      have HP := Lib.hid (HBP.out.keep hb)
      clear hb HBL HBP
      go_wp2_with fail
      refine (bp_apart _ _ _ _ HB.out.size HP.out).mono ?_
      rintro e w2 ⟨rfl, hf⟩
      go_wp2_with fail
      go_ret
      exact ⟨rfl, HW.out.trans (HB.out.fr hf (fun b q => q))⟩
theorem protoAsks_walk (ad : Option Addr) (n ca : Nat) (A : AskL) (ad' : Option Addr) (n' ca' : Nat) (B : AskL) (w : World) (ok1 : AskOk w A ad n) (N1 : NumOk A) (ok2 : AskOk w B ad' n') (N2 : NumOk B) :
    Calls Tryz.prog 5 #[askV A.kind A.ses A.tx A.id A.num ad n ca A.key A.text A.act.k A.act.x A.act.n A.act.s, askV B.kind B.ses B.tx B.id B.num ad' n' ca' B.key B.text B.act.k B.act.x B.act.n B.act.s] w fun e w' => e = .returned (.bool true) ∧ Bl w w' :=
  protoAsks_gen A.kind A.ses A.tx A.id A.num ad n ca A.at_ A.key A.text A.act.k A.act.x A.act.n A.act.s B.kind B.ses B.tx B.id B.num ad' n' ca' B.at_ B.key B.text B.act.k B.act.x B.act.n B.act.s w N1 ok1 ok2
end Go.Proofs.YtibabgokmacnaaaGreat
end
