/- the walk of ProtoApart (printed by wip/gen/apart.py). By an AI agent. -/
import Derived.Test.YtechiehbigmjbaaApart0
set_option linter.unusedVariables false
set_option linter.unusedSimpArgs false
namespace Go.Proofs.Ytechiehbigmjbaa
open Go.RowKit

theorem putAsk_hid (k s t i m : Int) (ad : Option Addr) (n ca : Nat) (xs : List Int) (key text : ByteArray) (ak : Int) (ax : Nat) (an : Int) (az : ByteArray) (p : ByteArray) (c : Int) (w : World) (ok : AskOk w ⟨k, s, t, i, m, xs, key, text, ⟨ak, ax, an, az⟩⟩ ad n) (h : Hid (p = strL (putAskS ⟨k, s, t, i, m, xs, key, text, ⟨ak, ax, an, az⟩⟩) ∧ putAskC ⟨k, s, t, i, m, xs, key, text, ⟨ak, ax, an, az⟩⟩ = c)) :
    Calls Try.prog 35 #[.agg #[.int .i64 k, .int .i64 s, .int .i64 t, .int .i64 i, .int .i64 m, .slice ad n ca, .string key, .string text, .int .i64 ak, .float .f64 ax, .int .i64 an, .string az]] w fun e w' => e = .returned (.tuple #[.string p, .int .i64 c]) ∧ Bl w w' := by
  obtain ⟨rfl, rfl⟩ := h.out
  exact putAsk_any ⟨k, s, t, i, m, xs, key, text, ⟨ak, ax, an, az⟩⟩ ad n ca w ok
/-- bytes that are cut are no other request -/
theorem cut_other {a x : AskL} {K : Nat} (hK : K < (putAsk a).length) (h : rdAsk ((putAsk a).take K) = some x) : sameAsk x a = false := by
  rw [Bool.eq_false_iff]
  intro hs
  have h1 := (rdAsk_back h).1
  rw [sameAsk_put hs] at h1
  have := congrArg List.length h1
  rw [List.length_take] at this
  omega
set_option maxHeartbeats 6400000 in
set_option maxRecDepth 100000 in
theorem protoApart_gen (k1 s1 t1 i1 m1 : Int) (ad1 : Option Addr) (n1 ca1 : Nat) (xs1 : List Int) (key1 text1 : ByteArray) (ak1 : Int) (ax1 : Nat) (an1 : Int) (az1 : ByteArray) (k2 s2 t2 i2 m2 : Int) (ad2 : Option Addr) (n2 ca2 : Nat) (xs2 : List Int) (key2 text2 : ByteArray) (ak2 : Int) (ax2 : Nat) (an2 : Int) (az2 : ByteArray) (cut : Int) (w : World) (ok1 : AskOk w ⟨k1, s1, t1, i1, m1, xs1, key1, text1, ⟨ak1, ax1, an1, az1⟩⟩ ad1 n1) (ok2 : AskOk w ⟨k2, s2, t2, i2, m2, xs2, key2, text2, ⟨ak2, ax2, an2, az2⟩⟩ ad2 n2) (hcut : -9223372036854775808 ≤ cut ∧ cut ≤ 9223372036854775807) :
    Calls Try.prog 7 #[.agg #[.int .i64 k1, .int .i64 s1, .int .i64 t1, .int .i64 i1, .int .i64 m1, .slice ad1 n1 ca1, .string key1, .string text1, .int .i64 ak1, .float .f64 ax1, .int .i64 an1, .string az1], .agg #[.int .i64 k2, .int .i64 s2, .int .i64 t2, .int .i64 i2, .int .i64 m2, .slice ad2 n2 ca2, .string key2, .string text2, .int .i64 ak2, .float .f64 ax2, .int .i64 an2, .string az2], .int .i64 cut] w fun e w' => e = .returned (.bool true) ∧ Bl w w' := by
  have hsf := store_float
  have G := AB.new w 66 66 (askCs k1 s1 t1 i1 m1 ad1 n1 ca1 key1 text1 ak1 ax1 an1 az1) (askCs k2 s2 t2 i2 m2 ad2 n2 ca2 key2 text2 ak2 ax2 an2 az2)
  unfold askCs at G
  obtain ⟨c0, c1, c2, c3, c4, c5, c6, c7, c8, c9, c10, c11⟩ := AC.ask (k := k1) (s := s1) (t := t1) (i := i1) (m := m1) (ad := ad1) (n := n1) (ca := ca1) (key := key1) (text := text1) (ak := ak1) (ax := ax1) (an := an1) (az := az1) G.a
  obtain ⟨d0, d1, d2, d3, d4, d5, d6, d7, d8, d9, d10, d11⟩ := AC.ask (k := k2) (s := s2) (t := t2) (i := i2) (m := m2) (ad := ad2) (n := n2) (ca := ca2) (key := key2) (text := text2) (ak := ak2) (ax := ax2) (an := an2) (az := az2) G.b
  have hk1 := ok1.key
  have ht1 := ok1.text
  have hz1 : az1.size ≤ 140737488351232 := ok1.act.s
  have hk2 := ok2.key
  have ht2 := ok2.text
  have hz2 : az2.size ≤ 140737488351232 := ok2.act.s
  have OK1 := Lib.hid ok1
  have OK2 := Lib.hid ok2
  clear ok1 ok2
  dsimp only at hk1 ht1 hk2 ht2
  have GH := Lib.hid G
  clear G
  go_enter Try.func7, Try.ntmps7
  go_wp2_with fail
  generalize (w.alloc _).alloc _ = W at *
  refine (light25_any k1 s1 t1 i1 m1 ad1 n1 ca1 xs1 key1 text1 ak1 ax1 an1 az1 _ hk1 ht1 hz1).mono ?_
  rintro e W1 ⟨rfl, hb⟩
  replace GH := Lib.hid (GH.out.keep hb)
  clear hb c0 c1 c2 c3 c4 c5 c6 c7 c8 c9 c10 c11 d0 d1 d2 d3 d4 d5 d6 d7 d8 d9 d10 d11
  obtain ⟨c0, c1, c2, c3, c4, c5, c6, c7, c8, c9, c10, c11⟩ := AC.ask (k := k1) (s := s1) (t := t1) (i := i1) (m := m1) (ad := ad1) (n := n1) (ca := ca1) (key := key1) (text := text1) (ak := ak1) (ax := ax1) (an := an1) (az := az1) GH.out.a
  obtain ⟨d0, d1, d2, d3, d4, d5, d6, d7, d8, d9, d10, d11⟩ := AC.ask (k := k2) (s := s2) (t := t2) (i := i2) (m := m2) (ad := ad2) (n := n2) (ca := ca2) (key := key2) (text := text2) (ak := ak2) (ax := ax2) (an := an2) (az := az2) GH.out.b
  cases hl1 : lightB n1 key1 text1 az1
  · have HL := Lib.hid hl1
    clear hl1
    go_wp2_with fail
    refine (alive25_any _).mono ?_
    rintro e w2 ⟨rfl, hb2⟩
    go_wp2_with fail
    go_ret
    exact ⟨rfl, GH.out.bl.trans hb2⟩
  have HL1 := Lib.hid hl1
  clear hl1
  go_wp2_with fail
  refine (light25_any k2 s2 t2 i2 m2 ad2 n2 ca2 xs2 key2 text2 ak2 ax2 an2 az2 _ hk2 ht2 hz2).mono ?_
  rintro e W2 ⟨rfl, hb⟩
  replace GH := Lib.hid (GH.out.keep hb)
  clear hb c0 c1 c2 c3 c4 c5 c6 c7 c8 c9 c10 c11 d0 d1 d2 d3 d4 d5 d6 d7 d8 d9 d10 d11
  obtain ⟨c0, c1, c2, c3, c4, c5, c6, c7, c8, c9, c10, c11⟩ := AC.ask (k := k1) (s := s1) (t := t1) (i := i1) (m := m1) (ad := ad1) (n := n1) (ca := ca1) (key := key1) (text := text1) (ak := ak1) (ax := ax1) (an := an1) (az := az1) GH.out.a
  obtain ⟨d0, d1, d2, d3, d4, d5, d6, d7, d8, d9, d10, d11⟩ := AC.ask (k := k2) (s := s2) (t := t2) (i := i2) (m := m2) (ad := ad2) (n := n2) (ca := ca2) (key := key2) (text := text2) (ak := ak2) (ax := ax2) (an := an2) (az := az2) GH.out.b
  cases hl2 : lightB n2 key2 text2 az2
  · have HL := Lib.hid hl2
    clear hl2
    go_wp2_with fail
    refine (alive25_any _).mono ?_
    rintro e w2 ⟨rfl, hb2⟩
    go_wp2_with fail
    go_ret
    exact ⟨rfl, GH.out.bl.trans hb2⟩
  have HL2 := Lib.hid hl2
  clear hl2
  obtain ⟨p1, hp1⟩ : ∃ p, p = strL (putAskS ⟨k1, s1, t1, i1, m1, xs1, key1, text1, ⟨ak1, ax1, an1, az1⟩⟩) := ⟨_, rfl⟩
  obtain ⟨p2, hp2⟩ : ∃ p, p = strL (putAskS ⟨k2, s2, t2, i2, m2, xs2, key2, text2, ⟨ak2, ax2, an2, az2⟩⟩) := ⟨_, rfl⟩
  have HP1 := Lib.hid hp1
  have HP2 := Lib.hid hp2
  clear hp1 hp2
  cases hv1 : validA ⟨k1, s1, t1, i1, m1, xs1, key1, text1, ⟨ak1, ax1, an1, az1⟩⟩
  · have hc1 : putAskC ⟨k1, s1, t1, i1, m1, xs1, key1, text1, ⟨ak1, ax1, an1, az1⟩⟩ = 1 := by unfold putAskC; rw [hv1]; rfl
    have HC1 := Lib.hid hc1
    have HV1 := Lib.hid hv1
    clear hc1 hv1
    cases hv2 : validA ⟨k2, s2, t2, i2, m2, xs2, key2, text2, ⟨ak2, ax2, an2, az2⟩⟩
    · have hc2 : putAskC ⟨k2, s2, t2, i2, m2, xs2, key2, text2, ⟨ak2, ax2, an2, az2⟩⟩ = 1 := by unfold putAskC; rw [hv2]; rfl
      have HC2 := Lib.hid hc2
      have HV2 := Lib.hid hv2
      clear hc2 hv2
      go_wp2_with fail
      refine (putAsk_hid k1 s1 t1 i1 m1 ad1 n1 ca1 xs1 key1 text1 ak1 ax1 an1 az1 p1 1 _ (OK1.out.keep GH.out.bl) (Lib.hid ⟨HP1.out, HC1.out⟩)).mono ?_
      rintro e W3 ⟨rfl, hb⟩
      replace GH := Lib.hid (GH.out.keep hb)
      clear hb c0 c1 c2 c3 c4 c5 c6 c7 c8 c9 c10 c11 d0 d1 d2 d3 d4 d5 d6 d7 d8 d9 d10 d11
      obtain ⟨c0, c1, c2, c3, c4, c5, c6, c7, c8, c9, c10, c11⟩ := AC.ask (k := k1) (s := s1) (t := t1) (i := i1) (m := m1) (ad := ad1) (n := n1) (ca := ca1) (key := key1) (text := text1) (ak := ak1) (ax := ax1) (an := an1) (az := az1) GH.out.a
      obtain ⟨d0, d1, d2, d3, d4, d5, d6, d7, d8, d9, d10, d11⟩ := AC.ask (k := k2) (s := s2) (t := t2) (i := i2) (m := m2) (ad := ad2) (n := n2) (ca := ca2) (key := key2) (text := text2) (ak := ak2) (ax := ax2) (an := an2) (az := az2) GH.out.b
      go_wp2_with fail
      refine (putAsk_hid k2 s2 t2 i2 m2 ad2 n2 ca2 xs2 key2 text2 ak2 ax2 an2 az2 p2 1 _ (OK2.out.keep GH.out.bl) (Lib.hid ⟨HP2.out, HC2.out⟩)).mono ?_
      rintro e W4 ⟨rfl, hb⟩
      replace GH := Lib.hid (GH.out.keep hb)
      clear hb c0 c1 c2 c3 c4 c5 c6 c7 c8 c9 c10 c11 d0 d1 d2 d3 d4 d5 d6 d7 d8 d9 d10 d11
      obtain ⟨c0, c1, c2, c3, c4, c5, c6, c7, c8, c9, c10, c11⟩ := AC.ask (k := k1) (s := s1) (t := t1) (i := i1) (m := m1) (ad := ad1) (n := n1) (ca := ca1) (key := key1) (text := text1) (ak := ak1) (ax := ax1) (an := an1) (az := az1) GH.out.a
      obtain ⟨d0, d1, d2, d3, d4, d5, d6, d7, d8, d9, d10, d11⟩ := AC.ask (k := k2) (s := s2) (t := t2) (i := i2) (m := m2) (ad := ad2) (n := n2) (ca := ca2) (key := key2) (text := text2) (ak := ak2) (ax := ax2) (an := an2) (az := az2) GH.out.b
      go_wp2_with fail
      refine (alive25_any _).mono ?_
      rintro e W5 ⟨rfl, hb⟩
      replace GH := Lib.hid (GH.out.keep hb)
      clear hb c0 c1 c2 c3 c4 c5 c6 c7 c8 c9 c10 c11 d0 d1 d2 d3 d4 d5 d6 d7 d8 d9 d10 d11
      obtain ⟨c0, c1, c2, c3, c4, c5, c6, c7, c8, c9, c10, c11⟩ := AC.ask (k := k1) (s := s1) (t := t1) (i := i1) (m := m1) (ad := ad1) (n := n1) (ca := ca1) (key := key1) (text := text1) (ak := ak1) (ax := ax1) (an := an1) (az := az1) GH.out.a
      obtain ⟨d0, d1, d2, d3, d4, d5, d6, d7, d8, d9, d10, d11⟩ := AC.ask (k := k2) (s := s2) (t := t2) (i := i2) (m := m2) (ad := ad2) (n := n2) (ca := ca2) (key := key2) (text := text2) (ak := ak2) (ax := ax2) (an := an2) (az := az2) GH.out.b
      go_wp2_with fail
      refine (pvalid_hid k1 s1 t1 i1 m1 ad1 n1 ca1 xs1 key1 text1 ak1 ax1 an1 az1 false _ (OK1.out.keep GH.out.bl) HV1).mono ?_
      rintro e W6 ⟨rfl, hb⟩
      replace GH := Lib.hid (GH.out.keep hb)
      clear hb c0 c1 c2 c3 c4 c5 c6 c7 c8 c9 c10 c11 d0 d1 d2 d3 d4 d5 d6 d7 d8 d9 d10 d11
      obtain ⟨c0, c1, c2, c3, c4, c5, c6, c7, c8, c9, c10, c11⟩ := AC.ask (k := k1) (s := s1) (t := t1) (i := i1) (m := m1) (ad := ad1) (n := n1) (ca := ca1) (key := key1) (text := text1) (ak := ak1) (ax := ax1) (an := an1) (az := az1) GH.out.a
      obtain ⟨d0, d1, d2, d3, d4, d5, d6, d7, d8, d9, d10, d11⟩ := AC.ask (k := k2) (s := s2) (t := t2) (i := i2) (m := m2) (ad := ad2) (n := n2) (ca := ca2) (key := key2) (text := text2) (ak := ak2) (ax := ax2) (an := an2) (az := az2) GH.out.b
      go_wp2_with fail
      refine (pvalid_hid k2 s2 t2 i2 m2 ad2 n2 ca2 xs2 key2 text2 ak2 ax2 an2 az2 false _ (OK2.out.keep GH.out.bl) HV2).mono ?_
      rintro e W7 ⟨rfl, hb⟩
      have HB := Lib.hid (GH.out.bl.trans hb)
      clear hb
      go_wp2_with fail
      go_ret
      exact ⟨rfl, HB.out⟩
    · have hc2 : putAskC ⟨k2, s2, t2, i2, m2, xs2, key2, text2, ⟨ak2, ax2, an2, az2⟩⟩ = 0 := by unfold putAskC; rw [hv2]; rfl
      have HC2 := Lib.hid hc2
      have HV2 := Lib.hid hv2
      clear hc2 hv2
      go_wp2_with fail
      refine (putAsk_hid k1 s1 t1 i1 m1 ad1 n1 ca1 xs1 key1 text1 ak1 ax1 an1 az1 p1 1 _ (OK1.out.keep GH.out.bl) (Lib.hid ⟨HP1.out, HC1.out⟩)).mono ?_
      rintro e W3 ⟨rfl, hb⟩
      replace GH := Lib.hid (GH.out.keep hb)
      clear hb c0 c1 c2 c3 c4 c5 c6 c7 c8 c9 c10 c11 d0 d1 d2 d3 d4 d5 d6 d7 d8 d9 d10 d11
      obtain ⟨c0, c1, c2, c3, c4, c5, c6, c7, c8, c9, c10, c11⟩ := AC.ask (k := k1) (s := s1) (t := t1) (i := i1) (m := m1) (ad := ad1) (n := n1) (ca := ca1) (key := key1) (text := text1) (ak := ak1) (ax := ax1) (an := an1) (az := az1) GH.out.a
      obtain ⟨d0, d1, d2, d3, d4, d5, d6, d7, d8, d9, d10, d11⟩ := AC.ask (k := k2) (s := s2) (t := t2) (i := i2) (m := m2) (ad := ad2) (n := n2) (ca := ca2) (key := key2) (text := text2) (ak := ak2) (ax := ax2) (an := an2) (az := az2) GH.out.b
      go_wp2_with fail
      refine (putAsk_hid k2 s2 t2 i2 m2 ad2 n2 ca2 xs2 key2 text2 ak2 ax2 an2 az2 p2 0 _ (OK2.out.keep GH.out.bl) (Lib.hid ⟨HP2.out, HC2.out⟩)).mono ?_
      rintro e W4 ⟨rfl, hb⟩
      replace GH := Lib.hid (GH.out.keep hb)
      clear hb c0 c1 c2 c3 c4 c5 c6 c7 c8 c9 c10 c11 d0 d1 d2 d3 d4 d5 d6 d7 d8 d9 d10 d11
      obtain ⟨c0, c1, c2, c3, c4, c5, c6, c7, c8, c9, c10, c11⟩ := AC.ask (k := k1) (s := s1) (t := t1) (i := i1) (m := m1) (ad := ad1) (n := n1) (ca := ca1) (key := key1) (text := text1) (ak := ak1) (ax := ax1) (an := an1) (az := az1) GH.out.a
      obtain ⟨d0, d1, d2, d3, d4, d5, d6, d7, d8, d9, d10, d11⟩ := AC.ask (k := k2) (s := s2) (t := t2) (i := i2) (m := m2) (ad := ad2) (n := n2) (ca := ca2) (key := key2) (text := text2) (ak := ak2) (ax := ax2) (an := an2) (az := az2) GH.out.b
      go_wp2_with fail
      refine (alive25_any _).mono ?_
      rintro e W5 ⟨rfl, hb⟩
      replace GH := Lib.hid (GH.out.keep hb)
      clear hb c0 c1 c2 c3 c4 c5 c6 c7 c8 c9 c10 c11 d0 d1 d2 d3 d4 d5 d6 d7 d8 d9 d10 d11
      obtain ⟨c0, c1, c2, c3, c4, c5, c6, c7, c8, c9, c10, c11⟩ := AC.ask (k := k1) (s := s1) (t := t1) (i := i1) (m := m1) (ad := ad1) (n := n1) (ca := ca1) (key := key1) (text := text1) (ak := ak1) (ax := ax1) (an := an1) (az := az1) GH.out.a
      obtain ⟨d0, d1, d2, d3, d4, d5, d6, d7, d8, d9, d10, d11⟩ := AC.ask (k := k2) (s := s2) (t := t2) (i := i2) (m := m2) (ad := ad2) (n := n2) (ca := ca2) (key := key2) (text := text2) (ak := ak2) (ax := ax2) (an := an2) (az := az2) GH.out.b
      go_wp2_with fail
      refine (pvalid_hid k1 s1 t1 i1 m1 ad1 n1 ca1 xs1 key1 text1 ak1 ax1 an1 az1 false _ (OK1.out.keep GH.out.bl) HV1).mono ?_
      rintro e W6 ⟨rfl, hb⟩
      replace GH := Lib.hid (GH.out.keep hb)
      clear hb c0 c1 c2 c3 c4 c5 c6 c7 c8 c9 c10 c11 d0 d1 d2 d3 d4 d5 d6 d7 d8 d9 d10 d11
      obtain ⟨c0, c1, c2, c3, c4, c5, c6, c7, c8, c9, c10, c11⟩ := AC.ask (k := k1) (s := s1) (t := t1) (i := i1) (m := m1) (ad := ad1) (n := n1) (ca := ca1) (key := key1) (text := text1) (ak := ak1) (ax := ax1) (an := an1) (az := az1) GH.out.a
      obtain ⟨d0, d1, d2, d3, d4, d5, d6, d7, d8, d9, d10, d11⟩ := AC.ask (k := k2) (s := s2) (t := t2) (i := i2) (m := m2) (ad := ad2) (n := n2) (ca := ca2) (key := key2) (text := text2) (ak := ak2) (ax := ax2) (an := an2) (az := az2) GH.out.b
      go_wp2_with fail
      refine (pvalid_hid k2 s2 t2 i2 m2 ad2 n2 ca2 xs2 key2 text2 ak2 ax2 an2 az2 true _ (OK2.out.keep GH.out.bl) HV2).mono ?_
      rintro e W7 ⟨rfl, hb⟩
      have HB := Lib.hid (GH.out.bl.trans hb)
      clear hb
      go_wp2_with fail
      go_ret
      exact ⟨rfl, HB.out⟩
  · have hc1 : putAskC ⟨k1, s1, t1, i1, m1, xs1, key1, text1, ⟨ak1, ax1, an1, az1⟩⟩ = 0 := by unfold putAskC; rw [hv1]; rfl
    have HC1 := Lib.hid hc1
    have HV1 := Lib.hid hv1
    clear hc1 hv1
    cases hv2 : validA ⟨k2, s2, t2, i2, m2, xs2, key2, text2, ⟨ak2, ax2, an2, az2⟩⟩
    · have hc2 : putAskC ⟨k2, s2, t2, i2, m2, xs2, key2, text2, ⟨ak2, ax2, an2, az2⟩⟩ = 1 := by unfold putAskC; rw [hv2]; rfl
      have HC2 := Lib.hid hc2
      have HV2 := Lib.hid hv2
      clear hc2 hv2
      go_wp2_with fail
      refine (putAsk_hid k1 s1 t1 i1 m1 ad1 n1 ca1 xs1 key1 text1 ak1 ax1 an1 az1 p1 0 _ (OK1.out.keep GH.out.bl) (Lib.hid ⟨HP1.out, HC1.out⟩)).mono ?_
      rintro e W3 ⟨rfl, hb⟩
      replace GH := Lib.hid (GH.out.keep hb)
      clear hb c0 c1 c2 c3 c4 c5 c6 c7 c8 c9 c10 c11 d0 d1 d2 d3 d4 d5 d6 d7 d8 d9 d10 d11
      obtain ⟨c0, c1, c2, c3, c4, c5, c6, c7, c8, c9, c10, c11⟩ := AC.ask (k := k1) (s := s1) (t := t1) (i := i1) (m := m1) (ad := ad1) (n := n1) (ca := ca1) (key := key1) (text := text1) (ak := ak1) (ax := ax1) (an := an1) (az := az1) GH.out.a
      obtain ⟨d0, d1, d2, d3, d4, d5, d6, d7, d8, d9, d10, d11⟩ := AC.ask (k := k2) (s := s2) (t := t2) (i := i2) (m := m2) (ad := ad2) (n := n2) (ca := ca2) (key := key2) (text := text2) (ak := ak2) (ax := ax2) (an := an2) (az := az2) GH.out.b
      go_wp2_with fail
      refine (putAsk_hid k2 s2 t2 i2 m2 ad2 n2 ca2 xs2 key2 text2 ak2 ax2 an2 az2 p2 1 _ (OK2.out.keep GH.out.bl) (Lib.hid ⟨HP2.out, HC2.out⟩)).mono ?_
      rintro e W4 ⟨rfl, hb⟩
      replace GH := Lib.hid (GH.out.keep hb)
      clear hb c0 c1 c2 c3 c4 c5 c6 c7 c8 c9 c10 c11 d0 d1 d2 d3 d4 d5 d6 d7 d8 d9 d10 d11
      obtain ⟨c0, c1, c2, c3, c4, c5, c6, c7, c8, c9, c10, c11⟩ := AC.ask (k := k1) (s := s1) (t := t1) (i := i1) (m := m1) (ad := ad1) (n := n1) (ca := ca1) (key := key1) (text := text1) (ak := ak1) (ax := ax1) (an := an1) (az := az1) GH.out.a
      obtain ⟨d0, d1, d2, d3, d4, d5, d6, d7, d8, d9, d10, d11⟩ := AC.ask (k := k2) (s := s2) (t := t2) (i := i2) (m := m2) (ad := ad2) (n := n2) (ca := ca2) (key := key2) (text := text2) (ak := ak2) (ax := ax2) (an := an2) (az := az2) GH.out.b
      go_wp2_with fail
      refine (alive25_any _).mono ?_
      rintro e W5 ⟨rfl, hb⟩
      replace GH := Lib.hid (GH.out.keep hb)
      clear hb c0 c1 c2 c3 c4 c5 c6 c7 c8 c9 c10 c11 d0 d1 d2 d3 d4 d5 d6 d7 d8 d9 d10 d11
      obtain ⟨c0, c1, c2, c3, c4, c5, c6, c7, c8, c9, c10, c11⟩ := AC.ask (k := k1) (s := s1) (t := t1) (i := i1) (m := m1) (ad := ad1) (n := n1) (ca := ca1) (key := key1) (text := text1) (ak := ak1) (ax := ax1) (an := an1) (az := az1) GH.out.a
      obtain ⟨d0, d1, d2, d3, d4, d5, d6, d7, d8, d9, d10, d11⟩ := AC.ask (k := k2) (s := s2) (t := t2) (i := i2) (m := m2) (ad := ad2) (n := n2) (ca := ca2) (key := key2) (text := text2) (ak := ak2) (ax := ax2) (an := an2) (az := az2) GH.out.b
      go_wp2_with fail
      refine (pvalid_hid k1 s1 t1 i1 m1 ad1 n1 ca1 xs1 key1 text1 ak1 ax1 an1 az1 true _ (OK1.out.keep GH.out.bl) HV1).mono ?_
      rintro e W6 ⟨rfl, hb⟩
      replace GH := Lib.hid (GH.out.keep hb)
      clear hb c0 c1 c2 c3 c4 c5 c6 c7 c8 c9 c10 c11 d0 d1 d2 d3 d4 d5 d6 d7 d8 d9 d10 d11
      obtain ⟨c0, c1, c2, c3, c4, c5, c6, c7, c8, c9, c10, c11⟩ := AC.ask (k := k1) (s := s1) (t := t1) (i := i1) (m := m1) (ad := ad1) (n := n1) (ca := ca1) (key := key1) (text := text1) (ak := ak1) (ax := ax1) (an := an1) (az := az1) GH.out.a
      obtain ⟨d0, d1, d2, d3, d4, d5, d6, d7, d8, d9, d10, d11⟩ := AC.ask (k := k2) (s := s2) (t := t2) (i := i2) (m := m2) (ad := ad2) (n := n2) (ca := ca2) (key := key2) (text := text2) (ak := ak2) (ax := ax2) (an := an2) (az := az2) GH.out.b
      go_wp2_with fail
      refine (pvalid_hid k2 s2 t2 i2 m2 ad2 n2 ca2 xs2 key2 text2 ak2 ax2 an2 az2 false _ (OK2.out.keep GH.out.bl) HV2).mono ?_
      rintro e W7 ⟨rfl, hb⟩
      have HB := Lib.hid (GH.out.bl.trans hb)
      clear hb
      go_wp2_with fail
      go_ret
      exact ⟨rfl, HB.out⟩
    · have hc2 : putAskC ⟨k2, s2, t2, i2, m2, xs2, key2, text2, ⟨ak2, ax2, an2, az2⟩⟩ = 0 := by unfold putAskC; rw [hv2]; rfl
      have HC2 := Lib.hid hc2
      have HV2 := Lib.hid hv2
      clear hc2 hv2
      go_wp2_with fail
      refine (putAsk_hid k1 s1 t1 i1 m1 ad1 n1 ca1 xs1 key1 text1 ak1 ax1 an1 az1 p1 0 _ (OK1.out.keep GH.out.bl) (Lib.hid ⟨HP1.out, HC1.out⟩)).mono ?_
      rintro e W3 ⟨rfl, hb⟩
      replace GH := Lib.hid (GH.out.keep hb)
      clear hb c0 c1 c2 c3 c4 c5 c6 c7 c8 c9 c10 c11 d0 d1 d2 d3 d4 d5 d6 d7 d8 d9 d10 d11
      obtain ⟨c0, c1, c2, c3, c4, c5, c6, c7, c8, c9, c10, c11⟩ := AC.ask (k := k1) (s := s1) (t := t1) (i := i1) (m := m1) (ad := ad1) (n := n1) (ca := ca1) (key := key1) (text := text1) (ak := ak1) (ax := ax1) (an := an1) (az := az1) GH.out.a
      obtain ⟨d0, d1, d2, d3, d4, d5, d6, d7, d8, d9, d10, d11⟩ := AC.ask (k := k2) (s := s2) (t := t2) (i := i2) (m := m2) (ad := ad2) (n := n2) (ca := ca2) (key := key2) (text := text2) (ak := ak2) (ax := ax2) (an := an2) (az := az2) GH.out.b
      go_wp2_with fail
      refine (putAsk_hid k2 s2 t2 i2 m2 ad2 n2 ca2 xs2 key2 text2 ak2 ax2 an2 az2 p2 0 _ (OK2.out.keep GH.out.bl) (Lib.hid ⟨HP2.out, HC2.out⟩)).mono ?_
      rintro e W4 ⟨rfl, hb⟩
      replace GH := Lib.hid (GH.out.keep hb)
      clear hb c0 c1 c2 c3 c4 c5 c6 c7 c8 c9 c10 c11 d0 d1 d2 d3 d4 d5 d6 d7 d8 d9 d10 d11
      obtain ⟨c0, c1, c2, c3, c4, c5, c6, c7, c8, c9, c10, c11⟩ := AC.ask (k := k1) (s := s1) (t := t1) (i := i1) (m := m1) (ad := ad1) (n := n1) (ca := ca1) (key := key1) (text := text1) (ak := ak1) (ax := ax1) (an := an1) (az := az1) GH.out.a
      obtain ⟨d0, d1, d2, d3, d4, d5, d6, d7, d8, d9, d10, d11⟩ := AC.ask (k := k2) (s := s2) (t := t2) (i := i2) (m := m2) (ad := ad2) (n := n2) (ca := ca2) (key := key2) (text := text2) (ak := ak2) (ax := ax2) (an := an2) (az := az2) GH.out.b
      have hs1 : putAskS ⟨k1, s1, t1, i1, m1, xs1, key1, text1, ⟨ak1, ax1, an1, az1⟩⟩ = putAsk ⟨k1, s1, t1, i1, m1, xs1, key1, text1, ⟨ak1, ax1, an1, az1⟩⟩ := by unfold putAskS; rw [HV1.out]; rfl
      have hs2 : putAskS ⟨k2, s2, t2, i2, m2, xs2, key2, text2, ⟨ak2, ax2, an2, az2⟩⟩ = putAsk ⟨k2, s2, t2, i2, m2, xs2, key2, text2, ⟨ak2, ax2, an2, az2⟩⟩ := by unfold putAskS; rw [HV2.out]; rfl
      have heq : (p1.toList == p2.toList) = sameAsk ⟨k1, s1, t1, i1, m1, xs1, key1, text1, ⟨ak1, ax1, an1, az1⟩⟩ ⟨k2, s2, t2, i2, m2, xs2, key2, text2, ⟨ak2, ax2, an2, az2⟩⟩ := by
        rw [HP1.out, HP2.out, SB.beq (strL_SB _) (strL_SB _), hs1, hs2]
        exact putAsk_same OK1.out.act OK2.out.act HV1.out HV2.out
      have hpl := putAsk_pos ⟨k1, s1, t1, i1, m1, xs1, key1, text1, ⟨ak1, ax1, an1, az1⟩⟩
      have hpl2 := putAsk_len HV1.out
      have hz : p1.size = (putAsk ⟨k1, s1, t1, i1, m1, xs1, key1, text1, ⟨ak1, ax1, an1, az1⟩⟩).length := by rw [HP1.out, hs1, strL_size]
      obtain ⟨r, hr⟩ : ∃ r, sameAsk ⟨k1, s1, t1, i1, m1, xs1, key1, text1, ⟨ak1, ax1, an1, az1⟩⟩ ⟨k2, s2, t2, i2, m2, xs2, key2, text2, ⟨ak2, ax2, an2, az2⟩⟩ = r := ⟨_, rfl⟩
      rw [hr] at heq
      have HR := Lib.hid hr
      have HT : Hid (∀ K, p1.extract 0 K = strL ((putAsk ⟨k1, s1, t1, i1, m1, xs1, key1, text1, ⟨ak1, ax1, an1, az1⟩⟩).take K)) := Lib.hid (fun K => by rw [HP1.out, hs1, strL_take])
      obtain ⟨PL, hPL⟩ : ∃ PL, PL = putAsk ⟨k1, s1, t1, i1, m1, xs1, key1, text1, ⟨ak1, ax1, an1, az1⟩⟩ := ⟨_, rfl⟩
      rw [← hPL] at hz HT hpl hpl2
      have HPL := Lib.hid hPL
      clear hr hs1 hs2 hPL
      have hp0 : 0 < p1.size := by omega
      have hp9 : p1.size ≤ 40000 := by omega
      have q0 : ((p1.size : Int) == 0) = false := by rw [beq_eq_false_iff_ne]; omega
      have HZ := Lib.hid hz
      clear hz hpl hpl2
      have qr : (r != r) = false := by simp
      go_wp2_with fail
      refine (sameAsk_any k1 s1 t1 i1 m1 ad1 n1 ca1 xs1 key1 text1 ak1 ax1 an1 az1 k2 s2 t2 i2 m2 ad2 n2 ca2 xs2 key2 text2 ak2 ax2 an2 az2 r _ (OK1.out.keep GH.out.bl).x (OK2.out.keep GH.out.bl).x (Lib.hid OK1.out.act) (Lib.hid OK2.out.act) HR).mono ?_
      rintro e W5 ⟨rfl, hb⟩
      replace GH := Lib.hid (GH.out.keep hb)
      clear hb c0 c1 c2 c3 c4 c5 c6 c7 c8 c9 c10 c11 d0 d1 d2 d3 d4 d5 d6 d7 d8 d9 d10 d11
      obtain ⟨c0, c1, c2, c3, c4, c5, c6, c7, c8, c9, c10, c11⟩ := AC.ask (k := k1) (s := s1) (t := t1) (i := i1) (m := m1) (ad := ad1) (n := n1) (ca := ca1) (key := key1) (text := text1) (ak := ak1) (ax := ax1) (an := an1) (az := az1) GH.out.a
      obtain ⟨d0, d1, d2, d3, d4, d5, d6, d7, d8, d9, d10, d11⟩ := AC.ask (k := k2) (s := s2) (t := t2) (i := i2) (m := m2) (ad := ad2) (n := n2) (ca := ca2) (key := key2) (text := text2) (ak := ak2) (ax := ax2) (an := an2) (az := az2) GH.out.b
      obtain ⟨M, hM⟩ : ∃ M : Int, cut.tmod (p1.size : Int) = M := ⟨_, rfl⟩
      have hM1 : M < p1.size := by rw [← hM]; exact Int.tmod_lt_of_pos _ (by omega)
      have hM2 : -(p1.size : Int) < M := by rw [← hM]; exact Int.lt_tmod_of_pos _ (by omega)
      obtain ⟨K, hK1, hK⟩ : ∃ K : Nat, K < p1.size ∧ (K : Int) = if M < 0 then M + p1.size else M := by
        by_cases h : M < 0
        · exact ⟨(M + p1.size).toNat, by omega, by rw [if_pos h]; omega⟩
        · exact ⟨M.toNat, by omega, by rw [if_neg h]; omega⟩
      have HQ := Lib.hid (fun w => getAsk_any (PL.take K) w (by have := HZ.out; rw [List.length_take]; omega))
      have HCO : Hid (∀ x, rdAsk (PL.take K) = some x → sameAsk x ⟨k1, s1, t1, i1, m1, xs1, key1, text1, ⟨ak1, ax1, an1, az1⟩⟩ = false) := Lib.hid (fun x hx => by
        have h1 := HPL.out
        subst h1
        exact cut_other (by have := HZ.out; omega) hx)
      have hext := HT.out K
      obtain ⟨pk, hpk⟩ : ∃ p, p = strL (PL.take K) := ⟨_, rfl⟩
      rw [← hpk] at hext HQ
      clear hpk
      by_cases hM0 : M < 0
      · have hKe : M + (p1.size : Int) = (K : Int) := by rw [hK, if_pos hM0]
        clear hK
        go_wp2_with fail
        refine (HQ.out _).mono ?_
        rintro e W6 (⟨⟨yk, ys, yt, yi, ym, yx, ykey, ytext, ⟨bk, bx, bn, bz⟩⟩, yad, yn, yca, hrd, rfl, hF, hb⟩ | ⟨hrd, rfl, hb⟩)
        · have hso := HCO.out _ hrd
          have hok := (rdAsk_back hrd).2.2
          have HSO := Lib.hid hso
          have HOK := Lib.hid hok
          clear hso hok hrd
          dsimp only at hF HOK
          unfold askV
          dsimp only
          have hbA : Bl W5 (W6.alloc (.cells #[.int .i64 yk, .int .i64 ys, .int .i64 yt, .int .i64 yi, .int .i64 ym, .slice yad yn yca, .string ykey, .string ytext, .int .i64 bk, .float .f64 bx, .int .i64 bn, .string bz] 66)) := hb.alloc _
          have hY := AC.new W6 _ rfl [.int .i64 yk, .int .i64 ys, .int .i64 yt, .int .i64 yi, .int .i64 ym, .slice yad yn yca, .string ykey, .string ytext, .int .i64 bk, .float .f64 bx, .int .i64 bn, .string bz] 66
          have hFA := hF.1.keep ((Bl.refl W6).alloc (.cells #[.int .i64 yk, .int .i64 ys, .int .i64 yt, .int .i64 yi, .int .i64 ym, .slice yad yn yca, .string ykey, .string ytext, .int .i64 bk, .float .f64 bx, .int .i64 bn, .string bz] 66))
          replace GH := Lib.hid (GH.out.keep hbA)
          clear hbA hb hF c0 c1 c2 c3 c4 c5 c6 c7 c8 c9 c10 c11 d0 d1 d2 d3 d4 d5 d6 d7 d8 d9 d10 d11
          obtain ⟨c0, c1, c2, c3, c4, c5, c6, c7, c8, c9, c10, c11⟩ := AC.ask (k := k1) (s := s1) (t := t1) (i := i1) (m := m1) (ad := ad1) (n := n1) (ca := ca1) (key := key1) (text := text1) (ak := ak1) (ax := ax1) (an := an1) (az := az1) GH.out.a
          obtain ⟨d0, d1, d2, d3, d4, d5, d6, d7, d8, d9, d10, d11⟩ := AC.ask (k := k2) (s := s2) (t := t2) (i := i2) (m := m2) (ad := ad2) (n := n2) (ca := ca2) (key := key2) (text := text2) (ak := ak2) (ax := ax2) (an := an2) (az := az2) GH.out.b
          go_wp2_with fail
          generalize W6.heap.size = gy at *
          generalize W6.alloc _ = W7 at *
          refine (alive25_any _).mono ?_
          rintro e W8 ⟨rfl, hb⟩
          replace hY := hY.keep hb
          replace hFA := hFA.keep hb
          replace GH := Lib.hid (GH.out.keep hb)
          clear hb c0 c1 c2 c3 c4 c5 c6 c7 c8 c9 c10 c11 d0 d1 d2 d3 d4 d5 d6 d7 d8 d9 d10 d11
          obtain ⟨c0, c1, c2, c3, c4, c5, c6, c7, c8, c9, c10, c11⟩ := AC.ask (k := k1) (s := s1) (t := t1) (i := i1) (m := m1) (ad := ad1) (n := n1) (ca := ca1) (key := key1) (text := text1) (ak := ak1) (ax := ax1) (an := an1) (az := az1) GH.out.a
          obtain ⟨d0, d1, d2, d3, d4, d5, d6, d7, d8, d9, d10, d11⟩ := AC.ask (k := k2) (s := s2) (t := t2) (i := i2) (m := m2) (ad := ad2) (n := n2) (ca := ca2) (key := key2) (text := text2) (ak := ak2) (ax := ax2) (an := an2) (az := az2) GH.out.b
          obtain ⟨y0, y1, y2, y3, y4, y5, y6, y7, y8, y9, y10, y11⟩ := AC.ask (k := yk) (s := ys) (t := yt) (i := yi) (m := ym) (ad := yad) (n := yn) (ca := yca) (key := ykey) (text := ytext) (ak := bk) (ax := bx) (an := bn) (az := bz) hY
          go_wp2_with fail
          refine (sameAsk_any yk ys yt yi ym yad yn yca yx ykey ytext bk bx bn bz k1 s1 t1 i1 m1 ad1 n1 ca1 xs1 key1 text1 ak1 ax1 an1 az1 false _ hFA (OK1.out.keep GH.out.bl).x HOK (Lib.hid OK1.out.act) HSO).mono ?_
          rintro e W9 ⟨rfl, hb⟩
          have HB := Lib.hid (GH.out.bl.trans hb)
          clear hb
          go_wp2_with fail
          go_ret
          exact ⟨rfl, HB.out⟩
        · unfold askV
          have hbA : Bl W5 (W6.alloc (.cells #[.int .i64 0, .int .i64 0, .int .i64 0, .int .i64 0, .int .i64 0, .slice none 0 0, .string ⟨#[]⟩, .string ⟨#[]⟩, .int .i64 0, .float .f64 0, .int .i64 0, .string ⟨#[]⟩] 66)) := hb.alloc _
          replace GH := Lib.hid (GH.out.keep hbA)
          clear hbA hb hrd c0 c1 c2 c3 c4 c5 c6 c7 c8 c9 c10 c11 d0 d1 d2 d3 d4 d5 d6 d7 d8 d9 d10 d11
          obtain ⟨c0, c1, c2, c3, c4, c5, c6, c7, c8, c9, c10, c11⟩ := AC.ask (k := k1) (s := s1) (t := t1) (i := i1) (m := m1) (ad := ad1) (n := n1) (ca := ca1) (key := key1) (text := text1) (ak := ak1) (ax := ax1) (an := an1) (az := az1) GH.out.a
          obtain ⟨d0, d1, d2, d3, d4, d5, d6, d7, d8, d9, d10, d11⟩ := AC.ask (k := k2) (s := s2) (t := t2) (i := i2) (m := m2) (ad := ad2) (n := n2) (ca := ca2) (key := key2) (text := text2) (ak := ak2) (ax := ax2) (an := an2) (az := az2) GH.out.b
          go_wp2_with fail
          refine (alive25_any _).mono ?_
          rintro e W8 ⟨rfl, hb⟩
          have HB := Lib.hid (GH.out.bl.trans hb)
          clear hb
          go_wp2_with fail
          go_ret
          exact ⟨rfl, HB.out⟩
      · have hKe : M = (K : Int) := by rw [hK, if_neg hM0]
        clear hK
        subst hKe
        go_wp2_with fail
        refine (HQ.out _).mono ?_
        rintro e W6 (⟨⟨yk, ys, yt, yi, ym, yx, ykey, ytext, ⟨bk, bx, bn, bz⟩⟩, yad, yn, yca, hrd, rfl, hF, hb⟩ | ⟨hrd, rfl, hb⟩)
        · have hso := HCO.out _ hrd
          have hok := (rdAsk_back hrd).2.2
          have HSO := Lib.hid hso
          have HOK := Lib.hid hok
          clear hso hok hrd
          dsimp only at hF HOK
          unfold askV
          dsimp only
          have hbA : Bl W5 (W6.alloc (.cells #[.int .i64 yk, .int .i64 ys, .int .i64 yt, .int .i64 yi, .int .i64 ym, .slice yad yn yca, .string ykey, .string ytext, .int .i64 bk, .float .f64 bx, .int .i64 bn, .string bz] 66)) := hb.alloc _
          have hY := AC.new W6 _ rfl [.int .i64 yk, .int .i64 ys, .int .i64 yt, .int .i64 yi, .int .i64 ym, .slice yad yn yca, .string ykey, .string ytext, .int .i64 bk, .float .f64 bx, .int .i64 bn, .string bz] 66
          have hFA := hF.1.keep ((Bl.refl W6).alloc (.cells #[.int .i64 yk, .int .i64 ys, .int .i64 yt, .int .i64 yi, .int .i64 ym, .slice yad yn yca, .string ykey, .string ytext, .int .i64 bk, .float .f64 bx, .int .i64 bn, .string bz] 66))
          replace GH := Lib.hid (GH.out.keep hbA)
          clear hbA hb hF c0 c1 c2 c3 c4 c5 c6 c7 c8 c9 c10 c11 d0 d1 d2 d3 d4 d5 d6 d7 d8 d9 d10 d11
          obtain ⟨c0, c1, c2, c3, c4, c5, c6, c7, c8, c9, c10, c11⟩ := AC.ask (k := k1) (s := s1) (t := t1) (i := i1) (m := m1) (ad := ad1) (n := n1) (ca := ca1) (key := key1) (text := text1) (ak := ak1) (ax := ax1) (an := an1) (az := az1) GH.out.a
          obtain ⟨d0, d1, d2, d3, d4, d5, d6, d7, d8, d9, d10, d11⟩ := AC.ask (k := k2) (s := s2) (t := t2) (i := i2) (m := m2) (ad := ad2) (n := n2) (ca := ca2) (key := key2) (text := text2) (ak := ak2) (ax := ax2) (an := an2) (az := az2) GH.out.b
          go_wp2_with fail
          generalize W6.heap.size = gy at *
          generalize W6.alloc _ = W7 at *
          refine (alive25_any _).mono ?_
          rintro e W8 ⟨rfl, hb⟩
          replace hY := hY.keep hb
          replace hFA := hFA.keep hb
          replace GH := Lib.hid (GH.out.keep hb)
          clear hb c0 c1 c2 c3 c4 c5 c6 c7 c8 c9 c10 c11 d0 d1 d2 d3 d4 d5 d6 d7 d8 d9 d10 d11
          obtain ⟨c0, c1, c2, c3, c4, c5, c6, c7, c8, c9, c10, c11⟩ := AC.ask (k := k1) (s := s1) (t := t1) (i := i1) (m := m1) (ad := ad1) (n := n1) (ca := ca1) (key := key1) (text := text1) (ak := ak1) (ax := ax1) (an := an1) (az := az1) GH.out.a
          obtain ⟨d0, d1, d2, d3, d4, d5, d6, d7, d8, d9, d10, d11⟩ := AC.ask (k := k2) (s := s2) (t := t2) (i := i2) (m := m2) (ad := ad2) (n := n2) (ca := ca2) (key := key2) (text := text2) (ak := ak2) (ax := ax2) (an := an2) (az := az2) GH.out.b
          obtain ⟨y0, y1, y2, y3, y4, y5, y6, y7, y8, y9, y10, y11⟩ := AC.ask (k := yk) (s := ys) (t := yt) (i := yi) (m := ym) (ad := yad) (n := yn) (ca := yca) (key := ykey) (text := ytext) (ak := bk) (ax := bx) (an := bn) (az := bz) hY
          go_wp2_with fail
          refine (sameAsk_any yk ys yt yi ym yad yn yca yx ykey ytext bk bx bn bz k1 s1 t1 i1 m1 ad1 n1 ca1 xs1 key1 text1 ak1 ax1 an1 az1 false _ hFA (OK1.out.keep GH.out.bl).x HOK (Lib.hid OK1.out.act) HSO).mono ?_
          rintro e W9 ⟨rfl, hb⟩
          have HB := Lib.hid (GH.out.bl.trans hb)
          clear hb
          go_wp2_with fail
          go_ret
          exact ⟨rfl, HB.out⟩
        · unfold askV
          have hbA : Bl W5 (W6.alloc (.cells #[.int .i64 0, .int .i64 0, .int .i64 0, .int .i64 0, .int .i64 0, .slice none 0 0, .string ⟨#[]⟩, .string ⟨#[]⟩, .int .i64 0, .float .f64 0, .int .i64 0, .string ⟨#[]⟩] 66)) := hb.alloc _
          replace GH := Lib.hid (GH.out.keep hbA)
          clear hbA hb hrd c0 c1 c2 c3 c4 c5 c6 c7 c8 c9 c10 c11 d0 d1 d2 d3 d4 d5 d6 d7 d8 d9 d10 d11
          obtain ⟨c0, c1, c2, c3, c4, c5, c6, c7, c8, c9, c10, c11⟩ := AC.ask (k := k1) (s := s1) (t := t1) (i := i1) (m := m1) (ad := ad1) (n := n1) (ca := ca1) (key := key1) (text := text1) (ak := ak1) (ax := ax1) (an := an1) (az := az1) GH.out.a
          obtain ⟨d0, d1, d2, d3, d4, d5, d6, d7, d8, d9, d10, d11⟩ := AC.ask (k := k2) (s := s2) (t := t2) (i := i2) (m := m2) (ad := ad2) (n := n2) (ca := ca2) (key := key2) (text := text2) (ak := ak2) (ax := ax2) (an := an2) (az := az2) GH.out.b
          go_wp2_with fail
          refine (alive25_any _).mono ?_
          rintro e W8 ⟨rfl, hb⟩
          have HB := Lib.hid (GH.out.bl.trans hb)
          clear hb
          go_wp2_with fail
          go_ret
          exact ⟨rfl, HB.out⟩
theorem protoApart_walk (ad : Option Addr) (n ca : Nat) (A : AskL) (ad' : Option Addr) (n' ca' : Nat) (B : AskL) (cut : Int) (w : World) (ok1 : AskOk w A ad n) (ok2 : AskOk w B ad' n') (hcut : -9223372036854775808 ≤ cut ∧ cut ≤ 9223372036854775807) :
    Calls Try.prog 7 #[askV A.kind A.ses A.tx A.id A.num ad n ca A.key A.text A.act.k A.act.x A.act.n A.act.s, askV B.kind B.ses B.tx B.id B.num ad' n' ca' B.key B.text B.act.k B.act.x B.act.n B.act.s, .int .i64 cut] w fun e w' => e = .returned (.bool true) ∧ Bl w w' :=
  protoApart_gen A.kind A.ses A.tx A.id A.num ad n ca A.at_ A.key A.text A.act.k A.act.x A.act.n A.act.s B.kind B.ses B.tx B.id B.num ad' n' ca' B.at_ B.key B.text B.act.k B.act.x B.act.n B.act.s cut w ok1 ok2 hcut
end Go.Proofs.Ytechiehbigmjbaa
