/- bedrocklaw25.light, proto.SameAsk (printed by wip/gen/apart0.py). By an AI agent. -/
import Derived.Test.YtechiehbigmjbaaProt9
set_option linter.unusedVariables false
set_option linter.unusedSimpArgs false
namespace Go.Proofs.Ytechiehbigmjbaa
open Go.RowKit

def lightB (n : Nat) (key text az : ByteArray) : Bool := decide (key.size + text.size + az.size ≤ 40000) && decide (n ≤ 40)
set_option maxHeartbeats 1600000 in
set_option maxRecDepth 100000 in
theorem light25_any (k s t i m : Int) (ad : Option Addr) (n ca : Nat) (xs : List Int) (key text : ByteArray) (ak : Int) (ax : Nat) (an : Int) (az : ByteArray) (w : World) (hk : key.size ≤ 140737488351232) (ht : text.size ≤ 140737488351232) (hz : az.size ≤ 140737488351232) :
    Calls Try.prog 34 #[.agg #[.int .i64 k, .int .i64 s, .int .i64 t, .int .i64 i, .int .i64 m, .slice ad n ca, .string key, .string text, .int .i64 ak, .float .f64 ax, .int .i64 an, .string az]] w fun e w' => e = .returned (.bool (lightB n key text az)) ∧ Bl w w' := by
  have hsf := store_float
  have hb := (Bl.refl w).alloc (.cells (askCs k s t i m ad n ca key text ak ax an az).toArray 66)
  by_cases h1 : key.size + text.size + az.size ≤ 40000
  · by_cases h2 : n ≤ 40
    · have q1 : decide (((key.size : Int) + (text.size : Int)) + (az.size : Int) ≤ 40000) = true := by rw [decide_eq_true_iff]; omega
      go_enter Try.func34, Try.ntmps34
      go_wp2_with fail
      go_ret
      exact ⟨ret_bool (by simp [lightB, h1, h2]; try omega), hb⟩
    · have q1 : decide (((key.size : Int) + (text.size : Int)) + (az.size : Int) ≤ 40000) = true := by rw [decide_eq_true_iff]; omega
      go_enter Try.func34, Try.ntmps34
      go_wp2_with fail
      go_ret
      exact ⟨ret_bool (by simp [lightB, h1, h2]; try omega), hb⟩
  · have q1 : decide (((key.size : Int) + (text.size : Int)) + (az.size : Int) ≤ 40000) = false := by rw [decide_eq_false_iff_not]; omega
    go_enter Try.func34, Try.ntmps34
    go_wp2_with fail
    go_ret
    exact ⟨ret_bool (by simp [lightB, h1]; try omega), hb⟩
theorem key_beqA (a b : ByteArray) : (a.toList == b.toList) = decide (a = b) := by
  rw [Bool.eq_iff_iff, beq_iff_eq, decide_eq_true_iff, ByteArray.toList_eq, ByteArray.toList_eq]
  exact ⟨fun h => ByteArray.ext (Array.toList_inj.1 h), fun h => by rw [h]⟩
/-- SameAsk's two boxes -/
structure AB (w W : World) (c1 c2 : List Value) : Prop where
  bl : Bl w W
  a : AC W w.heap.size c1
  b : AC W (w.heap.size + 1) c2
theorem AB.keep {w W W' : World} {c1 c2 : List Value} (h : AB w W c1 c2) (k : Bl W W') : AB w W' c1 c2 := ⟨h.bl.trans k, h.a.keep k, h.b.keep k⟩
theorem AB.new (w : World) (T U : TypeId) (c1 c2 : List Value) : AB w ((w.alloc (.cells c1.toArray T)).alloc (.cells c2.toArray U)) c1 c2 :=
  ⟨((Bl.refl w).alloc _).alloc _, (AC.new w w.heap.size rfl c1 T).keep ((Bl.refl _).alloc _), AC.new _ (w.heap.size + 1) (by simp) c2 U⟩
set_option maxHeartbeats 3200000 in
set_option maxRecDepth 100000 in
theorem sameAsk_any (k s t i m : Int) (ad : Option Addr) (n ca : Nat) (xs : List Int) (key text : ByteArray) (ak : Int) (ax : Nat) (an : Int) (az : ByteArray) (k' s' t' i' m' : Int) (ad' : Option Addr) (n' ca' : Nat) (xs' : List Int) (key' text' : ByteArray) (ak' : Int) (ax' : Nat) (an' : Int) (az' : ByteArray) (r : Bool) (w : World) (hx : IA w ad n xs) (hy : IA w ad' n' xs')
    (oa : Hid (ActL.Ok ⟨ak, ax, an, az⟩)) (ob : Hid (ActL.Ok ⟨ak', ax', an', az'⟩)) (hr : Hid (sameAsk ⟨k, s, t, i, m, xs, key, text, ⟨ak, ax, an, az⟩⟩ ⟨k', s', t', i', m', xs', key', text', ⟨ak', ax', an', az'⟩⟩ = r)) :
    Calls Try.prog 37 #[.agg #[.int .i64 k, .int .i64 s, .int .i64 t, .int .i64 i, .int .i64 m, .slice ad n ca, .string key, .string text, .int .i64 ak, .float .f64 ax, .int .i64 an, .string az], .agg #[.int .i64 k', .int .i64 s', .int .i64 t', .int .i64 i', .int .i64 m', .slice ad' n' ca', .string key', .string text', .int .i64 ak', .float .f64 ax', .int .i64 an', .string az']] w fun e w' => e = .returned (.bool r) ∧ Bl w w' := by
  have hsf := store_float
  have G := AB.new w 66 66 (askCs k s t i m ad n ca key text ak ax an az) (askCs k' s' t' i' m' ad' n' ca' key' text' ak' ax' an' az')
  unfold askCs at G
  have HX := Lib.hid (hx.keep G.bl)
  have HY := Lib.hid (hy.keep G.bl)
  clear hx hy
  obtain ⟨c0, c1, c2, c3, c4, c5, c6, c7, c8, c9, c10, c11⟩ := AC.ask (k := k) (s := s) (t := t) (i := i) (m := m) (ad := ad) (n := n) (ca := ca) (key := key) (text := text) (ak := ak) (ax := ax) (an := an) (az := az) G.a
  obtain ⟨d0, d1, d2, d3, d4, d5, d6, d7, d8, d9, d10, d11⟩ := AC.ask (k := k') (s := s') (t := t') (i := i') (m := m') (ad := ad') (n := n') (ca := ca') (key := key') (text := text') (ak := ak') (ax := ax') (an := an') (az := az') G.b
  have GH := Lib.hid G
  clear G
  go_enter Try.func37, Try.ntmps37
  go_upto_region 1 with fail
  generalize (w.alloc _).alloc _ = W at *
  by_cases h0 : k = k'
  case neg =>
    have q0 : ((k : Int) == k') = false := by rw [beq_eq_false_iff_ne]; exact h0
    go_wp2_with fail
    go_ret
    exact ⟨ret_bool (by rw [← hr.out]; simp [sameAsk, h0]), GH.out.bl⟩
  have q0 : ((k : Int) == k') = true := by rw [beq_iff_eq]; exact h0
  have p0 := Lib.hid h0
  clear h0
  by_cases h1 : s = s'
  case neg =>
    have q1 : ((s : Int) == s') = false := by rw [beq_eq_false_iff_ne]; exact h1
    go_wp2_with fail
    go_ret
    exact ⟨ret_bool (by rw [← hr.out]; simp [sameAsk, p0.out, h1]), GH.out.bl⟩
  have q1 : ((s : Int) == s') = true := by rw [beq_iff_eq]; exact h1
  have p1 := Lib.hid h1
  clear h1
  by_cases h2 : t = t'
  case neg =>
    have q2 : ((t : Int) == t') = false := by rw [beq_eq_false_iff_ne]; exact h2
    go_wp2_with fail
    go_ret
    exact ⟨ret_bool (by rw [← hr.out]; simp [sameAsk, p0.out, p1.out, h2]), GH.out.bl⟩
  have q2 : ((t : Int) == t') = true := by rw [beq_iff_eq]; exact h2
  have p2 := Lib.hid h2
  clear h2
  by_cases h3 : i = i'
  case neg =>
    have q3 : ((i : Int) == i') = false := by rw [beq_eq_false_iff_ne]; exact h3
    go_wp2_with fail
    go_ret
    exact ⟨ret_bool (by rw [← hr.out]; simp [sameAsk, p0.out, p1.out, p2.out, h3]), GH.out.bl⟩
  have q3 : ((i : Int) == i') = true := by rw [beq_iff_eq]; exact h3
  have p3 := Lib.hid h3
  clear h3
  by_cases h4 : m = m'
  case neg =>
    have q4 : ((m : Int) == m') = false := by rw [beq_eq_false_iff_ne]; exact h4
    go_wp2_with fail
    go_ret
    exact ⟨ret_bool (by rw [← hr.out]; simp [sameAsk, p0.out, p1.out, p2.out, p3.out, h4]), GH.out.bl⟩
  have q4 : ((m : Int) == m') = true := by rw [beq_iff_eq]; exact h4
  have p4 := Lib.hid h4
  clear h4
  go_wp2_with fail
  refine (same_any ad ad' n n' ca ca' xs xs' _ HX.out HY.out).mono ?_
  rintro e W2 ⟨rfl, hb2⟩
  replace GH := Lib.hid (GH.out.keep hb2)
  clear hb2 c0 c1 c2 c3 c4 c5 c6 c7 c8 c9 c10 c11 d0 d1 d2 d3 d4 d5 d6 d7 d8 d9 d10 d11
  obtain ⟨c0, c1, c2, c3, c4, c5, c6, c7, c8, c9, c10, c11⟩ := AC.ask (k := k) (s := s) (t := t) (i := i) (m := m) (ad := ad) (n := n) (ca := ca) (key := key) (text := text) (ak := ak) (ax := ax) (an := an) (az := az) GH.out.a
  obtain ⟨d0, d1, d2, d3, d4, d5, d6, d7, d8, d9, d10, d11⟩ := AC.ask (k := k') (s := s') (t := t') (i := i') (m := m') (ad := ad') (n := n') (ca := ca') (key := key') (text := text') (ak := ak') (ax := ax') (an := an') (az := az') GH.out.b
  by_cases h5 : xs = xs'
  case neg =>
    have H5 := Lib.hid h5
    rw [decide_eq_false h5]
    clear h5
    go_wp2_with fail
    go_ret
    exact ⟨ret_bool (by rw [← hr.out]; simp [sameAsk, p0.out, p1.out, p2.out, p3.out, p4.out, H5.out]), GH.out.bl⟩
  have p5 := Lib.hid h5
  rw [decide_eq_true h5]
  clear h5
  by_cases h6 : key = key'
  case neg =>
    have q6 : (key.toList == key'.toList) = false := by rw [key_beqA]; exact decide_eq_false h6
    have H6 := Lib.hid h6
    clear h6
    go_wp2_with fail
    go_ret
    exact ⟨ret_bool (by rw [← hr.out]; simp [sameAsk, p0.out, p1.out, p2.out, p3.out, p4.out, p5.out, H6.out]), GH.out.bl⟩
  have q6 : (key.toList == key'.toList) = true := by rw [key_beqA]; exact decide_eq_true h6
  have p6 := Lib.hid h6
  clear h6
  by_cases h7 : text = text'
  case neg =>
    have q7 : (text.toList == text'.toList) = false := by rw [key_beqA]; exact decide_eq_false h7
    have H7 := Lib.hid h7
    clear h7
    go_wp2_with fail
    go_ret
    exact ⟨ret_bool (by rw [← hr.out]; simp [sameAsk, p0.out, p1.out, p2.out, p3.out, p4.out, p5.out, p6.out, H7.out]), GH.out.bl⟩
  have q7 : (text.toList == text'.toList) = true := by rw [key_beqA]; exact decide_eq_true h7
  have p7 := Lib.hid h7
  clear h7
  go_wp2_with fail
  refine (sameA_agg ak ax an az ak' ax' an' az' r _ (Lib.hid (by rw [← hr.out]; simp [sameAsk, p0.out, p1.out, p2.out, p3.out, p4.out, p5.out, p6.out, p7.out])) oa ob).mono ?_
  rintro e W3 ⟨rfl, hb3⟩
  have HB := Lib.hid (GH.out.bl.trans hb3)
  clear hb3
  go_wp2_with fail
  go_ret
  exact ⟨rfl, HB.out⟩
end Go.Proofs.Ytechiehbigmjbaa
