import Derived.Test.YtibabgokmacnaaaGreatQProtoAsksUptoP20

/- proto.SameAsk; the first call that is alive. By an AI agent. -/
section
set_option linter.unusedVariables false
set_option linter.unusedSimpArgs false
namespace Go.Proofs.YtibabgokmacnaaaGreat
open Go.RowKit

/-- a frame that stands first -/
theorem frame_take4 (l m : List UInt8) (hl : l.length ≤ 65536) : getN ((frameL l ++ m).take 4) = (l.length : Int) := by
  unfold frameL
  rw [List.append_assoc, List.take_left' (numB_len _ _)]
  exact getN_numB 4 _ (by omega) (by rw [show (256 : Int) ^ 4 = 4294967296 from rfl]; omega)
theorem frame_lenF (l m : List UInt8) (hl : l.length ≤ 65536) : lenF (frameL l ++ m) = l.length := by
  unfold lenF
  rw [frame_take4 l m hl, Int.toNat_natCast]
theorem frame_drop8 (l m : List UInt8) : (frameL l ++ m).drop 8 = l ++ m := by
  unfold frameL
  rw [List.append_assoc, show (8 : Nat) = 4 + 4 from rfl, ← List.drop_drop, List.drop_left' (numB_len _ _), List.append_assoc, List.drop_left' (numB_len _ _)]
theorem frame_body (l m : List UInt8) (hl : l.length ≤ 65536) : bodyF (frameL l ++ m) = l := by
  unfold bodyF
  rw [frame_lenF l m hl, frame_drop8, List.take_left]
theorem frame_rest (l m : List UInt8) (hl : l.length ≤ 65536) : restF (frameL l ++ m) = m := by
  unfold restF
  rw [frame_lenF l m hl, ← List.drop_drop, frame_drop8, List.drop_left]
theorem frame_sum (l m : List UInt8) : getN (((frameL l ++ m).drop 4).take 4) = (sumL l : Int) := by
  unfold frameL
  rw [List.append_assoc, List.drop_left' (numB_len _ _), List.append_assoc, List.take_left' (numB_len _ _)]
  have := sumL_lt l
  exact getN_numB 4 _ (by omega) (by rw [show (256 : Int) ^ 4 = 4294967296 from rfl]; omega)
theorem frame_head (l m : List UInt8) (hl : l.length ≤ 65536) : headF (frameL l ++ m) = 1 := by
  unfold headF
  rw [frame_take4 l m hl, frame_drop8, frame_sum, List.length_append, frameL_len, Int.toNat_natCast, List.take_left]
  rw [if_neg (by omega), if_neg (by omega), if_neg (by omega), if_pos rfl]
/-- a frame of which something lacks -/
theorem frame_part (l m : List UInt8) (hl : l.length ≤ 65536) (h : m.length < 8 + l.length) (hp : ∃ r, m ++ r = frameL l) : headF m = 0 := by
  obtain ⟨r, hr⟩ := hp
  unfold headF
  by_cases h4 : m.length < 4
  · rw [if_pos h4]
  · have e : getN (m.take 4) = (l.length : Int) := by
      have := frame_take4 l [] hl
      rw [List.append_nil, ← hr, List.take_append_of_le_length (by omega)] at this
      exact this
    rw [if_neg h4, e, if_neg (by omega), if_pos (by omega)]

def aliveA : AskL := ⟨3, 1, 2, 0, 0, [], ⟨#[]⟩, ⟨#[]⟩, zeroAct⟩
def aliveK : AskL := ⟨3, 1, 2, 0, 0, [], strL [99, 49], ⟨#[]⟩, zeroAct⟩
theorem aliveK_valid : validA aliveK = true := by decide +kernel
def abF : List UInt8 := frameL [97, 98]
theorem abF_len : abF.length = 10 := by decide +kernel
theorem abF_split : abF.take 9 ++ [98] = abF := by decide +kernel
theorem abF_wait : headF (abF.take 9) = 0 := frame_part [97, 98] _ (by decide) (by rw [List.length_take, abF_len]; decide) ⟨_, List.take_append_drop 9 abF⟩
theorem abF_whole : headF abF = 1 := by have := frame_head [97, 98] [] (by decide); rwa [List.append_nil] at this
theorem abF_body : bodyF abF = [97, 98] := by have := frame_body [97, 98] [] (by decide); rwa [List.append_nil] at this
theorem abF_rest : restF abF = [] := by have := frame_rest [97, 98] [] (by decide); rwa [List.append_nil] at this
theorem RB2.fed {w : World} {g : Nat} {l : List UInt8} {b : Bool} (h : RB2 w g l b) (m : List UInt8) : RB2 (w.setCell ⟨g, 0, none⟩ (.string (strL m))) g m b := AC.setj h 0 _

set_option maxHeartbeats 3200000 in
set_option maxRecDepth 100000 in
theorem alive25_any (w : World) :
    Calls Tryz.prog 49 #[] w fun e w' => e = .returned (.bool true) ∧ Bl w w' := by
  have hsf := store_float
  have H1 := Lib.hid (fun w => frame_yes [97, 98] w (by decide))
  rw [show frameL [97, 98] = abF from rfl] at H1
  have z1 := strL_size abF
  rw [abF_len] at z1
  have e1 := strL_take abF 9
  go_enter Tryz.func49, Tryz.ntmps49
  go_wp2_with fail
  refine (H1.out _).mono ?_
  rintro e w1 ⟨rfl, hb1⟩
  have hR : RB2 (w1.alloc (.cells #[.string ⟨#[]⟩, .bool false] 145)) w1.heap.size [] false := AC.new w1 _ rfl [.string ⟨#[]⟩, .bool false] _
  have hB := hb1.alloc (.cells #[.string ⟨#[]⟩, .bool false] 145)
  have hlt : w.heap.size ≤ w1.heap.size := hb1.size
  clear hb1 H1
  have hmin : min (10 : Int) 1 = 1 := by decide
  have HK := Lib.hid (show AskOk w1 aliveK none 0 from ⟨IA.nil _ _, by decide, by decide, ⟨by decide, by decide, by decide, by decide⟩⟩)
  obtain ⟨f, hf⟩ : ∃ f, f = strL abF := ⟨_, rfl⟩
  rw [← hf] at z1 e1 ⊢
  have HF := Lib.hid hf
  clear hf
  have HW := Lib.hid hlt
  clear hlt
  go_wp2_with fail
  generalize hg : w1.heap.size = g at *
  have HG := Lib.hid hg
  clear hg
  generalize w1.alloc _ = W at *
  refine (feed_any g (abF.take 9) [] _ hR (by decide +kernel)).mono ?_
  rintro e w2 ⟨rfl, rfl⟩
  have hR2 := hR.fed ([] ++ abF.take 9)
  have hB2 : Bl w (W.setCell ⟨g, 0, none⟩ (.string (strL ([] ++ abF.take 9)))) := hB.setCell (p := ⟨g, 0, none⟩) HW.out _
  rw [List.nil_append] at hR2 hB2 ⊢
  clear hR hB
  generalize W.setCell ⟨g, 0, none⟩ (.string (strL (abF.take 9))) = W2 at *
  clear e1 hmin
  go_wp2_with fail
  refine (next0 g (abF.take 9) _ hR2 (by decide +kernel) abF_wait).mono ?_
  rintro e w3 ⟨rfl, rfl⟩
  go_wp2_with fail
  refine (feed_any g [98] (abF.take 9) _ hR2 (by decide +kernel)).mono ?_
  rintro e w3 ⟨rfl, rfl⟩
  have hR3 := hR2.fed (abF.take 9 ++ [98])
  have hB3 : Bl w (W2.setCell ⟨g, 0, none⟩ (.string (strL (abF.take 9 ++ [98])))) := hB2.setCell (p := ⟨g, 0, none⟩) HW.out _
  rw [abF_split] at hR3 hB3 ⊢
  clear hR2 hB2
  generalize W2.setCell ⟨g, 0, none⟩ (.string (strL abF)) = W3 at *
  go_wp2_with fail
  refine (next1 g abF _ hR3 (by decide +kernel) abF_whole).mono ?_
  rintro e w4 ⟨rfl, hb⟩
  have hR4 := (hR3.fed (restF abF)).keep hb
  have hB4 : Bl w w4 := (show Bl w (W3.setCell ⟨g, 0, none⟩ (.string (strL (restF abF)))) from hB3.setCell (p := ⟨g, 0, none⟩) HW.out _).trans hb
  rw [abF_body]
  rw [abF_rest] at hR4
  clear hR3 hB3 hb
  have q2 : (strL [97, 98]).toList = [97, 98] := by rw [ByteArray.toList_eq]; rfl
  obtain ⟨s1, hs1⟩ : ∃ s, s = strL [97, 98] := ⟨_, rfl⟩
  rw [← hs1] at q2 ⊢
  clear hs1
  have P : Hid (∀ w, Calls Tryz.prog 50 #[.agg #[.int .i64 3, .int .i64 1, .int .i64 2, .int .i64 0, .int .i64 0, .slice none 0 0, .string ⟨#[99, 49]⟩, .string ⟨#[]⟩, .int .i64 0, .float .f64 0, .int .i64 0, .string ⟨#[]⟩]] w fun e w' =>
      e = .returned (.tuple #[.string (strL (putAsk aliveK)), .int .i64 0]) ∧ Bl w w') := Lib.hid (fun w => by
    have := putAsk_any aliveK none 0 0 w ⟨IA.nil _ _, by decide, by decide, ⟨by decide, by decide, by decide, by decide⟩⟩
    rw [show putAskS aliveK = putAsk aliveK by unfold putAskS; rw [aliveK_valid, if_pos rfl], show putAskC aliveK = 0 by unfold putAskC; rw [aliveK_valid, if_pos rfl]] at this
    exact this)
  obtain ⟨y, hy1, hy2⟩ := rdAsk_put (a := aliveK) ⟨by decide, by decide, by decide, by decide⟩ aliveK_valid
  have Q := Lib.hid (fun w => getAsk_any (putAsk aliveK) w (by have := putAsk_len aliveK_valid; omega))
  have hy := sameAsk_iff.1 hy2
  have HY := Lib.hid hy1
  have HT := Lib.hid hy.2.2.1
  have HK2 := Lib.hid hy.2.2.2.2.2.2.1
  clear hy hy1 hy2
  go_wp2_with fail
  refine (P.out _).mono ?_
  rintro e w5 ⟨rfl, hb5⟩
  have hR5 := hR4.keep hb5
  have hB5 := hB4.trans hb5
  clear hR4 hB4 hb5 P
  obtain ⟨p, hp⟩ : ∃ p, p = strL (putAsk aliveK) := ⟨_, rfl⟩
  rw [← hp] at Q ⊢
  clear hp
  go_wp2_with fail
  refine (Q.out _).mono ?_
  rintro e w6 (⟨a, ad, n, ca, hr, rfl, -, hb6⟩ | ⟨hr, -, -⟩)
  case inr => rw [HY.out] at hr; cases hr
  rw [HY.out] at hr
  cases hr
  obtain ⟨yk, ys, yt, yi, ym, yx, ykey, ytext, ⟨ak, ax, an, az⟩⟩ := y
  obtain rfl : (2 : Int) = yt := HT.out
  obtain rfl : strL [99, 49] = ykey := HK2.out
  unfold askV
  dsimp only
  have hR6 := hR5.keep (hb6.alloc (.cells #[.int .i64 yk, .int .i64 ys, .int .i64 2, .int .i64 yi, .int .i64 ym, .slice ad n ca, .string (strL [99, 49]), .string ytext, .int .i64 ak, .float .f64 ax, .int .i64 an, .string az] 78))
  have hB6 := hB5.trans (hb6.alloc (.cells #[.int .i64 yk, .int .i64 ys, .int .i64 2, .int .i64 yi, .int .i64 ym, .slice ad n ca, .string (strL [99, 49]), .string ytext, .int .i64 ak, .float .f64 ax, .int .i64 an, .string az] 78))
  have hc := (AC.new w6 _ rfl [.int .i64 yk, .int .i64 ys, .int .i64 2, .int .i64 yi, .int .i64 ym, .slice ad n ca, .string (strL [99, 49]), .string ytext, .int .i64 ak, .float .f64 ax, .int .i64 an, .string az] 78)
  have q3 : (strL [99, 49]).toList = [99, 49] := by rw [ByteArray.toList_eq]; rfl
  clear hR5 hB5 hb6 Q HY HT HK2
  generalize strL [99, 49] = s2 at *
  go_wp2_with fail
  refine (left_any g [] false _ hR6 (by decide)).mono ?_
  rintro e w7 ⟨rfl, rfl⟩
  have c2 := hc.cell 2 _ rfl
  have c6 := hc.cell 6 _ rfl
  generalize w6.heap.size = g6 at *
  generalize w6.alloc _ = w7 at *
  go_wp2_with fail
  go_ret
  exact ⟨rfl, hB6⟩
end Go.Proofs.YtibabgokmacnaaaGreat
end

/- bedrocklaw25.light, proto.SameAsk (printed by wip/gen/apart0.py). By an AI agent. -/
section
set_option linter.unusedVariables false
set_option linter.unusedSimpArgs false
namespace Go.Proofs.YtibabgokmacnaaaGreat
open Go.RowKit

def lightB (n : Nat) (key text az : ByteArray) : Bool := decide (key.size + text.size + az.size ≤ 40000) && decide (n ≤ 40)
set_option maxHeartbeats 1600000 in
set_option maxRecDepth 100000 in
theorem light25_any (k s t i m : Int) (ad : Option Addr) (n ca : Nat) (xs : List Int) (key text : ByteArray) (ak : Int) (ax : Nat) (an : Int) (az : ByteArray) (w : World) (hk : key.size ≤ 140737488351232) (ht : text.size ≤ 140737488351232) (hz : az.size ≤ 140737488351232) :
    Calls Tryz.prog 48 #[.agg #[.int .i64 k, .int .i64 s, .int .i64 t, .int .i64 i, .int .i64 m, .slice ad n ca, .string key, .string text, .int .i64 ak, .float .f64 ax, .int .i64 an, .string az]] w fun e w' => e = .returned (.bool (lightB n key text az)) ∧ Bl w w' := by
  have hsf := store_float
  have hb := (Bl.refl w).alloc (.cells (askCs k s t i m ad n ca key text ak ax an az).toArray 78)
  by_cases h1 : key.size + text.size + az.size ≤ 40000
  · by_cases h2 : n ≤ 40
    · have q1 : decide (((key.size : Int) + (text.size : Int)) + (az.size : Int) ≤ 40000) = true := by rw [decide_eq_true_iff]; omega
      go_enter Tryz.func48, Tryz.ntmps48
      go_wp2_with fail
      go_ret
      exact ⟨ret_bool (by simp [lightB, h1, h2]; try omega), hb⟩
    · have q1 : decide (((key.size : Int) + (text.size : Int)) + (az.size : Int) ≤ 40000) = true := by rw [decide_eq_true_iff]; omega
      go_enter Tryz.func48, Tryz.ntmps48
      go_wp2_with fail
      go_ret
      exact ⟨ret_bool (by simp [lightB, h1, h2]; try omega), hb⟩
  · have q1 : decide (((key.size : Int) + (text.size : Int)) + (az.size : Int) ≤ 40000) = false := by rw [decide_eq_false_iff_not]; omega
    go_enter Tryz.func48, Tryz.ntmps48
    go_wp2_with fail
    go_ret
    exact ⟨ret_bool (by simp [lightB, h1]; try omega), hb⟩
theorem key_beqA (a b : ByteArray) : (a.toList == b.toList) = decide (a = b) := by
  rw [Bool.eq_iff_iff, beq_iff_eq, decide_eq_true_iff, ByteArray.toList_eq, ByteArray.toList_eq]
  exact ⟨fun h => ByteArray.ext (Array.toList_inj.1 h), fun h => by rw [h]⟩
/-- SameAsk's two boxes -/
structure AB (w W : World) (c1 c2 : List Value) : Prop where
  bl : Bl w W
  a : AC W w.heap.size c1
  b : AC W (w.heap.size + 1) c2
theorem AB.keep {w W W' : World} {c1 c2 : List Value} (h : AB w W c1 c2) (k : Bl W W') : AB w W' c1 c2 := ⟨h.bl.trans k, h.a.keep k, h.b.keep k⟩
theorem AB.new (w : World) (T U : TypeId) (c1 c2 : List Value) : AB w ((w.alloc (.cells c1.toArray T)).alloc (.cells c2.toArray U)) c1 c2 :=
  ⟨((Bl.refl w).alloc _).alloc _, (AC.new w w.heap.size rfl c1 T).keep ((Bl.refl _).alloc _), AC.new _ (w.heap.size + 1) (by simp) c2 U⟩
set_option maxHeartbeats 3200000 in
set_option maxRecDepth 100000 in
theorem sameAsk_any (k s t i m : Int) (ad : Option Addr) (n ca : Nat) (xs : List Int) (key text : ByteArray) (ak : Int) (ax : Nat) (an : Int) (az : ByteArray) (k' s' t' i' m' : Int) (ad' : Option Addr) (n' ca' : Nat) (xs' : List Int) (key' text' : ByteArray) (ak' : Int) (ax' : Nat) (an' : Int) (az' : ByteArray) (r : Bool) (w : World) (hx : IA w ad n xs) (hy : IA w ad' n' xs')
    (oa : Hid (ActL.Ok ⟨ak, ax, an, az⟩)) (ob : Hid (ActL.Ok ⟨ak', ax', an', az'⟩)) (hr : Hid (sameAsk ⟨k, s, t, i, m, xs, key, text, ⟨ak, ax, an, az⟩⟩ ⟨k', s', t', i', m', xs', key', text', ⟨ak', ax', an', az'⟩⟩ = r)) :
    Calls Tryz.prog 53 #[.agg #[.int .i64 k, .int .i64 s, .int .i64 t, .int .i64 i, .int .i64 m, .slice ad n ca, .string key, .string text, .int .i64 ak, .float .f64 ax, .int .i64 an, .string az], .agg #[.int .i64 k', .int .i64 s', .int .i64 t', .int .i64 i', .int .i64 m', .slice ad' n' ca', .string key', .string text', .int .i64 ak', .float .f64 ax', .int .i64 an', .string az']] w fun e w' => e = .returned (.bool r) ∧ Bl w w' := by
  have hsf := store_float
  have G := AB.new w 78 78 (askCs k s t i m ad n ca key text ak ax an az) (askCs k' s' t' i' m' ad' n' ca' key' text' ak' ax' an' az')
  unfold askCs at G
  have HX := Lib.hid (hx.keep G.bl)
  have HY := Lib.hid (hy.keep G.bl)
  clear hx hy
  obtain ⟨c0, c1, c2, c3, c4, c5, c6, c7, c8, c9, c10, c11⟩ := AC.ask (k := k) (s := s) (t := t) (i := i) (m := m) (ad := ad) (n := n) (ca := ca) (key := key) (text := text) (ak := ak) (ax := ax) (an := an) (az := az) G.a
  obtain ⟨d0, d1, d2, d3, d4, d5, d6, d7, d8, d9, d10, d11⟩ := AC.ask (k := k') (s := s') (t := t') (i := i') (m := m') (ad := ad') (n := n') (ca := ca') (key := key') (text := text') (ak := ak') (ax := ax') (an := an') (az := az') G.b
  have GH := Lib.hid G
  clear G
  go_enter Tryz.func53, Tryz.ntmps53
  go_upto_region 1 with fail
  generalize (w.alloc _).alloc _ = W at *
  by_cases h0 : k = k'
  case neg =>
    have q0 : ((k : Int) == k') = false := by rw [beq_eq_false_iff_ne]; exact h0
    go_wp2_with fail
    go_ret
    exact ⟨ret_bool (by rw [← hr.out]; simp [sameAsk, h0]), GH.out.bl⟩
  have q0 : ((k : Int) == k') = true := by rw [beq_iff_eq]; exact h0
  have p0 := Lib.hid h0
  clear h0
  by_cases h1 : s = s'
  case neg =>
    have q1 : ((s : Int) == s') = false := by rw [beq_eq_false_iff_ne]; exact h1
    go_wp2_with fail
    go_ret
    exact ⟨ret_bool (by rw [← hr.out]; simp [sameAsk, p0.out, h1]), GH.out.bl⟩
  have q1 : ((s : Int) == s') = true := by rw [beq_iff_eq]; exact h1
  have p1 := Lib.hid h1
  clear h1
  by_cases h2 : t = t'
  case neg =>
    have q2 : ((t : Int) == t') = false := by rw [beq_eq_false_iff_ne]; exact h2
    go_wp2_with fail
    go_ret
    exact ⟨ret_bool (by rw [← hr.out]; simp [sameAsk, p0.out, p1.out, h2]), GH.out.bl⟩
  have q2 : ((t : Int) == t') = true := by rw [beq_iff_eq]; exact h2
  have p2 := Lib.hid h2
  clear h2
  by_cases h3 : i = i'
  case neg =>
    have q3 : ((i : Int) == i') = false := by rw [beq_eq_false_iff_ne]; exact h3
    go_wp2_with fail
    go_ret
    exact ⟨ret_bool (by rw [← hr.out]; simp [sameAsk, p0.out, p1.out, p2.out, h3]), GH.out.bl⟩
  have q3 : ((i : Int) == i') = true := by rw [beq_iff_eq]; exact h3
  have p3 := Lib.hid h3
  clear h3
  by_cases h4 : m = m'
  case neg =>
    have q4 : ((m : Int) == m') = false := by rw [beq_eq_false_iff_ne]; exact h4
    go_wp2_with fail
    go_ret
    exact ⟨ret_bool (by rw [← hr.out]; simp [sameAsk, p0.out, p1.out, p2.out, p3.out, h4]), GH.out.bl⟩
  have q4 : ((m : Int) == m') = true := by rw [beq_iff_eq]; exact h4
  have p4 := Lib.hid h4
  clear h4
  go_wp2_with fail
  refine (same_any ad ad' n n' ca ca' xs xs' _ HX.out HY.out).mono ?_
  rintro e W2 ⟨rfl, hb2⟩
  replace GH := Lib.hid (GH.out.keep hb2)
  clear hb2 c0 c1 c2 c3 c4 c5 c6 c7 c8 c9 c10 c11 d0 d1 d2 d3 d4 d5 d6 d7 d8 d9 d10 d11
  obtain ⟨c0, c1, c2, c3, c4, c5, c6, c7, c8, c9, c10, c11⟩ := AC.ask (k := k) (s := s) (t := t) (i := i) (m := m) (ad := ad) (n := n) (ca := ca) (key := key) (text := text) (ak := ak) (ax := ax) (an := an) (az := az) GH.out.a
  obtain ⟨d0, d1, d2, d3, d4, d5, d6, d7, d8, d9, d10, d11⟩ := AC.ask (k := k') (s := s') (t := t') (i := i') (m := m') (ad := ad') (n := n') (ca := ca') (key := key') (text := text') (ak := ak') (ax := ax') (an := an') (az := az') GH.out.b
  by_cases h5 : xs = xs'
  case neg =>
    have H5 := Lib.hid h5
    rw [decide_eq_false h5]
    clear h5
    go_wp2_with fail
    go_ret
    exact ⟨ret_bool (by rw [← hr.out]; simp [sameAsk, p0.out, p1.out, p2.out, p3.out, p4.out, H5.out]), GH.out.bl⟩
  have p5 := Lib.hid h5
  rw [decide_eq_true h5]
  clear h5
  by_cases h6 : key = key'
  case neg =>
    have q6 : (key.toList == key'.toList) = false := by rw [key_beqA]; exact decide_eq_false h6
    have H6 := Lib.hid h6
    clear h6
    go_wp2_with fail
    go_ret
    exact ⟨ret_bool (by rw [← hr.out]; simp [sameAsk, p0.out, p1.out, p2.out, p3.out, p4.out, p5.out, H6.out]), GH.out.bl⟩
  have q6 : (key.toList == key'.toList) = true := by rw [key_beqA]; exact decide_eq_true h6
  have p6 := Lib.hid h6
  clear h6
  by_cases h7 : text = text'
  case neg =>
    have q7 : (text.toList == text'.toList) = false := by rw [key_beqA]; exact decide_eq_false h7
    have H7 := Lib.hid h7
    clear h7
    go_wp2_with fail
    go_ret
    exact ⟨ret_bool (by rw [← hr.out]; simp [sameAsk, p0.out, p1.out, p2.out, p3.out, p4.out, p5.out, p6.out, H7.out]), GH.out.bl⟩
  have q7 : (text.toList == text'.toList) = true := by rw [key_beqA]; exact decide_eq_true h7
  have p7 := Lib.hid h7
  clear h7
  go_wp2_with fail
  refine (sameA_agg ak ax an az ak' ax' an' az' r _ (Lib.hid (by rw [← hr.out]; simp [sameAsk, p0.out, p1.out, p2.out, p3.out, p4.out, p5.out, p6.out, p7.out])) oa ob).mono ?_
  rintro e W3 ⟨rfl, hb3⟩
  have HB := Lib.hid (GH.out.bl.trans hb3)
  clear hb3
  go_wp2_with fail
  go_ret
  exact ⟨rfl, HB.out⟩
end Go.Proofs.YtibabgokmacnaaaGreat
end
