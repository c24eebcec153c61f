/- proto.SameAsk; the first call that is alive. By an AI agent. -/
import Derived.Test.YtechiehbigmjbaaProt8
import Derived.Test.YtechiehbigmjbaaVecS
set_option linter.unusedVariables false
set_option linter.unusedSimpArgs false
namespace Go.Proofs.Ytechiehbigmjbaa
open Go.RowKit

/-- a frame that stands first -/
theorem frame_take4 (l m : List UInt8) (hl : l.length ≤ 65536) : getN ((frameL l ++ m).take 4) = (l.length : Int) := by
  unfold frameL
  rw [List.append_assoc, List.take_left' (numB_len _ _)]
  exact getN_numB 4 _ (by omega) (by rw [show (256 : Int) ^ 4 = 4294967296 from rfl]; omega)
theorem frame_lenF (l m : List UInt8) (hl : l.length ≤ 65536) : lenF (frameL l ++ m) = l.length := by
  unfold lenF
  rw [frame_take4 l m hl, Int.toNat_natCast]
theorem frame_drop8 (l m : List UInt8) : (frameL l ++ m).drop 8 = l ++ m := by
  unfold frameL
  rw [List.append_assoc, show (8 : Nat) = 4 + 4 from rfl, ← List.drop_drop, List.drop_left' (numB_len _ _), List.append_assoc, List.drop_left' (numB_len _ _)]
theorem frame_body (l m : List UInt8) (hl : l.length ≤ 65536) : bodyF (frameL l ++ m) = l := by
  unfold bodyF
  rw [frame_lenF l m hl, frame_drop8, List.take_left]
theorem frame_rest (l m : List UInt8) (hl : l.length ≤ 65536) : restF (frameL l ++ m) = m := by
  unfold restF
  rw [frame_lenF l m hl, ← List.drop_drop, frame_drop8, List.drop_left]
theorem frame_sum (l m : List UInt8) : getN (((frameL l ++ m).drop 4).take 4) = (sumL l : Int) := by
  unfold frameL
  rw [List.append_assoc, List.drop_left' (numB_len _ _), List.append_assoc, List.take_left' (numB_len _ _)]
  have := sumL_lt l
  exact getN_numB 4 _ (by omega) (by rw [show (256 : Int) ^ 4 = 4294967296 from rfl]; omega)
theorem frame_head (l m : List UInt8) (hl : l.length ≤ 65536) : headF (frameL l ++ m) = 1 := by
  unfold headF
  rw [frame_take4 l m hl, frame_drop8, frame_sum, List.length_append, frameL_len, Int.toNat_natCast, List.take_left]
  rw [if_neg (by omega), if_neg (by omega), if_neg (by omega), if_pos rfl]
/-- a frame of which something lacks -/
theorem frame_part (l m : List UInt8) (hl : l.length ≤ 65536) (h : m.length < 8 + l.length) (hp : ∃ r, m ++ r = frameL l) : headF m = 0 := by
  obtain ⟨r, hr⟩ := hp
  unfold headF
  by_cases h4 : m.length < 4
  · rw [if_pos h4]
  · have e : getN (m.take 4) = (l.length : Int) := by
      have := frame_take4 l [] hl
      rw [List.append_nil, ← hr, List.take_append_of_le_length (by omega)] at this
      exact this
    rw [if_neg h4, e, if_neg (by omega), if_pos (by omega)]

def aliveA : AskL := ⟨3, 1, 2, 0, 0, [], ⟨#[]⟩, ⟨#[]⟩, zeroAct⟩
def aliveK : AskL := ⟨3, 1, 2, 0, 0, [], strL [99, 49], ⟨#[]⟩, zeroAct⟩
theorem aliveK_valid : validA aliveK = true := by decide +kernel
def abF : List UInt8 := frameL [97, 98]
theorem abF_len : abF.length = 10 := by decide +kernel
theorem abF_split : abF.take 9 ++ [98] = abF := by decide +kernel
theorem abF_wait : headF (abF.take 9) = 0 := frame_part [97, 98] _ (by decide) (by rw [List.length_take, abF_len]; decide) ⟨_, List.take_append_drop 9 abF⟩
theorem abF_whole : headF abF = 1 := by have := frame_head [97, 98] [] (by decide); rwa [List.append_nil] at this
theorem abF_body : bodyF abF = [97, 98] := by have := frame_body [97, 98] [] (by decide); rwa [List.append_nil] at this
theorem abF_rest : restF abF = [] := by have := frame_rest [97, 98] [] (by decide); rwa [List.append_nil] at this
theorem RB2.fed {w : World} {g : Nat} {l : List UInt8} {b : Bool} (h : RB2 w g l b) (m : List UInt8) : RB2 (w.setCell ⟨g, 0, none⟩ (.string (strL m))) g m b := AC.setj h 0 _

set_option maxHeartbeats 3200000 in
set_option maxRecDepth 100000 in
theorem alive25_any (w : World) :
    Calls Try.prog 26 #[] w fun e w' => e = .returned (.bool true) ∧ Bl w w' := by
  have hsf := store_float
  have H1 := Lib.hid (fun w => frame_yes [97, 98] w (by decide))
  rw [show frameL [97, 98] = abF from rfl] at H1
  have z1 := strL_size abF
  rw [abF_len] at z1
  have e1 := strL_take abF 9
  go_enter Try.func26, Try.ntmps26
  go_wp2_with fail
  refine (H1.out _).mono ?_
  rintro e w1 ⟨rfl, hb1⟩
  have hR : RB2 (w1.alloc (.cells #[.string ⟨#[]⟩, .bool false] 48)) w1.heap.size [] false := AC.new w1 _ rfl [.string ⟨#[]⟩, .bool false] _
  have hB := hb1.alloc (.cells #[.string ⟨#[]⟩, .bool false] 48)
  have hlt : w.heap.size ≤ w1.heap.size := hb1.size
  clear hb1 H1
  have hmin : min (10 : Int) 1 = 1 := by decide
  have HK := Lib.hid (show AskOk w1 aliveK none 0 from ⟨IA.nil _ _, by decide, by decide, ⟨by decide, by decide, by decide, by decide⟩⟩)
  obtain ⟨f, hf⟩ : ∃ f, f = strL abF := ⟨_, rfl⟩
  rw [← hf] at z1 e1 ⊢
  have HF := Lib.hid hf
  clear hf
  have HW := Lib.hid hlt
  clear hlt
  go_wp2_with fail
  generalize hg : w1.heap.size = g at *
  have HG := Lib.hid hg
  clear hg
  generalize w1.alloc _ = W at *
  refine (feed_any g (abF.take 9) [] _ hR (by decide +kernel)).mono ?_
  rintro e w2 ⟨rfl, rfl⟩
  have hR2 := hR.fed ([] ++ abF.take 9)
  have hB2 : Bl w (W.setCell ⟨g, 0, none⟩ (.string (strL ([] ++ abF.take 9)))) := hB.setCell (p := ⟨g, 0, none⟩) HW.out _
  rw [List.nil_append] at hR2 hB2 ⊢
  clear hR hB
  generalize W.setCell ⟨g, 0, none⟩ (.string (strL (abF.take 9))) = W2 at *
  clear e1 hmin
  go_wp2_with fail
  refine (next0 g (abF.take 9) _ hR2 (by decide +kernel) abF_wait).mono ?_
  rintro e w3 ⟨rfl, rfl⟩
  go_wp2_with fail
  refine (feed_any g [98] (abF.take 9) _ hR2 (by decide +kernel)).mono ?_
  rintro e w3 ⟨rfl, rfl⟩
  have hR3 := hR2.fed (abF.take 9 ++ [98])
  have hB3 : Bl w (W2.setCell ⟨g, 0, none⟩ (.string (strL (abF.take 9 ++ [98])))) := hB2.setCell (p := ⟨g, 0, none⟩) HW.out _
  rw [abF_split] at hR3 hB3 ⊢
  clear hR2 hB2
  generalize W2.setCell ⟨g, 0, none⟩ (.string (strL abF)) = W3 at *
  go_wp2_with fail
  refine (next1 g abF _ hR3 (by decide +kernel) abF_whole).mono ?_
  rintro e w4 ⟨rfl, hb⟩
  have hR4 := (hR3.fed (restF abF)).keep hb
  have hB4 : Bl w w4 := (show Bl w (W3.setCell ⟨g, 0, none⟩ (.string (strL (restF abF)))) from hB3.setCell (p := ⟨g, 0, none⟩) HW.out _).trans hb
  rw [abF_body]
  rw [abF_rest] at hR4
  clear hR3 hB3 hb
  have q2 : (strL [97, 98]).toList = [97, 98] := by rw [ByteArray.toList_eq]; rfl
  obtain ⟨s1, hs1⟩ : ∃ s, s = strL [97, 98] := ⟨_, rfl⟩
  rw [← hs1] at q2 ⊢
  clear hs1
  have P : Hid (∀ w, Calls Try.prog 35 #[.agg #[.int .i64 3, .int .i64 1, .int .i64 2, .int .i64 0, .int .i64 0, .slice none 0 0, .string ⟨#[99, 49]⟩, .string ⟨#[]⟩, .int .i64 0, .float .f64 0, .int .i64 0, .string ⟨#[]⟩]] w fun e w' =>
      e = .returned (.tuple #[.string (strL (putAsk aliveK)), .int .i64 0]) ∧ Bl w w') := Lib.hid (fun w => by
    have := putAsk_any aliveK none 0 0 w ⟨IA.nil _ _, by decide, by decide, ⟨by decide, by decide, by decide, by decide⟩⟩
    rw [show putAskS aliveK = putAsk aliveK by unfold putAskS; rw [aliveK_valid, if_pos rfl], show putAskC aliveK = 0 by unfold putAskC; rw [aliveK_valid, if_pos rfl]] at this
    exact this)
  obtain ⟨y, hy1, hy2⟩ := rdAsk_put (a := aliveK) ⟨by decide, by decide, by decide, by decide⟩ aliveK_valid
  have Q := Lib.hid (fun w => getAsk_any (putAsk aliveK) w (by have := putAsk_len aliveK_valid; omega))
  have hy := sameAsk_iff.1 hy2
  have HY := Lib.hid hy1
  have HT := Lib.hid hy.2.2.1
  have HK2 := Lib.hid hy.2.2.2.2.2.2.1
  clear hy hy1 hy2
  go_wp2_with fail
  refine (P.out _).mono ?_
  rintro e w5 ⟨rfl, hb5⟩
  have hR5 := hR4.keep hb5
  have hB5 := hB4.trans hb5
  clear hR4 hB4 hb5 P
  obtain ⟨p, hp⟩ : ∃ p, p = strL (putAsk aliveK) := ⟨_, rfl⟩
  rw [← hp] at Q ⊢
  clear hp
  go_wp2_with fail
  refine (Q.out _).mono ?_
  rintro e w6 (⟨a, ad, n, ca, hr, rfl, -, hb6⟩ | ⟨hr, -, -⟩)
  case inr => rw [HY.out] at hr; cases hr
  rw [HY.out] at hr
  cases hr
  obtain ⟨yk, ys, yt, yi, ym, yx, ykey, ytext, ⟨ak, ax, an, az⟩⟩ := y
  obtain rfl : (2 : Int) = yt := HT.out
  obtain rfl : strL [99, 49] = ykey := HK2.out
  unfold askV
  dsimp only
  have hR6 := hR5.keep (hb6.alloc (.cells #[.int .i64 yk, .int .i64 ys, .int .i64 2, .int .i64 yi, .int .i64 ym, .slice ad n ca, .string (strL [99, 49]), .string ytext, .int .i64 ak, .float .f64 ax, .int .i64 an, .string az] 66))
  have hB6 := hB5.trans (hb6.alloc (.cells #[.int .i64 yk, .int .i64 ys, .int .i64 2, .int .i64 yi, .int .i64 ym, .slice ad n ca, .string (strL [99, 49]), .string ytext, .int .i64 ak, .float .f64 ax, .int .i64 an, .string az] 66))
  have hc := (AC.new w6 _ rfl [.int .i64 yk, .int .i64 ys, .int .i64 2, .int .i64 yi, .int .i64 ym, .slice ad n ca, .string (strL [99, 49]), .string ytext, .int .i64 ak, .float .f64 ax, .int .i64 an, .string az] 66)
  have q3 : (strL [99, 49]).toList = [99, 49] := by rw [ByteArray.toList_eq]; rfl
  clear hR5 hB5 hb6 Q HY HT HK2
  generalize strL [99, 49] = s2 at *
  go_wp2_with fail
  refine (left_any g [] false _ hR6 (by decide)).mono ?_
  rintro e w7 ⟨rfl, rfl⟩
  have c2 := hc.cell 2 _ rfl
  have c6 := hc.cell 6 _ rfl
  generalize w6.heap.size = g6 at *
  generalize w6.alloc _ = w7 at *
  go_wp2_with fail
  go_ret
  exact ⟨rfl, hB6⟩
end Go.Proofs.Ytechiehbigmjbaa
