import Derived.Test.YtaelghbjbopilaaGreatQProtoRepliesUptoP1
import Derived.Deep.QuietTactic
import Derived.BigQuiet
import Derived.Test.YtaelghbjbopilaaGreatQProtoRepliesUptoP19
import Derived.Test.YtaelghbjbopilaaGreatQProtoRepliesUptoP12
import Derived.Deep.AppendSrc
import Derived.Maps.OwnRows

/- parts of other texts. By an AI agent. -/
section
set_option linter.unusedVariables false
set_option linter.unusedSimpArgs false
namespace Go.Proofs.YtaelghbjbopilaaGreat
open Go.RowKit

set_option maxHeartbeats 400000 in
theorem equal_any (a b : Option Addr) (n m ca cb : Nat) (xs ys : List Int) (w : World) (hx : IA w a n xs) (hy : IA w b m ys) :
    Calls Tryz.prog 123 #[.slice a n ca, .slice b m cb] w fun e w' => e = .returned (.bool (decide (xs = ys))) ∧ Bl w w' := by
  have hx1 := hx.cap
  have hy1 := hy.cap
  by_cases hl : n = m
  · subst hl
    have HLL := Lib.hid (hx.len.trans hy.len.symm)
    have HX := Lib.hid hx.len
    have h2 : ((n : Int) != (n : Int)) = false := by simp
    go_enter Tryz.func123, Tryz.ntmps123
    go_wp2
    go_loopw [13] (fun i w' => ∃ k : Nat, k ≤ n ∧ i = .int .i64 k ∧ Bl w w' ∧ ∀ j, j < k → nth xs j = nth ys j) (fun i _ => n - (intOf i).toNat)
    case atStart => exact ⟨0, Nat.zero_le _, rfl, Bl.refl _, fun j h => by omega⟩
    case round =>
      obtain ⟨k, hk, rfl, hbl, hle⟩ := hrel
      have HLE := Lib.hid hle; clear hle
      by_cases hlt : k < n
      · obtain ⟨ba, oa, rfl, hca⟩ := hx.cells k hlt
        obtain ⟨bb, ob, rfl, hcb⟩ := hy.cells k hlt
        have ha := hbl.cell (hca k hlt)
        have hb := hbl.cell (hcb k hlt)
        clear hca hcb
        by_cases hgt : nth xs k = nth ys k
        · have hbo : (nth xs k != nth ys k) = false := by simp [hgt]
          have HE := Lib.hid hgt; clear hgt
          go_wp2
          go_quiet (fail)
          go_wp2
          go_roundw
          case rel => exact ⟨k + 1, by omega, by go_num, hbl.drewN _, fun j hj => by
            by_cases e : j = k
            · subst e; exact HE.out
            · exact HLE.out j (by omega)⟩
          case measure => simp [intOf]; omega
        · have hbo : (nth xs k != nth ys k) = true := by simp [hgt]
          have HR := Lib.hid (show decide (xs = ys) = false from decide_eq_false (fun e => hgt (by rw [e])))
          clear hgt
          go_wp2
          go_quiet (fail)
          go_wp2
          go_ret
          exact ⟨ret_bool HR.out.symm, hbl.drewN _⟩
      · have HR := Lib.hid (show decide (xs = ys) = true from decide_eq_true (getD_ext HLL.out (fun j hj => HLE.out j (by rw [HX.out] at hj; omega))))
        go_wp2
        go_ret
        exact ⟨ret_bool HR.out.symm, hbl⟩
  · have h2 : ((n : Int) != (m : Int)) = true := by simp; omega
    have HR := Lib.hid (show decide (xs = ys) = false from decide_eq_false (fun e => hl (by rw [← hx.len, ← hy.len, e])))
    go_enter Tryz.func123, Tryz.ntmps123
    go_wp2
    go_ret
    exact ⟨ret_bool HR.out.symm, Bl.refl _⟩
theorem same_any (a b : Option Addr) (n m ca cb : Nat) (xs ys : List Int) (w : World) (hx : IA w a n xs) (hy : IA w b m ys) :
    Calls Tryz.prog 31 #[.slice a n ca, .slice b m cb] w fun e w' => e = .returned (.bool (decide (xs = ys))) ∧ Bl w w' := by
  go_enter Tryz.func31, Tryz.ntmps31
  go_wp2_with fail
  refine (equal_any a b n m ca cb xs ys _ hx hy).mono ?_
  rintro e w' ⟨rfl, hb⟩
  go_wp2
  go_ret
  exact ⟨rfl, hb⟩
end Go.Proofs.YtaelghbjbopilaaGreat
end

/- proto.SameAsk; the first call that is alive. By an AI agent. -/
section
set_option linter.unusedVariables false
set_option linter.unusedSimpArgs false
namespace Go.Proofs.YtaelghbjbopilaaGreat
open Go.RowKit

/-- a frame that stands first -/
theorem frame_take4 (l m : List UInt8) (hl : l.length ≤ 65536) : getN ((frameL l ++ m).take 4) = (l.length : Int) := by
  unfold frameL
  rw [List.append_assoc, List.take_left' (numB_len _ _)]
  exact getN_numB 4 _ (by omega) (by rw [show (256 : Int) ^ 4 = 4294967296 from rfl]; omega)
theorem frame_lenF (l m : List UInt8) (hl : l.length ≤ 65536) : lenF (frameL l ++ m) = l.length := by
  unfold lenF
  rw [frame_take4 l m hl, Int.toNat_natCast]
theorem frame_drop8 (l m : List UInt8) : (frameL l ++ m).drop 8 = l ++ m := by
  unfold frameL
  rw [List.append_assoc, show (8 : Nat) = 4 + 4 from rfl, ← List.drop_drop, List.drop_left' (numB_len _ _), List.append_assoc, List.drop_left' (numB_len _ _)]
theorem frame_body (l m : List UInt8) (hl : l.length ≤ 65536) : bodyF (frameL l ++ m) = l := by
  unfold bodyF
  rw [frame_lenF l m hl, frame_drop8, List.take_left]
theorem frame_rest (l m : List UInt8) (hl : l.length ≤ 65536) : restF (frameL l ++ m) = m := by
  unfold restF
  rw [frame_lenF l m hl, ← List.drop_drop, frame_drop8, List.drop_left]
theorem frame_sum (l m : List UInt8) : getN (((frameL l ++ m).drop 4).take 4) = (sumL l : Int) := by
  unfold frameL
  rw [List.append_assoc, List.drop_left' (numB_len _ _), List.append_assoc, List.take_left' (numB_len _ _)]
  have := sumL_lt l
  exact getN_numB 4 _ (by omega) (by rw [show (256 : Int) ^ 4 = 4294967296 from rfl]; omega)
theorem frame_head (l m : List UInt8) (hl : l.length ≤ 65536) : headF (frameL l ++ m) = 1 := by
  unfold headF
  rw [frame_take4 l m hl, frame_drop8, frame_sum, List.length_append, frameL_len, Int.toNat_natCast, List.take_left]
  rw [if_neg (by omega), if_neg (by omega), if_neg (by omega), if_pos rfl]
/-- a frame of which something lacks -/
theorem frame_part (l m : List UInt8) (hl : l.length ≤ 65536) (h : m.length < 8 + l.length) (hp : ∃ r, m ++ r = frameL l) : headF m = 0 := by
  obtain ⟨r, hr⟩ := hp
  unfold headF
  by_cases h4 : m.length < 4
  · rw [if_pos h4]
  · have e : getN (m.take 4) = (l.length : Int) := by
      have := frame_take4 l [] hl
      rw [List.append_nil, ← hr, List.take_append_of_le_length (by omega)] at this
      exact this
    rw [if_neg h4, e, if_neg (by omega), if_pos (by omega)]

def aliveK : AskL := ⟨3, 1, 2, 0, 0, [], strL [99, 49], ⟨#[]⟩, zeroAct⟩
theorem aliveK_valid : validA aliveK = true := by decide +kernel
def abF : List UInt8 := frameL [97, 98]
theorem abF_len : abF.length = 10 := by decide +kernel
theorem abF_split : abF.take 9 ++ [98] = abF := by decide +kernel
theorem abF_wait : headF (abF.take 9) = 0 := frame_part [97, 98] _ (by decide) (by rw [List.length_take, abF_len]; decide) ⟨_, List.take_append_drop 9 abF⟩
theorem abF_whole : headF abF = 1 := by have := frame_head [97, 98] [] (by decide); rwa [List.append_nil] at this
theorem abF_body : bodyF abF = [97, 98] := by have := frame_body [97, 98] [] (by decide); rwa [List.append_nil] at this
theorem abF_rest : restF abF = [] := by have := frame_rest [97, 98] [] (by decide); rwa [List.append_nil] at this
theorem RB2.fed {w : World} {g : Nat} {l : List UInt8} {b : Bool} (h : RB2 w g l b) (m : List UInt8) : RB2 (w.setCell ⟨g, 0, none⟩ (.string (strL m))) g m b := AC.setj h 0 _

set_option maxHeartbeats 3200000 in
set_option maxRecDepth 100000 in
theorem alive25_any (w : World) :
    Calls Tryz.prog 5 #[] w fun e w' => e = .returned (.bool true) ∧ Bl w w' := by
  have hsf := store_float
  have H1 := Lib.hid (fun w => frame_yes [97, 98] w (by decide))
  rw [show frameL [97, 98] = abF from rfl] at H1
  have z1 := strL_size abF
  rw [abF_len] at z1
  have e1 := strL_take abF 9
  go_enter Tryz.func5, Tryz.ntmps5
  go_wp2_with fail
  refine (H1.out _).mono ?_
  rintro e w1 ⟨rfl, hb1⟩
  have hR : RB2 (w1.alloc (.cells #[.string ⟨#[]⟩, .bool false] 65)) w1.heap.size [] false := AC.new w1 _ rfl [.string ⟨#[]⟩, .bool false] _
  have hB := hb1.alloc (.cells #[.string ⟨#[]⟩, .bool false] 65)
  have hlt : w.heap.size ≤ w1.heap.size := hb1.size
  clear hb1 H1
  have hmin : min (10 : Int) 1 = 1 := by decide
  have HK := Lib.hid (show AskOk w1 aliveK none 0 from ⟨IA.nil _ _, by decide, by decide, ⟨by decide, by decide, by decide, by decide⟩⟩)
  obtain ⟨f, hf⟩ : ∃ f, f = strL abF := ⟨_, rfl⟩
  rw [← hf] at z1 e1 ⊢
  have HF := Lib.hid hf
  clear hf
  have HW := Lib.hid hlt
  clear hlt
  go_wp2_with fail
  generalize hg : w1.heap.size = g at *
  have HG := Lib.hid hg
  clear hg
  generalize w1.alloc _ = W at *
  refine (feed_any g (abF.take 9) [] _ hR (by decide +kernel)).mono ?_
  rintro e w2 ⟨rfl, rfl⟩
  have hR2 := hR.fed ([] ++ abF.take 9)
  have hB2 : Bl w (W.setCell ⟨g, 0, none⟩ (.string (strL ([] ++ abF.take 9)))) := hB.setCell (p := ⟨g, 0, none⟩) HW.out _
  rw [List.nil_append] at hR2 hB2 ⊢
  clear hR hB
  generalize W.setCell ⟨g, 0, none⟩ (.string (strL (abF.take 9))) = W2 at *
  clear e1 hmin
  go_wp2_with fail
  refine (next0 g (abF.take 9) _ hR2 (by decide +kernel) abF_wait).mono ?_
  rintro e w3 ⟨rfl, rfl⟩
  go_wp2_with fail
  refine (feed_any g [98] (abF.take 9) _ hR2 (by decide +kernel)).mono ?_
  rintro e w3 ⟨rfl, rfl⟩
  have hR3 := hR2.fed (abF.take 9 ++ [98])
  have hB3 : Bl w (W2.setCell ⟨g, 0, none⟩ (.string (strL (abF.take 9 ++ [98])))) := hB2.setCell (p := ⟨g, 0, none⟩) HW.out _
  rw [abF_split] at hR3 hB3 ⊢
  clear hR2 hB2
  generalize W2.setCell ⟨g, 0, none⟩ (.string (strL abF)) = W3 at *
  go_wp2_with fail
  refine (next1 g abF _ hR3 (by decide +kernel) abF_whole).mono ?_
  rintro e w4 ⟨rfl, hb⟩
  have hR4 := (hR3.fed (restF abF)).keep hb
  have hB4 : Bl w w4 := (show Bl w (W3.setCell ⟨g, 0, none⟩ (.string (strL (restF abF)))) from hB3.setCell (p := ⟨g, 0, none⟩) HW.out _).trans hb
  rw [abF_body]
  rw [abF_rest] at hR4
  clear hR3 hB3 hb
  have q2 : (strL [97, 98]).toList = [97, 98] := by rw [ByteArray.toList_eq]; rfl
  obtain ⟨s1, hs1⟩ : ∃ s, s = strL [97, 98] := ⟨_, rfl⟩
  rw [← hs1] at q2 ⊢
  clear hs1
  have P : Hid (∀ w, Calls Tryz.prog 19 #[.agg #[.int .i64 3, .int .i64 1, .int .i64 2, .int .i64 0, .int .i64 0, .slice none 0 0, .string ⟨#[99, 49]⟩, .string ⟨#[]⟩, .int .i64 0, .float .f64 0, .int .i64 0, .string ⟨#[]⟩]] w fun e w' =>
      e = .returned (.tuple #[.string (strL (putAsk aliveK)), .int .i64 0]) ∧ Bl w w') := Lib.hid (fun w => by
    have := putAsk_any aliveK none 0 0 w ⟨IA.nil _ _, by decide, by decide, ⟨by decide, by decide, by decide, by decide⟩⟩
    rw [show putAskS aliveK = putAsk aliveK by unfold putAskS; rw [aliveK_valid, if_pos rfl], show putAskC aliveK = 0 by unfold putAskC; rw [aliveK_valid, if_pos rfl]] at this
    exact this)
  obtain ⟨y, hy1, hy2⟩ := rdAsk_put (a := aliveK) ⟨by decide, by decide, by decide, by decide⟩ aliveK_valid
  have Q := Lib.hid (fun w => getAsk_any (putAsk aliveK) w (by have := putAsk_len aliveK_valid; omega))
  have hy := sameAsk_iff.1 hy2
  have HY := Lib.hid hy1
  have HT := Lib.hid hy.2.2.1
  have HK2 := Lib.hid hy.2.2.2.2.2.2.1
  clear hy hy1 hy2
  go_wp2_with fail
  refine (P.out _).mono ?_
  rintro e w5 ⟨rfl, hb5⟩
  have hR5 := hR4.keep hb5
  have hB5 := hB4.trans hb5
  clear hR4 hB4 hb5 P
  obtain ⟨p, hp⟩ : ∃ p, p = strL (putAsk aliveK) := ⟨_, rfl⟩
  rw [← hp] at Q ⊢
  clear hp
  go_wp2_with fail
  refine (Q.out _).mono ?_
  rintro e w6 (⟨a, ad, n, ca, hr, rfl, -, hb6⟩ | ⟨hr, -, -⟩)
  case inr => rw [HY.out] at hr; cases hr
  rw [HY.out] at hr
  cases hr
  obtain ⟨yk, ys, yt, yi, ym, yx, ykey, ytext, ⟨ak, ax, an, az⟩⟩ := y
  obtain rfl : (2 : Int) = yt := HT.out
  obtain rfl : strL [99, 49] = ykey := HK2.out
  unfold askV
  dsimp only
  have hR6 := hR5.keep (hb6.alloc (.cells #[.int .i64 yk, .int .i64 ys, .int .i64 2, .int .i64 yi, .int .i64 ym, .slice ad n ca, .string (strL [99, 49]), .string ytext, .int .i64 ak, .float .f64 ax, .int .i64 an, .string az] 73))
  have hB6 := hB5.trans (hb6.alloc (.cells #[.int .i64 yk, .int .i64 ys, .int .i64 2, .int .i64 yi, .int .i64 ym, .slice ad n ca, .string (strL [99, 49]), .string ytext, .int .i64 ak, .float .f64 ax, .int .i64 an, .string az] 73))
  have hc := (AC.new w6 _ rfl [.int .i64 yk, .int .i64 ys, .int .i64 2, .int .i64 yi, .int .i64 ym, .slice ad n ca, .string (strL [99, 49]), .string ytext, .int .i64 ak, .float .f64 ax, .int .i64 an, .string az] 73)
  have q3 : (strL [99, 49]).toList = [99, 49] := by rw [ByteArray.toList_eq]; rfl
  clear hR5 hB5 hb6 Q HY HT HK2
  generalize strL [99, 49] = s2 at *
  go_wp2_with fail
  refine (left_any g [] false _ hR6 (by decide)).mono ?_
  rintro e w7 ⟨rfl, rfl⟩
  have c2 := hc.cell 2 _ rfl
  have c6 := hc.cell 6 _ rfl
  generalize w6.heap.size = g6 at *
  generalize w6.alloc _ = w7 at *
  go_wp2_with fail
  go_ret
  exact ⟨rfl, hB6⟩
end Go.Proofs.YtaelghbjbopilaaGreat
end

/- answers in bytes: plain definitions and laws. By an AI agent. -/
section
set_option linter.unusedVariables false
set_option linter.unusedSimpArgs false
namespace Go.Proofs.YtaelghbjbopilaaGreat
open Go.RowKit

/-! ### values -/
def thereN (b : Bool) : Int := if b then 1 else 0
def putVal (v : ValL) : List UInt8 := numB (thereN v.there) 1 ++ (bytesN8 (fkey v.x) ++ (bytesN8 (v.n % 18446744073709551616).toNat ++ textB v.s.data.toList))
def rdVal (l : List UInt8) : Option (ValL × List UInt8) :=
  (rdNum 1 l).bind fun p1 => (rdTake 8 p1.2).bind fun p2 => if (getR (getN p2.1).toNat).2 = 0 ∧ p1.1 ≤ 1 then
    (rdTake 8 p2.2).bind fun p3 => (rdText p3.2).bind fun p4 => some (⟨decide (p1.1 = 1), (getR (getN p2.1).toNat).1, wrap64 (getN p3.1), ⟨p4.1.toArray⟩⟩, p4.2) else none
theorem rdTake_len {n : Nat} {l t m : List UInt8} (h : rdTake n l = some (t, m)) : m.length ≤ l.length ∧ t.length ≤ l.length := by
  obtain ⟨e, -⟩ := rdTake_back h
  rw [e, List.length_append]; omega
theorem rdText_len {l t m : List UInt8} (h : rdText l = some (t, m)) : m.length ≤ l.length ∧ t.length ≤ l.length := by
  have e := rdText_back h
  rw [e, List.length_append, textB_len]; omega
theorem rdNum_len {n : Nat} {l m : List UInt8} {x : Int} (h : rdNum n l = some (x, m)) : m.length ≤ l.length := by
  obtain ⟨e, -⟩ := rdNum_back h
  rw [e, List.length_append]; omega
theorem rdVec_len {l m : List UInt8} {xs : List Int} (h : rdVec l = some (xs, m)) : m.length ≤ l.length := by
  obtain ⟨e, -⟩ := rdVec_back h
  rw [e, List.length_append]; omega
theorem rdVal_back {l m : List UInt8} {v : ValL} (h : rdVal l = some (v, m)) : l = putVal v ++ m ∧ v.x < two64 ∧ (-9223372036854775808 ≤ v.n ∧ v.n ≤ 9223372036854775807) ∧ v.s.size ≤ l.length ∧ m.length ≤ l.length := by
  unfold rdVal at h
  obtain ⟨p1, h1, h⟩ := Option.bind_eq_some_iff.1 h
  obtain ⟨p2, h2, h⟩ := Option.bind_eq_some_iff.1 h
  split at h
  · rename_i hc
    obtain ⟨p3, h3, h⟩ := Option.bind_eq_some_iff.1 h
    obtain ⟨p4, h4, h⟩ := Option.bind_eq_some_iff.1 h
    simp only [Option.some.injEq, Prod.mk.injEq] at h
    obtain ⟨rfl, rfl⟩ := h
    obtain ⟨e1, n0, n1⟩ := rdNum_back (x := p1.1) (m := p1.2) h1
    obtain ⟨e2, l2⟩ := rdTake_back (t := p2.1) (m := p2.2) h2
    obtain ⟨e3, l3⟩ := rdTake_back (t := p3.1) (m := p3.2) h3
    have e4 := rdText_back (t := p4.1) (m := p4.2) h4
    have k1 := rdNum_len (x := p1.1) (m := p1.2) h1
    have k2 := rdTake_len (t := p2.1) (m := p2.2) h2
    have k3 := rdTake_len (t := p3.1) (m := p3.2) h3
    have k4 := rdText_len (t := p4.1) (m := p4.2) h4
    refine ⟨?_, gR_lt (gN_lt8 l2).2, wrap64_bds _, ?_, by omega⟩
    · unfold putVal
      dsimp only
      rw [bytes_gR l2 hc.1, bytes_wrap8 l3]
      have et : thereN (decide (p1.1 = 1)) = p1.1 := by
        unfold thereN
        by_cases q : p1.1 = 1
        · rw [decide_eq_true q, q]; rfl
        · rw [decide_eq_false q]; have := hc.2; show (0 : Int) = _; omega
      rw [et, e1, e2, e3, e4]
      simp only [List.append_assoc]
    · show (⟨p4.1.toArray⟩ : ByteArray).size ≤ _
      rw [(SB.mk p4.1).size]; omega
  · cases h
/-! ### pairs -/
def putPair (p : ByteArray × ValL) : List UInt8 := textB p.1.data.toList ++ putVal p.2
def rdPair (l : List UInt8) : Option ((ByteArray × ValL) × List UInt8) := (rdText l).bind fun p => (rdVal p.2).map fun q => ((⟨p.1.toArray⟩, q.1), q.2)
def rdPairs : Nat → List UInt8 → Option (List (ByteArray × ValL) × List UInt8)
  | 0, l => some ([], l)
  | n + 1, l => (rdPair l).bind fun p => (rdPairs n p.2).map fun q => (p.1 :: q.1, q.2)
/-- a pair that is data -/
structure PairOk (p : ByteArray × ValL) (z : Nat) : Prop where
  key : p.1.size ≤ z
  x : p.2.x < two64
  n : -9223372036854775808 ≤ p.2.n ∧ p.2.n ≤ 9223372036854775807
  s : p.2.s.size ≤ z
/-! ### answers -/
structure ReplyL where
  code : Int
  num : Int
  at_ : List Int
  val : ValL
  pairs : List (ByteArray × ValL)
  text : ByteArray
def putFront (r : ReplyL) : List UInt8 := numB r.code 6 ++ (numB r.num 6 ++ (vecB r.at_ ++ (putVal r.val ++ (textB r.text.data.toList ++ numB (r.pairs.length : Int) 4))))
def putReplyL (r : ReplyL) : List UInt8 := putFront r ++ r.pairs.flatMap putPair
def rdReply (l : List UInt8) : Option ReplyL :=
  (rdNum 6 l).bind fun p1 => (rdNum 6 p1.2).bind fun p2 => (rdVec p2.2).bind fun p3 => (rdVal p3.2).bind fun p4 => (rdText p4.2).bind fun p5 => (rdNum 4 p5.2).bind fun p6 =>
    if p6.1 ≤ 10000 then (rdPairs p6.1.toNat p6.2).bind fun p7 => if p7.2 = [] then some ⟨p1.1, p2.1, p3.1, p4.1, p7.1, ⟨p5.1.toArray⟩⟩ else none else none
/-- an answer that can be -/
structure RightR (r : ReplyL) (z : Nat) : Prop where
  code : 0 ≤ r.code ∧ r.code ≤ 281474976710655
  num : 0 ≤ r.num ∧ r.num ≤ 281474976710655
  at_ : r.at_ = [] ∨ validL r.at_ = true
  vx : r.val.x < two64
  vn : -9223372036854775808 ≤ r.val.n ∧ r.val.n ≤ 9223372036854775807
  vs : r.val.s.size ≤ z
  text : r.text.size ≤ z
  few : r.pairs.length ≤ 10000
  pairs : ∀ p ∈ r.pairs, PairOk p z
end Go.Proofs.YtaelghbjbopilaaGreat
end

/- append to what a call has made, of elements of any type, of whatever slice (nil too). By an AI agent. -/
section
namespace Go.Proofs.YtaelghbjbopilaaGreat
open Go.RowKit
attribute [local go_sem] eOp eOper eUpon

/-- the cells of a slice of n elements of so many cells each -/
structure SG (w : World) (size : Nat) (a : Option Addr) (n : Nat) (cs : List Value) : Prop where
  len : cs.length = n * size
  at_ : ∀ ad, a = some ad → ∀ j u, cs[j]? = some u → w.cell? (ad.add j) = some u
  nil : a = none → n = 0
  one : ∀ u ∈ cs, u.oneCell' = true
theorem SG.keep {w w' : World} {size : Nat} {a : Option Addr} {n : Nat} {cs : List Value} (h : SG w size a n cs) (hb : Bl w w') : SG w' size a n cs :=
  ⟨h.len, fun ad e j u hu => hb.cell (h.at_ ad e j u hu), h.nil, h.one⟩
/-- what is asked of the types -/
structure EL (T E : TypeId) (size bytes : Nat) : Prop where
  ty : Tryz.prog.underlying T = some (.slice E)
  info : ∃ i z, Tryz.prog.info? E = some i ∧ i.zero = some z ∧ i.size = size ∧ i.bytes = bytes ∧ z.cells.size = size
  pos : 0 < size
theorem el_of {T E : TypeId} {size bytes : Nat} (h1 : Tryz.prog.underlying T = some (.slice E)) (h2 : (Tryz.prog.info? E).map (fun i => (i.zero.map (fun z => z.cells.size), i.size, i.bytes)) = some (some size, size, bytes)) (h3 : 0 < size) : EL T E size bytes := by
  refine ⟨h1, ?_, h3⟩
  cases hi : Tryz.prog.info? E with
  | none => rw [hi] at h2; cases h2
  | some i =>
    rw [hi] at h2
    simp only [Option.map_some, Option.some.injEq, Prod.mk.injEq] at h2
    obtain ⟨g1, g2, g3⟩ := h2
    cases hz : i.zero with
    | none => rw [hz] at g1; cases g1
    | some z =>
      rw [hz] at g1
      simp only [Option.map_some, Option.some.injEq] at g1
      exact ⟨i, z, rfl, hz, g2, g3, g1⟩
theorem run_appG {w : World} {B : Nat} {T E : TypeId} {size bytes : Nat} (hT : EL T E size bytes) (ty : TypeId) (v : Value) (n : Nat) (xs : List Value) (hown : w.ownsRow B E size v n xs) (ad : Option Addr) (m c : Nat) (news : List Value) (hs : SG w size ad m news)
    (h63 : n + m ≤ maxLen) (hbytes : (n + m) * bytes ≤ 140737488355328) (hB : B ≤ w.heap.size) :
    ∃ v' w', (Builtin.append_ #[T, T] ty #[v, .slice ad m c]).run Tryz.prog w = .ok v' w' ∧ w'.ownsRow B E size v' (n + m) (xs ++ news) ∧ w.grownBy w' v.ownBlock := by
  obtain ⟨i, z, hi, hz, h1, h2, h3⟩ := hT.info
  cases ad with
  | none =>
    have hm := hs.nil rfl
    subst hm
    have e : news = [] := List.eq_nil_of_length_eq_zero (by rw [hs.len, Nat.zero_mul])
    subst e
    rw [List.append_nil, Nat.add_zero]
    obtain ⟨hl, ⟨rfl, hn⟩ | ⟨g, cap, cur, rfl, hBg, hg, hn, r⟩⟩ := hown
    · subst hn
      exact ⟨_, w, by simp [Builtin.append_, run_underlying hT.ty, sizeOf, typeInfo, hi, Builtin.lenOf, Builtin.firstCells], ⟨hl, .inl ⟨rfl, rfl⟩⟩, ⟨rfl, rfl, rfl, Nat.le_refl _, fun _ _ _ => rfl⟩⟩
    · have := run_append_room_src (P := Tryz.prog) w T T ty E i hT.ty hi g 0 n cap (.slice none 0 c) 0 [] (Src.ofNil w hT.ty c) (by omega) (fun k hk => by simp at hk) (fun k hk => by simp at hk)
      exact ⟨_, w, by simpa [World.setCells] using this, ⟨hl, .inr ⟨g, cap, cur, rfl, hBg, hg, hn, r⟩⟩, ⟨rfl, rfl, rfl, Nat.le_refl _, fun _ _ _ => rfl⟩⟩
  | some ad =>
    obtain ⟨v', w', e1, e2, e3, _⟩ := run_append_own (P := Tryz.prog) w B T ty E i z size bytes hT.ty hi hz h1 h2 h3 hT.pos v n xs hown ad m c news hs.len (hs.at_ ad rfl) hs.one h63 hbytes hB
    exact ⟨v', w', e1, e2, e3⟩
section
variable {ops : Array Oper}
theorem wpList_appG {rest : List Oper} {o : Oper} {a : Act} {w : World} {Q : Exit → Act → World → Prop} (hgd : o.guard = none) (s x : Operand) (T : TypeId)
    (ho : o.op = .call { callee := .builtin .append, args := #[s, x], argTypes := #[T, T] }) {E : TypeId} {size bytes : Nat} (hT : EL T E size bytes) (B : Nat) (v : Value) (n : Nat) (xs : List Value) (hs : a.eval s = v) (hown : w.ownsRow B E size v n xs) (hB : B ≤ w.heap.size)
    (ad : Option Addr) (m c : Nat) (news : List Value) (hx : a.eval x = .slice ad m c) (hsc : SG w size ad m news) (h63 : n + m ≤ maxLen) (hbytes : (n + m) * bytes ≤ 140737488355328)
    (h : ∀ v' w', w'.ownsRow B E size v' (n + m) (xs ++ news) → w.grownBy w' v.ownBlock → wpList Tryz.prog ops Q rest (a.put o.dst v') w') : wpList Tryz.prog ops Q (o :: rest) a w := by
  obtain ⟨v', w', hr, h2, h3⟩ := run_appG hT o.type v n xs hown ad m c news hsc h63 hbytes hB
  refine wpList_plain hgd fun _ hK => ?_
  unfold Oper.wp execOp
  simp only [ho, resolve, invoke, builtin, Sem.run_bind, Sem.run_pure, Result.andThen_ok, List.map_toArray, List.map_cons, List.map_nil, hs, hx, hr]
  exact hK _ _ (h v' w' h2 h3)
theorem eOp_appG {i : Nat} {o : Oper} {a : Act} {w : World} {K : Act → World → Prop} (ho' : ops[i]? = some o) (hgd : o.guard = none) (s x : Operand) (T : TypeId)
    (ho : o.op = .call { callee := .builtin .append, args := #[s, x], argTypes := #[T, T] }) {E : TypeId} {size bytes : Nat} (hT : EL T E size bytes) (B : Nat) (v : Value) (n : Nat) (xs : List Value) (hs : a.eval s = v) (hown : w.ownsRow B E size v n xs) (hB : B ≤ w.heap.size)
    (ad : Option Addr) (m c : Nat) (news : List Value) (hx : a.eval x = .slice ad m c) (hsc : SG w size ad m news) (h63 : n + m ≤ maxLen) (hbytes : (n + m) * bytes ≤ 140737488355328)
    (h : ∀ v' w', w'.ownsRow B E size v' (n + m) (xs ++ news) → w.grownBy w' v.ownBlock → K (a.put o.dst v') w') : eOp Tryz.prog ops i K a w := by
  obtain ⟨v', w', hr, h2, h3⟩ := run_appG hT o.type v n xs hown ad m c news hsc h63 hbytes hB
  unfold eOp
  simp only [ho']
  rw [if_pos (by simp [Region.wanted, hgd])]
  unfold eOper execOp
  simp only [ho, resolve, invoke, builtin, Sem.run_bind, Sem.run_pure, Result.andThen_ok, List.map_toArray, List.map_cons, List.map_nil, hs, hx, hr, eUpon]
  exact h v' w' h2 h3
end
/-- a row that the call makes holds nothing that was there -/
theorem Bl.ownRow {B : Nat} {E : TypeId} {size : Nat} {w0 w w' : World} {v : Value} {n : Nat} {cs : List Value} (hb : Bl w0 w) (ho : w.ownsRow B E size v n cs) (hB : w0.heap.size ≤ B) (hg : w.grownBy w' v.ownBlock) : Bl w0 w' :=
  Below.grown hb hg hb.size (fun k hk => Nat.le_trans hB (World.ownsRow.lt ho k hk).1)
/-- the block that holds so many cells, in its own right -/
theorem SG.lit {w : World} {g size : Nat} {E : TypeId} {cs : List Value} (h : w.heap[g]? = some (.cells cs.toArray E (0, 0))) (hl : cs.length = 1 * size) (h1 : ∀ u ∈ cs, u.oneCell' = true) : SG w size (some ⟨g, 0, none⟩) 1 cs := by
  refine ⟨hl, fun ad e j u hu => ?_, fun e => (by cases e), h1⟩
  obtain rfl := Option.some.inj e
  rw [Addr.add_lit, Nat.zero_add, cell_of_row w g j _ E (0, 0) h]
  simpa using hu
theorem sg_ints {w : World} {a : Option Addr} {n : Nat} {xs : List Int} (h : IA w a n xs) : SG w 1 a n (xs.map (Value.int .i64)) := by
  refine ⟨by simp [h.len], fun ad e j u hu => ?_, fun e => ?_, fun u hu => by simp at hu; obtain ⟨x, _, rfl⟩ := hu; rfl⟩
  · have hjl : j < n := by
      have := (List.getElem?_eq_some_iff.1 hu).1
      simpa [h.len] using this
    obtain ⟨b, off, e', hc⟩ := h.cells j hjl
    rw [e] at e'
    obtain rfl := Option.some.inj e'
    have hjx : j < xs.length := by rw [h.len]; exact hjl
    simp [hjx] at hu
    rw [Addr.add_lit, hc j hjl, nth_eq hjx, hu]
  · subst e
    by_cases hn : 0 < n
    · obtain ⟨b, off, e', _⟩ := h.cells 0 hn
      cases e'
    · omega
end Go.Proofs.YtaelghbjbopilaaGreat
end
