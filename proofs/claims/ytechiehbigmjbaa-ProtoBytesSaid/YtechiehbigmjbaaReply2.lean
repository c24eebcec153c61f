/- proto.reader.value. By an AI agent. -/
import Derived.Test.YtechiehbigmjbaaReply1
import Derived.Test.YtechiehbigmjbaaByteRow
import Derived.Test.YtechiehbigmjbaaGetR2
set_option linter.unusedVariables false
set_option linter.unusedSimpArgs false
namespace Go.Proofs.Ytechiehbigmjbaa
open Go.RowKit

/-- value's boxes: the result, the reader (an older one) -/
structure SV (w : World) (b : Nat) (W : World) (l : List UInt8) : Prop where
  bl : Bl (w.setCell ⟨b, 0, none⟩ (.string (strL l))) W
  r : AC W w.heap.size [.bool false, .float .f64 0, .int .i64 0, .string ⟨#[]⟩]
  c : C1 W b (.string (strL l))
  lt : b < w.heap.size
theorem SV.keep {w : World} {b : Nat} {W W' : World} {l : List UInt8} (h : SV w b W l) (k : Bl W W') : SV w b W' l := ⟨h.bl.trans k, h.r.keep k, h.c.keep k, h.lt⟩
theorem SV.set {w : World} {b : Nat} {W : World} {l : List UInt8} {v : Value} (hc : C1 w b v) (h : SV w b W l) (m : List UInt8) : SV w b (W.setCell ⟨b, 0, none⟩ (.string (strL m))) m :=
  ⟨Bl.reset hc h.bl, h.r.other (by have := h.lt; omega), h.c.set _, h.lt⟩
theorem SV.new {w : World} {b : Nat} {l : List UInt8} (hc : C1 w b (.string (strL l))) (T : TypeId) : SV w b (w.alloc (.cells #[.bool false, .float .f64 0, .int .i64 0, .string ⟨#[]⟩] T)) l :=
  ⟨(Bl.same hc).trans ((Bl.refl w).alloc _), AC.new w _ rfl [.bool false, .float .f64 0, .int .i64 0, .string ⟨#[]⟩] T, hc.keep ((Bl.refl w).alloc _), hc.lt⟩
/-- what reading a value comes to -/
def ValPost (w : World) (b : Nat) (l : List UInt8) (e : Ending) (w' : World) : Prop :=
  (∃ (v : ValL) (r : List UInt8), rdVal l = some (v, r) ∧ e = .returned (.agg #[.bool v.there, .float .f64 v.x, .int .i64 v.n, .string v.s]) ∧ Bl (w.setCell ⟨b, 0, none⟩ (.string (strL r))) w') ∨
  (rdVal l = none ∧ e = panE ∧ ∃ r, Bl (w.setCell ⟨b, 0, none⟩ (.string r)) w')
theorem pval_results {tmps : Array Value} {W : World} {g : Nat} {t : Bool} {x : Nat} {n : Int} {s : ByteArray} (h : tmps.getD 2 undef = .pointer (some ⟨g, 0, none⟩)) (hc : AC W g [.bool t, .float .f64 x, .int .i64 n, .string s]) :
    (results Try.f121 tmps).run Try.prog W = .ok (.agg #[.bool t, .float .f64 x, .int .i64 n, .string s]) W := by
  rw [Array.getD_eq_getD_getElem?] at h
  obtain ⟨c0, c1, c2, c3⟩ := hc.val
  simp [results, Try.results121, go_sem, h, c0, c1, c2, c3]
theorem ptake_any (b : Nat) (l : List UInt8) (n : Nat) (w : World) (hc : C1 w b (.string (strL l))) :
    Calls Try.prog 154 #[.pointer (some ⟨b, 0, none⟩), .int .i64 n] w fun e w' =>
      (∃ t r, rdTake n l = some (t, r) ∧ e = .returned (.string (strL t)) ∧ w' = w.setCell ⟨b, 0, none⟩ (.string (strL r))) ∨ (rdTake n l = none ∧ e = panE ∧ w = w') := by
  unfold rdTake
  by_cases hn : n ≤ l.length
  · rw [if_pos hn]
    refine (ptake_some b l n w hc hn).mono ?_
    rintro e w' ⟨rfl, rfl⟩
    exact .inl ⟨_, _, rfl, rfl, rfl⟩
  · rw [if_neg hn]
    refine (ptake_none b l n w hc (by omega)).mono ?_
    rintro e w' ⟨rfl, rfl⟩
    exact .inr ⟨rfl, rfl, rfl⟩
theorem getN8_lt {t : List UInt8} {k : Nat} (hk : k ≤ 7) : getN (t.take k) * 256 + 255 < 18446744073709551616 ∧ 0 ≤ getN (t.take k) := by
  have hbd := getN_bound (t.take k)
  have h4 : (t.take k).length ≤ 7 := Nat.le_trans (List.length_take_le _ _) hk
  generalize (t.take k).length = q at *
  have hq : q = 0 ∨ q = 1 ∨ q = 2 ∨ q = 3 ∨ q = 4 ∨ q = 5 ∨ q = 6 ∨ q = 7 := by omega
  have h7 : getN (t.take k) < 256 ^ 7 := by
    rcases hq with rfl | rfl | rfl | rfl | rfl | rfl | rfl | rfl <;> exact Int.lt_of_lt_of_le hbd.2 (by decide)
  rw [show (256 : Int) ^ 7 = 72057594037927936 from rfl] at h7
  omega
theorem getN_takeL {t : List UInt8} {k : Nat} (h : k < t.length) : getN (t.take (k + 1)) = getN (t.take k) * 256 + t[k].toNat := by
  rw [List.take_succ_eq_append_getElem h, getN_snoc]

set_option maxHeartbeats 6400000 in
set_option maxRecDepth 100000 in
theorem pval_any (b : Nat) (l : List UInt8) (w : World) (hc : C1 w b (.string (strL l))) (hz : l.length ≤ 1000000) :
    Calls Try.prog 121 #[.pointer (some ⟨b, 0, none⟩)] w (ValPost w b l) := by
  have hsf := store_float
  have HC := Lib.hid hc
  have G := SV.new hc 85
  clear hc
  go_enter Try.func121, Try.ntmps121
  go_wp2_with fail
  have HG := Lib.hid (show w.heap.size = w.heap.size from rfl)
  generalize w.alloc _ = W0 at *
  have GH := Lib.hid G
  clear G
  refine (pnum_any b l 1 _ GH.out.c (by decide) (by decide)).mono ?_
  rintro e W1 (⟨t, l1, h1, rfl, rfl⟩ | ⟨hn, rfl, rfl⟩)
  case inr =>
    unfold panE
    go_wp2_with fail
    exact ⟨rfl, .inr ⟨by simp [rdVal, hn], rfl, _, GH.out.bl⟩⟩
  have H1 := Lib.hid h1
  have hz1 : l1.length ≤ 1000000 := by have := rdNum_len h1; omega
  replace GH := Lib.hid (GH.out.set HC.out l1)
  clear h1
  generalize World.setCell _ _ (.string (strL l1)) = W1 at *
  go_wp2_with fail
  refine (ptake_any b l1 8 _ GH.out.c).mono ?_
  rintro e W2 (⟨p2, l2, h2, rfl, rfl⟩ | ⟨hn, rfl, rfl⟩)
  case inr =>
    unfold panE
    go_wp2_with fail
    exact ⟨rfl, .inr ⟨by simp [rdVal, H1.out, hn], rfl, _, GH.out.bl⟩⟩
  have H2 := Lib.hid h2
  have hz2 : l2.length ≤ 1000000 := by have := (rdTake_len h2).1; omega
  have hp2 : p2.length = 8 := (rdTake_back h2).2
  replace GH := Lib.hid (GH.out.set HC.out l2)
  have HQ := Lib.hid (fun w => rget_any (strL p2) w (by rw [strL_size]; exact hp2))
  rw [show (strL p2).data.toList = p2 from rfl] at HQ
  have hX := gR_lt (gN_lt8 hp2).2
  have hcodes : (getR (getN p2).toNat).2 = 0 ∨ (getR (getN p2).toNat).2 = 4 := by
    unfold getR
    (repeat' split) <;> first | exact .inl rfl | exact .inr rfl
  clear h2 hp2
  obtain ⟨X, hXe⟩ : ∃ X, (getR (getN p2).toNat).1 = X := ⟨_, rfl⟩
  obtain ⟨c, hce⟩ : ∃ c, (getR (getN p2).toNat).2 = c := ⟨_, rfl⟩
  rw [hXe, hce] at HQ
  rw [hXe] at hX
  rw [hce] at hcodes
  have HXE := Lib.hid hXe
  have HCE := Lib.hid hce
  have HX := Lib.hid hX
  clear hXe hce hX
  generalize strL p2 = s2 at *
  generalize World.setCell _ _ (.string (strL l2)) = W2 at *
  go_wp2_with fail
  refine (HQ.out _).mono ?_
  rintro e W3 ⟨rfl, rfl⟩
  rcases hcodes with hc0 | hc4
  case inr =>
    subst hc4
    go_wp2_with fail
    refine (pwant_no _).mono ?_
    rintro e W12 ⟨rfl, rfl⟩
    unfold panE
    go_wp2_with fail
    exact ⟨rfl, .inr ⟨by simp [rdVal, H1.out, H2.out, HCE.out], rfl, _, GH.out.bl⟩⟩
  subst hc0
  by_cases ht : t ≤ 1
  case neg =>
    have qt : decide (t ≤ 1) = false := decide_eq_false ht
    have HT := Lib.hid ht
    clear ht
    go_wp2_with fail
    refine (pwant_no _).mono ?_
    rintro e W12 ⟨rfl, rfl⟩
    unfold panE
    go_wp2_with fail
    exact ⟨rfl, .inr ⟨by have h9 := HT.out; simp [rdVal, H1.out, H2.out, HCE.out]; intro h; omega, rfl, _, GH.out.bl⟩⟩
  have qt : decide (t ≤ 1) = true := decide_eq_true ht
  have HT := Lib.hid ht
  clear ht
  go_wp2_with fail
  refine (pwant_yes _).mono ?_
  rintro e W12 ⟨rfl, rfl⟩
  clear qt
  go_wp2_with fail
  refine (ptake_any b l2 8 _ GH.out.c).mono ?_
  rintro e W4 (⟨p3, l3, h3, rfl, rfl⟩ | ⟨hn, rfl, rfl⟩)
  case inr =>
    unfold panE
    go_wp2_with fail
    exact ⟨rfl, .inr ⟨by simp [rdVal, H1.out, H2.out, HCE.out, HT.out, hn], rfl, _, GH.out.bl⟩⟩
  have H3 := Lib.hid h3
  have hz3 : l3.length ≤ 1000000 := by have := (rdTake_len h3).1; omega
  have hp3 : p3.length = 8 := (rdTake_back h3).2
  replace GH := Lib.hid (GH.out.set HC.out l3)
  clear h3
  generalize World.setCell _ _ (.string (strL l3)) = W4 at *
  have z3 := strL_size p3
  rw [hp3] at z3
  have HS3 := Lib.hid (strL_SB p3)
  obtain ⟨s3, hs3⟩ : ∃ s, s = strL p3 := ⟨_, rfl⟩
  rw [← hs3] at z3 HS3 ⊢
  clear hs3
  have hconv := run_bytes_of_string (P := Try.prog) W4 9 61 5 s3 Try.underlying9 Try.underlying61 Try.underlying5
  have BR0 := BR.new W4 s3 (grownCap W4 s3.size 0 5) 5 p3 HS3.out
  have hbD : Bl W4 (W4.drew.alloc (.cells (bytesRow s3 (grownCap W4 s3.size 0 5)) 5 ((bytesRow s3 (grownCap W4 s3.size 0 5)).size, (bytesRow s3 (grownCap W4 s3.size 0 5)).size + 1))) := ((Bl.refl W4).drew).alloc _
  obtain ⟨cap, hcap⟩ : ∃ cap, grownCap W4 s3.size 0 5 = cap := ⟨_, rfl⟩
  rw [hcap] at hconv BR0 hbD
  rw [z3] at hconv
  clear hcap
  generalize W4.drew.alloc (.cells (bytesRow s3 cap) 5 ((bytesRow s3 cap).size, (bytesRow s3 cap).size + 1)) = BW at *
  generalize W4.heap.size = g at *
  replace GH := Lib.hid (GH.out.keep hbD)
  have HBR := Lib.hid BR0
  clear BR0 hbD
  go_wp2_with fail
  go_loop [6, 28] (fun u i => ∃ k : Nat, k ≤ 8 ∧ i = .int .i64 k ∧ u = .int .u64 (getN (p3.take k))) (fun _ i => 8 - (intOf i).toNat)
  case atStart => exact ⟨0, Nat.zero_le _, rfl, rfl⟩
  case round =>
    obtain ⟨k, hk, rfl, rfl⟩ := hrel
    by_cases hlt : k < 8
    · obtain ⟨hb1, hb0⟩ := getN8_lt (t := p3) (show k ≤ 7 by omega)
      have hcell := HBR.out.cells k (by omega)
      have hc8 := UInt8.toNat_lt (p3[k]'(by omega))
      have HTK := Lib.hid (getN_takeL (t := p3) (k := k) (by omega))
      generalize (p3[k]'(by omega)) = d at *
      generalize getN (p3.take k) = u at *
      have HO := Lib.hid (or_u8 u d.toNat hb0 hb1 (by omega) (by omega))
      go_wp2
      go_round
      case rel => exact ⟨k + 1, by omega, by go_num, by rw [HTK.out, ← HO.out]⟩
      case measure => simp [intOf]; omega
    · have e8 : k = 8 := by omega
      subst e8
      rw [List.take_of_length_le (by omega)]
      obtain ⟨N, hN⟩ : ∃ N, getN p3 = N := ⟨_, rfl⟩
      rw [hN]
      have HN := Lib.hid hN
      clear hN hconv
      go_wp2_with fail
      refine (ptext_any b l3 _ GH.out.c hz3).mono ?_
      rintro e W5 (⟨tx, l4, h4, rfl, hb⟩ | ⟨hn, rfl, r, hb⟩)
      case inr =>
        unfold panE
        go_wp2_with fail
        exact ⟨rfl, .inr ⟨by simp [rdVal, H1.out, H2.out, HCE.out, HT.out, H3.out, hn], rfl, _, (Bl.reset HC.out GH.out.bl).trans hb⟩⟩
      have H4 := Lib.hid h4
      replace GH := Lib.hid ((GH.out.set HC.out l4).keep hb)
      clear h4 hb
      obtain ⟨r0, r1, r2, r3⟩ := GH.out.r.val
      have fr := GH.out.r.frozen
      go_wp2_with fail
      refine bodyPost_ret (pval_results rfl (GH.out.r.set4 (.bool (t == 1)) (.float .f64 X) (.int .i64 (wrap64 N)) (.string (strL tx)))) rfl (.inl ⟨⟨decide (t = 1), X, wrap64 N, strL tx⟩, l4, ?_, rfl, ?_⟩)
      · simp [rdVal, H1.out, H2.out, HCE.out, HT.out, H3.out, H4.out, HXE.out, HN.out, strL]
      · have h4 := Bl.store4 (w := w.setCell ⟨b, 0, none⟩ (.string (strL l4))) GH.out.bl (g := w.heap.size) (by rw [setCell_size]; exact Nat.le_refl _) (.bool (t == 1)) (.float .f64 X) (.int .i64 (wrap64 N)) (.string (strL tx))
        exact h4
end Go.Proofs.Ytechiehbigmjbaa
