/- proto.reader: take, num, text, vector. By an AI agent. -/
import Derived.Test.YtechiehbigmjbaaProt2
import Derived.Test.YtechiehbigmjbaaOpGet2
set_option linter.unusedVariables false
set_option linter.unusedSimpArgs false
namespace Go.Proofs.Ytechiehbigmjbaa
open Go.RowKit

theorem pwant_yes (w : World) : Calls Try.prog 103 #[.bool true] w fun e w' => e = .returned (.tuple #[]) ∧ w = w' := by
  go_enter Try.func103, Try.ntmps103
  go_wp2_with fail
  go_end0
  exact ⟨rfl, rfl⟩
theorem pwant_no (w : World) : Calls Try.prog 103 #[.bool false] w fun e w' => e = panE ∧ w = w' := by
  go_enter Try.func103, Try.ntmps103
  go_wp2_with fail
  exact ⟨rfl, rfl, rfl⟩
theorem strL_take (l : List UInt8) (n : Nat) : (strL l).extract 0 n = strL (l.take n) := by
  rw [strL_ext, List.drop_zero, Nat.sub_zero]
theorem strL_drop (l : List UInt8) (n : Nat) : (strL l).extract n (strL l).size = strL (l.drop n) := by
  rw [strL_ext, strL_size, List.take_of_length_le (by rw [List.length_drop]; omega)]
theorem ptake_some (b : Nat) (l : List UInt8) (n : Nat) (w : World) (hc : C1 w b (.string (strL l))) (hn : n ≤ l.length) :
    Calls Try.prog 154 #[.pointer (some ⟨b, 0, none⟩), .int .i64 n] w fun e w' => e = .returned (.string (strL (l.take n))) ∧ w' = w.setCell ⟨b, 0, none⟩ (.string (strL (l.drop n))) := by
  have h0 := hc.cell
  have hf := hc.frozen
  have z := strL_size l
  have e1 := strL_take l n
  have e2 := strL_drop l n
  rw [z] at e2
  clear hc
  generalize strL (l.take n) = q1 at *
  generalize strL (l.drop n) = q2 at *
  generalize strL l = s at *
  go_enter Try.func154, Try.ntmps154
  go_wp2_with fail
  refine (pwant_yes _).mono ?_
  rintro e w' ⟨rfl, rfl⟩
  go_wp2_with fail
  go_ret
  exact ⟨rfl, rfl⟩
theorem ptake_none (b : Nat) (l : List UInt8) (n : Nat) (w : World) (hc : C1 w b (.string (strL l))) (hn : l.length < n) :
    Calls Try.prog 154 #[.pointer (some ⟨b, 0, none⟩), .int .i64 n] w fun e w' => e = panE ∧ w = w' := by
  have h0 := hc.cell
  have z := strL_size l
  have q : decide (n ≤ l.length) = false := by rw [decide_eq_false_iff_not]; omega
  clear hc
  generalize strL l = s at *
  go_enter Try.func154, Try.ntmps154
  go_wp2_with fail
  refine (pwant_no _).mono ?_
  rintro e w' ⟨rfl, rfl⟩
  unfold panE
  go_wp2_with fail
  exact ⟨rfl, rfl, rfl⟩
theorem getL_any (l : List UInt8) (w : World) (h1 : 1 ≤ l.length) (h7 : l.length ≤ 7) :
    Calls Try.prog 88 #[.string (strL l)] w fun e w' => e = .returned (.tuple #[.int .i64 (getN l), .int .i64 0]) ∧ w = w' :=
  get_any (strL l) w (by rw [strL_size]; exact h1) (by rw [strL_size]; exact h7)
theorem pnum_some (b : Nat) (l : List UInt8) (n : Nat) (w : World) (hc : C1 w b (.string (strL l))) (hn : n ≤ l.length) (h1 : 1 ≤ n) (h7 : n ≤ 7) :
    Calls Try.prog 99 #[.pointer (some ⟨b, 0, none⟩), .int .i64 n] w fun e w' => e = .returned (.int .i64 (getN (l.take n))) ∧ w' = w.setCell ⟨b, 0, none⟩ (.string (strL (l.drop n))) := by
  have HG := Lib.hid (fun w => getL_any (l.take n) w (by rw [List.length_take]; omega) (by rw [List.length_take]; omega))
  go_enter Try.func99, Try.ntmps99
  go_wp2_with fail
  refine (ptake_some b l n _ hc hn).mono ?_
  rintro e w1 ⟨rfl, rfl⟩
  go_wp2_with fail
  refine (HG.out _).mono ?_
  rintro e w1 ⟨rfl, rfl⟩
  go_wp2_with fail
  go_ret
  exact ⟨rfl, rfl⟩
theorem pnum_none (b : Nat) (l : List UInt8) (n : Nat) (w : World) (hc : C1 w b (.string (strL l))) (hn : l.length < n) :
    Calls Try.prog 99 #[.pointer (some ⟨b, 0, none⟩), .int .i64 n] w fun e w' => e = panE ∧ w = w' := by
  go_enter Try.func99, Try.ntmps99
  go_wp2_with fail
  refine (ptake_none b l n _ hc hn).mono ?_
  rintro e w1 ⟨rfl, rfl⟩
  unfold panE
  go_wp2_with fail
  exact ⟨rfl, rfl, rfl⟩
/-- what reading a number comes to -/
theorem pnum_any (b : Nat) (l : List UInt8) (n : Nat) (w : World) (hc : C1 w b (.string (strL l))) (h1 : 1 ≤ n) (h7 : n ≤ 7) :
    Calls Try.prog 99 #[.pointer (some ⟨b, 0, none⟩), .int .i64 n] w fun e w' =>
      (∃ v r, rdNum n l = some (v, r) ∧ e = .returned (.int .i64 v) ∧ w' = w.setCell ⟨b, 0, none⟩ (.string (strL r))) ∨ (rdNum n l = none ∧ e = panE ∧ w = w') := by
  unfold rdNum
  by_cases hn : n ≤ l.length
  · rw [if_pos hn]
    refine (pnum_some b l n w hc hn h1 h7).mono ?_
    rintro e w' ⟨rfl, rfl⟩
    exact .inl ⟨_, _, rfl, rfl, rfl⟩
  · rw [if_neg hn]
    refine (pnum_none b l n w hc (by omega)).mono ?_
    rintro e w' ⟨rfl, rfl⟩
    exact .inr ⟨rfl, rfl, rfl⟩
theorem setCell_twice {w : World} {g : Nat} {v : Value} (hc : C1 w g v) (a b : Value) : Bl (w.setCell ⟨g, 0, none⟩ b) ((w.setCell ⟨g, 0, none⟩ a).setCell ⟨g, 0, none⟩ b) := Bl.reset hc (Bl.refl _)
theorem ptext_none4 (b : Nat) (l : List UInt8) (w : World) (hc : C1 w b (.string (strL l))) (hn : l.length < 4) :
    Calls Try.prog 101 #[.pointer (some ⟨b, 0, none⟩)] w fun e w' => e = panE ∧ w = w' := by
  go_enter Try.func101, Try.ntmps101
  go_wp2_with fail
  refine (pnum_none b l 4 _ hc hn).mono ?_
  rintro e w1 ⟨rfl, rfl⟩
  unfold panE
  go_wp2_with fail
  exact ⟨rfl, rfl, rfl⟩
theorem ptext_none (b : Nat) (l : List UInt8) (n : Nat) (w : World) (hc : C1 w b (.string (strL l))) (h4 : 4 ≤ l.length) (hn : getN (l.take 4) = n) (hl : (l.drop 4).length < n) :
    Calls Try.prog 101 #[.pointer (some ⟨b, 0, none⟩)] w fun e w' => e = panE ∧ w' = w.setCell ⟨b, 0, none⟩ (.string (strL (l.drop 4))) := by
  have HN := Lib.hid hn
  clear hn
  go_enter Try.func101, Try.ntmps101
  go_wp2_with fail
  refine (pnum_some b l 4 _ hc h4 (by decide) (by decide)).mono ?_
  rintro e w1 ⟨rfl, rfl⟩
  rw [HN.out]
  have hc1 := hc.set (.string (strL (l.drop 4)))
  go_wp2_with fail
  refine (ptake_none b (l.drop 4) n _ hc1 hl).mono ?_
  rintro e w2 ⟨rfl, rfl⟩
  unfold panE
  go_wp2_with fail
  exact ⟨rfl, rfl, rfl⟩
theorem ptext_some (b : Nat) (l m : List UInt8) (n : Nat) (w : World) (hc : C1 w b (.string (strL l))) (h4 : 4 ≤ l.length) (hn : getN (l.take 4) = n) (HM : Hid (l.drop 4 = m)) (hl : n ≤ m.length) (hz : l.length ≤ 1000000) :
    Calls Try.prog 101 #[.pointer (some ⟨b, 0, none⟩)] w fun e w' => e = .returned (.string (strL (m.take n))) ∧ Bl (w.setCell ⟨b, 0, none⟩ (.string (strL (m.drop n)))) w' := by
  have HN := Lib.hid hn
  have hl2 : m.length ≤ 1000000 := by rw [← HM.out, List.length_drop]; omega
  clear hn
  go_enter Try.func101, Try.ntmps101
  go_wp2_with fail
  refine (pnum_some b l 4 _ hc h4 (by decide) (by decide)).mono ?_
  rintro e w1 ⟨rfl, rfl⟩
  rw [HN.out]
  rw [HM.out]
  have hc1 := hc.set (.string (strL m))
  have hC := Lib.hid hc
  clear hc
  go_wp2_with fail
  refine (ptake_some b m n _ hc1 hl).mono ?_
  rintro e w2 ⟨rfl, rfl⟩
  have HK := Lib.hid (fun w => cloneB_any (strL (m.take n)) w (by rw [strL_size, List.length_take]; omega))
  have hw := setCell_twice hC.out (.string (strL m)) (.string (strL (m.drop n)))
  go_wp2_with fail
  refine (HK.out _).mono ?_
  rintro e w3 ⟨rfl, hb⟩
  go_wp2_with fail
  go_ret
  exact ⟨rfl, hw.trans hb⟩
/-- what reading a text comes to -/
theorem ptext_any (b : Nat) (l : List UInt8) (w : World) (hc : C1 w b (.string (strL l))) (hz : l.length ≤ 1000000) :
    Calls Try.prog 101 #[.pointer (some ⟨b, 0, none⟩)] w fun e w' =>
      (∃ t r, rdText l = some (t, r) ∧ e = .returned (.string (strL t)) ∧ Bl (w.setCell ⟨b, 0, none⟩ (.string (strL r))) w') ∨ (rdText l = none ∧ e = panE ∧ ∃ r, Bl (w.setCell ⟨b, 0, none⟩ (.string r)) w') := by
  unfold rdText rdNum
  by_cases h4 : 4 ≤ l.length
  · rw [if_pos h4, Option.bind_some]
    have hn := lenF_int l
    dsimp only
    rw [show (getN (l.take 4)).toNat = lenF l from rfl]
    unfold rdTake
    by_cases hl : lenF l ≤ (l.drop 4).length
    · rw [if_pos hl]
      refine (ptext_some b l (l.drop 4) (lenF l) w hc h4 hn (Lib.hid rfl) hl hz).mono ?_
      rintro e w' ⟨rfl, hb⟩
      exact .inl ⟨_, _, rfl, rfl, hb⟩
    · rw [if_neg hl]
      refine (ptext_none b l (lenF l) w hc h4 hn (by omega)).mono ?_
      rintro e w' ⟨rfl, rfl⟩
      exact .inr ⟨rfl, rfl, _, Bl.refl _⟩
  · rw [if_neg h4]
    refine (ptext_none4 b l w hc (by omega)).mono ?_
    rintro e w' ⟨rfl, rfl⟩
    exact .inr ⟨rfl, rfl, _, Bl.same hc⟩

/-! ### vectors -/
theorem filled_L {l : List UInt8} (h : l ≠ []) : (strL l).toList.isEmpty = false := by
  rw [ByteArray.toList_eq]
  cases l with
  | nil => exact absurd rfl h
  | cons a l => rfl
theorem vget_vecP (t : List UInt8) (w : World) (h : t ≠ []) (hz : t.length ≤ 1000000) :
    Calls Try.prog 141 #[.string (strL t)] w fun e w' => ∃ (a : Option Addr) (n ca : Nat) (xs : List Int) (k c : Int), e = .returned (.tuple #[.slice a n ca, .int .i64 k, .int .i64 c]) ∧ Bl w w' ∧ FarIA w.heap.size w' a n xs ∧
      ((vecP t = some xs ∧ c = 0 ∧ k = (t.length : Int)) ∨ (vecP t = none ∧ ((c == 0) = false ∨ (c = 0 ∧ (k == (t.length : Int)) = false)))) := by
  cases t with
  | nil => exact absurd rfl h
  | cons d l =>
    have hs := strL_SB (d :: l)
    have hl1 : 1 ≤ (d :: l).length := by simp
    have hh : (d :: l).head?.map (·.toNat) = some d.toNat := rfl
    rw [vecP_cons]
    by_cases hf : d.toNat < 1 ∨ 8 < d.toNat
    · refine (vget_form (strL (d :: l)) (d :: l) d.toNat w hs hl1 hh hf).mono ?_
      rintro e w' ⟨rfl, hb⟩
      exact ⟨none, 0, 0, [], 0, 4, rfl, hb, FarIA.nil _ _, .inr ⟨if_neg (by omega), .inl rfl⟩⟩
    · refine (vget_loop (strL (d :: l)) (d :: l) d.toNat w hs hz hl1 hh (by omega)).mono ?_
      intro e w' hp
      unfold GetPost at hp
      by_cases hl : 1 + 6 * d.toNat ≤ (d :: l).length
      · rw [if_pos hl] at hp
        obtain ⟨v, rfl, hfi, hb⟩ := hp
        obtain ⟨a, n, ca, rfl, hI⟩ := hfi.si
        refine ⟨a, n, ca, _, _, 0, rfl, hb, hfi.far, ?_⟩
        rw [List.length_cons] at hl ⊢
        by_cases he : l.length = 6 * d.toNat
        · exact .inl ⟨by rw [if_pos ⟨by omega, by omega, he⟩]; rfl, rfl, by omega⟩
        · exact .inr ⟨by rw [if_neg (by omega)], .inr ⟨rfl, by rw [beq_eq_false_iff_ne]; omega⟩⟩
      · rw [if_neg hl] at hp
        obtain ⟨rfl, hb⟩ := hp
        rw [List.length_cons] at hl
        exact ⟨none, 0, 0, [], 0, 3, rfl, hb, FarIA.nil _ _, .inr ⟨if_neg (by omega), .inl rfl⟩⟩
set_option maxRecDepth 100000 in
/-- what reading a vector comes to -/
theorem pvec_any (b : Nat) (l : List UInt8) (w : World) (hc : C1 w b (.string (strL l))) (hz : l.length ≤ 1000000) :
    Calls Try.prog 100 #[.pointer (some ⟨b, 0, none⟩)] w fun e w' =>
      (∃ (a : Option Addr) (n ca : Nat) (xs : List Int) (r : List UInt8), rdVec l = some (xs, r) ∧ e = .returned (.slice a n ca) ∧ Bl (w.setCell ⟨b, 0, none⟩ (.string (strL r))) w' ∧ FarIA w.heap.size w' a n xs) ∨
      (rdVec l = none ∧ e = panE ∧ ∃ r, Bl (w.setCell ⟨b, 0, none⟩ (.string r)) w') := by
  unfold rdVec
  have HC := Lib.hid hc
  go_enter Try.func100, Try.ntmps100
  go_wp2_with fail
  refine (ptext_any b l _ hc hz).mono ?_
  clear hc
  rintro e w1 (⟨t, r, ht, rfl, hb⟩ | ⟨ht, rfl, r, hb⟩)
  · have HT := Lib.hid ht
    have htl : t.length ≤ 1000000 := by
      have := congrArg List.length (rdText_back ht)
      rw [List.length_append, textB_len] at this
      omega
    have hsz := hb.size
    rw [setCell_size] at hsz
    have HB := Lib.hid hb
    clear ht hb
    by_cases h0 : t = []
    · subst h0
      have q : (strL []).toList.isEmpty = true := by rw [ByteArray.toList_eq]; rfl
      go_wp2_with fail
      go_ret
      refine .inl ⟨none, 0, 0, [], r, ?_, rfl, HB.out, FarIA.nil _ _⟩
      rw [HT.out]; rfl
    · have q : (strL t).toList.isEmpty = false := filled_L h0
      have z := strL_size t
      have HV := Lib.hid (fun w => vget_vecP t w h0 htl)
      generalize strL t = s at *
      go_wp2_with fail
      refine (HV.out _).mono ?_
      rintro e w2 ⟨a, n, ca, xs, k, c, rfl, hb2, hfar, hcase⟩
      have HF := Lib.hid (hfar.mono hsz)
      have HB2 := Lib.hid (HB.out.trans hb2)
      clear hb2 hfar HB
      rcases hcase with ⟨h1, rfl, rfl⟩ | ⟨h1, h2 | ⟨rfl, h2⟩⟩
      · have H1 := Lib.hid h1
        clear h1
        go_wp2_with fail
        refine (pwant_yes _).mono ?_
        rintro e w' ⟨rfl, rfl⟩
        go_wp2_with fail
        go_ret
        refine .inl ⟨a, n, ca, xs, r, ?_, rfl, HB2.out, HF.out⟩
        rw [HT.out, Option.bind_some, H1.out]; rfl
      · have H1 := Lib.hid h1
        clear h1
        go_wp2_with fail
        refine (pwant_no _).mono ?_
        rintro e w' ⟨rfl, rfl⟩
        unfold panE
        go_wp2_with fail
        refine ⟨rfl, .inr ⟨?_, rfl, _, HB2.out⟩⟩
        rw [HT.out, Option.bind_some, H1.out]; rfl
      · have H1 := Lib.hid h1
        clear h1
        go_wp2_with fail
        refine (pwant_no _).mono ?_
        rintro e w' ⟨rfl, rfl⟩
        unfold panE
        go_wp2_with fail
        refine ⟨rfl, .inr ⟨?_, rfl, _, HB2.out⟩⟩
        rw [HT.out, Option.bind_some, H1.out]; rfl
  · unfold panE
    go_wp2_with fail
    refine ⟨rfl, .inr ⟨?_, rfl, r, hb⟩⟩
    rw [ht]; rfl
end Go.Proofs.Ytechiehbigmjbaa
