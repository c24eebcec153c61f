import Derived.Test.YtaelghbjbopilaaGreatQProtoRepliesUptoP7
import Derived.Test.YtaelghbjbopilaaGreatQProtoRepliesUptoP11
import Derived.Test.YtaelghbjbopilaaGreatQProtoRepliesUptoP15
import Derived.Test.YtaelghbjbopilaaGreatQProtoRepliesUptoP17
import Derived.Test.YtaelghbjbopilaaGreatQProtoRepliesUptoP10

/- an own slice of ints among boxes that turn. By an AI agent. -/
section
set_option linter.unusedVariables false
namespace Go.Proofs.YtaelghbjbopilaaGreat
open Go.RowKit

/-- an own slice, in parts -/
def FarO (B : Nat) (w : World) (a : Option Addr) (n ca : Nat) (xs : List Int) : Prop := FI B w (.slice a n ca) xs
theorem FarO.nil (B : Nat) (w : World) : FarO B w none 0 0 [] := FI.nil B w
theorem FarO.keep {B : Nat} {w w' : World} {a : Option Addr} {n ca : Nat} {xs : List Int} (h : FarO B w a n ca xs) (hb : Bl w w') : FarO B w' a n ca xs := FI.keep h hb
theorem FarO.block {B : Nat} {w : World} {a : Option Addr} {n ca : Nat} {xs : List Int} (h : FarO B w a n ca xs) : ∀ b off, a = some ⟨b, off, none⟩ → B ≤ b ∧ b < w.heap.size := by
  intro b off e
  obtain ⟨-, ⟨h1, -⟩ | ⟨g, cap, cur, hv, hB, hg, -⟩⟩ := h.own
  · cases h1; cases e
  · cases hv
    cases e
    exact ⟨hB, lt_of_heap hg⟩
theorem FarO.apart {B : Nat} {w : World} {a : Option Addr} {n ca : Nat} {xs : List Int} (h : FarO B w a n ca xs) {q : Nat} (hq : ∀ b off, a = some ⟨b, off, none⟩ → b ≠ q) (j : Nat) (u : Value) : FarO B (w.setCell ⟨q, j, none⟩ u) a n ca xs := by
  refine ⟨?_, h.cap, h.wf⟩
  obtain ⟨h1, h2 | ⟨g, cap, cur, hv, hB, hg, r⟩⟩ := h.own
  · exact ⟨h1, .inl h2⟩
  · have hne : g ≠ q := by
      cases hv
      exact hq g 0 rfl
    exact ⟨h1, .inr ⟨g, cap, cur, hv, hB, by rw [Below.heap_setCell _ _ _ _ hne]; exact hg, r⟩⟩
theorem FarO.mono {B B' : Nat} {w : World} {a : Option Addr} {n ca : Nat} {xs : List Int} (h : FarO B w a n ca xs) (hB : B' ≤ B) : FarO B' w a n ca xs := by
  refine ⟨?_, h.cap, h.wf⟩
  obtain ⟨h1, h2 | ⟨g, cap, cur, hv, hB2, r⟩⟩ := h.own
  · exact ⟨h1, .inl h2⟩
  · exact ⟨h1, .inr ⟨g, cap, cur, hv, Nat.le_trans hB hB2, r⟩⟩
theorem FarO.set {B : Nat} {w : World} {a : Option Addr} {n ca : Nat} {xs : List Int} (h : FarO B w a n ca xs) {q : Nat} (hq : q < B) (j : Nat) (u : Value) : FarO B (w.setCell ⟨q, j, none⟩ u) a n ca xs :=
  h.apart (fun b off e => by have := h.block b off e; omega) j u
theorem FarO.fill {B : Nat} {a : Option Addr} {n ca : Nat} {xs : List Int} {q : Nat} (hq : q < B) (vs : List Value) : ∀ (w : World) (j : Nat), FarO B w a n ca xs → FarO B (Go.Proofs.YtaelghbjbopilaaGreat.fill w q j vs) a n ca xs := by
  induction vs with
  | nil => intro w j h; exact h
  | cons v vs ih => intro w j h; exact ih _ _ (h.set hq j v)
theorem FarO.fillApart {B : Nat} {a : Option Addr} {n ca : Nat} {xs : List Int} {q : Nat} (hq : ∀ b off, a = some ⟨b, off, none⟩ → b ≠ q) (vs : List Value) : ∀ (w : World) (j : Nat), FarO B w a n ca xs → FarO B (Go.Proofs.YtaelghbjbopilaaGreat.fill w q j vs) a n ca xs := by
  induction vs with
  | nil => intro w j h; exact h
  | cons v vs ih => intro w j h; exact ih _ _ (h.apart hq j v)
theorem FarO.far {B : Nat} {w : World} {a : Option Addr} {n ca : Nat} {xs : List Int} (h : FarO B w a n ca xs) : FarIA B w a n xs := FI.far h
end Go.Proofs.YtaelghbjbopilaaGreat
end

/- proto.reader: take, num, text, vector. By an AI agent. -/
section
set_option linter.unusedVariables false
set_option linter.unusedSimpArgs false
namespace Go.Proofs.YtaelghbjbopilaaGreat
open Go.RowKit

theorem pwant_yes (w : World) : Calls Tryz.prog 40 #[.bool true] w fun e w' => e = .returned (.tuple #[]) ∧ w = w' := by
  go_enter Tryz.func40, Tryz.ntmps40
  go_wp2_with fail
  go_end0
  exact ⟨rfl, rfl⟩
theorem pwant_no (w : World) : Calls Tryz.prog 40 #[.bool false] w fun e w' => e = panE ∧ w = w' := by
  go_enter Tryz.func40, Tryz.ntmps40
  go_wp2_with fail
  exact ⟨rfl, rfl, rfl⟩
theorem ptake_some (b : Nat) (l : List UInt8) (n : Nat) (w : World) (hc : C1 w b (.string (strL l))) (hn : n ≤ l.length) :
    Calls Tryz.prog 128 #[.pointer (some ⟨b, 0, none⟩), .int .i64 n] w fun e w' => e = .returned (.string (strL (l.take n))) ∧ w' = w.setCell ⟨b, 0, none⟩ (.string (strL (l.drop n))) := by
  have h0 := hc.cell
  have hf := hc.frozen
  have z := strL_size l
  have e1 := strL_take l n
  have e2 := strL_drop l n
  rw [z] at e2
  clear hc
  generalize strL (l.take n) = q1 at *
  generalize strL (l.drop n) = q2 at *
  generalize strL l = s at *
  go_enter Tryz.func128, Tryz.ntmps128
  go_wp2_with fail
  refine (pwant_yes _).mono ?_
  rintro e w' ⟨rfl, rfl⟩
  go_wp2_with fail
  go_ret
  exact ⟨rfl, rfl⟩
theorem ptake_none (b : Nat) (l : List UInt8) (n : Nat) (w : World) (hc : C1 w b (.string (strL l))) (hn : l.length < n) :
    Calls Tryz.prog 128 #[.pointer (some ⟨b, 0, none⟩), .int .i64 n] w fun e w' => e = panE ∧ w = w' := by
  have h0 := hc.cell
  have z := strL_size l
  have q : decide (n ≤ l.length) = false := by rw [decide_eq_false_iff_not]; omega
  clear hc
  generalize strL l = s at *
  go_enter Tryz.func128, Tryz.ntmps128
  go_wp2_with fail
  refine (pwant_no _).mono ?_
  rintro e w' ⟨rfl, rfl⟩
  unfold panE
  go_wp2_with fail
  exact ⟨rfl, rfl, rfl⟩
theorem pnum_some (b : Nat) (l : List UInt8) (n : Nat) (w : World) (hc : C1 w b (.string (strL l))) (hn : n ≤ l.length) (h1 : 1 ≤ n) (h7 : n ≤ 7) :
    Calls Tryz.prog 41 #[.pointer (some ⟨b, 0, none⟩), .int .i64 n] w fun e w' => e = .returned (.int .i64 (getN (l.take n))) ∧ w' = w.setCell ⟨b, 0, none⟩ (.string (strL (l.drop n))) := by
  have HG := Lib.hid (fun w => getL_any (l.take n) w (by rw [List.length_take]; omega) (by rw [List.length_take]; omega))
  go_enter Tryz.func41, Tryz.ntmps41
  go_wp2_with fail
  refine (ptake_some b l n _ hc hn).mono ?_
  rintro e w1 ⟨rfl, rfl⟩
  go_wp2_with fail
  refine (HG.out _).mono ?_
  rintro e w1 ⟨rfl, rfl⟩
  go_wp2_with fail
  go_ret
  exact ⟨rfl, rfl⟩
theorem pnum_none (b : Nat) (l : List UInt8) (n : Nat) (w : World) (hc : C1 w b (.string (strL l))) (hn : l.length < n) :
    Calls Tryz.prog 41 #[.pointer (some ⟨b, 0, none⟩), .int .i64 n] w fun e w' => e = panE ∧ w = w' := by
  go_enter Tryz.func41, Tryz.ntmps41
  go_wp2_with fail
  refine (ptake_none b l n _ hc hn).mono ?_
  rintro e w1 ⟨rfl, rfl⟩
  unfold panE
  go_wp2_with fail
  exact ⟨rfl, rfl, rfl⟩
/-- what reading a number comes to -/
theorem pnum_any (b : Nat) (l : List UInt8) (n : Nat) (w : World) (hc : C1 w b (.string (strL l))) (h1 : 1 ≤ n) (h7 : n ≤ 7) :
    Calls Tryz.prog 41 #[.pointer (some ⟨b, 0, none⟩), .int .i64 n] w fun e w' =>
      (∃ v r, rdNum n l = some (v, r) ∧ e = .returned (.int .i64 v) ∧ w' = w.setCell ⟨b, 0, none⟩ (.string (strL r))) ∨ (rdNum n l = none ∧ e = panE ∧ w = w') := by
  unfold rdNum
  by_cases hn : n ≤ l.length
  · rw [if_pos hn]
    refine (pnum_some b l n w hc hn h1 h7).mono ?_
    rintro e w' ⟨rfl, rfl⟩
    exact .inl ⟨_, _, rfl, rfl, rfl⟩
  · rw [if_neg hn]
    refine (pnum_none b l n w hc (by omega)).mono ?_
    rintro e w' ⟨rfl, rfl⟩
    exact .inr ⟨rfl, rfl, rfl⟩
theorem setCell_twice {w : World} {g : Nat} {v : Value} (hc : C1 w g v) (a b : Value) : Bl (w.setCell ⟨g, 0, none⟩ b) ((w.setCell ⟨g, 0, none⟩ a).setCell ⟨g, 0, none⟩ b) := Bl.reset hc (Bl.refl _)
theorem ptext_none4 (b : Nat) (l : List UInt8) (w : World) (hc : C1 w b (.string (strL l))) (hn : l.length < 4) :
    Calls Tryz.prog 44 #[.pointer (some ⟨b, 0, none⟩)] w fun e w' => e = panE ∧ w = w' := by
  go_enter Tryz.func44, Tryz.ntmps44
  go_wp2_with fail
  refine (pnum_none b l 4 _ hc hn).mono ?_
  rintro e w1 ⟨rfl, rfl⟩
  unfold panE
  go_wp2_with fail
  exact ⟨rfl, rfl, rfl⟩
theorem ptext_none (b : Nat) (l : List UInt8) (n : Nat) (w : World) (hc : C1 w b (.string (strL l))) (h4 : 4 ≤ l.length) (hn : getN (l.take 4) = n) (hl : (l.drop 4).length < n) :
    Calls Tryz.prog 44 #[.pointer (some ⟨b, 0, none⟩)] w fun e w' => e = panE ∧ w' = w.setCell ⟨b, 0, none⟩ (.string (strL (l.drop 4))) := by
  have HN := Lib.hid hn
  clear hn
  go_enter Tryz.func44, Tryz.ntmps44
  go_wp2_with fail
  refine (pnum_some b l 4 _ hc h4 (by decide) (by decide)).mono ?_
  rintro e w1 ⟨rfl, rfl⟩
  rw [HN.out]
  have hc1 := hc.set (.string (strL (l.drop 4)))
  go_wp2_with fail
  refine (ptake_none b (l.drop 4) n _ hc1 hl).mono ?_
  rintro e w2 ⟨rfl, rfl⟩
  unfold panE
  go_wp2_with fail
  exact ⟨rfl, rfl, rfl⟩
theorem ptext_some (b : Nat) (l m : List UInt8) (n : Nat) (w : World) (hc : C1 w b (.string (strL l))) (h4 : 4 ≤ l.length) (hn : getN (l.take 4) = n) (HM : Hid (l.drop 4 = m)) (hl : n ≤ m.length) (hz : l.length ≤ 1000000) :
    Calls Tryz.prog 44 #[.pointer (some ⟨b, 0, none⟩)] w fun e w' => e = .returned (.string (strL (m.take n))) ∧ Bl (w.setCell ⟨b, 0, none⟩ (.string (strL (m.drop n)))) w' := by
  have HN := Lib.hid hn
  have hl2 : m.length ≤ 1000000 := by rw [← HM.out, List.length_drop]; omega
  clear hn
  go_enter Tryz.func44, Tryz.ntmps44
  go_wp2_with fail
  refine (pnum_some b l 4 _ hc h4 (by decide) (by decide)).mono ?_
  rintro e w1 ⟨rfl, rfl⟩
  rw [HN.out]
  rw [HM.out]
  have hc1 := hc.set (.string (strL m))
  have hC := Lib.hid hc
  clear hc
  go_wp2_with fail
  refine (ptake_some b m n _ hc1 hl).mono ?_
  rintro e w2 ⟨rfl, rfl⟩
  have HK := Lib.hid (fun w => cloneB_any (strL (m.take n)) w (by rw [strL_size, List.length_take]; omega))
  have hw := setCell_twice hC.out (.string (strL m)) (.string (strL (m.drop n)))
  go_wp2_with fail
  refine (HK.out _).mono ?_
  rintro e w3 ⟨rfl, hb⟩
  go_wp2_with fail
  go_ret
  exact ⟨rfl, hw.trans hb⟩
/-- what reading a text comes to -/
theorem ptext_any (b : Nat) (l : List UInt8) (w : World) (hc : C1 w b (.string (strL l))) (hz : l.length ≤ 1000000) :
    Calls Tryz.prog 44 #[.pointer (some ⟨b, 0, none⟩)] w fun e w' =>
      (∃ t r, rdText l = some (t, r) ∧ e = .returned (.string (strL t)) ∧ Bl (w.setCell ⟨b, 0, none⟩ (.string (strL r))) w') ∨ (rdText l = none ∧ e = panE ∧ ∃ r, Bl (w.setCell ⟨b, 0, none⟩ (.string r)) w') := by
  unfold rdText rdNum
  by_cases h4 : 4 ≤ l.length
  · rw [if_pos h4, Option.bind_some]
    have hn := lenF_int l
    dsimp only
    rw [show (getN (l.take 4)).toNat = lenF l from rfl]
    unfold rdTake
    by_cases hl : lenF l ≤ (l.drop 4).length
    · rw [if_pos hl]
      refine (ptext_some b l (l.drop 4) (lenF l) w hc h4 hn (Lib.hid rfl) hl hz).mono ?_
      rintro e w' ⟨rfl, hb⟩
      exact .inl ⟨_, _, rfl, rfl, hb⟩
    · rw [if_neg hl]
      refine (ptext_none b l (lenF l) w hc h4 hn (by omega)).mono ?_
      rintro e w' ⟨rfl, rfl⟩
      exact .inr ⟨rfl, rfl, _, Bl.refl _⟩
  · rw [if_neg h4]
    refine (ptext_none4 b l w hc (by omega)).mono ?_
    rintro e w' ⟨rfl, rfl⟩
    exact .inr ⟨rfl, rfl, _, Bl.same hc⟩

/-! ### vectors -/
theorem filled_L {l : List UInt8} (h : l ≠ []) : (strL l).toList.isEmpty = false := by
  rw [ByteArray.toList_eq]
  cases l with
  | nil => exact absurd rfl h
  | cons a l => rfl
theorem vget_vecO (t : List UInt8) (w : World) (h : t ≠ []) (hz : t.length ≤ 1000000) :
    Calls Tryz.prog 129 #[.string (strL t)] w fun e w' => ∃ (a : Option Addr) (n ca : Nat) (xs : List Int) (k c : Int), e = .returned (.tuple #[.slice a n ca, .int .i64 k, .int .i64 c]) ∧ Bl w w' ∧ FarO w.heap.size w' a n ca xs ∧
      ((vecP t = some xs ∧ c = 0 ∧ k = (t.length : Int)) ∨ (vecP t = none ∧ ((c == 0) = false ∨ (c = 0 ∧ (k == (t.length : Int)) = false)))) := by
  cases t with
  | nil => exact absurd rfl h
  | cons d l =>
    have hs := strL_SB (d :: l)
    have hl1 : 1 ≤ (d :: l).length := by simp
    have hh : (d :: l).head?.map (·.toNat) = some d.toNat := rfl
    rw [vecP_cons]
    by_cases hf : d.toNat < 1 ∨ 8 < d.toNat
    · refine (vget_form (strL (d :: l)) (d :: l) d.toNat w hs hl1 hh hf).mono ?_
      rintro e w' ⟨rfl, hb⟩
      exact ⟨none, 0, 0, [], 0, 4, rfl, hb, FarO.nil _ _, .inr ⟨if_neg (by omega), .inl rfl⟩⟩
    · refine (vget_loop (strL (d :: l)) (d :: l) d.toNat w hs (Nat.le_trans hz (by decide)) hl1 hh (by omega)).mono ?_
      intro e w' hp
      unfold GetPost at hp
      by_cases hl : 1 + 6 * d.toNat ≤ (d :: l).length
      · rw [if_pos hl] at hp
        obtain ⟨v, rfl, hfi, hb⟩ := hp
        obtain ⟨a, n, ca, rfl, hI⟩ := hfi.si
        refine ⟨a, n, ca, _, _, 0, rfl, hb, hfi, ?_⟩
        rw [List.length_cons] at hl ⊢
        by_cases he : l.length = 6 * d.toNat
        · exact .inl ⟨by rw [if_pos ⟨by omega, by omega, he⟩]; rfl, rfl, by omega⟩
        · exact .inr ⟨by rw [if_neg (by omega)], .inr ⟨rfl, by rw [beq_eq_false_iff_ne]; omega⟩⟩
      · rw [if_neg hl] at hp
        obtain ⟨rfl, hb⟩ := hp
        rw [List.length_cons] at hl
        exact ⟨none, 0, 0, [], 0, 3, rfl, hb, FarO.nil _ _, .inr ⟨if_neg (by omega), .inl rfl⟩⟩
set_option maxRecDepth 100000 in
/-- what reading a vector comes to -/
theorem pvecO_any (b : Nat) (l : List UInt8) (w : World) (hc : C1 w b (.string (strL l))) (hz : l.length ≤ 1000000) :
    Calls Tryz.prog 42 #[.pointer (some ⟨b, 0, none⟩)] w fun e w' =>
      (∃ (a : Option Addr) (n ca : Nat) (xs : List Int) (r : List UInt8), rdVec l = some (xs, r) ∧ e = .returned (.slice a n ca) ∧ Bl (w.setCell ⟨b, 0, none⟩ (.string (strL r))) w' ∧ FarO w.heap.size w' a n ca xs) ∨
      (rdVec l = none ∧ e = panE ∧ ∃ r, Bl (w.setCell ⟨b, 0, none⟩ (.string r)) w') := by
  unfold rdVec
  have HC := Lib.hid hc
  go_enter Tryz.func42, Tryz.ntmps42
  go_wp2_with fail
  refine (ptext_any b l _ hc hz).mono ?_
  clear hc
  rintro e w1 (⟨t, r, ht, rfl, hb⟩ | ⟨ht, rfl, r, hb⟩)
  · have HT := Lib.hid ht
    have htl : t.length ≤ 1000000 := by
      have := congrArg List.length (rdText_back ht)
      rw [List.length_append, textB_len] at this
      omega
    have hsz := hb.size
    rw [setCell_size] at hsz
    have HB := Lib.hid hb
    clear ht hb
    by_cases h0 : t = []
    · subst h0
      have q : (strL []).toList.isEmpty = true := by rw [ByteArray.toList_eq]; rfl
      go_wp2_with fail
      go_ret
      refine .inl ⟨none, 0, 0, [], r, ?_, rfl, HB.out, FarO.nil _ _⟩
      rw [HT.out]; rfl
    · have q : (strL t).toList.isEmpty = false := filled_L h0
      have z := strL_size t
      have HV := Lib.hid (fun w => vget_vecO t w h0 htl)
      generalize strL t = s at *
      go_wp2_with fail
      refine (HV.out _).mono ?_
      rintro e w2 ⟨a, n, ca, xs, k, c, rfl, hb2, hfar, hcase⟩
      have HF := Lib.hid (hfar.mono hsz)
      have HB2 := Lib.hid (HB.out.trans hb2)
      clear hb2 hfar HB
      rcases hcase with ⟨h1, rfl, rfl⟩ | ⟨h1, h2 | ⟨rfl, h2⟩⟩
      · have H1 := Lib.hid h1
        clear h1
        go_wp2_with fail
        refine (pwant_yes _).mono ?_
        rintro e w' ⟨rfl, rfl⟩
        go_wp2_with fail
        go_ret
        refine .inl ⟨a, n, ca, xs, r, ?_, rfl, HB2.out, HF.out⟩
        rw [HT.out, Option.bind_some, H1.out]; rfl
      · have H1 := Lib.hid h1
        clear h1
        go_wp2_with fail
        refine (pwant_no _).mono ?_
        rintro e w' ⟨rfl, rfl⟩
        unfold panE
        go_wp2_with fail
        refine ⟨rfl, .inr ⟨?_, rfl, _, HB2.out⟩⟩
        rw [HT.out, Option.bind_some, H1.out]; rfl
      · have H1 := Lib.hid h1
        clear h1
        go_wp2_with fail
        refine (pwant_no _).mono ?_
        rintro e w' ⟨rfl, rfl⟩
        unfold panE
        go_wp2_with fail
        refine ⟨rfl, .inr ⟨?_, rfl, _, HB2.out⟩⟩
        rw [HT.out, Option.bind_some, H1.out]; rfl
  · unfold panE
    go_wp2_with fail
    refine ⟨rfl, .inr ⟨?_, rfl, r, hb⟩⟩
    rw [ht]; rfl
end Go.Proofs.YtaelghbjbopilaaGreat
end
