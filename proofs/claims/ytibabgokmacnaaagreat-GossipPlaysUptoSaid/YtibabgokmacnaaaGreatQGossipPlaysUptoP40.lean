import Derived.Test.YtibabgokmacnaaaGreatQGossipPlaysUptoP37
import Derived.Test.YtibabgokmacnaaaGreatQGossipPlaysUptoP38
import Derived.Test.YtibabgokmacnaaaGreatQGossipPlaysUptoP36
import Derived.Test.YtibabgokmacnaaaGreatQGossipPlaysUptoP39
import Derived.Test.YtibabgokmacnaaaGreatQGossipPlaysUptoP34
import Derived.Test.YtibabgokmacnaaaGreatQGossipPlaysUptoP14

/- proto.reader: take, num, text, vector. By an AI agent. -/
section
set_option linter.unusedVariables false
set_option linter.unusedSimpArgs false
namespace Go.Proofs.YtibabgokmacnaaaGreat
open Go.RowKit

theorem pwant_yes (w : World) : Calls Tryz.prog 168 #[.bool true] w fun e w' => e = .returned (.tuple #[]) ∧ w = w' := by
  go_enter Tryz.func168, Tryz.ntmps168
  go_wp2_with fail
  go_end0
  exact ⟨rfl, rfl⟩
theorem pwant_no (w : World) : Calls Tryz.prog 168 #[.bool false] w fun e w' => e = panE ∧ w = w' := by
  go_enter Tryz.func168, Tryz.ntmps168
  go_wp2_with fail
  exact ⟨rfl, rfl, rfl⟩
theorem ptake_some (b : Nat) (l : List UInt8) (n : Nat) (w : World) (hc : C1 w b (.string (strL l))) (hn : n ≤ l.length) :
    Calls Tryz.prog 213 #[.pointer (some ⟨b, 0, none⟩), .int .i64 n] w fun e w' => e = .returned (.string (strL (l.take n))) ∧ w' = w.setCell ⟨b, 0, none⟩ (.string (strL (l.drop n))) := by
  have h0 := hc.cell
  have hf := hc.frozen
  have z := strL_size l
  have e1 := strL_take l n
  have e2 := strL_drop l n
  rw [z] at e2
  clear hc
  generalize strL (l.take n) = q1 at *
  generalize strL (l.drop n) = q2 at *
  generalize strL l = s at *
  go_enter Tryz.func213, Tryz.ntmps213
  go_wp2_with fail
  refine (pwant_yes _).mono ?_
  rintro e w' ⟨rfl, rfl⟩
  go_wp2_with fail
  go_ret
  exact ⟨rfl, rfl⟩
theorem ptake_none (b : Nat) (l : List UInt8) (n : Nat) (w : World) (hc : C1 w b (.string (strL l))) (hn : l.length < n) :
    Calls Tryz.prog 213 #[.pointer (some ⟨b, 0, none⟩), .int .i64 n] w fun e w' => e = panE ∧ w = w' := by
  have h0 := hc.cell
  have z := strL_size l
  have q : decide (n ≤ l.length) = false := by rw [decide_eq_false_iff_not]; omega
  clear hc
  generalize strL l = s at *
  go_enter Tryz.func213, Tryz.ntmps213
  go_wp2_with fail
  refine (pwant_no _).mono ?_
  rintro e w' ⟨rfl, rfl⟩
  unfold panE
  go_wp2_with fail
  exact ⟨rfl, rfl, rfl⟩
theorem pnum_some (b : Nat) (l : List UInt8) (n : Nat) (w : World) (hc : C1 w b (.string (strL l))) (hn : n ≤ l.length) (h1 : 1 ≤ n) (h7 : n ≤ 7) :
    Calls Tryz.prog 164 #[.pointer (some ⟨b, 0, none⟩), .int .i64 n] w fun e w' => e = .returned (.int .i64 (getN (l.take n))) ∧ w' = w.setCell ⟨b, 0, none⟩ (.string (strL (l.drop n))) := by
  have HG := Lib.hid (fun w => getL_any (l.take n) w (by rw [List.length_take]; omega) (by rw [List.length_take]; omega))
  go_enter Tryz.func164, Tryz.ntmps164
  go_wp2_with fail
  refine (ptake_some b l n _ hc hn).mono ?_
  rintro e w1 ⟨rfl, rfl⟩
  go_wp2_with fail
  refine (HG.out _).mono ?_
  rintro e w1 ⟨rfl, rfl⟩
  go_wp2_with fail
  go_ret
  exact ⟨rfl, rfl⟩
theorem pnum_none (b : Nat) (l : List UInt8) (n : Nat) (w : World) (hc : C1 w b (.string (strL l))) (hn : l.length < n) :
    Calls Tryz.prog 164 #[.pointer (some ⟨b, 0, none⟩), .int .i64 n] w fun e w' => e = panE ∧ w = w' := by
  go_enter Tryz.func164, Tryz.ntmps164
  go_wp2_with fail
  refine (ptake_none b l n _ hc hn).mono ?_
  rintro e w1 ⟨rfl, rfl⟩
  unfold panE
  go_wp2_with fail
  exact ⟨rfl, rfl, rfl⟩
/-- what reading a number comes to -/
theorem pnum_any (b : Nat) (l : List UInt8) (n : Nat) (w : World) (hc : C1 w b (.string (strL l))) (h1 : 1 ≤ n) (h7 : n ≤ 7) :
    Calls Tryz.prog 164 #[.pointer (some ⟨b, 0, none⟩), .int .i64 n] w fun e w' =>
      (∃ v r, rdNum n l = some (v, r) ∧ e = .returned (.int .i64 v) ∧ w' = w.setCell ⟨b, 0, none⟩ (.string (strL r))) ∨ (rdNum n l = none ∧ e = panE ∧ w = w') := by
  unfold rdNum
  by_cases hn : n ≤ l.length
  · rw [if_pos hn]
    refine (pnum_some b l n w hc hn h1 h7).mono ?_
    rintro e w' ⟨rfl, rfl⟩
    exact .inl ⟨_, _, rfl, rfl, rfl⟩
  · rw [if_neg hn]
    refine (pnum_none b l n w hc (by omega)).mono ?_
    rintro e w' ⟨rfl, rfl⟩
    exact .inr ⟨rfl, rfl, rfl⟩
theorem setCell_twice {w : World} {g : Nat} {v : Value} (hc : C1 w g v) (a b : Value) : Bl (w.setCell ⟨g, 0, none⟩ b) ((w.setCell ⟨g, 0, none⟩ a).setCell ⟨g, 0, none⟩ b) := Bl.reset hc (Bl.refl _)
theorem ptext_none4 (b : Nat) (l : List UInt8) (w : World) (hc : C1 w b (.string (strL l))) (hn : l.length < 4) :
    Calls Tryz.prog 166 #[.pointer (some ⟨b, 0, none⟩)] w fun e w' => e = panE ∧ w = w' := by
  go_enter Tryz.func166, Tryz.ntmps166
  go_wp2_with fail
  refine (pnum_none b l 4 _ hc hn).mono ?_
  rintro e w1 ⟨rfl, rfl⟩
  unfold panE
  go_wp2_with fail
  exact ⟨rfl, rfl, rfl⟩
theorem ptext_none (b : Nat) (l : List UInt8) (n : Nat) (w : World) (hc : C1 w b (.string (strL l))) (h4 : 4 ≤ l.length) (hn : getN (l.take 4) = n) (hl : (l.drop 4).length < n) :
    Calls Tryz.prog 166 #[.pointer (some ⟨b, 0, none⟩)] w fun e w' => e = panE ∧ w' = w.setCell ⟨b, 0, none⟩ (.string (strL (l.drop 4))) := by
  have HN := Lib.hid hn
  clear hn
  go_enter Tryz.func166, Tryz.ntmps166
  go_wp2_with fail
  refine (pnum_some b l 4 _ hc h4 (by decide) (by decide)).mono ?_
  rintro e w1 ⟨rfl, rfl⟩
  rw [HN.out]
  have hc1 := hc.set (.string (strL (l.drop 4)))
  go_wp2_with fail
  refine (ptake_none b (l.drop 4) n _ hc1 hl).mono ?_
  rintro e w2 ⟨rfl, rfl⟩
  unfold panE
  go_wp2_with fail
  exact ⟨rfl, rfl, rfl⟩
theorem ptext_some (b : Nat) (l m : List UInt8) (n : Nat) (w : World) (hc : C1 w b (.string (strL l))) (h4 : 4 ≤ l.length) (hn : getN (l.take 4) = n) (HM : Hid (l.drop 4 = m)) (hl : n ≤ m.length) (hz : l.length ≤ 1000000) :
    Calls Tryz.prog 166 #[.pointer (some ⟨b, 0, none⟩)] w fun e w' => e = .returned (.string (strL (m.take n))) ∧ Bl (w.setCell ⟨b, 0, none⟩ (.string (strL (m.drop n)))) w' := by
  have HN := Lib.hid hn
  have hl2 : m.length ≤ 1000000 := by rw [← HM.out, List.length_drop]; omega
  clear hn
  go_enter Tryz.func166, Tryz.ntmps166
  go_wp2_with fail
  refine (pnum_some b l 4 _ hc h4 (by decide) (by decide)).mono ?_
  rintro e w1 ⟨rfl, rfl⟩
  rw [HN.out]
  rw [HM.out]
  have hc1 := hc.set (.string (strL m))
  have hC := Lib.hid hc
  clear hc
  go_wp2_with fail
  refine (ptake_some b m n _ hc1 hl).mono ?_
  rintro e w2 ⟨rfl, rfl⟩
  have HK := Lib.hid (fun w => cloneB_any (strL (m.take n)) w (by rw [strL_size, List.length_take]; omega))
  have hw := setCell_twice hC.out (.string (strL m)) (.string (strL (m.drop n)))
  go_wp2_with fail
  refine (HK.out _).mono ?_
  rintro e w3 ⟨rfl, hb⟩
  go_wp2_with fail
  go_ret
  exact ⟨rfl, hw.trans hb⟩
/-- what reading a text comes to -/
theorem ptext_any (b : Nat) (l : List UInt8) (w : World) (hc : C1 w b (.string (strL l))) (hz : l.length ≤ 1000000) :
    Calls Tryz.prog 166 #[.pointer (some ⟨b, 0, none⟩)] w fun e w' =>
      (∃ t r, rdText l = some (t, r) ∧ e = .returned (.string (strL t)) ∧ Bl (w.setCell ⟨b, 0, none⟩ (.string (strL r))) w') ∨ (rdText l = none ∧ e = panE ∧ ∃ r, Bl (w.setCell ⟨b, 0, none⟩ (.string r)) w') := by
  unfold rdText rdNum
  by_cases h4 : 4 ≤ l.length
  · rw [if_pos h4, Option.bind_some]
    have hn := lenF_int l
    dsimp only
    rw [show (getN (l.take 4)).toNat = lenF l from rfl]
    unfold rdTake
    by_cases hl : lenF l ≤ (l.drop 4).length
    · rw [if_pos hl]
      refine (ptext_some b l (l.drop 4) (lenF l) w hc h4 hn (Lib.hid rfl) hl hz).mono ?_
      rintro e w' ⟨rfl, hb⟩
      exact .inl ⟨_, _, rfl, rfl, hb⟩
    · rw [if_neg hl]
      refine (ptext_none b l (lenF l) w hc h4 hn (by omega)).mono ?_
      rintro e w' ⟨rfl, rfl⟩
      exact .inr ⟨rfl, rfl, _, Bl.refl _⟩
  · rw [if_neg h4]
    refine (ptext_none4 b l w hc (by omega)).mono ?_
    rintro e w' ⟨rfl, rfl⟩
    exact .inr ⟨rfl, rfl, _, Bl.same hc⟩

/-! ### vectors -/
theorem filled_L {l : List UInt8} (h : l ≠ []) : (strL l).toList.isEmpty = false := by
  rw [ByteArray.toList_eq]
  cases l with
  | nil => exact absurd rfl h
  | cons a l => rfl
theorem vget_vecO (t : List UInt8) (w : World) (h : t ≠ []) (hz : t.length ≤ 1000000) :
    Calls Tryz.prog 13 #[.string (strL t)] w fun e w' => ∃ (a : Option Addr) (n ca : Nat) (xs : List Int) (k c : Int), e = .returned (.tuple #[.slice a n ca, .int .i64 k, .int .i64 c]) ∧ Bl w w' ∧ FarO w.heap.size w' a n ca xs ∧
      ((vecP t = some xs ∧ c = 0 ∧ k = (t.length : Int)) ∨ (vecP t = none ∧ ((c == 0) = false ∨ (c = 0 ∧ (k == (t.length : Int)) = false)))) := by
  cases t with
  | nil => exact absurd rfl h
  | cons d l =>
    have hs := strL_SB (d :: l)
    have hl1 : 1 ≤ (d :: l).length := by simp
    have hh : (d :: l).head?.map (·.toNat) = some d.toNat := rfl
    rw [vecP_cons]
    by_cases hf : d.toNat < 1 ∨ 8 < d.toNat
    · refine (vget_form (strL (d :: l)) (d :: l) d.toNat w hs hl1 hh hf).mono ?_
      rintro e w' ⟨rfl, hb⟩
      exact ⟨none, 0, 0, [], 0, 4, rfl, hb, FarO.nil _ _, .inr ⟨if_neg (by omega), .inl rfl⟩⟩
    · refine (vget_loop (strL (d :: l)) (d :: l) d.toNat w hs (Nat.le_trans hz (by decide)) hl1 hh (by omega)).mono ?_
      intro e w' hp
      unfold GetPost at hp
      by_cases hl : 1 + 6 * d.toNat ≤ (d :: l).length
      · rw [if_pos hl] at hp
        obtain ⟨v, rfl, hfi, hb⟩ := hp
        obtain ⟨a, n, ca, rfl, hI⟩ := hfi.si
        refine ⟨a, n, ca, _, _, 0, rfl, hb, hfi, ?_⟩
        rw [List.length_cons] at hl ⊢
        by_cases he : l.length = 6 * d.toNat
        · exact .inl ⟨by rw [if_pos ⟨by omega, by omega, he⟩]; rfl, rfl, by omega⟩
        · exact .inr ⟨by rw [if_neg (by omega)], .inr ⟨rfl, by rw [beq_eq_false_iff_ne]; omega⟩⟩
      · rw [if_neg hl] at hp
        obtain ⟨rfl, hb⟩ := hp
        rw [List.length_cons] at hl
        exact ⟨none, 0, 0, [], 0, 3, rfl, hb, FarO.nil _ _, .inr ⟨if_neg (by omega), .inl rfl⟩⟩
set_option maxRecDepth 100000 in
/-- what reading a vector comes to -/
theorem pvecO_any (b : Nat) (l : List UInt8) (w : World) (hc : C1 w b (.string (strL l))) (hz : l.length ≤ 1000000) :
    Calls Tryz.prog 165 #[.pointer (some ⟨b, 0, none⟩)] w fun e w' =>
      (∃ (a : Option Addr) (n ca : Nat) (xs : List Int) (r : List UInt8), rdVec l = some (xs, r) ∧ e = .returned (.slice a n ca) ∧ Bl (w.setCell ⟨b, 0, none⟩ (.string (strL r))) w' ∧ FarO w.heap.size w' a n ca xs) ∨
      (rdVec l = none ∧ e = panE ∧ ∃ r, Bl (w.setCell ⟨b, 0, none⟩ (.string r)) w') := by
  unfold rdVec
  have HC := Lib.hid hc
  go_enter Tryz.func165, Tryz.ntmps165
  go_wp2_with fail
  refine (ptext_any b l _ hc hz).mono ?_
  clear hc
  rintro e w1 (⟨t, r, ht, rfl, hb⟩ | ⟨ht, rfl, r, hb⟩)
  · have HT := Lib.hid ht
    have htl : t.length ≤ 1000000 := by
      have := congrArg List.length (rdText_back ht)
      rw [List.length_append, textB_len] at this
      omega
    have hsz := hb.size
    rw [setCell_size] at hsz
    have HB := Lib.hid hb
    clear ht hb
    by_cases h0 : t = []
    · subst h0
      have q : (strL []).toList.isEmpty = true := by rw [ByteArray.toList_eq]; rfl
      go_wp2_with fail
      go_ret
      refine .inl ⟨none, 0, 0, [], r, ?_, rfl, HB.out, FarO.nil _ _⟩
      rw [HT.out]; rfl
    · have q : (strL t).toList.isEmpty = false := filled_L h0
      have z := strL_size t
      have HV := Lib.hid (fun w => vget_vecO t w h0 htl)
      generalize strL t = s at *
      go_wp2_with fail
      refine (HV.out _).mono ?_
      rintro e w2 ⟨a, n, ca, xs, k, c, rfl, hb2, hfar, hcase⟩
      have HF := Lib.hid (hfar.mono hsz)
      have HB2 := Lib.hid (HB.out.trans hb2)
      clear hb2 hfar HB
      rcases hcase with ⟨h1, rfl, rfl⟩ | ⟨h1, h2 | ⟨rfl, h2⟩⟩
      · have H1 := Lib.hid h1
        clear h1
        go_wp2_with fail
        refine (pwant_yes _).mono ?_
        rintro e w' ⟨rfl, rfl⟩
        go_wp2_with fail
        go_ret
        refine .inl ⟨a, n, ca, xs, r, ?_, rfl, HB2.out, HF.out⟩
        rw [HT.out, Option.bind_some, H1.out]; rfl
      · have H1 := Lib.hid h1
        clear h1
        go_wp2_with fail
        refine (pwant_no _).mono ?_
        rintro e w' ⟨rfl, rfl⟩
        unfold panE
        go_wp2_with fail
        refine ⟨rfl, .inr ⟨?_, rfl, _, HB2.out⟩⟩
        rw [HT.out, Option.bind_some, H1.out]; rfl
      · have H1 := Lib.hid h1
        clear h1
        go_wp2_with fail
        refine (pwant_no _).mono ?_
        rintro e w' ⟨rfl, rfl⟩
        unfold panE
        go_wp2_with fail
        refine ⟨rfl, .inr ⟨?_, rfl, _, HB2.out⟩⟩
        rw [HT.out, Option.bind_some, H1.out]; rfl
  · unfold panE
    go_wp2_with fail
    refine ⟨rfl, .inr ⟨?_, rfl, r, hb⟩⟩
    rw [ht]; rfl
theorem pvec_any (b : Nat) (l : List UInt8) (w : World) (hc : C1 w b (.string (strL l))) (hz : l.length ≤ 1000000) :
    Calls Tryz.prog 165 #[.pointer (some ⟨b, 0, none⟩)] w fun e w' =>
      (∃ (a : Option Addr) (n ca : Nat) (xs : List Int) (r : List UInt8), rdVec l = some (xs, r) ∧ e = .returned (.slice a n ca) ∧ Bl (w.setCell ⟨b, 0, none⟩ (.string (strL r))) w' ∧ FarIA w.heap.size w' a n xs) ∨
      (rdVec l = none ∧ e = panE ∧ ∃ r, Bl (w.setCell ⟨b, 0, none⟩ (.string r)) w') := by
  refine (pvecO_any b l w hc hz).mono ?_
  rintro e w' (⟨a, n, ca, xs, r, h1, h2, h3, h4⟩ | h)
  · exact .inl ⟨a, n, ca, xs, r, h1, h2, h3, h4.far⟩
  · exact .inr h
end Go.Proofs.YtibabgokmacnaaaGreat
end

/- gossip.want, gossip.read. By an AI agent. -/
section
set_option linter.unusedVariables false
set_option linter.unusedSimpArgs false
namespace Go.Proofs.YtibabgokmacnaaaGreat
open Go.RowKit

theorem gwant_yes (w : World) : Calls Tryz.prog 203 #[.bool true] w fun e w' => e = .returned (.tuple #[]) ∧ w = w' := by
  go_enter Tryz.func203, Tryz.ntmps203
  go_wp2_with fail
  go_end0
  exact ⟨rfl, rfl⟩
theorem gwant_no (w : World) : Calls Tryz.prog 203 #[.bool false] w fun e w' => e = panE ∧ w = w' := by
  go_enter Tryz.func203, Tryz.ntmps203
  go_wp2_with fail
  exact ⟨rfl, rfl, rfl⟩
theorem el_row : EL 71 23 1 24 := el_of Tryz.underlying71 (by kernel_rfl) (by decide)
/-- what reading rows comes to -/
def ReadPost (w : World) (l : List UInt8) (e : Ending) (w' : World) : Prop :=
  (∃ rows, rdRows l = some rows ∧ e = .returned (.pointer (some ⟨w.heap.size, 0, none⟩)) ∧ RG w.heap.size w' w.heap.size rows ∧ Bl w w') ∨
  (rdRows l = none ∧ e = panE ∧ Bl w w')
theorem gread_nil (w : World) : Calls Tryz.prog 138 #[.string ⟨#[]⟩] w (ReadPost w []) := by
  go_enter Tryz.func138, Tryz.ntmps138
  go_wp2_with fail
  refine (gwant_no _).mono ?_
  rintro e w1 ⟨rfl, rfl⟩
  unfold panE
  go_wp2_with fail
  exact ⟨rfl, .inr ⟨rfl, rfl, Bl.refl _⟩⟩
theorem gread_form (s : ByteArray) (d : UInt8) (m : List UInt8) (w : World) (hs : s = strL (d :: m)) (hd : d.toNat < 1 ∨ 8 < d.toNat) : Calls Tryz.prog 138 #[.string s] w (ReadPost w (d :: m)) := by
  have hz : 0 < s.size := by rw [hs, strL_size]; simp
  have h0 : (s[0]'hz).toNat = d.toNat := by subst hs; rfl
  have hq : s.toList.isEmpty = false := by subst hs; exact filled_L (by simp)
  have HR : Hid (rdRows (d :: m) = none) := Lib.hid (by rw [rdRows_cons, if_neg (by omega)])
  generalize d.toNat = dn at *
  clear hs
  rcases hd with h | h
  · go_enter Tryz.func138, Tryz.ntmps138
    go_wp2_with fail
    refine (gwant_no _).mono ?_
    rintro e w1 ⟨rfl, rfl⟩
    unfold panE
    go_wp2_with fail
    exact ⟨rfl, .inr ⟨HR.out, rfl, Bl.refl _⟩⟩
  · have q8 : decide ((dn : Int) ≤ 8) = false := decide_eq_false (by omega)
    have q1 : decide ((1 : Int) ≤ (dn : Int)) = true := decide_eq_true (by omega)
    clear h
    go_enter Tryz.func138, Tryz.ntmps138
    go_wp2_with fail
    refine (gwant_no _).mono ?_
    rintro e w1 ⟨rfl, rfl⟩
    unfold panE
    go_wp2_with fail
    exact ⟨rfl, .inr ⟨HR.out, rfl, Bl.refl _⟩⟩
set_option maxHeartbeats 3200000 in
set_option maxRecDepth 100000 in
theorem gread_loop (s : ByteArray) (d : UInt8) (m : List UInt8) (w : World) (hs : s = strL (d :: m)) (n : Nat) (hdn : d.toNat = n) (h1 : 1 ≤ n) (h8 : n ≤ 8) (hm : m.length ≤ 900000) : Calls Tryz.prog 138 #[.string s] w (ReadPost w (d :: m)) := by
  have hz : 0 < s.size := by rw [hs, strL_size]; simp
  have h0 : (s[0]'hz).toNat = n := by subst hs; exact hdn
  have hq : s.toList.isEmpty = false := by subst hs; exact filled_L (by simp)
  have hx : s.extract 1 s.size = strL m := by subst hs; exact strL_drop (d :: m) 1
  have HR : Hid (rdRows (d :: m) = (rdVs n n m).bind fun q => if q.2 = [] then some q.1 else none) := Lib.hid (by rw [rdRows_cons, if_pos (by omega), hdn])
  have q8 : decide ((n : Int) ≤ 8) = true := decide_eq_true (by omega)
  clear hs hdn
  go_enter Tryz.func138, Tryz.ntmps138
  go_wp2_with fail
  refine (gwant_yes _).mono ?_
  rintro e w1 ⟨rfl, rfl⟩
  go_wp2_with fail
  clear hz h0 hq hx q8
  have hc0 := C1.new w w.heap.size rfl (.slice none 0 0) 136
  have hb0 := (Bl.refl w).alloc (.cells #[.slice none 0 0] 136)
  have hs0 : w.heap.size + 1 ≤ (w.alloc (.cells #[.slice none 0 0] 136)).heap.size := by simp
  generalize w.alloc _ = W0 at *
  go_loopw [0, 29] (fun sv i wr => ∃ (k : Nat) (lk : List UInt8) (acc : List (List Int)) (v : Value), k ≤ n ∧ sv = .string (strL lk) ∧ i = .int .i64 k ∧ C1 wr w.heap.size v ∧ OR (w.heap.size + 1) wr v acc ∧ Below w.heap.size w wr ∧ w.heap.size + 1 ≤ wr.heap.size ∧ acc.length = k ∧ lk.length ≤ 900000 ∧ rdVs n n m = (rdVs n (n - k) lk).map fun q => (acc ++ q.1, q.2)) (fun _ i _ => n - (intOf i).toNat)
  case atStart => exact ⟨0, m, [], _, Nat.zero_le _, rfl, rfl, hc0, OR.nil _ _, hb0, hs0, rfl, hm, by simp⟩
  case round =>
    clear hc0 hb0 hs0
    obtain ⟨k, lk, acc, v, hk, rfl, rfl, hc, hor, hb, hsz, hal, hlk, hrd⟩ := hrel
    have HC := Lib.hid hc
    have HOR := Lib.hid hor
    have HB := Lib.hid hb
    have HD := Lib.hid hrd
    have HSZ := Lib.hid hsz
    have HAL := Lib.hid hal
    clear hc hor hb hrd hsz hal
    by_cases hlt : k < n
    · obtain ⟨j, hj⟩ : ∃ j, n - k = j + 1 := ⟨n - k - 1, by omega⟩
      rw [hj] at HD
      have HG := Lib.hid (fun w => vget_rd (strL lk) lk w (strL_SB lk) (by omega))
      have zl := strL_size lk
      have HX := Lib.hid (fun q => strL_drop lk q)
      generalize strL lk = sk at *
      go_wp2_with fail
      refine (HG.out _).mono ?_
      rintro e w2 (⟨xs, lm, vv, hv, rfl, hfi, hb2⟩ | ⟨hv, c, hc, rfl, hb2⟩)
      case inr =>
        have HN : Hid (rdRows (d :: m) = none) := Lib.hid (by rw [HR.out, HD.out]; simp [rdVs, hv])
        have HBB := Lib.hid (show Bl w w2 from Below.trans HB.out (Below.mono hb2 (by have := HSZ.out; omega)))
        clear hv hb2
        rcases hc with rfl | rfl
        · go_wp2_with fail
          refine (gwant_no _).mono ?_
          rintro e w3 ⟨rfl, rfl⟩
          unfold panE
          go_wp2_with fail
          exact ⟨rfl, .inr ⟨HN.out, rfl, HBB.out⟩⟩
        · go_wp2_with fail
          refine (gwant_no _).mono ?_
          rintro e w3 ⟨rfl, rfl⟩
          unfold panE
          go_wp2_with fail
          exact ⟨rfl, .inr ⟨HN.out, rfl, HBB.out⟩⟩
      have HBB := Lib.hid (show Bl w w2 from Below.trans HB.out (Below.mono hb2 (by have := HSZ.out; omega)))
      have HFI := Lib.hid hfi
      have HB2 := Lib.hid hb2
      obtain ⟨xa, xn, xc, rfl, hI⟩ := hfi.si
      have hxn : xs.length = xn := hI.len
      have hlen := rdV_len hv
      by_cases hne : xn = n
      case neg =>
        have HN : Hid (rdRows (d :: m) = none) := Lib.hid (by rw [HR.out, HD.out]; simp [rdVs, hv, hxn, hne])
        have qn : decide ((xn : Int) = (n : Int)) = false := decide_eq_false (by omega)
        have qb : ((xn : Int) == (n : Int)) = false := by rw [beq_eq_false_iff_ne]; omega
        clear hv hb2 hI hxn hlen hfi
        go_wp2_with fail
        refine (gwant_no _).mono ?_
        rintro e w3 ⟨rfl, rfl⟩
        unfold panE
        go_wp2_with fail
        exact ⟨rfl, .inr ⟨HN.out, rfl, HBB.out⟩⟩
      subst hne
      have HS : Hid (rdVs xn xn m = (rdVs xn j lm).map fun q => ((acc ++ [xs]) ++ q.1, q.2)) := Lib.hid (by
        rw [HD.out]
        simp only [rdVs, hv, Option.bind_some, hxn, if_true]
        rw [Option.map_map]
        congr 1
        funext q
        simp)
      have hsl : sk.extract (1 + 6 * xn) sk.size = strL lm := by
        rw [HX.out]
        have e1 := (rdV_back hv).1
        rw [e1, List.drop_left' (by rw [putL_len, hxn])]
      have hle : 1 + 6 * xn ≤ sk.size := by omega
      rw [hxn]
      have hlm : lm.length ≤ 900000 := by omega
      clear hv hb2 hI hlen hfi HD
      go_wp2_with fail
      refine (gwant_yes _).mono ?_
      rintro e w3 ⟨rfl, rfl⟩
      obtain ⟨va, vc, rfl⟩ := HOR.out.slice
      obtain ⟨vs, hown, hvl, hrr⟩ := HOR.out
      have hc2 := HC.out.keep HB2.out
      have hcell := hc2.cell
      have hfz := hc2.frozen
      have hca := fun o => ((hc2.alloc o).cell)
      have hown2 := ownsRow_bl hown HB2.out
      have HOWN := Lib.hid (And.intro hown (And.intro hvl hrr))
      clear hown hvl hrr
      have hsz2 : w.heap.size + 1 ≤ w2.heap.size := by have := HSZ.out; have := HB2.out.size; omega
      have hal2 : acc.length ≤ 8 := by have := HAL.out; omega
      go_wp2_with (at_builtin; refine wpList_appG rfl _ _ _ rfl el_row (w.heap.size + 1) _ acc.length vs rfl (ownsRow_bl hown2 ((Bl.refl w2).alloc _)) ?c1 _ 1 1 [.slice xa xn xc] rfl (SG.lit (heap_alloc_new _ _) rfl (by simp [Value.oneCell'])) ?c2 ?c3 ?_)
      case c1 => simp; omega
      case c2 => unfold maxLen; omega
      case c3 => omega
      intro v' w4 ho4 hg4
      have hd := (hc2.alloc (.cells #[.slice xa xn xc] 23)).grown hg4 (fun e => by have := (OR.row hown2 _ e.symm).1; omega)
      have hdc := hd.cell
      have hdf := hd.frozen
      obtain ⟨f1, f2, f3⟩ := HOWN.out
      have R := Lib.hid (OR.app HB.out (Nat.le_refl _) HSZ.out f1 f2 f3 HB2.out HFI.out ho4 hg4 v')
      have HDS := Lib.hid (hd.set v')
      obtain ⟨pa, pc, rfl⟩ : ∃ pa pc, v' = .slice pa (acc.length + 1) pc := by
        rcases ho4.2 with ⟨_, e⟩ | ⟨g, cap, cur, e, _⟩
        · omega
        · exact ⟨_, _, e⟩
      clear f1 f2 f3 HOWN hown2 hca hcell hfz hd ho4 hg4
      go_wp2_with fail
      go_roundw
      case rel => exact ⟨k + 1, lm, acc ++ [xs], _, by omega, congrArg Value.string (by rw [← zl]; exact hsl), by go_num, HDS.out, R.out.1, R.out.2.1, R.out.2.2, by have := HAL.out; rw [List.length_append]; simp; omega, hlm, by rw [show xn - (k + 1) = j by omega]; exact HS.out⟩
      case measure => simp [intOf]; omega
    · obtain rfl : k = n := by omega
      have HE : Hid (rdRows (d :: m) = if lk = [] then some acc else none) := Lib.hid (by
        rw [HR.out, HD.out, Nat.sub_self]
        simp [rdVs])
      by_cases h0 : lk = []
      · subst h0
        have q : (strL []).toList.isEmpty = true := by rw [ByteArray.toList_eq]; rfl
        go_wp2_with fail
        refine (gwant_yes _).mono ?_
        rintro e w3 ⟨rfl, rfl⟩
        go_wp2_with fail
        go_ret
        exact .inl ⟨acc, by rw [HE.out]; simp, rfl, ⟨_, HC.out, Nat.le_refl _, HOR.out⟩, HB.out⟩
      · have q : (strL lk).toList.isEmpty = false := filled_L h0
        have HN := Lib.hid h0
        clear h0
        go_wp2_with fail
        refine (gwant_no _).mono ?_
        rintro e w3 ⟨rfl, rfl⟩
        unfold panE
        go_wp2_with fail
        exact ⟨rfl, .inr ⟨by rw [HE.out, if_neg HN.out], rfl, HB.out⟩⟩
theorem gread_any (l : List UInt8) (w : World) (hz : l.length ≤ 900000) : Calls Tryz.prog 138 #[.string (strL l)] w (ReadPost w l) := by
  cases l with
  | nil => exact gread_nil w
  | cons d m =>
    by_cases hd : d.toNat < 1 ∨ 8 < d.toNat
    · exact gread_form _ d m w rfl hd
    · exact gread_loop _ d m w rfl d.toNat rfl (by omega) (by omega) (by rw [List.length_cons] at hz; omega)
end Go.Proofs.YtibabgokmacnaaaGreat
end
