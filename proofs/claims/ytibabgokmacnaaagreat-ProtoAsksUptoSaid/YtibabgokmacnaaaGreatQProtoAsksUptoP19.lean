import Derived.Test.YtibabgokmacnaaaGreatQProtoAsksUptoP16
import Derived.Test.YtibabgokmacnaaaGreatQProtoAsksUptoP18
import Derived.Test.YtibabgokmacnaaaGreatQProtoAsksUptoP9
import Derived.Test.YtibabgokmacnaaaGreatQProtoAsksUptoP12

/- proto.reader: take, num, text, vector. By an AI agent. -/
section
set_option linter.unusedVariables false
set_option linter.unusedSimpArgs false
namespace Go.Proofs.YtibabgokmacnaaaGreat
open Go.RowKit

theorem pwant_yes (w : World) : Calls Tryz.prog 168 #[.bool true] w fun e w' => e = .returned (.tuple #[]) ∧ w = w' := by
  go_enter Tryz.func168, Tryz.ntmps168
  go_wp2_with fail
  go_end0
  exact ⟨rfl, rfl⟩
theorem pwant_no (w : World) : Calls Tryz.prog 168 #[.bool false] w fun e w' => e = panE ∧ w = w' := by
  go_enter Tryz.func168, Tryz.ntmps168
  go_wp2_with fail
  exact ⟨rfl, rfl, rfl⟩
theorem ptake_some (b : Nat) (l : List UInt8) (n : Nat) (w : World) (hc : C1 w b (.string (strL l))) (hn : n ≤ l.length) :
    Calls Tryz.prog 213 #[.pointer (some ⟨b, 0, none⟩), .int .i64 n] w fun e w' => e = .returned (.string (strL (l.take n))) ∧ w' = w.setCell ⟨b, 0, none⟩ (.string (strL (l.drop n))) := by
  have h0 := hc.cell
  have hf := hc.frozen
  have z := strL_size l
  have e1 := strL_take l n
  have e2 := strL_drop l n
  rw [z] at e2
  clear hc
  generalize strL (l.take n) = q1 at *
  generalize strL (l.drop n) = q2 at *
  generalize strL l = s at *
  go_enter Tryz.func213, Tryz.ntmps213
  go_wp2_with fail
  refine (pwant_yes _).mono ?_
  rintro e w' ⟨rfl, rfl⟩
  go_wp2_with fail
  go_ret
  exact ⟨rfl, rfl⟩
theorem ptake_none (b : Nat) (l : List UInt8) (n : Nat) (w : World) (hc : C1 w b (.string (strL l))) (hn : l.length < n) :
    Calls Tryz.prog 213 #[.pointer (some ⟨b, 0, none⟩), .int .i64 n] w fun e w' => e = panE ∧ w = w' := by
  have h0 := hc.cell
  have z := strL_size l
  have q : decide (n ≤ l.length) = false := by rw [decide_eq_false_iff_not]; omega
  clear hc
  generalize strL l = s at *
  go_enter Tryz.func213, Tryz.ntmps213
  go_wp2_with fail
  refine (pwant_no _).mono ?_
  rintro e w' ⟨rfl, rfl⟩
  unfold panE
  go_wp2_with fail
  exact ⟨rfl, rfl, rfl⟩
theorem pnum_some (b : Nat) (l : List UInt8) (n : Nat) (w : World) (hc : C1 w b (.string (strL l))) (hn : n ≤ l.length) (h1 : 1 ≤ n) (h7 : n ≤ 7) :
    Calls Tryz.prog 164 #[.pointer (some ⟨b, 0, none⟩), .int .i64 n] w fun e w' => e = .returned (.int .i64 (getN (l.take n))) ∧ w' = w.setCell ⟨b, 0, none⟩ (.string (strL (l.drop n))) := by
  have HG := Lib.hid (fun w => getL_any (l.take n) w (by rw [List.length_take]; omega) (by rw [List.length_take]; omega))
  go_enter Tryz.func164, Tryz.ntmps164
  go_wp2_with fail
  refine (ptake_some b l n _ hc hn).mono ?_
  rintro e w1 ⟨rfl, rfl⟩
  go_wp2_with fail
  refine (HG.out _).mono ?_
  rintro e w1 ⟨rfl, rfl⟩
  go_wp2_with fail
  go_ret
  exact ⟨rfl, rfl⟩
theorem pnum_none (b : Nat) (l : List UInt8) (n : Nat) (w : World) (hc : C1 w b (.string (strL l))) (hn : l.length < n) :
    Calls Tryz.prog 164 #[.pointer (some ⟨b, 0, none⟩), .int .i64 n] w fun e w' => e = panE ∧ w = w' := by
  go_enter Tryz.func164, Tryz.ntmps164
  go_wp2_with fail
  refine (ptake_none b l n _ hc hn).mono ?_
  rintro e w1 ⟨rfl, rfl⟩
  unfold panE
  go_wp2_with fail
  exact ⟨rfl, rfl, rfl⟩
/-- what reading a number comes to -/
theorem pnum_any (b : Nat) (l : List UInt8) (n : Nat) (w : World) (hc : C1 w b (.string (strL l))) (h1 : 1 ≤ n) (h7 : n ≤ 7) :
    Calls Tryz.prog 164 #[.pointer (some ⟨b, 0, none⟩), .int .i64 n] w fun e w' =>
      (∃ v r, rdNum n l = some (v, r) ∧ e = .returned (.int .i64 v) ∧ w' = w.setCell ⟨b, 0, none⟩ (.string (strL r))) ∨ (rdNum n l = none ∧ e = panE ∧ w = w') := by
  unfold rdNum
  by_cases hn : n ≤ l.length
  · rw [if_pos hn]
    refine (pnum_some b l n w hc hn h1 h7).mono ?_
    rintro e w' ⟨rfl, rfl⟩
    exact .inl ⟨_, _, rfl, rfl, rfl⟩
  · rw [if_neg hn]
    refine (pnum_none b l n w hc (by omega)).mono ?_
    rintro e w' ⟨rfl, rfl⟩
    exact .inr ⟨rfl, rfl, rfl⟩
theorem setCell_twice {w : World} {g : Nat} {v : Value} (hc : C1 w g v) (a b : Value) : Bl (w.setCell ⟨g, 0, none⟩ b) ((w.setCell ⟨g, 0, none⟩ a).setCell ⟨g, 0, none⟩ b) := Bl.reset hc (Bl.refl _)
theorem ptext_none4 (b : Nat) (l : List UInt8) (w : World) (hc : C1 w b (.string (strL l))) (hn : l.length < 4) :
    Calls Tryz.prog 166 #[.pointer (some ⟨b, 0, none⟩)] w fun e w' => e = panE ∧ w = w' := by
  go_enter Tryz.func166, Tryz.ntmps166
  go_wp2_with fail
  refine (pnum_none b l 4 _ hc hn).mono ?_
  rintro e w1 ⟨rfl, rfl⟩
  unfold panE
  go_wp2_with fail
  exact ⟨rfl, rfl, rfl⟩
theorem ptext_none (b : Nat) (l : List UInt8) (n : Nat) (w : World) (hc : C1 w b (.string (strL l))) (h4 : 4 ≤ l.length) (hn : getN (l.take 4) = n) (hl : (l.drop 4).length < n) :
    Calls Tryz.prog 166 #[.pointer (some ⟨b, 0, none⟩)] w fun e w' => e = panE ∧ w' = w.setCell ⟨b, 0, none⟩ (.string (strL (l.drop 4))) := by
  have HN := Lib.hid hn
  clear hn
  go_enter Tryz.func166, Tryz.ntmps166
  go_wp2_with fail
  refine (pnum_some b l 4 _ hc h4 (by decide) (by decide)).mono ?_
  rintro e w1 ⟨rfl, rfl⟩
  rw [HN.out]
  have hc1 := hc.set (.string (strL (l.drop 4)))
  go_wp2_with fail
  refine (ptake_none b (l.drop 4) n _ hc1 hl).mono ?_
  rintro e w2 ⟨rfl, rfl⟩
  unfold panE
  go_wp2_with fail
  exact ⟨rfl, rfl, rfl⟩
theorem ptext_some (b : Nat) (l m : List UInt8) (n : Nat) (w : World) (hc : C1 w b (.string (strL l))) (h4 : 4 ≤ l.length) (hn : getN (l.take 4) = n) (HM : Hid (l.drop 4 = m)) (hl : n ≤ m.length) (hz : l.length ≤ 1000000) :
    Calls Tryz.prog 166 #[.pointer (some ⟨b, 0, none⟩)] w fun e w' => e = .returned (.string (strL (m.take n))) ∧ Bl (w.setCell ⟨b, 0, none⟩ (.string (strL (m.drop n)))) w' := by
  have HN := Lib.hid hn
  have hl2 : m.length ≤ 1000000 := by rw [← HM.out, List.length_drop]; omega
  clear hn
  go_enter Tryz.func166, Tryz.ntmps166
  go_wp2_with fail
  refine (pnum_some b l 4 _ hc h4 (by decide) (by decide)).mono ?_
  rintro e w1 ⟨rfl, rfl⟩
  rw [HN.out]
  rw [HM.out]
  have hc1 := hc.set (.string (strL m))
  have hC := Lib.hid hc
  clear hc
  go_wp2_with fail
  refine (ptake_some b m n _ hc1 hl).mono ?_
  rintro e w2 ⟨rfl, rfl⟩
  have HK := Lib.hid (fun w => cloneB_any (strL (m.take n)) w (by rw [strL_size, List.length_take]; omega))
  have hw := setCell_twice hC.out (.string (strL m)) (.string (strL (m.drop n)))
  go_wp2_with fail
  refine (HK.out _).mono ?_
  rintro e w3 ⟨rfl, hb⟩
  go_wp2_with fail
  go_ret
  exact ⟨rfl, hw.trans hb⟩
/-- what reading a text comes to -/
theorem ptext_any (b : Nat) (l : List UInt8) (w : World) (hc : C1 w b (.string (strL l))) (hz : l.length ≤ 1000000) :
    Calls Tryz.prog 166 #[.pointer (some ⟨b, 0, none⟩)] w fun e w' =>
      (∃ t r, rdText l = some (t, r) ∧ e = .returned (.string (strL t)) ∧ Bl (w.setCell ⟨b, 0, none⟩ (.string (strL r))) w') ∨ (rdText l = none ∧ e = panE ∧ ∃ r, Bl (w.setCell ⟨b, 0, none⟩ (.string r)) w') := by
  unfold rdText rdNum
  by_cases h4 : 4 ≤ l.length
  · rw [if_pos h4, Option.bind_some]
    have hn := lenF_int l
    dsimp only
    rw [show (getN (l.take 4)).toNat = lenF l from rfl]
    unfold rdTake
    by_cases hl : lenF l ≤ (l.drop 4).length
    · rw [if_pos hl]
      refine (ptext_some b l (l.drop 4) (lenF l) w hc h4 hn (Lib.hid rfl) hl hz).mono ?_
      rintro e w' ⟨rfl, hb⟩
      exact .inl ⟨_, _, rfl, rfl, hb⟩
    · rw [if_neg hl]
      refine (ptext_none b l (lenF l) w hc h4 hn (by omega)).mono ?_
      rintro e w' ⟨rfl, rfl⟩
      exact .inr ⟨rfl, rfl, _, Bl.refl _⟩
  · rw [if_neg h4]
    refine (ptext_none4 b l w hc (by omega)).mono ?_
    rintro e w' ⟨rfl, rfl⟩
    exact .inr ⟨rfl, rfl, _, Bl.same hc⟩

/-! ### vectors -/
theorem filled_L {l : List UInt8} (h : l ≠ []) : (strL l).toList.isEmpty = false := by
  rw [ByteArray.toList_eq]
  cases l with
  | nil => exact absurd rfl h
  | cons a l => rfl
theorem vget_vecO (t : List UInt8) (w : World) (h : t ≠ []) (hz : t.length ≤ 1000000) :
    Calls Tryz.prog 13 #[.string (strL t)] w fun e w' => ∃ (a : Option Addr) (n ca : Nat) (xs : List Int) (k c : Int), e = .returned (.tuple #[.slice a n ca, .int .i64 k, .int .i64 c]) ∧ Bl w w' ∧ FarO w.heap.size w' a n ca xs ∧
      ((vecP t = some xs ∧ c = 0 ∧ k = (t.length : Int)) ∨ (vecP t = none ∧ ((c == 0) = false ∨ (c = 0 ∧ (k == (t.length : Int)) = false)))) := by
  cases t with
  | nil => exact absurd rfl h
  | cons d l =>
    have hs := strL_SB (d :: l)
    have hl1 : 1 ≤ (d :: l).length := by simp
    have hh : (d :: l).head?.map (·.toNat) = some d.toNat := rfl
    rw [vecP_cons]
    by_cases hf : d.toNat < 1 ∨ 8 < d.toNat
    · refine (vget_form (strL (d :: l)) (d :: l) d.toNat w hs hl1 hh hf).mono ?_
      rintro e w' ⟨rfl, hb⟩
      exact ⟨none, 0, 0, [], 0, 4, rfl, hb, FarO.nil _ _, .inr ⟨if_neg (by omega), .inl rfl⟩⟩
    · refine (vget_loop (strL (d :: l)) (d :: l) d.toNat w hs (Nat.le_trans hz (by decide)) hl1 hh (by omega)).mono ?_
      intro e w' hp
      unfold GetPost at hp
      by_cases hl : 1 + 6 * d.toNat ≤ (d :: l).length
      · rw [if_pos hl] at hp
        obtain ⟨v, rfl, hfi, hb⟩ := hp
        obtain ⟨a, n, ca, rfl, hI⟩ := hfi.si
        refine ⟨a, n, ca, _, _, 0, rfl, hb, hfi, ?_⟩
        rw [List.length_cons] at hl ⊢
        by_cases he : l.length = 6 * d.toNat
        · exact .inl ⟨by rw [if_pos ⟨by omega, by omega, he⟩]; rfl, rfl, by omega⟩
        · exact .inr ⟨by rw [if_neg (by omega)], .inr ⟨rfl, by rw [beq_eq_false_iff_ne]; omega⟩⟩
      · rw [if_neg hl] at hp
        obtain ⟨rfl, hb⟩ := hp
        rw [List.length_cons] at hl
        exact ⟨none, 0, 0, [], 0, 3, rfl, hb, FarO.nil _ _, .inr ⟨if_neg (by omega), .inl rfl⟩⟩
set_option maxRecDepth 100000 in
/-- what reading a vector comes to -/
theorem pvecO_any (b : Nat) (l : List UInt8) (w : World) (hc : C1 w b (.string (strL l))) (hz : l.length ≤ 1000000) :
    Calls Tryz.prog 165 #[.pointer (some ⟨b, 0, none⟩)] w fun e w' =>
      (∃ (a : Option Addr) (n ca : Nat) (xs : List Int) (r : List UInt8), rdVec l = some (xs, r) ∧ e = .returned (.slice a n ca) ∧ Bl (w.setCell ⟨b, 0, none⟩ (.string (strL r))) w' ∧ FarO w.heap.size w' a n ca xs) ∨
      (rdVec l = none ∧ e = panE ∧ ∃ r, Bl (w.setCell ⟨b, 0, none⟩ (.string r)) w') := by
  unfold rdVec
  have HC := Lib.hid hc
  go_enter Tryz.func165, Tryz.ntmps165
  go_wp2_with fail
  refine (ptext_any b l _ hc hz).mono ?_
  clear hc
  rintro e w1 (⟨t, r, ht, rfl, hb⟩ | ⟨ht, rfl, r, hb⟩)
  · have HT := Lib.hid ht
    have htl : t.length ≤ 1000000 := by
      have := congrArg List.length (rdText_back ht)
      rw [List.length_append, textB_len] at this
      omega
    have hsz := hb.size
    rw [setCell_size] at hsz
    have HB := Lib.hid hb
    clear ht hb
    by_cases h0 : t = []
    · subst h0
      have q : (strL []).toList.isEmpty = true := by rw [ByteArray.toList_eq]; rfl
      go_wp2_with fail
      go_ret
      refine .inl ⟨none, 0, 0, [], r, ?_, rfl, HB.out, FarO.nil _ _⟩
      rw [HT.out]; rfl
    · have q : (strL t).toList.isEmpty = false := filled_L h0
      have z := strL_size t
      have HV := Lib.hid (fun w => vget_vecO t w h0 htl)
      generalize strL t = s at *
      go_wp2_with fail
      refine (HV.out _).mono ?_
      rintro e w2 ⟨a, n, ca, xs, k, c, rfl, hb2, hfar, hcase⟩
      have HF := Lib.hid (hfar.mono hsz)
      have HB2 := Lib.hid (HB.out.trans hb2)
      clear hb2 hfar HB
      rcases hcase with ⟨h1, rfl, rfl⟩ | ⟨h1, h2 | ⟨rfl, h2⟩⟩
      · have H1 := Lib.hid h1
        clear h1
        go_wp2_with fail
        refine (pwant_yes _).mono ?_
        rintro e w' ⟨rfl, rfl⟩
        go_wp2_with fail
        go_ret
        refine .inl ⟨a, n, ca, xs, r, ?_, rfl, HB2.out, HF.out⟩
        rw [HT.out, Option.bind_some, H1.out]; rfl
      · have H1 := Lib.hid h1
        clear h1
        go_wp2_with fail
        refine (pwant_no _).mono ?_
        rintro e w' ⟨rfl, rfl⟩
        unfold panE
        go_wp2_with fail
        refine ⟨rfl, .inr ⟨?_, rfl, _, HB2.out⟩⟩
        rw [HT.out, Option.bind_some, H1.out]; rfl
      · have H1 := Lib.hid h1
        clear h1
        go_wp2_with fail
        refine (pwant_no _).mono ?_
        rintro e w' ⟨rfl, rfl⟩
        unfold panE
        go_wp2_with fail
        refine ⟨rfl, .inr ⟨?_, rfl, _, HB2.out⟩⟩
        rw [HT.out, Option.bind_some, H1.out]; rfl
  · unfold panE
    go_wp2_with fail
    refine ⟨rfl, .inr ⟨?_, rfl, r, hb⟩⟩
    rw [ht]; rfl
theorem pvec_any (b : Nat) (l : List UInt8) (w : World) (hc : C1 w b (.string (strL l))) (hz : l.length ≤ 1000000) :
    Calls Tryz.prog 165 #[.pointer (some ⟨b, 0, none⟩)] w fun e w' =>
      (∃ (a : Option Addr) (n ca : Nat) (xs : List Int) (r : List UInt8), rdVec l = some (xs, r) ∧ e = .returned (.slice a n ca) ∧ Bl (w.setCell ⟨b, 0, none⟩ (.string (strL r))) w' ∧ FarIA w.heap.size w' a n xs) ∨
      (rdVec l = none ∧ e = panE ∧ ∃ r, Bl (w.setCell ⟨b, 0, none⟩ (.string r)) w') := by
  refine (pvecO_any b l w hc hz).mono ?_
  rintro e w' (⟨a, n, ca, xs, r, h1, h2, h3, h4⟩ | h)
  · exact .inl ⟨a, n, ca, xs, r, h1, h2, h3, h4.far⟩
  · exact .inr h
end Go.Proofs.YtibabgokmacnaaaGreat
end

/- proto.GetAsk's closure (printed in part by wip/gen/prot7.py). By an AI agent. -/
section
set_option linter.unusedVariables false
set_option linter.unusedSimpArgs false
namespace Go.Proofs.YtibabgokmacnaaaGreat
open Go.RowKit

def zeroAskCs : List Value := askCs 0 0 0 0 0 none 0 0 ⟨#[]⟩ ⟨#[]⟩ 0 0 0 ⟨#[]⟩
/-- the closure's boxes: the result, the reader -/
structure GS (w W : World) (l : List UInt8) : Prop where
  bl : Bl w W
  r : AC W w.heap.size zeroAskCs
  c : C1 W (w.heap.size + 1) (.string (strL l))
theorem GS.keep {w W W' : World} {l : List UInt8} (h : GS w W l) (k : Bl W W') : GS w W' l := ⟨h.bl.trans k, h.r.keep k, h.c.keep k⟩
theorem GS.set {w W : World} {l : List UInt8} (h : GS w W l) (m : List UInt8) : GS w (W.setCell ⟨w.heap.size + 1, 0, none⟩ (.string (strL m))) m :=
  ⟨h.bl.setCell (p := ⟨w.heap.size + 1, 0, none⟩) (Nat.le_succ _) _, h.r.other (by omega), h.c.set _⟩
theorem GS.new (w : World) (l : List UInt8) (T U : TypeId) : GS w ((w.alloc (.cells zeroAskCs.toArray T)).alloc (.cells #[.string (strL l)] U)) l :=
  ⟨((Bl.refl w).alloc _).alloc _, (AC.new w _ rfl zeroAskCs T).keep ((Bl.refl _).alloc _), C1.new _ (w.heap.size + 1) (by simp) _ U⟩
theorem GS.bad {w W W' : World} {l : List UInt8} (h : GS w W l) {r : ByteArray} (hb : Bl (W.setCell ⟨w.heap.size + 1, 0, none⟩ (.string r)) W') : Bl w W' :=
  (show Bl w (W.setCell ⟨w.heap.size + 1, 0, none⟩ (.string r)) from h.bl.setCell (p := ⟨w.heap.size + 1, 0, none⟩) (Nat.le_succ _) _).trans hb
theorem GS.lt {w W : World} {l : List UInt8} (h : GS w W l) : w.heap.size + 1 < W.heap.size := h.c.lt
/-- the closure's boxes, when the request's own is there too -/
structure G3 (w W : World) (l : List UInt8) (ga : Nat) (cs : List Value) (ad : Option Addr) (n ca : Nat) (xs : List Int) : Prop where
  g : GS w W l
  a : AC W ga cs
  x : FarO (w.heap.size + 1 + 1) W ad n ca xs
  ap : ∀ b off, ad = some ⟨b, off, none⟩ → w.heap.size + 1 + 1 ≤ b ∧ b ≠ ga
  ne1 : ga ≠ w.heap.size + 1
  ne0 : ga ≠ w.heap.size
  le : w.heap.size ≤ ga
theorem G3.keep {w W W' : World} {l : List UInt8} {ga : Nat} {cs : List Value} {ad : Option Addr} {n ca : Nat} {xs : List Int} (h : G3 w W l ga cs ad n ca xs) (k : Bl W W') : G3 w W' l ga cs ad n ca xs := ⟨h.g.keep k, h.a.keep k, h.x.keep k, h.ap, h.ne1, h.ne0, h.le⟩
theorem G3.set {w W : World} {l : List UInt8} {ga : Nat} {cs : List Value} {ad : Option Addr} {n ca : Nat} {xs : List Int} (h : G3 w W l ga cs ad n ca xs) (m : List UInt8) : G3 w (W.setCell ⟨w.heap.size + 1, 0, none⟩ (.string (strL m))) m ga cs ad n ca xs :=
  ⟨h.g.set m, h.a.other h.ne1, h.x.apart (fun b off e => by have := h.ap b off e; omega) _ _, h.ap, h.ne1, h.ne0, h.le⟩
theorem G3.put {w W : World} {l : List UInt8} {ga : Nat} {cs : List Value} {ad : Option Addr} {n ca : Nat} {xs : List Int} (h : G3 w W l ga cs ad n ca xs) (j : Nat) (v : Value) : G3 w (W.setCell ⟨ga, j, none⟩ v) l ga (cs.set j v) ad n ca xs :=
  ⟨⟨h.g.bl.setCell (p := ⟨ga, j, none⟩) h.le v, h.g.r.other (Ne.symm h.ne0), h.g.c.otherj (Ne.symm h.ne1)⟩, h.a.setj j v, h.x.apart (fun b off e => by have := h.ap b off e; omega) _ _, h.ap, h.ne1, h.ne0, h.le⟩
theorem G3.new {w W : World} {l : List UInt8} {ad : Option Addr} {n ca : Nat} {xs : List Int} (g : GS w W l) (x : FarO (w.heap.size + 1 + 1) W ad n ca xs) (cs : List Value) (T : TypeId) : G3 w (W.alloc (.cells cs.toArray T)) l W.heap.size cs ad n ca xs :=
  ⟨g.keep ((Bl.refl W).alloc _), AC.new W _ rfl cs T, x.keep ((Bl.refl W).alloc _), fun b off e => by have h1 := x.block b off e; omega, by have := g.lt; omega, by have := g.lt; omega, by have := g.lt; omega⟩
/-- what the closure comes to -/
def AskPost (w : World) (l : List UInt8) (e : Ending) (w' : World) : Prop :=
  (∃ (a : AskL) (ad : Option Addr) (n ca : Nat), rdAsk l = some a ∧ e = .returned (askV a.kind a.ses a.tx a.id a.num ad n ca a.key a.text a.act.k a.act.x a.act.n a.act.s) ∧ FarO w.heap.size w' ad n ca a.at_ ∧ Bl w w') ∨
  (rdAsk l = none ∧ e = panE ∧ Bl w w')
theorem ga_results {tmps : Array Value} {W : World} {g : Nat} {k s t i m : Int} {ad : Option Addr} {n ca : Nat} {key text : ByteArray} {ak : Int} {ax : Nat} {an : Int} {az : ByteArray} (h : tmps.getD 1 undef = .pointer (some ⟨g, 0, none⟩)) (hc : AC W g (askCs k s t i m ad n ca key text ak ax an az)) :
    (results Tryz.f163 tmps).run Tryz.prog W = .ok (askV k s t i m ad n ca key text ak ax an az) W := by
  rw [Array.getD_eq_getD_getElem?] at h
  obtain ⟨c0, c1, c2, c3, c4, c5, c6, c7, c8, c9, c10, c11⟩ := hc.ask
  simp [results, Tryz.results163, go_sem, h, c0, c1, c2, c3, c4, c5, c6, c7, c8, c9, c10, c11, askV]

theorem gotA_ok (l : List UInt8) : (getA l).1.Ok ∧ (getA l).1.s.size ≤ 1024 := by
  rcases getA_codes l with h | h
  · obtain ⟨_, h2, h3⟩ := putA_getA l h
    exact ⟨h3, right_size h2⟩
  · have hb : getA l = badA := by
      have hn : ∀ k m, (numA k m).2 = 0 ∨ numA k m = badA := fun k m => by unfold numA; split; exact .inl rfl; exact .inr rfl
      have hb : (getA l).2 = 0 ∨ getA l = badA := by
        unfold getA setA
        (repeat' split) <;> first | exact .inl rfl | exact .inr rfl | exact hn _ _
      rcases hb with q | q
      · rw [h] at q; exact absurd q (by decide)
      · exact q
    rw [hb]
    exact ⟨⟨by decide, by decide, by decide, by decide⟩, by decide⟩

set_option maxHeartbeats 6400000 in
set_option maxRecDepth 100000 in
theorem getAsk1_any (gb : Nat) (l : List UInt8) (w : World) (hg : C1 w gb (.string (strL l))) (hz : l.length ≤ 1000000) :
    Calls Tryz.prog 163 #[.pointer (some ⟨gb, 0, none⟩)] w (AskPost w l) := by
  have hsf := store_float
  have c0 := hg.cell
  have cl := (hg.keep ((Bl.refl w).alloc (.cells zeroAskCs.toArray 78))).cell
  unfold zeroAskCs askCs at cl
  clear hg
  go_enter Tryz.func163, Tryz.ntmps163
  go_wp2_with fail
  have G := GS.new w l 78 166
  unfold zeroAskCs askCs at G
  generalize (w.alloc (.cells #[.int .i64 0, .int .i64 0, .int .i64 0, .int .i64 0, .int .i64 0, .slice none 0 0, .string ⟨#[]⟩, .string ⟨#[]⟩, .int .i64 0, .float .f64 0, .int .i64 0, .string ⟨#[]⟩] 78)).alloc (.cells #[.string (strL l)] 166) = W0 at *
  have GH := Lib.hid G
  clear c0 cl G
  refine (pnum_any (w.heap.size + 1) l 1 _ GH.out.c (by decide) (by decide)).mono ?_
  rintro e W1 (⟨k, l1, h1, rfl, rfl⟩ | ⟨hn, rfl, rfl⟩)
  case inr =>
    unfold panE
    go_wp2_with fail
    exact ⟨rfl, .inr ⟨by simp [rdAsk, hn], rfl, GH.out.bl⟩⟩
  have H1 := Lib.hid h1
  have hz1 : l1.length ≤ 1000000 := by
    have := congrArg List.length (rdNum_back h1).1
    rw [List.length_append, numB_len] at this
    omega
  replace GH := Lib.hid (GH.out.set l1)
  clear h1
  generalize World.setCell _ _ (.string (strL l1)) = W1 at *
  go_wp2_with fail
  refine (pnum_any (w.heap.size + 1) l1 6 _ GH.out.c (by decide) (by decide)).mono ?_
  rintro e W2 (⟨s, l2, h2, rfl, rfl⟩ | ⟨hn, rfl, rfl⟩)
  case inr =>
    unfold panE
    go_wp2_with fail
    exact ⟨rfl, .inr ⟨by simp [rdAsk, H1.out, hn], rfl, GH.out.bl⟩⟩
  have H2 := Lib.hid h2
  have hz2 : l2.length ≤ 1000000 := by
    have := congrArg List.length (rdNum_back h2).1
    rw [List.length_append, numB_len] at this
    omega
  replace GH := Lib.hid (GH.out.set l2)
  clear h2
  generalize World.setCell _ _ (.string (strL l2)) = W2 at *
  go_wp2_with fail
  refine (pnum_any (w.heap.size + 1) l2 6 _ GH.out.c (by decide) (by decide)).mono ?_
  rintro e W3 (⟨t, l3, h3, rfl, rfl⟩ | ⟨hn, rfl, rfl⟩)
  case inr =>
    unfold panE
    go_wp2_with fail
    exact ⟨rfl, .inr ⟨by simp [rdAsk, H1.out, H2.out, hn], rfl, GH.out.bl⟩⟩
  have H3 := Lib.hid h3
  have hz3 : l3.length ≤ 1000000 := by
    have := congrArg List.length (rdNum_back h3).1
    rw [List.length_append, numB_len] at this
    omega
  replace GH := Lib.hid (GH.out.set l3)
  clear h3
  generalize World.setCell _ _ (.string (strL l3)) = W3 at *
  go_wp2_with fail
  refine (pnum_any (w.heap.size + 1) l3 6 _ GH.out.c (by decide) (by decide)).mono ?_
  rintro e W4 (⟨i, l4, h4, rfl, rfl⟩ | ⟨hn, rfl, rfl⟩)
  case inr =>
    unfold panE
    go_wp2_with fail
    exact ⟨rfl, .inr ⟨by simp [rdAsk, H1.out, H2.out, H3.out, hn], rfl, GH.out.bl⟩⟩
  have H4 := Lib.hid h4
  have hz4 : l4.length ≤ 1000000 := by
    have := congrArg List.length (rdNum_back h4).1
    rw [List.length_append, numB_len] at this
    omega
  replace GH := Lib.hid (GH.out.set l4)
  clear h4
  generalize World.setCell _ _ (.string (strL l4)) = W4 at *
  go_wp2_with fail
  refine (pnum_any (w.heap.size + 1) l4 6 _ GH.out.c (by decide) (by decide)).mono ?_
  rintro e W5 (⟨m, l5, h5, rfl, rfl⟩ | ⟨hn, rfl, rfl⟩)
  case inr =>
    unfold panE
    go_wp2_with fail
    exact ⟨rfl, .inr ⟨by simp [rdAsk, H1.out, H2.out, H3.out, H4.out, hn], rfl, GH.out.bl⟩⟩
  have H5 := Lib.hid h5
  have hz5 : l5.length ≤ 1000000 := by
    have := congrArg List.length (rdNum_back h5).1
    rw [List.length_append, numB_len] at this
    omega
  replace GH := Lib.hid (GH.out.set l5)
  clear h5
  generalize World.setCell _ _ (.string (strL l5)) = W5 at *
  go_wp2_with fail
  refine (pvecO_any (w.heap.size + 1) l5 _ GH.out.c hz5).mono ?_
  rintro e W6 (⟨ad, n, ca, xs, l6, h6, rfl, hb, hfar⟩ | ⟨hn, rfl, r, hb⟩)
  case inr =>
    unfold panE
    go_wp2_with fail
    exact ⟨rfl, .inr ⟨by simp [rdAsk, H1.out, H2.out, H3.out, H4.out, H5.out, hn], rfl, GH.out.bad hb⟩⟩
  have H6 := Lib.hid h6
  have hz6 : l6.length ≤ 1000000 := by
    have := congrArg List.length (rdVec_back h6).1
    unfold vecB at this
    rw [List.length_append, textB_len] at this
    omega
  have HF : Hid (FarO (w.heap.size + 1 + 1) W6 ad n ca xs) := Lib.hid (hfar.mono GH.out.lt)
  replace GH := Lib.hid ((GH.out.set l6).keep hb)
  clear h6 hb hfar
  go_wp2_with fail
  have HB7 := Lib.hid (GH.out.lt)
  refine (ptext_any (w.heap.size + 1) l6 _ GH.out.c hz6).mono ?_
  rintro e W7 (⟨key, l7, h7, rfl, hb⟩ | ⟨hn, rfl, r, hb⟩)
  case inr =>
    unfold panE
    go_wp2_with fail
    exact ⟨rfl, .inr ⟨by simp [rdAsk, H1.out, H2.out, H3.out, H4.out, H5.out, H6.out, hn], rfl, GH.out.bad hb⟩⟩
  have H7 := Lib.hid h7
  have hz7 : l7.length ≤ 1000000 ∧ key.length ≤ 1000000 := by
    have := congrArg List.length (rdText_back h7)
    rw [List.length_append, textB_len] at this
    omega
  have HZ7 := Lib.hid hz7.2
  replace hz7 := hz7.1
  replace HF := Lib.hid ((HF.out.set (Nat.lt_succ_self _) 0 (.string (strL l7))).keep hb)
  replace GH := Lib.hid ((GH.out.set l7).keep hb)
  clear h7 hb
  go_wp2_with fail
  have HB8 := Lib.hid (GH.out.lt)
  refine (ptext_any (w.heap.size + 1) l7 _ GH.out.c hz7).mono ?_
  rintro e W8 (⟨text, l8, h8, rfl, hb⟩ | ⟨hn, rfl, r, hb⟩)
  case inr =>
    unfold panE
    go_wp2_with fail
    exact ⟨rfl, .inr ⟨by simp [rdAsk, H1.out, H2.out, H3.out, H4.out, H5.out, H6.out, H7.out, hn], rfl, GH.out.bad hb⟩⟩
  have H8 := Lib.hid h8
  have hz8 : l8.length ≤ 1000000 ∧ text.length ≤ 1000000 := by
    have := congrArg List.length (rdText_back h8)
    rw [List.length_append, textB_len] at this
    omega
  have HZ8 := Lib.hid hz8.2
  replace hz8 := hz8.1
  replace HF := Lib.hid ((HF.out.set (Nat.lt_succ_self _) 0 (.string (strL l8))).keep hb)
  replace GH := Lib.hid ((GH.out.set l8).keep hb)
  clear h8 hb
  go_wp2_with fail
  have Q := Lib.hid (G3.new GH.out HF.out (askCs k s t i m ad n ca (strL key) (strL text) 0 0 0 ⟨#[]⟩) 78)
  unfold askCs at Q
  clear GH HF
  generalize W8.heap.size = ga at *
  generalize W8.alloc _ = W9 at *
  refine (ptext_any (w.heap.size + 1) l8 _ Q.out.g.c hz8).mono ?_
  rintro e W10 (⟨tx, l9, h9, rfl, hb⟩ | ⟨hn, rfl, r, hb⟩)
  case inr =>
    unfold panE
    go_wp2_with fail
    exact ⟨rfl, .inr ⟨by simp [rdAsk, H1.out, H2.out, H3.out, H4.out, H5.out, H6.out, H7.out, H8.out, rdAct, hn], rfl, Q.out.g.bad hb⟩⟩
  have H9 := Lib.hid h9
  replace Q := Lib.hid ((Q.out.set l9).keep hb)
  clear h9 hb
  have HOK := Lib.hid (gotA_ok tx)
  have HO := Lib.hid (fun w => oget_any (strL tx) tx w (strL_SB tx))
  have HRD : Hid (rdAct l8 = if (getA tx).2 = 0 then some ((getA tx).1, l9) else none) := Lib.hid (by unfold rdAct; rw [H9.out]; rfl)
  generalize getA tx = ga2 at *
  obtain ⟨⟨ak, ax, an, az⟩, code⟩ := ga2
  dsimp only at HO HRD HOK
  go_wp2_with fail
  refine (HO.out _).mono ?_
  rintro e W11 ⟨rfl, hb⟩
  have hbz : Bl W10 (W11.alloc (.cells #[.int .i64 ak, .float .f64 ax, .int .i64 an, .string az] 76)) := hb.alloc _
  have hct := AC.new W11 _ rfl [.int .i64 ak, .float .f64 ax, .int .i64 an, .string az] 76
  replace Q := Lib.hid (Q.out.keep hbz)
  have hc1 := Q.out.g.c.cell
  clear hb hbz
  by_cases hcode : code = 0
  · subst hcode
    have HRD2 : Hid (rdAct l8 = some (⟨ak, ax, an, az⟩, l9)) := Lib.hid (by rw [HRD.out, if_pos rfl])
    clear HRD
    by_cases h0 : l9 = []
    · subst h0
      have q : (strL []).toList.isEmpty = true := by rw [ByteArray.toList_eq]; rfl
      go_wp2_with fail
      refine (pwant_yes _).mono ?_
      rintro e W12 ⟨rfl, rfl⟩
      obtain ⟨b0, b1, b2, b3⟩ := hct.act
      have fa := Q.out.a.frozen
      have a8 := Q.out.a.cell 8 _ rfl
      have a9 := Q.out.a.cell 9 _ rfl
      have a10 := Q.out.a.cell 10 _ rfl
      have a11 := Q.out.a.cell 11 _ rfl
      have Q2 := Lib.hid ((((Q.out.put 8 (.int .i64 ak)).put 9 (.float .f64 ax)).put 10 (.int .i64 an)).put 11 (.string az))
      clear Q hct hc1
      generalize W11.heap.size = gc at *
      generalize W11.alloc _ = W13 at *
      obtain ⟨d0, d1, d2, d3, d4, d5, d6, d7, d8, d9, d10, d11⟩ := AC.ask (k := k) (s := s) (t := t) (i := i) (m := m) (ad := ad) (n := n) (ca := ca) (key := strL key) (text := strL text) (ak := ak) (ax := ax) (an := an) (az := az) Q2.out.a
      have hok : AskOk _ ⟨k, s, t, i, m, xs, strL key, strL text, ⟨ak, ax, an, az⟩⟩ ad n := ⟨Q2.out.x.far.1, by rw [strL_size]; have := HZ7.out; omega, by rw [strL_size]; have := HZ8.out; omega, HOK.out.1⟩
      have HAO := Lib.hid hok
      clear hok
      go_wp2_with fail
      cases hv : validA ⟨k, s, t, i, m, xs, strL key, strL text, ⟨ak, ax, an, az⟩⟩
      · refine (pvalid_hid k s t i m ad n ca xs (strL key) (strL text) ak ax an az false _ HAO.out (Lib.hid hv)).mono ?_
        rintro e W14 ⟨rfl, hb⟩
        have HV := Lib.hid hv
        replace Q2 := Lib.hid (Q2.out.keep hb)
        clear hv hb d0 d1 d2 d3 d4 d5 d6 d7 d8 d9 d10 d11 b0 b1 b2 b3 fa a8 a9 a10 a11 HAO
        go_wp2_with fail
        refine (pwant_no _).mono ?_
        rintro e W12 ⟨rfl, rfl⟩
        unfold panE
        go_wp2_with fail
        exact ⟨rfl, .inr ⟨by have := HV.out; unfold strL at this; simp [rdAsk, H1.out, H2.out, H3.out, H4.out, H5.out, H6.out, H7.out, H8.out, HRD2.out, this], rfl, Q2.out.g.bl⟩⟩
      · refine (pvalid_hid k s t i m ad n ca xs (strL key) (strL text) ak ax an az true _ HAO.out (Lib.hid hv)).mono ?_
        rintro e W14 ⟨rfl, hb⟩
        have HV := Lib.hid hv
        replace Q2 := Lib.hid (Q2.out.keep hb)
        clear hv hb d0 d1 d2 d3 d4 d5 d6 d7 d8 d9 d10 d11 b0 b1 b2 b3 fa a8 a9 a10 a11 HAO
        go_wp2_with fail
        refine (pwant_yes _).mono ?_
        rintro e W12 ⟨rfl, rfl⟩
        obtain ⟨d0, d1, d2, d3, d4, d5, d6, d7, d8, d9, d10, d11⟩ := AC.ask (k := k) (s := s) (t := t) (i := i) (m := m) (ad := ad) (n := n) (ca := ca) (key := strL key) (text := strL text) (ak := ak) (ax := ax) (an := an) (az := az) Q2.out.a
        have fr := Q2.out.g.r.frozen
        have r0 := Q2.out.g.r.cell 0 _ rfl
        have r1 := Q2.out.g.r.cell 1 _ rfl
        have r2 := Q2.out.g.r.cell 2 _ rfl
        have r3 := Q2.out.g.r.cell 3 _ rfl
        have r4 := Q2.out.g.r.cell 4 _ rfl
        have r5 := Q2.out.g.r.cell 5 _ rfl
        have r6 := Q2.out.g.r.cell 6 _ rfl
        have r7 := Q2.out.g.r.cell 7 _ rfl
        have r8 := Q2.out.g.r.cell 8 _ rfl
        have r9 := Q2.out.g.r.cell 9 _ rfl
        have r10 := Q2.out.g.r.cell 10 _ rfl
        have r11 := Q2.out.g.r.cell 11 _ rfl
        go_wp2_with fail
        refine bodyPost_ret (ga_results rfl (Q2.out.g.r.fill [.int .i64 k, .int .i64 s, .int .i64 t, .int .i64 i, .int .i64 m, .slice ad n ca, .string (strL key), .string (strL text), .int .i64 ak, .float .f64 ax, .int .i64 an, .string az] rfl)) rfl (.inl ⟨⟨k, s, t, i, m, xs, strL key, strL text, ⟨ak, ax, an, az⟩⟩, ad, n, ca, ?_, rfl, ?_, ?_⟩)
        · have := HV.out
          unfold strL at this
          simp [rdAsk, H1.out, H2.out, H3.out, H4.out, H5.out, H6.out, H7.out, H8.out, HRD2.out, this, strL]
        · exact FarO.mono (B := w.heap.size + 1 + 1) (FarO.fillApart (fun b off e => by have := Q2.out.ap b off e; omega) [.int .i64 k, .int .i64 s, .int .i64 t, .int .i64 i, .int .i64 m, .slice ad n ca, .string (strL key), .string (strL text), .int .i64 ak, .float .f64 ax, .int .i64 an, .string az] _ 0 Q2.out.x) (by omega)
        · exact Bl.fill (Nat.le_refl _) [.int .i64 k, .int .i64 s, .int .i64 t, .int .i64 i, .int .i64 m, .slice ad n ca, .string (strL key), .string (strL text), .int .i64 ak, .float .f64 ax, .int .i64 an, .string az] _ 0 Q2.out.g.bl
    · have q : (strL l9).toList.isEmpty = false := filled_L h0
      have HN := Lib.hid h0
      clear h0
      go_wp2_with fail
      refine (pwant_no _).mono ?_
      rintro e W12 ⟨rfl, rfl⟩
      unfold panE
      go_wp2_with fail
      exact ⟨rfl, .inr ⟨by simp [rdAsk, H1.out, H2.out, H3.out, H4.out, H5.out, H6.out, H7.out, H8.out, HRD2.out, HN.out], rfl, Q.out.g.bl⟩⟩
  · have HRD2 : Hid (rdAct l8 = none) := Lib.hid (by rw [HRD.out, if_neg hcode])
    have q : (code == 0) = false := by rw [beq_eq_false_iff_ne]; exact hcode
    clear HRD hcode
    go_wp2_with fail
    refine (pwant_no _).mono ?_
    rintro e W12 ⟨rfl, rfl⟩
    unfold panE
    go_wp2_with fail
    exact ⟨rfl, .inr ⟨by simp [rdAsk, H1.out, H2.out, H3.out, H4.out, H5.out, H6.out, H7.out, H8.out, HRD2.out], rfl, Q.out.g.bl⟩⟩
end Go.Proofs.YtibabgokmacnaaaGreat
end
