import Derived.Test.YtkpikmfijcffiaaGreatQTxnWritesUptoP12
import Derived.Test.YtkpikmfijcffiaaGreatQTxnWritesUptoP16

/- bedrockref21.SameWrites, bedrockref21.Same. By an AI agent. -/
section
set_option linter.unusedVariables false
set_option linter.unusedSimpArgs false
namespace Go.Proofs.YtkpikmfijcffiaaGreat
open Go.RowKit
attribute [local go_sem] eOp eOper eUpon

theorem beq_key (a b : ByteArray) : (a.toList == b.toList) = decide (a = b) := by
  rw [Bool.eq_iff_iff, beq_iff_eq, decide_eq_true_iff, ByteArray.toList_eq, ByteArray.toList_eq]
  exact ⟨fun h => ByteArray.ext (Array.toList_inj.1 h), fun h => by rw [h]⟩
theorem rsameAct_any (a d : ActL) (w : World) (oa : a.Ok) (ob : d.Ok) :
    Calls Tryz.prog 29 #[.agg #[.int .i64 a.k, .float .f64 a.x, .int .i64 a.n, .string a.s], .agg #[.int .i64 d.k, .float .f64 d.x, .int .i64 d.n, .string d.s]] w fun e w' => e = .returned (.bool (sameA a d)) ∧ Bl w w' := refSameA_any a d w oa ob
set_option maxHeartbeats 6400000 in
set_option maxRecDepth 100000 in
theorem rsameWs_any (a : Option Addr) (n ca : Nat) (xs : List (ByteArray × ActL)) (b : Option Addr) (m cb : Nat) (ys : List (ByteArray × ActL)) (w : World) (hx : WW w a n xs) (hy : WW w b m ys) :
    Calls Tryz.prog 190 #[.slice a n ca, .slice b m cb] w fun e w' => e = .returned (.bool (sameWs xs ys)) ∧ Bl w w' := by
  have hn := hx.cap
  have hm := hy.cap
  have HX := Lib.hid hx
  have HY := Lib.hid hy
  have HL := Lib.hid hx.len
  have HM := Lib.hid hy.len
  clear hx hy
  by_cases hnm : n = m
  case neg =>
    have q : ((n : Int) != (m : Int)) = true := by rw [bne_iff_ne]; omega
    have HF : Hid (sameWs xs ys = false) := Lib.hid (by
      cases h : sameWs xs ys
      · rfl
      · have := (sameWs_iff.1 h).1; have := HL.out; have := HM.out; omega)
    clear hnm
    go_enter Tryz.func190, Tryz.ntmps190
    go_wp2_with fail
    go_ret
    exact ⟨ret_bool HF.out.symm, Bl.refl _⟩
  subst hnm
  have q : ((n : Int) != (n : Int)) = false := by simp
  go_enter Tryz.func190, Tryz.ntmps190
  go_wp2_with fail
  go_loopw [5] (fun i wr => ∃ k : Nat, k ≤ n ∧ i = .int .i64 k ∧ Bl w wr ∧ ∀ j, j < k → (nthW xs j).1 = (nthW ys j).1 ∧ sameA (nthW xs j).2 (nthW ys j).2 = true) (fun i _ => n - (intOf i).toNat)
  case atStart => exact ⟨0, Nat.zero_le _, rfl, Bl.refl _, fun j hj => absurd hj (Nat.not_lt_zero _)⟩
  case round =>
    obtain ⟨k, hk, rfl, hbl, hok⟩ := hrel
    have HBL := Lib.hid hbl
    have HOK := Lib.hid hok
    clear hbl hok
    by_cases hlt : k < n
    · have hkx : k < xs.length := by rw [HL.out]; exact hlt
      have hky : k < ys.length := by rw [HM.out]; exact hlt
      obtain ⟨ba, oa, rfl, _⟩ := HX.out.cells k hlt
      obtain ⟨bb, ob, rfl, _⟩ := HY.out.cells k hlt
      have HCX := Lib.hid (HX.out.get HBL.out.drew hlt)
      have HCY := Lib.hid (HY.out.get HBL.out.drew hlt)
      have HOX : Hid (WrOk (nthW xs k)) := Lib.hid (HX.out.ok _ (by rw [nthW_eq hkx]; exact List.getElem_mem hkx))
      have HOY : Hid (WrOk (nthW ys k)) := Lib.hid (HY.out.ok _ (by rw [nthW_eq hky]; exact List.getElem_mem hky))
      have HNO : Hid (¬ ((nthW xs k).1 = (nthW ys k).1 ∧ sameA (nthW xs k).2 (nthW ys k).2 = true) → sameWs xs ys = false) := Lib.hid (fun h => by
        cases h2 : sameWs xs ys
        · rfl
        · exact absurd ((sameWs_iff.1 h2).2 k hkx) h)
      have HYES : Hid ((nthW xs k).1 = (nthW ys k).1 ∧ sameA (nthW xs k).2 (nthW ys k).2 = true → ∀ j, j < k + 1 → (nthW xs j).1 = (nthW ys j).1 ∧ sameA (nthW xs j).2 (nthW ys j).2 = true) := Lib.hid (fun h j hj => by
        rcases Nat.lt_succ_iff_lt_or_eq.1 hj with h1 | rfl
        · exact HOK.out j h1
        · exact h)
      generalize nthW xs k = p at *
      generalize nthW ys k = r at *
      obtain ⟨kx, ax⟩ := p
      obtain ⟨ky, ay⟩ := r
      dsimp only at HNO HYES
      have HA := Lib.hid (fun (q : Ext wr.drew) => rsameAct_any ax ay q.at HOX.out.2 HOY.out.2)
      have x0 : ∀ q : Ext wr.drew, _ := fun q => (HCX.out.keep q.bl).c0
      have x1 : ∀ q : Ext wr.drew, _ := fun q => (HCX.out.keep q.bl).c1
      have x2 : ∀ q : Ext wr.drew, _ := fun q => (HCX.out.keep q.bl).c2
      have x3 : ∀ q : Ext wr.drew, _ := fun q => (HCX.out.keep q.bl).c3
      have x4 : ∀ q : Ext wr.drew, _ := fun q => (HCX.out.keep q.bl).c4
      have y0 : ∀ q : Ext wr.drew, _ := fun q => (HCY.out.keep q.bl).c0
      have y1 : ∀ q : Ext wr.drew, _ := fun q => (HCY.out.keep q.bl).c1
      have y2 : ∀ q : Ext wr.drew, _ := fun q => (HCY.out.keep q.bl).c2
      have y3 : ∀ q : Ext wr.drew, _ := fun q => (HCY.out.keep q.bl).c3
      have y4 : ∀ q : Ext wr.drew, _ := fun q => (HCY.out.keep q.bl).c4
      dsimp only at x0 x1 x2 x3 x4 y0 y1 y2 y3 y4
      clear hkx hky
      by_cases hkey : kx = ky
      case neg =>
        have qk : (kx.toList == ky.toList) = false := by rw [beq_key]; exact decide_eq_false hkey
        have HF := Lib.hid (HNO.out (fun h => hkey h.1))
        clear hkey
        go_upto_region 6 with fail
        refine wp_region_allS (by kernel_rfl) (by kernel_rfl) ?_
        repeat (refine wpS_step (fun K hK => ?_); go_simp; first | (refine hK _ ?_; clear hK K) | (apply Exists.intro; refine ⟨fun q => ?_, hK _ ?_⟩; (with_reducible exact HA.out q); clear hK K))
        refine wpS_nil ?_
        intro q1
        have HBN := Lib.hid (HBL.out.trans (((Bl.refl wr).drew).trans q1.bl))
        clear x0 x1 x2 x3 x4 y0 y1 y2 y3 y4
        generalize ExtC.at q1 = Y at *
        go_wp2_with fail
        go_ret
        exact ⟨ret_bool HF.out.symm, HBN.out⟩
      have qk : (kx.toList == ky.toList) = true := by rw [beq_key]; exact decide_eq_true hkey
      cases hs : sameA ax ay
      · have HF := Lib.hid (HNO.out (fun h => by rw [hs] at h; cases h.2))
        have HAF := Lib.hid (fun q => by have := HA.out q; rw [hs] at this; exact this)
        clear hkey hs
        go_upto_region 6 with fail
        refine wp_region_allS (by kernel_rfl) (by kernel_rfl) ?_
        repeat (refine wpS_step (fun K hK => ?_); go_simp; first | (refine hK _ ?_; clear hK K) | (apply Exists.intro; refine ⟨fun q => ?_, hK _ ?_⟩; (with_reducible exact HAF.out q); clear hK K))
        refine wpS_nil ?_
        intro q1
        have HBN := Lib.hid (HBL.out.trans (((Bl.refl wr).drew).trans q1.bl))
        clear x0 x1 x2 x3 x4 y0 y1 y2 y3 y4
        generalize ExtC.at q1 = Y at *
        go_wp2_with fail
        go_ret
        exact ⟨ret_bool HF.out.symm, HBN.out⟩
      · have HF := Lib.hid (HYES.out ⟨hkey, hs⟩)
        have HAF := Lib.hid (fun q => by have := HA.out q; rw [hs] at this; exact this)
        clear hkey hs
        go_upto_region 6 with fail
        refine wp_region_allS (by kernel_rfl) (by kernel_rfl) ?_
        repeat (refine wpS_step (fun K hK => ?_); go_simp; first | (refine hK _ ?_; clear hK K) | (apply Exists.intro; refine ⟨fun q => ?_, hK _ ?_⟩; (with_reducible exact HAF.out q); clear hK K))
        refine wpS_nil ?_
        intro q1
        have HBN := Lib.hid (HBL.out.trans (((Bl.refl wr).drew).trans q1.bl))
        clear x0 x1 x2 x3 x4 y0 y1 y2 y3 y4
        generalize ExtC.at q1 = Y at *
        go_wp2_with fail
        go_roundw
        case rel => exact ⟨k + 1, by omega, by go_num, HBN.out, HF.out⟩
        case measure => simp [intOf]; omega
    · obtain rfl : k = n := by omega
      have HF : Hid (sameWs xs ys = true) := Lib.hid (sameWs_iff.2 ⟨by rw [HL.out, HM.out], fun i hi => HOK.out i (by rw [HL.out] at hi; exact hi)⟩)
      go_wp2_with fail
      go_ret
      exact ⟨ret_bool HF.out.symm, HBL.out⟩
theorem sameT_parts {a b : TxnL} (h : sameT a b = true) : a.o = b.o ∧ a.num = b.num ∧ a.prev = b.prev ∧ a.deps = b.deps ∧ a.at_ = b.at_ ∧ sameWs a.ws b.ws = true := by
  unfold sameT at h
  rw [Bool.and_eq_true, Bool.and_eq_true, Bool.and_eq_true, decide_eq_true_eq, decide_eq_true_eq, decide_eq_true_eq] at h
  exact ⟨h.1.1, h.1.2.1, h.1.2.2, h.2.1, h.2.2.1, h.2.2.2⟩
set_option maxHeartbeats 6400000 in
set_option maxRecDepth 100000 in
theorem rsameT_any (t r : TxnL) (s u : TxAt) (w : World) (ht : TX w s t) (hr : TX w u r) :
    Calls Tryz.prog 171 #[txV t s, txV r u] w fun e w' => e = .returned (.bool (sameT t r)) ∧ Bl w w' := by
  have HN : Hid (¬ (t.o = r.o ∧ t.num = r.num ∧ t.prev = r.prev ∧ t.deps = r.deps ∧ t.at_ = r.at_ ∧ sameWs t.ws r.ws = true) → sameT t r = false) := Lib.hid (fun h => by
    cases h2 : sameT t r
    · rfl
    · exact absurd (sameT_parts h2) h)
  have HY : Hid (t.o = r.o → t.num = r.num → t.prev = r.prev → t.deps = r.deps → t.at_ = r.at_ → sameT t r = sameWs t.ws r.ws) := Lib.hid (fun h1 h2 h3 h4 h5 => by
    unfold sameT; rw [h1, h2, h3, h4, h5]; simp)
  have HT := Lib.hid ht
  have HR := Lib.hid hr
  have hg := AC.new w _ rfl (txCs t s) 62
  have hb := (Bl.refl w).alloc (.cells (txCs t s).toArray 62)
  have hsz : (w.alloc (.cells (txCs t s).toArray 62)).heap.size = w.heap.size + 1 := by simp
  unfold txV
  clear ht hr
  obtain ⟨o, num, prev, ds, xs, ws⟩ := t
  obtain ⟨o', num', prev', ds', xs', ws'⟩ := r
  obtain ⟨da, dn, dc, aa, an, ac, wa, wn, wc⟩ := s
  obtain ⟨da', dn', dc', aa', an', ac', wa', wn', wc'⟩ := u
  unfold txCs at hg hb hsz
  dsimp only at HN HY hg hb hsz ⊢
  go_enter Tryz.func171, Tryz.ntmps171
  go_upto_region 1 with fail
  generalize w.alloc _ = W1 at *
  have hg2 := AC.new W1 _ rfl [.int .i64 o', .int .i64 num', .int .i64 prev', .slice da' dn' dc', .slice aa' an' ac', .slice wa' wn' wc'] 62
  have hbb := (Bl.refl W1).alloc (.cells [Value.int .i64 o', .int .i64 num', .int .i64 prev', .slice da' dn' dc', .slice aa' an' ac', .slice wa' wn' wc'].toArray 62)
  rw [hsz] at hg2
  have hg1 := hg.keep hbb
  have hb1 := hb.trans hbb
  clear hg hb hbb hsz
  generalize W1.alloc _ = W at *
  generalize w.heap.size = g1 at *
  have HG1 := Lib.hid hg1
  have HG2 := Lib.hid hg2
  have HB := Lib.hid hb1
  have c0 := hg1.cell 0 _ rfl
  have c1 := hg1.cell 1 _ rfl
  have c2 := hg1.cell 2 _ rfl
  have c3 := hg1.cell 3 _ rfl
  have c4 := hg1.cell 4 _ rfl
  have c5 := hg1.cell 5 _ rfl
  have e0 := hg2.cell 0 _ rfl
  have e1 := hg2.cell 1 _ rfl
  have e2 := hg2.cell 2 _ rfl
  have e3 := hg2.cell 3 _ rfl
  have e4 := hg2.cell 4 _ rfl
  have e5 := hg2.cell 5 _ rfl
  clear hg1 hg2 hb1
  by_cases h1 : o = o'
  case neg =>
    have q1 : (o == o') = false := by rw [beq_eq_false_iff_ne]; exact h1
    have HF := Lib.hid (HN.out (fun h => h1 h.1))
    clear h1
    go_wp2_with fail
    go_ret
    exact ⟨ret_bool HF.out.symm, HB.out⟩
  have q1 : (o == o') = true := by rw [beq_iff_eq]; exact h1
  by_cases h2 : num = num'
  case neg =>
    have q2 : (num == num') = false := by rw [beq_eq_false_iff_ne]; exact h2
    have HF := Lib.hid (HN.out (fun h => h2 h.2.1))
    clear h1 h2
    go_wp2_with fail
    go_ret
    exact ⟨ret_bool HF.out.symm, HB.out⟩
  have q2 : (num == num') = true := by rw [beq_iff_eq]; exact h2
  by_cases h3 : prev = prev'
  case neg =>
    have q3 : (prev == prev') = false := by rw [beq_eq_false_iff_ne]; exact h3
    have HF := Lib.hid (HN.out (fun h => h3 h.2.2.1))
    clear h1 h2 h3
    go_wp2_with fail
    go_ret
    exact ⟨ret_bool HF.out.symm, HB.out⟩
  have q3 : (prev == prev') = true := by rw [beq_iff_eq]; exact h3
  have HE := Lib.hid (And.intro h1 (And.intro h2 h3))
  clear h1 h2 h3
  go_wp2_with fail
  refine (rsame_any _ _ _ _ _ _ ds ds' _ (HT.out.deps.keep HB.out) (HR.out.deps.keep HB.out)).mono ?_
  rintro e W2 ⟨rfl, hb2⟩
  have HB2 := Lib.hid (HB.out.trans hb2)
  replace c4 := hb2.cell c4
  replace c5 := hb2.cell c5
  replace e4 := hb2.cell e4
  replace e5 := hb2.cell e5
  clear hb2 c0 c1 c2 c3 e0 e1 e2 e3
  by_cases h4 : ds = ds'
  case neg =>
    have HF := Lib.hid (HN.out (fun h => h4 h.2.2.2.1))
    rw [decide_eq_false h4]
    clear h4
    go_wp2_with fail
    go_ret
    exact ⟨ret_bool HF.out.symm, HB2.out⟩
  have H4 := Lib.hid h4
  rw [decide_eq_true h4]
  clear h4
  go_wp2_with fail
  refine (rsame_any _ _ _ _ _ _ xs xs' _ (HT.out.at_.keep HB2.out) (HR.out.at_.keep HB2.out)).mono ?_
  rintro e W3 ⟨rfl, hb3⟩
  have HB3 := Lib.hid (HB2.out.trans hb3)
  replace c5 := hb3.cell c5
  replace e5 := hb3.cell e5
  clear hb3 c4 e4
  by_cases h5 : xs = xs'
  case neg =>
    have HF := Lib.hid (HN.out (fun h => h5 h.2.2.2.2.1))
    rw [decide_eq_false h5]
    clear h5
    go_wp2_with fail
    go_ret
    exact ⟨ret_bool HF.out.symm, HB3.out⟩
  have HF := Lib.hid (HY.out HE.out.1 HE.out.2.1 HE.out.2.2 H4.out h5)
  rw [decide_eq_true h5]
  clear h5
  go_wp2_with fail
  refine (rsameWs_any _ _ _ ws _ _ _ ws' _ (HT.out.ws.keep HB3.out) (HR.out.ws.keep HB3.out)).mono ?_
  rintro e W4 ⟨rfl, hb4⟩
  have HB4 := Lib.hid (HB3.out.trans hb4)
  clear hb4 c5 e5
  rw [← HF.out]
  go_wp2_with fail
  go_ret
  exact ⟨rfl, HB4.out⟩
end Go.Proofs.YtkpikmfijcffiaaGreat
end
