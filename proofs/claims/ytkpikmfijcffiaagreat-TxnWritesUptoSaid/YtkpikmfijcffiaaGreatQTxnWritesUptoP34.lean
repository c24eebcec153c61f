import Derived.Test.YtkpikmfijcffiaaGreatQTxGet
import Derived.Test.YtkpikmfijcffiaaGreatQTxn2
import Derived.Test.YtkpikmfijcffiaaGreatQOpSame

/- txn.Get. By an AI agent. -/
section
set_option linter.unusedVariables false
set_option linter.unusedSimpArgs false
namespace Go.Proofs.YtkpikmfijcffiaaGreat
open Go.RowKit

theorem txread_any (l : List UInt8) (w : World) : Calls Tryz.prog 104 #[.string (strL l)] w (TxPost w l) := by
  by_cases h : 4 ≤ l.length ∧ l.length ≤ 65000
  · exact txread_long l (l.take (l.length - 4)) (l.drop (l.length - 4)) (l.length - 4) w (by omega) (by omega) rfl rfl
  · exact txread_short l w h
theorem txcatch_idle (a0 a1 : Addr) (w : World) :
    CallsD Tryz.prog 103 #[.pointer (some a0), .pointer (some a1)] .returning w fun e u' w' => e = .returned (.tuple #[]) ∧ u' = .returning ∧ w' = w := by
  refine callsD_of_wpS Tryz.func103 rfl fun c₀ cs hu => ?_
  apply wpS_seq
  apply wpS_region
  simp [wpOpsS, go_sem, recoverD, hu, Tryz.ntmps103, Exit.thenS]
  apply wpS_seq
  apply wpS_region
  simp [wpOpsS, go_sem, Exit.thenS]
  refine wpS_cond (t := false) (by simp [Act.eval, Array.replicate]) ?_
  simp only [Bool.false_eq_true, if_false]
  refine wpS_of_wp (wp_skip ?_)
  cases c₀
  simp_all [bodyPostS, results, Tryz.results103]
theorem AC.set6 {w : World} {g : Nat} {a0 b0 c0 d0 e0 f0 : Value} (h : AC w g [a0, b0, c0, d0, e0, f0]) (a b c d e f : Value) :
    AC ((((((w.setCell ⟨g, 0, none⟩ a).setCell ⟨g, 1, none⟩ b).setCell ⟨g, 2, none⟩ c).setCell ⟨g, 3, none⟩ d).setCell ⟨g, 4, none⟩ e).setCell ⟨g, 5, none⟩ f) g [a, b, c, d, e, f] :=
  (((((h.setj 0 a).setj 1 b).setj 2 c).setj 3 d).setj 4 e).setj 5 f
theorem AC.other6 {w : World} {g g' : Nat} {cs : List Value} (h : AC w g cs) (hn : g ≠ g') (a b c d e f : Value) :
    AC ((((((w.setCell ⟨g', 0, none⟩ a).setCell ⟨g', 1, none⟩ b).setCell ⟨g', 2, none⟩ c).setCell ⟨g', 3, none⟩ d).setCell ⟨g', 4, none⟩ e).setCell ⟨g', 5, none⟩ f) g cs :=
  (((((h.other hn).other hn).other hn).other hn).other hn).other hn

set_option maxHeartbeats 800000 in
set_option maxRecDepth 100000 in
theorem txcatch_code (g0 g1 : Nat) (c : Int) (v1 : Value) (older : List PanicEntry) (w : World) (k x n s t r : Value) (h0 : AC w g0 [k, x, n, s, t, r]) (h1 : AC w g1 [v1]) (n01 : g0 ≠ g1) :
    CallsD Tryz.prog 103 #[.pointer (some ⟨g0, 0, none⟩), .pointer (some ⟨g1, 0, none⟩)] (.panicking ({ v := .iface 48 (.int .i64 c), recovered := false } :: older)) w fun e u' w' =>
      e = .returned (.tuple #[]) ∧ u' = .panicking ({ v := .iface 48 (.int .i64 c), recovered := true } :: older) ∧ w' = (((((((w.setCell ⟨g0, 0, none⟩ (.int .i64 0)).setCell ⟨g0, 1, none⟩ (.int .i64 0)).setCell ⟨g0, 2, none⟩ (.int .i64 0)).setCell ⟨g0, 3, none⟩ (.slice none 0 0)).setCell ⟨g0, 4, none⟩ (.slice none 0 0)).setCell ⟨g0, 5, none⟩ (.slice none 0 0)).setCell ⟨g1, 0, none⟩ (.int .i64 c)) := by
  have hsf := store_float
  have f0 := h0.frozen
  have k0 := h0.cell 0 _ rfl
  have k1 := h0.cell 1 _ rfl
  have k2 := h0.cell 2 _ rfl
  have k3 := h0.cell 3 _ rfl
  have k4 := h0.cell 4 _ rfl
  have k5 := h0.cell 5 _ rfl
  have H4 := h1.other6 (g' := g0) (Ne.symm n01) (.int .i64 0) (.int .i64 0) (.int .i64 0) (.slice none 0 0) (.slice none 0 0) (.slice none 0 0)
  have e0 := H4.cell 0 _ rfl
  have ef := H4.frozen 0
  refine callsD_of_wpS Tryz.func103 rfl fun c₀ cs hu => ?_
  apply wpS_seq
  apply wpS_region
  simp [wpOpsS, go_sem, recoverD, hu, Tryz.ntmps103, Exit.thenS]
  apply wpS_seq
  apply wpS_region
  simp [wpOpsS, go_sem, Exit.thenS]
  refine wpS_cond (t := true) (by simp [Act.eval, Array.replicate]) ?_
  simp only [if_true]
  apply wpS_seq
  apply wpS_region
  simp [wpOpsS, go_sem, Exit.thenS, assert_code, recoverD]
  apply wpS_seq
  apply wpS_seq
  apply wpS_region
  simp [wpOpsS, go_sem, Exit.thenS, recoverD]
  refine wpS_cond (t := false) (by simp [Act.eval, Array.replicate]) ?_
  simp only [Bool.false_eq_true, if_false]
  refine wpS_of_wp (wp_skip ?_)
  simp only [Exit.thenS]
  apply wpS_region
  simp [wpOpsS, go_sem, hsf, f0, k0, k1, k2, k3, k4, k5, e0, ef, recoverD, bodyPostS, results, Tryz.results103]

/-- the two boxes of Get -/
structure TxG (w W : World) (cs : List Value) (e : Int) : Prop where
  bl : Bl w W
  r : AC W w.heap.size cs
  t : AC W (w.heap.size + 1) [.int .i64 e]
theorem TxG.keep {w W W' : World} {cs : List Value} {e : Int} (h : TxG w W cs e) (k : Bl W W') : TxG w W' cs e := ⟨h.bl.trans k, h.r.keep k, h.t.keep k⟩
theorem TxG.new (w : World) (T U : TypeId) (cs : List Value) (e : Int) : TxG w ((w.alloc (.cells cs.toArray T)).alloc (.cells #[.int .i64 e] U)) cs e :=
  ⟨((Bl.refl w).alloc _).alloc _, (AC.new w _ rfl cs T).keep ((Bl.refl _).alloc _), AC.new _ (w.heap.size + 1) (by simp) [.int .i64 e] U⟩
theorem TxG.set {w W : World} {a0 b0 c0 d0 f0 g0 : Value} {e0 : Int} (h : TxG w W [a0, b0, c0, d0, f0, g0] e0) (a b c d f g : Value) (e : Int) :
    TxG w (((((((W.setCell ⟨w.heap.size, 0, none⟩ a).setCell ⟨w.heap.size, 1, none⟩ b).setCell ⟨w.heap.size, 2, none⟩ c).setCell ⟨w.heap.size, 3, none⟩ d).setCell ⟨w.heap.size, 4, none⟩ f).setCell ⟨w.heap.size, 5, none⟩ g).setCell ⟨w.heap.size + 1, 0, none⟩ (.int .i64 e)) [a, b, c, d, f, g] e :=
  ⟨(Bl.fill (Nat.le_refl _) [a, b, c, d, f, g] W 0 h.bl).setCell (p := ⟨w.heap.size + 1, 0, none⟩) (Nat.le_succ _) _, (h.r.set6 a b c d f g).other (by omega), (h.t.other6 (by omega) a b c d f g).put _⟩
theorem txGet_results {tmps : Array Value} {w : World} {g0 g1 : Nat} {o num prev : Int} {dd : Option Addr} {dn dc : Nat} {ad : Option Addr} {an ac : Nat} {pd : Option Addr} {pn pc : Nat} {v1 : Int} (h0 : tmps.getD 2 undef = .pointer (some ⟨g0, 0, none⟩)) (h1 : tmps.getD 3 undef = .pointer (some ⟨g1, 0, none⟩))
    (d0 : AC w g0 (txL o num prev dd dn dc ad an ac pd pn pc)) (d1 : AC w g1 [.int .i64 v1]) :
    (results Tryz.f21 tmps).run Tryz.prog w = .ok (.tuple #[.agg #[.int .i64 o, .int .i64 num, .int .i64 prev, .slice dd dn dc, .slice ad an ac, .slice pd pn pc], .int .i64 v1]) w := by
  rw [Array.getD_eq_getD_getElem?] at h0 h1
  have c0 := d0.cell 0 _ rfl
  have c1 := d0.cell 1 _ rfl
  have c2 := d0.cell 2 _ rfl
  have c3 := d0.cell 3 _ rfl
  have c4 := d0.cell 4 _ rfl
  have c5 := d0.cell 5 _ rfl
  have c6 := d1.cell 0 _ rfl
  simp [results, Tryz.results21, go_sem, h0, h1, c0, c1, c2, c3, c4, c5, c6]
def nilAt : TxAt := ⟨none, 0, 0, none, 0, 0, none, 0, 0⟩
/-- what Get comes to -/
def GetPostT (w : World) (l : List UInt8) (e : Ending) (w' : World) : Prop :=
  (∃ (t : TxnL) (s : TxAt), rdTx l = some t ∧ e = .returned (.tuple #[txV t s, .int .i64 0]) ∧ TXF w.heap.size w' s t ∧ Bl w w') ∨
  (rdTx l = none ∧ e = .returned (.tuple #[txV nilTx nilAt, .int .i64 4]) ∧ Bl w w')
set_option maxHeartbeats 1600000 in
set_option maxRecDepth 100000 in
theorem txGet_any (l : List UInt8) (w : World) : Calls Tryz.prog 21 #[.string (strL l)] w (GetPostT w l) := by
  have hmf := hmf
  have H := Lib.hid (fun w => txread_any l w)
  have G := TxG.new w 62 48 zTx 0
  unfold zTx at G
  have hsz : ((w.alloc (.cells #[.int .i64 0, .int .i64 0, .int .i64 0, .slice none 0 0, .slice none 0 0, .slice none 0 0] 62)).alloc (.cells #[.int .i64 0] 48)).heap.size = w.heap.size + 1 + 1 := by simp
  generalize strL l = sl at *
  go_enter_defers Tryz.func21, Tryz.ntmps21
  go_wp2_with fail
  generalize (w.alloc (.cells #[.int .i64 0, .int .i64 0, .int .i64 0, .slice none 0 0, .slice none 0 0, .slice none 0 0] 62)).alloc (.cells #[.int .i64 0] 48) = W at *
  refine (H.out _).mono ?_
  rintro e w1 (⟨⟨o, num, prev, ds, xs, ws⟩, ⟨dd, dn, dc, ad, an, ac, pd, pn, pc⟩, hr, rfl, hF, hb1⟩ | ⟨hr, rfl, hb1⟩)
  · have HR := Lib.hid hr
    have HF := Lib.hid hF
    have G := G.keep hb1
    clear hb1 hr hF
    dsimp only at *
    unfold txV
    dsimp only
    have c0 := G.r.cell 0 _ rfl
    have c1 := G.r.cell 1 _ rfl
    have c2 := G.r.cell 2 _ rfl
    have c3 := G.r.cell 3 _ rfl
    have c4 := G.r.cell 4 _ rfl
    have c5 := G.r.cell 5 _ rfl
    have fr := G.r.frozen
    have H4 := G.t.other6 (g' := w.heap.size) (by omega) (.int .i64 o) (.int .i64 num) (.int .i64 prev) (.slice dd dn dc) (.slice ad an ac) (.slice pd pn pc)
    have e0 := H4.cell 0 _ rfl
    have ef := H4.frozen 0
    go_wp2_with fail
    refine leaves_cons (f := 103) (args := #[.pointer (some ⟨w.heap.size, 0, none⟩), .pointer (some ⟨w.heap.size + 1, 0, none⟩)]) (by simp) (by simp [go_sem]) ?_
    refine (txcatch_idle _ _ _).mono ?_
    rintro e u' w'' ⟨rfl, rfl, rfl⟩
    have G2 := G.set (.int .i64 o) (.int .i64 num) (.int .i64 prev) (.slice dd dn dc) (.slice ad an ac) (.slice pd pn pc) 0
    refine leaves_ret (txGet_results rfl rfl G2.r G2.t) (.inl ⟨⟨o, num, prev, ds, xs, ws⟩, ⟨dd, dn, dc, ad, an, ac, pd, pn, pc⟩, HR.out, rfl, ?_, G2.bl⟩)
    have h1 := HF.out.fill (q := w.heap.size) (by omega) [.int .i64 o, .int .i64 num, .int .i64 prev, .slice dd dn dc, .slice ad an ac, .slice pd pn pc] 0
    exact TXF.mono (h1.fill (q := w.heap.size + 1) (by omega) [.int .i64 0] 0) (by omega)
  · have HR := Lib.hid hr
    have G := G.keep hb1
    clear hb1 hr
    unfold panE
    refine leaves_cons (f := 103) (args := #[.pointer (some ⟨w.heap.size, 0, none⟩), .pointer (some ⟨w.heap.size + 1, 0, none⟩)]) (by simp) (by simp [go_sem]) ?_
    refine (txcatch_code w.heap.size (w.heap.size + 1) 4 _ [] _ _ _ _ _ _ _ G.r G.t (by omega)).mono ?_
    rintro e u' w'' ⟨rfl, rfl, rfl⟩
    have G2 := G.set (.int .i64 0) (.int .i64 0) (.int .i64 0) (.slice none 0 0) (.slice none 0 0) (.slice none 0 0) 4
    exact leaves_back (txGet_results rfl rfl G2.r G2.t) (.inr ⟨HR.out, rfl, G2.bl⟩)
end Go.Proofs.YtkpikmfijcffiaaGreat
end

/- txn.Same. By an AI agent. -/
section
set_option linter.unusedVariables false
set_option linter.unusedSimpArgs false
namespace Go.Proofs.YtkpikmfijcffiaaGreat
open Go.RowKit

set_option maxHeartbeats 1600000 in
set_option maxRecDepth 100000 in
theorem txEq1_any (p q : ByteArray × ActL) (w : World) (op : WrOk p) (oq : WrOk q) :
    Calls Tryz.prog 109 #[.agg #[.string p.1, .int .i64 p.2.k, .float .f64 p.2.x, .int .i64 p.2.n, .string p.2.s], .agg #[.string q.1, .int .i64 q.2.k, .float .f64 q.2.x, .int .i64 q.2.n, .string q.2.s]] w fun e w' => e = .returned (.bool (decide (p.1 = q.1) && sameA p.2 q.2)) ∧ Bl w w' := by
  have hsf := store_float
  have OP := Lib.hid op.2
  have OQ := Lib.hid oq.2
  obtain ⟨k, ⟨pk, px, pn, ps⟩⟩ := p
  obtain ⟨l, ⟨qk, qx, qn, qs⟩⟩ := q
  have hg := AC.new w _ rfl [.string k, .int .i64 pk, .float .f64 px, .int .i64 pn, .string ps] 58
  have hb := (Bl.refl w).alloc (.cells #[.string k, .int .i64 pk, .float .f64 px, .int .i64 pn, .string ps] 58)
  have hsz : (w.alloc (.cells #[.string k, .int .i64 pk, .float .f64 px, .int .i64 pn, .string ps] 58)).heap.size = w.heap.size + 1 := by simp
  clear op oq
  dsimp only at *
  obtain ⟨R, hR⟩ : ∃ R, (decide (k = l) && sameA ⟨pk, px, pn, ps⟩ ⟨qk, qx, qn, qs⟩) = R := ⟨_, rfl⟩
  rw [hR]
  have HRR := Lib.hid hR
  clear hR
  go_enter Tryz.func109, Tryz.ntmps109
  go_upto_region 1 with fail
  generalize w.alloc _ = W1 at *
  have hg2 := AC.new W1 _ rfl [.string l, .int .i64 qk, .float .f64 qx, .int .i64 qn, .string qs] 58
  have hbb := (Bl.refl W1).alloc (.cells #[.string l, .int .i64 qk, .float .f64 qx, .int .i64 qn, .string qs] 58)
  rw [hsz] at hg2
  have hg1 := hg.keep hbb
  have hb1 := hb.trans hbb
  clear hg hb hbb hsz
  generalize W1.alloc _ = W at *
  generalize w.heap.size = g1 at *
  have c0 := hg1.cell 0 _ rfl
  have c1 := hg1.cell 1 _ rfl
  have c2 := hg1.cell 2 _ rfl
  have c3 := hg1.cell 3 _ rfl
  have c4 := hg1.cell 4 _ rfl
  have e0 := hg2.cell 0 _ rfl
  have e1 := hg2.cell 1 _ rfl
  have e2 := hg2.cell 2 _ rfl
  have e3 := hg2.cell 3 _ rfl
  have e4 := hg2.cell 4 _ rfl
  have HB := Lib.hid hb1
  clear hg1 hg2 hb1
  by_cases h1 : k = l
  case neg =>
    have q1 : (k.toList == l.toList) = false := by rw [beq_eq_false_iff_ne]; exact fun e => h1 (toList_inj e)
    have HF : Hid (R = false) := Lib.hid (by rw [← HRR.out, decide_eq_false h1]; rfl)
    clear h1 HRR
    go_wp2_with fail
    go_ret
    exact ⟨ret_bool HF.out.symm, HB.out⟩
  subst h1
  have q1 : (k.toList == k.toList) = true := by simp
  have HR : Hid (sameA ⟨pk, px, pn, ps⟩ ⟨qk, qx, qn, qs⟩ = R) := Lib.hid (by rw [← HRR.out, decide_eq_true rfl]; rfl)
  clear HRR
  go_wp2_with fail
  refine (sameA_agg pk px pn ps qk qx qn qs R _ HR OP OQ).mono ?_
  rintro e w2 ⟨rfl, hb2⟩
  go_wp2_with fail
  go_ret
  exact ⟨rfl, HB.out.trans hb2⟩
set_option maxHeartbeats 3200000 in
set_option maxRecDepth 100000 in
theorem equalW_any (a : Option Addr) (n c : Nat) (xs : List (ByteArray × ActL)) (b : Option Addr) (m d : Nat) (ys : List (ByteArray × ActL)) (w : World) (hx : WW w a n xs) (hy : WW w b m ys) :
    Calls Tryz.prog 108 #[.slice a n c, .slice b m d, .func (.func 109) #[] #[]] w fun e w' => e = .returned (.bool (sameWs xs ys)) ∧ Bl w w' := by
  have hsf := store_float
  have hcap := hx.cap
  have HX := Lib.hid hx
  have HY := Lib.hid hy
  have HL := Lib.hid hx.len
  have HM := Lib.hid hy.len
  clear hx hy
  by_cases hnm : n = m
  case neg =>
    have hF : sameWs xs ys = false := by
      cases h : sameWs xs ys
      · rfl
      · exact absurd (by rw [← HL.out, ← HM.out]; exact (sameWs_iff.1 h).1) hnm
    rw [hF]
    have q1 : ((n : Int) != (m : Int)) = true := by rw [bne_iff_ne]; omega
    clear hnm hF
    go_enter Tryz.func108, Tryz.ntmps108
    go_wp2_with fail
    go_ret
    exact ⟨rfl, Bl.refl _⟩
  subst hnm
  have q1 : ((n : Int) != (n : Int)) = false := by simp
  go_enter Tryz.func108, Tryz.ntmps108
  go_wp2_with fail
  clear q1
  go_loopw [17] (fun i wr => ∃ k : Nat, k ≤ n ∧ i = .int .i64 k ∧ Bl w wr ∧ ∀ j, j < k → (nthW xs j).1 = (nthW ys j).1 ∧ sameA (nthW xs j).2 (nthW ys j).2 = true) (fun i _ => n - (intOf i).toNat)
  case atStart => exact ⟨0, Nat.zero_le _, rfl, Bl.refl _, fun j hj => absurd hj (Nat.not_lt_zero _)⟩
  case round =>
    obtain ⟨k, hk, rfl, hbl, hok⟩ := hrel
    have HBL := Lib.hid hbl
    have HOK := Lib.hid hok
    clear hbl hok
    by_cases hlt : k < n
    · have hkx : k < xs.length := by rw [HL.out]; exact hlt
      have hky : k < ys.length := by rw [HM.out]; exact hlt
      obtain ⟨ba, oa, rfl, _⟩ := HX.out.cells k hlt
      obtain ⟨bb, ob, rfl, _⟩ := HY.out.cells k hlt
      obtain ⟨c0, c1, c2, c3, c4⟩ := HX.out.get HBL.out hlt
      have HD := Lib.hid (fun W (hb : Bl w W) => HY.out.get hb hlt)
      have HOP := Lib.hid (HX.out.ok _ (nthW_mem hkx))
      have HOQ := Lib.hid (HY.out.ok _ (nthW_mem hky))
      have HYES : Hid ((nthW xs k).1 = (nthW ys k).1 → sameA (nthW xs k).2 (nthW ys k).2 = true → ∀ j, j < k + 1 → (nthW xs j).1 = (nthW ys j).1 ∧ sameA (nthW xs j).2 (nthW ys j).2 = true) := Lib.hid (fun h1 h2 j hj => by
        rcases Nat.lt_succ_iff_lt_or_eq.1 hj with h | rfl
        · exact HOK.out j h
        · exact ⟨h1, h2⟩)
      have HNO : Hid (¬ ((nthW xs k).1 = (nthW ys k).1 ∧ sameA (nthW xs k).2 (nthW ys k).2 = true) → sameWs xs ys = false) := Lib.hid (fun h => by
        cases h2 : sameWs xs ys
        · rfl
        · exact absurd ((sameWs_iff.1 h2).2 k hkx) h)
      clear hkx hky HOK
      generalize nthW xs k = p at *
      generalize nthW ys k = q at *
      have HS := Lib.hid (fun w => txEq1_any p q w HOP.out HOQ.out)
      obtain ⟨pk, ⟨ak, ax, an, az⟩⟩ := p
      obtain ⟨qk, ⟨bk, bx, bn, bz⟩⟩ := q
      dsimp only at c0 c1 c2 c3 c4 HS HYES HNO
      have hgp := AC.new wr _ rfl [.string pk, .int .i64 ak, .float .f64 ax, .int .i64 an, .string az] 58
      have hbp := (Bl.refl wr).alloc (.cells #[.string pk, .int .i64 ak, .float .f64 ax, .int .i64 an, .string az] 58)
      go_upto_region 6 with fail
      clear c0 c1 c2 c3 c4
      have hsz : (wr.alloc (.cells #[.string pk, .int .i64 ak, .float .f64 ax, .int .i64 an, .string az] 58)).heap.size = wr.heap.size + 1 := by simp
      generalize wr.alloc _ = V at *
      obtain ⟨c0, c1, c2, c3, c4⟩ := HD.out V (HBL.out.trans hbp)
      dsimp only at c0 c1 c2 c3 c4
      have hgq := AC.new V _ rfl [.string qk, .int .i64 bk, .float .f64 bx, .int .i64 bn, .string bz] 58
      have hbq := (Bl.refl V).alloc (.cells #[.string qk, .int .i64 bk, .float .f64 bx, .int .i64 bn, .string bz] 58)
      rw [hsz] at hgq
      have hgp2 := hgp.keep hbq
      have HB2 := Lib.hid (HBL.out.trans (hbp.trans hbq))
      go_upto_region 7 with fail
      clear c0 c1 c2 c3 c4 hgp hbp hbq hsz
      generalize V.alloc _ = V2 at *
      generalize wr.heap.size = gp at *
      have x0 := hgp2.cell 0 _ rfl
      have x1 := hgp2.cell 1 _ rfl
      have x2 := hgp2.cell 2 _ rfl
      have x3 := hgp2.cell 3 _ rfl
      have x4 := hgp2.cell 4 _ rfl
      have y0 := hgq.cell 0 _ rfl
      have y1 := hgq.cell 1 _ rfl
      have y2 := hgq.cell 2 _ rfl
      have y3 := hgq.cell 3 _ rfl
      have y4 := hgq.cell 4 _ rfl
      clear hgp2 hgq HD
      obtain ⟨r, hr⟩ : ∃ r, (decide (pk = qk) && sameA ⟨ak, ax, an, az⟩ ⟨bk, bx, bn, bz⟩) = r := ⟨_, rfl⟩
      rw [hr] at HS
      have HR := Lib.hid hr
      clear hr
      go_wp2_with fail
      refine (HS.out _).mono ?_
      rintro e w1 ⟨rfl, hb1⟩
      have HB3 := Lib.hid (HB2.out.trans hb1)
      clear x0 x1 x2 x3 x4 y0 y1 y2 y3 y4 hb1 HB2
      cases r
      · have HF := Lib.hid (HNO.out (fun h => by
          have := HR.out
          rw [decide_eq_true h.1, h.2] at this
          cases this))
        go_wp2_with fail
        go_ret
        exact ⟨ret_bool HF.out.symm, HB3.out⟩
      · have HF : Hid (∀ j, j < k + 1 → (nthW xs j).1 = (nthW ys j).1 ∧ sameA (nthW xs j).2 (nthW ys j).2 = true) := Lib.hid (by
          have := HR.out
          rw [Bool.and_eq_true, decide_eq_true_eq] at this
          exact HYES.out this.1 this.2)
        go_wp2_with fail
        go_roundw
        case rel => exact ⟨k + 1, by omega, by go_num, HB3.out, HF.out⟩
        case measure => simp [intOf]; omega
    · obtain rfl : k = n := by omega
      have HF : Hid (sameWs xs ys = true) := Lib.hid (sameWs_iff.2 ⟨by rw [HL.out, HM.out], fun i hi => HOK.out i (by rw [HL.out] at hi; exact hi)⟩)
      go_wp2_with fail
      go_ret
      exact ⟨ret_bool HF.out.symm, HBL.out⟩
theorem sameT_parts2 {a b : TxnL} (h : sameT a b = true) : a.o = b.o ∧ a.num = b.num ∧ a.prev = b.prev ∧ a.deps = b.deps ∧ a.at_ = b.at_ ∧ sameWs a.ws b.ws = true := by
  unfold sameT at h
  rw [Bool.and_eq_true, Bool.and_eq_true, Bool.and_eq_true, decide_eq_true_eq, decide_eq_true_eq, decide_eq_true_eq] at h
  exact ⟨h.1.1, h.1.2.1, h.1.2.2, h.2.1, h.2.2.1, h.2.2.2⟩
set_option maxHeartbeats 6400000 in
set_option maxRecDepth 100000 in
theorem txSame_any (t r : TxnL) (s u : TxAt) (w : World) (ht : TX w s t) (hr : TX w u r) :
    Calls Tryz.prog 23 #[txV t s, txV r u] w fun e w' => e = .returned (.bool (sameT t r)) ∧ Bl w w' := by
  have HN : Hid (¬ (t.o = r.o ∧ t.num = r.num ∧ t.prev = r.prev ∧ t.deps = r.deps ∧ t.at_ = r.at_ ∧ sameWs t.ws r.ws = true) → sameT t r = false) := Lib.hid (fun h => by
    cases h2 : sameT t r
    · rfl
    · exact absurd (sameT_parts2 h2) h)
  have HY : Hid (t.o = r.o → t.num = r.num → t.prev = r.prev → t.deps = r.deps → t.at_ = r.at_ → sameT t r = sameWs t.ws r.ws) := Lib.hid (fun h1 h2 h3 h4 h5 => by
    unfold sameT; rw [h1, h2, h3, h4, h5]; simp)
  have HT := Lib.hid ht
  have HR := Lib.hid hr
  have hg := AC.new w _ rfl (txCs t s) 62
  have hb := (Bl.refl w).alloc (.cells (txCs t s).toArray 62)
  have hsz : (w.alloc (.cells (txCs t s).toArray 62)).heap.size = w.heap.size + 1 := by simp
  unfold txV
  clear ht hr
  obtain ⟨o, num, prev, ds, xs, ws⟩ := t
  obtain ⟨o', num', prev', ds', xs', ws'⟩ := r
  obtain ⟨da, dn, dc, aa, an, ac, wa, wn, wc⟩ := s
  obtain ⟨da', dn', dc', aa', an', ac', wa', wn', wc'⟩ := u
  unfold txCs at hg hb hsz
  dsimp only at HN HY hg hb hsz ⊢
  go_enter Tryz.func23, Tryz.ntmps23
  go_upto_region 1 with fail
  generalize w.alloc _ = W1 at *
  have hg2 := AC.new W1 _ rfl [.int .i64 o', .int .i64 num', .int .i64 prev', .slice da' dn' dc', .slice aa' an' ac', .slice wa' wn' wc'] 62
  have hbb := (Bl.refl W1).alloc (.cells [Value.int .i64 o', .int .i64 num', .int .i64 prev', .slice da' dn' dc', .slice aa' an' ac', .slice wa' wn' wc'].toArray 62)
  rw [hsz] at hg2
  have hg1 := hg.keep hbb
  have hb1 := hb.trans hbb
  clear hg hb hbb hsz
  generalize W1.alloc _ = W at *
  generalize w.heap.size = g1 at *
  have HG1 := Lib.hid hg1
  have HG2 := Lib.hid hg2
  have HB := Lib.hid hb1
  have c0 := hg1.cell 0 _ rfl
  have c1 := hg1.cell 1 _ rfl
  have c2 := hg1.cell 2 _ rfl
  have c3 := hg1.cell 3 _ rfl
  have c4 := hg1.cell 4 _ rfl
  have c5 := hg1.cell 5 _ rfl
  have e0 := hg2.cell 0 _ rfl
  have e1 := hg2.cell 1 _ rfl
  have e2 := hg2.cell 2 _ rfl
  have e3 := hg2.cell 3 _ rfl
  have e4 := hg2.cell 4 _ rfl
  have e5 := hg2.cell 5 _ rfl
  clear hg1 hg2 hb1
  by_cases h1 : o = o'
  case neg =>
    have q1 : (o == o') = false := by rw [beq_eq_false_iff_ne]; exact h1
    have HF := Lib.hid (HN.out (fun h => h1 h.1))
    clear h1
    go_wp2_with fail
    go_ret
    exact ⟨ret_bool HF.out.symm, HB.out⟩
  have q1 : (o == o') = true := by rw [beq_iff_eq]; exact h1
  by_cases h2 : num = num'
  case neg =>
    have q2 : (num == num') = false := by rw [beq_eq_false_iff_ne]; exact h2
    have HF := Lib.hid (HN.out (fun h => h2 h.2.1))
    clear h1 h2
    go_wp2_with fail
    go_ret
    exact ⟨ret_bool HF.out.symm, HB.out⟩
  have q2 : (num == num') = true := by rw [beq_iff_eq]; exact h2
  by_cases h3 : prev = prev'
  case neg =>
    have q3 : (prev == prev') = false := by rw [beq_eq_false_iff_ne]; exact h3
    have HF := Lib.hid (HN.out (fun h => h3 h.2.2.1))
    clear h1 h2 h3
    go_wp2_with fail
    go_ret
    exact ⟨ret_bool HF.out.symm, HB.out⟩
  have q3 : (prev == prev') = true := by rw [beq_iff_eq]; exact h3
  have HE := Lib.hid (And.intro h1 (And.intro h2 h3))
  clear h1 h2 h3
  go_wp2_with fail
  refine (same_any _ _ _ _ _ _ ds ds' _ (HT.out.deps.keep HB.out) (HR.out.deps.keep HB.out)).mono ?_
  rintro e W2 ⟨rfl, hb2⟩
  have HB2 := Lib.hid (HB.out.trans hb2)
  replace c4 := hb2.cell c4
  replace c5 := hb2.cell c5
  replace e4 := hb2.cell e4
  replace e5 := hb2.cell e5
  clear hb2 c0 c1 c2 c3 e0 e1 e2 e3
  by_cases h4 : ds = ds'
  case neg =>
    have HF := Lib.hid (HN.out (fun h => h4 h.2.2.2.1))
    rw [decide_eq_false h4]
    clear h4
    go_wp2_with fail
    go_ret
    exact ⟨ret_bool HF.out.symm, HB2.out⟩
  have H4 := Lib.hid h4
  rw [decide_eq_true h4]
  clear h4
  go_wp2_with fail
  refine (same_any _ _ _ _ _ _ xs xs' _ (HT.out.at_.keep HB2.out) (HR.out.at_.keep HB2.out)).mono ?_
  rintro e W3 ⟨rfl, hb3⟩
  have HB3 := Lib.hid (HB2.out.trans hb3)
  replace c5 := hb3.cell c5
  replace e5 := hb3.cell e5
  clear hb3 c4 e4
  by_cases h5 : xs = xs'
  case neg =>
    have HF := Lib.hid (HN.out (fun h => h5 h.2.2.2.2.1))
    rw [decide_eq_false h5]
    clear h5
    go_wp2_with fail
    go_ret
    exact ⟨ret_bool HF.out.symm, HB3.out⟩
  have HF := Lib.hid (HY.out HE.out.1 HE.out.2.1 HE.out.2.2 H4.out h5)
  rw [decide_eq_true h5]
  clear h5
  go_wp2_with fail
  refine (equalW_any _ _ _ ws _ _ _ ws' _ (HT.out.ws.keep HB3.out) (HR.out.ws.keep HB3.out)).mono ?_
  rintro e W4 ⟨rfl, hb4⟩
  have HB4 := Lib.hid (HB3.out.trans hb4)
  clear hb4 c5 e5
  rw [← HF.out]
  go_wp2_with fail
  go_ret
  exact ⟨rfl, HB4.out⟩
end Go.Proofs.YtkpikmfijcffiaaGreat
end
