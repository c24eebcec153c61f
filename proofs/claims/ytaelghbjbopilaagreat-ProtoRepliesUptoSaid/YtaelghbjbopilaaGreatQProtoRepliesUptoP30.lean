import Derived.Test.YtaelghbjbopilaaGreatQProtoRepliesUptoP27
import Derived.Test.YtaelghbjbopilaaGreatQProtoRepliesUptoP22
import Derived.Test.YtaelghbjbopilaaGreatQProtoRepliesUptoP29
import Derived.Test.YtaelghbjbopilaaGreatQProtoRepliesUptoP20
import Derived.Test.YtaelghbjbopilaaGreatQProtoRepliesUptoP28
import Derived.Test.YtaelghbjbopilaaGreatQProtoRepliesUptoP1

/- proto.SameReply (printed by gen/reps.py). By an AI agent. -/
section
set_option linter.unusedVariables false
set_option linter.unusedSimpArgs false
namespace Go.Proofs.YtaelghbjbopilaaGreat
open Go.RowKit
attribute [local go_sem] eOp eOper eUpon

set_option maxHeartbeats 1600000 in
set_option maxRecDepth 100000 in
theorem samePair_any (p q : ByteArray × ValL) (w : World) (op : PaOk p) (oq : PaOk q) :
    Calls Tryz.prog 34 #[.agg #[.string p.1, .bool p.2.there, .float .f64 p.2.x, .int .i64 p.2.n, .string p.2.s], .agg #[.string q.1, .bool q.2.there, .float .f64 q.2.x, .int .i64 q.2.n, .string q.2.s]] w fun e w' => e = .returned (.bool (decide (p.1 = q.1) && sameV p.2 q.2)) ∧ Bl w w' := by
  obtain ⟨k1, ⟨t1, x1, m1, s1⟩⟩ := p
  obtain ⟨k2, ⟨t2, x2, m2, s2⟩⟩ := q
  have OP := Lib.hid op
  have OQ := Lib.hid oq
  dsimp only
  have hsf := store_float
  have G := AB.new w 52 52 [.string k1, .bool t1, .float .f64 x1, .int .i64 m1, .string s1] [.string k2, .bool t2, .float .f64 x2, .int .i64 m2, .string s2]
  have a0 := G.a.cell 0 _ rfl
  have a1 := G.a.cell 1 _ rfl
  have a2 := G.a.cell 2 _ rfl
  have a3 := G.a.cell 3 _ rfl
  have a4 := G.a.cell 4 _ rfl
  have b0 := G.b.cell 0 _ rfl
  have b1 := G.b.cell 1 _ rfl
  have b2 := G.b.cell 2 _ rfl
  have b3 := G.b.cell 3 _ rfl
  have b4 := G.b.cell 4 _ rfl
  clear op oq
  by_cases h : k1 = k2
  case neg =>
    have q1 : (k1.toList == k2.toList) = false := by rw [beq_keyP]; exact decide_eq_false h
    rw [decide_eq_false h]
    clear h
    go_enter Tryz.func34, Tryz.ntmps34
    go_wp2_with fail
    go_ret
    exact ⟨ret_bool (by simp), G.bl⟩
  have q1 : (k1.toList == k2.toList) = true := by rw [beq_keyP]; exact decide_eq_true h
  rw [decide_eq_true h]
  clear h
  go_enter Tryz.func34, Tryz.ntmps34
  go_wp2_with fail
  refine (same_agg t1 x1 m1 s1 t2 x2 m2 s2 _ _ (Lib.hid rfl) (Lib.hid OP.out.2) (Lib.hid OQ.out.2)).mono ?_
  rintro e W1 ⟨rfl, hb⟩
  cases hv : sameV ⟨t1, x1, m1, s1⟩ ⟨t2, x2, m2, s2⟩
  all_goals
    go_wp2_with fail
    go_ret
    exact ⟨ret_bool (by simp [hv]), G.bl.trans hb⟩
set_option maxHeartbeats 3200000 in
set_option maxRecDepth 100000 in
theorem eqPairs_any (a : Option Addr) (n ca : Nat) (xs : List (ByteArray × ValL)) (b : Option Addr) (m cb : Nat) (ys : List (ByteArray × ValL)) (w : World) (hx : PP w a n xs) (hy : PP w b m ys) :
    Calls Tryz.prog 33 #[.slice a n ca, .slice b m cb, .func (.func 34) #[] #[]] w fun e w' => e = .returned (.bool (samePs xs ys)) ∧ Bl w w' := by
  have hsf := store_float
  have hn := hx.cap
  have hm := hy.cap
  have HX := Lib.hid hx
  have HY := Lib.hid hy
  have HL := Lib.hid hx.len
  have HM := Lib.hid hy.len
  clear hx hy
  by_cases hnm : n = m
  case neg =>
    have q : ((n : Int) != (m : Int)) = true := by rw [bne_iff_ne]; omega
    have HF : Hid (samePs xs ys = false) := Lib.hid (by
      cases h : samePs xs ys
      · rfl
      · have := (samePs_iff.1 h).1; have := HL.out; have := HM.out; omega)
    clear hnm
    go_enter Tryz.func33, Tryz.ntmps33
    go_wp2_with fail
    go_ret
    exact ⟨ret_bool HF.out.symm, Bl.refl _⟩
  subst hnm
  have q : ((n : Int) != (n : Int)) = false := by simp
  go_enter Tryz.func33, Tryz.ntmps33
  go_wp2_with fail
  go_loopw [17] (fun i wr => ∃ k : Nat, k ≤ n ∧ i = .int .i64 k ∧ Bl w wr ∧ ∀ j, j < k → (nthQ xs j).1 = (nthQ ys j).1 ∧ sameV (nthQ xs j).2 (nthQ ys j).2 = true) (fun i _ => n - (intOf i).toNat)
  case atStart => exact ⟨0, Nat.zero_le _, rfl, Bl.refl _, fun j hj => absurd hj (Nat.not_lt_zero _)⟩
  case round =>
    obtain ⟨k, hk, rfl, hbl, hok⟩ := hrel
    have HBL := Lib.hid hbl
    have HOK := Lib.hid hok
    clear hbl hok
    by_cases hlt : k < n
    · have hkx : k < xs.length := by rw [HL.out]; exact hlt
      have hky : k < ys.length := by rw [HM.out]; exact hlt
      obtain ⟨ba, oa, rfl, _⟩ := HX.out.cells k hlt
      obtain ⟨bb, ob, rfl, _⟩ := HY.out.cells k hlt
      have HCX := Lib.hid (HX.out.get HBL.out hlt)
      have HCY := Lib.hid (HY.out.get HBL.out hlt)
      have HOX : Hid (PaOk (nthQ xs k)) := Lib.hid (HX.out.ok _ (nthQ_mem hkx))
      have HOY : Hid (PaOk (nthQ ys k)) := Lib.hid (HY.out.ok _ (nthQ_mem hky))
      have HNO : Hid (¬ ((nthQ xs k).1 = (nthQ ys k).1 ∧ sameV (nthQ xs k).2 (nthQ ys k).2 = true) → samePs xs ys = false) := Lib.hid (fun h => by
        cases h2 : samePs xs ys
        · rfl
        · exact absurd ((samePs_iff.1 h2).2 k hkx) h)
      have HYES : Hid ((nthQ xs k).1 = (nthQ ys k).1 ∧ sameV (nthQ xs k).2 (nthQ ys k).2 = true → ∀ j, j < k + 1 → (nthQ xs j).1 = (nthQ ys j).1 ∧ sameV (nthQ xs j).2 (nthQ ys j).2 = true) := Lib.hid (fun h j hj => by
        rcases Nat.lt_succ_iff_lt_or_eq.1 hj with h1 | rfl
        · exact HOK.out j h1
        · exact h)
      clear hkx hky
      generalize nthQ xs k = p at *
      generalize nthQ ys k = r at *
      obtain ⟨k1, ⟨t1, x1, m1, s1⟩⟩ := p
      obtain ⟨k2, ⟨t2, x2, m2, s2⟩⟩ := r
      have HA := Lib.hid (fun w => samePair_any (k1, ⟨t1, x1, m1, s1⟩) (k2, ⟨t2, x2, m2, s2⟩) w HOX.out HOY.out)
      dsimp only at HNO HYES HA
      have hbA := (Bl.refl wr).alloc (.cells #[.string k1, .bool t1, .float .f64 x1, .int .i64 m1, .string s1] 52)
      have G := AB.new wr 52 52 [.string k1, .bool t1, .float .f64 x1, .int .i64 m1, .string s1] [.string k2, .bool t2, .float .f64 x2, .int .i64 m2, .string s2]
      obtain ⟨x0, x1', x2', x3, x4⟩ := HCX.out
      obtain ⟨y0, y1, y2, y3, y4⟩ := HCY.out.keep hbA
      have a0 := G.a.cell 0 _ rfl
      have a1 := G.a.cell 1 _ rfl
      have a2 := G.a.cell 2 _ rfl
      have a3 := G.a.cell 3 _ rfl
      have a4 := G.a.cell 4 _ rfl
      have b0 := G.b.cell 0 _ rfl
      have b1 := G.b.cell 1 _ rfl
      have b2 := G.b.cell 2 _ rfl
      have b3 := G.b.cell 3 _ rfl
      have b4 := G.b.cell 4 _ rfl
      dsimp only at x0 x1' x2' x3 x4 y0 y1 y2 y3 y4
      have HG := Lib.hid G.bl
      clear hbA G
      go_wp2_with fail
      refine (HA.out _).mono ?_
      rintro e w5 ⟨rfl, hb5⟩
      have HBN := Lib.hid (HBL.out.trans (HG.out.trans hb5))
      clear x0 x1' x2' x3 x4 y0 y1 y2 y3 y4 a0 a1 a2 a3 a4 b0 b1 b2 b3 b4 hb5 HG
      cases hq : (decide (k1 = k2) && sameV ⟨t1, x1, m1, s1⟩ ⟨t2, x2, m2, s2⟩)
      · have HF := Lib.hid (HNO.out (fun h => by rw [decide_eq_true h.1, h.2] at hq; cases hq))
        clear hq
        go_wp2_with fail
        go_ret
        exact ⟨ret_bool HF.out.symm, HBN.out⟩
      · have HF := Lib.hid (HYES.out (by rw [Bool.and_eq_true, decide_eq_true_eq] at hq; exact hq))
        clear hq
        go_wp2_with fail
        go_roundw
        case rel => exact ⟨k + 1, by omega, by go_num, HBN.out, HF.out⟩
        case measure => simp [intOf]; omega
    · obtain rfl : k = n := by omega
      have HF : Hid (samePs xs ys = true) := Lib.hid (samePs_iff.2 ⟨by rw [HL.out, HM.out], fun i hi => HOK.out i (by rw [HL.out] at hi; exact hi)⟩)
      go_wp2_with fail
      go_ret
      exact ⟨ret_bool HF.out.symm, HBL.out⟩
set_option maxHeartbeats 3200000 in
set_option maxRecDepth 100000 in
theorem psameR_any (c1 n1 : Int) (ad1 : Option Addr) (an1 ac1 : Nat) (xs1 : List Int) (t1 : Bool) (x1 : Nat) (m1 : Int) (s1 : ByteArray) (pd1 : Option Addr) (pn1 pc1 : Nat) (ps1 : List (ByteArray × ValL)) (z1 : ByteArray) (c2 n2 : Int) (ad2 : Option Addr) (an2 ac2 : Nat) (xs2 : List Int) (t2 : Bool) (x2 : Nat) (m2 : Int) (s2 : ByteArray) (pd2 : Option Addr) (pn2 pc2 : Nat) (ps2 : List (ByteArray × ValL)) (z2 : ByteArray) (w : World) (hx1 : IA w ad1 an1 xs1) (hx2 : IA w ad2 an2 xs2) (hp1 : PP w pd1 pn1 ps1) (hp2 : PP w pd2 pn2 ps2) (ov1 : ValL.Ok ⟨t1, x1, m1, s1⟩) (ov2 : ValL.Ok ⟨t2, x2, m2, s2⟩) :
    Calls Tryz.prog 9 #[.agg #[.int .i64 c1, .int .i64 n1, .slice ad1 an1 ac1, .bool t1, .float .f64 x1, .int .i64 m1, .string s1, .slice pd1 pn1 pc1, .string z1], .agg #[.int .i64 c2, .int .i64 n2, .slice ad2 an2 ac2, .bool t2, .float .f64 x2, .int .i64 m2, .string s2, .slice pd2 pn2 pc2, .string z2]] w fun e w' => e = .returned (.bool (sameR ⟨c1, n1, xs1, ⟨t1, x1, m1, s1⟩, ps1, z1⟩ ⟨c2, n2, xs2, ⟨t2, x2, m2, s2⟩, ps2, z2⟩)) ∧ Bl w w' := by
  have hsf := store_float
  have G := AB.new w 30 30 (repCs c1 n1 ad1 an1 ac1 t1 x1 m1 s1 pd1 pn1 pc1 z1) (repCs c2 n2 ad2 an2 ac2 t2 x2 m2 s2 pd2 pn2 pc2 z2)
  unfold repCs at G
  have HX1 := Lib.hid hx1
  have HX2 := Lib.hid hx2
  have HP1 := Lib.hid hp1
  have HP2 := Lib.hid hp2
  have OV1 := Lib.hid ov1
  have OV2 := Lib.hid ov2
  have F1 : Hid (c1 ≠ c2 → sameR ⟨c1, n1, xs1, ⟨t1, x1, m1, s1⟩, ps1, z1⟩ ⟨c2, n2, xs2, ⟨t2, x2, m2, s2⟩, ps2, z2⟩ = false) := Lib.hid (fun h => by unfold sameR; simp [h])
  have F2 : Hid (n1 ≠ n2 → sameR ⟨c1, n1, xs1, ⟨t1, x1, m1, s1⟩, ps1, z1⟩ ⟨c2, n2, xs2, ⟨t2, x2, m2, s2⟩, ps2, z2⟩ = false) := Lib.hid (fun h => by unfold sameR; simp [h])
  have F3 : Hid (decide (xs1 = xs2) = false → sameR ⟨c1, n1, xs1, ⟨t1, x1, m1, s1⟩, ps1, z1⟩ ⟨c2, n2, xs2, ⟨t2, x2, m2, s2⟩, ps2, z2⟩ = false) := Lib.hid (fun h => by unfold sameR; simp only [h, Bool.false_and, Bool.and_false])
  have F4 : Hid (sameV ⟨t1, x1, m1, s1⟩ ⟨t2, x2, m2, s2⟩ = false → sameR ⟨c1, n1, xs1, ⟨t1, x1, m1, s1⟩, ps1, z1⟩ ⟨c2, n2, xs2, ⟨t2, x2, m2, s2⟩, ps2, z2⟩ = false) := Lib.hid (fun h => by unfold sameR; simp only [h, Bool.false_and, Bool.and_false])
  have F5 : Hid (samePs ps1 ps2 = false → sameR ⟨c1, n1, xs1, ⟨t1, x1, m1, s1⟩, ps1, z1⟩ ⟨c2, n2, xs2, ⟨t2, x2, m2, s2⟩, ps2, z2⟩ = false) := Lib.hid (fun h => by unfold sameR; simp only [h, Bool.false_and, Bool.and_false])
  have F6 : Hid (z1 ≠ z2 → sameR ⟨c1, n1, xs1, ⟨t1, x1, m1, s1⟩, ps1, z1⟩ ⟨c2, n2, xs2, ⟨t2, x2, m2, s2⟩, ps2, z2⟩ = false) := Lib.hid (fun h => by unfold sameR; simp [h])
  have F7 : Hid (c1 = c2 → n1 = n2 → decide (xs1 = xs2) = true → sameV ⟨t1, x1, m1, s1⟩ ⟨t2, x2, m2, s2⟩ = true → samePs ps1 ps2 = true → z1 = z2 → sameR ⟨c1, n1, xs1, ⟨t1, x1, m1, s1⟩, ps1, z1⟩ ⟨c2, n2, xs2, ⟨t2, x2, m2, s2⟩, ps2, z2⟩ = true) := Lib.hid (fun h1 h2 h3 h4 h5 h6 => by unfold sameR; simp only [h1, h2, h3, h4, h5, h6, decide_true, Bool.and_self])
  generalize sameR ⟨c1, n1, xs1, ⟨t1, x1, m1, s1⟩, ps1, z1⟩ ⟨c2, n2, xs2, ⟨t2, x2, m2, s2⟩, ps2, z2⟩ = R at *
  clear hx1 hx2 hp1 hp2 ov1 ov2
  obtain ⟨k0, k1, k2, k3, k4, k5, k6, k7, k8⟩ := AC.rep (code := c1) (num := n1) (ad := ad1) (n := an1) (ca := ac1) (t := t1) (x := x1) (m := m1) (s := s1) (pd := pd1) (pn := pn1) (pc := pc1) (text := z1) G.a
  obtain ⟨l0, l1, l2, l3, l4, l5, l6, l7, l8⟩ := AC.rep (code := c2) (num := n2) (ad := ad2) (n := an2) (ca := ac2) (t := t2) (x := x2) (m := m2) (s := s2) (pd := pd2) (pn := pn2) (pc := pc2) (text := z2) G.b
  by_cases h1 : c1 = c2
  case neg =>
    have q1 : (c1 == c2) = false := by rw [beq_eq_false_iff_ne]; exact h1
    have HR := Lib.hid (F1.out h1)
    clear h1
    go_enter Tryz.func9, Tryz.ntmps9
    go_wp2_with fail
    go_ret
    exact ⟨ret_bool HR.out.symm, G.bl⟩
  by_cases h2 : n1 = n2
  case neg =>
    have q1 : (c1 == c2) = true := by rw [beq_iff_eq]; exact h1
    have q2 : (n1 == n2) = false := by rw [beq_eq_false_iff_ne]; exact h2
    have HR := Lib.hid (F2.out h2)
    clear h2 h1
    go_enter Tryz.func9, Tryz.ntmps9
    go_wp2_with fail
    go_ret
    exact ⟨ret_bool HR.out.symm, G.bl⟩
  have HC := Lib.hid h1
  have HN := Lib.hid h2
  have q1 : (c1 == c2) = true := by rw [beq_iff_eq]; exact h1
  have q2 : (n1 == n2) = true := by rw [beq_iff_eq]; exact h2
  clear h1 h2
  have GH := Lib.hid G
  clear G
  go_enter Tryz.func9, Tryz.ntmps9
  go_wp2_with fail
  generalize (w.alloc _).alloc _ = W at *
  have gl : Hid (GH = GH) := Lib.hid rfl
  clear gl
  refine (same_any ad1 ad2 an1 an2 ac1 ac2 xs1 xs2 _ (HX1.out.keep GH.out.bl) (HX2.out.keep GH.out.bl)).mono ?_
  rintro e Wa ⟨rfl, hb⟩
  replace GH := Lib.hid (GH.out.keep hb)
  clear hb k0 k1 k2 k3 k4 k5 k6 k7 k8 l0 l1 l2 l3 l4 l5 l6 l7 l8
  obtain ⟨k0, k1, k2, k3, k4, k5, k6, k7, k8⟩ := AC.rep (code := c1) (num := n1) (ad := ad1) (n := an1) (ca := ac1) (t := t1) (x := x1) (m := m1) (s := s1) (pd := pd1) (pn := pn1) (pc := pc1) (text := z1) GH.out.a
  obtain ⟨l0, l1, l2, l3, l4, l5, l6, l7, l8⟩ := AC.rep (code := c2) (num := n2) (ad := ad2) (n := an2) (ca := ac2) (t := t2) (x := x2) (m := m2) (s := s2) (pd := pd2) (pn := pn2) (pc := pc2) (text := z2) GH.out.b
  cases hq : decide (xs1 = xs2)
  · have HR := Lib.hid (F3.out hq)
    clear hq
    go_wp2_with fail
    go_ret
    exact ⟨ret_bool HR.out.symm, GH.out.bl⟩
  have H_at := Lib.hid hq
  clear hq
  go_wp2_with fail
  refine (same_agg t1 x1 m1 s1 t2 x2 m2 s2 _ _ (Lib.hid rfl) OV1 OV2).mono ?_
  rintro e Wa ⟨rfl, hb⟩
  replace GH := Lib.hid (GH.out.keep hb)
  clear hb k0 k1 k2 k3 k4 k5 k6 k7 k8 l0 l1 l2 l3 l4 l5 l6 l7 l8
  obtain ⟨k0, k1, k2, k3, k4, k5, k6, k7, k8⟩ := AC.rep (code := c1) (num := n1) (ad := ad1) (n := an1) (ca := ac1) (t := t1) (x := x1) (m := m1) (s := s1) (pd := pd1) (pn := pn1) (pc := pc1) (text := z1) GH.out.a
  obtain ⟨l0, l1, l2, l3, l4, l5, l6, l7, l8⟩ := AC.rep (code := c2) (num := n2) (ad := ad2) (n := an2) (ca := ac2) (t := t2) (x := x2) (m := m2) (s := s2) (pd := pd2) (pn := pn2) (pc := pc2) (text := z2) GH.out.b
  cases hq : sameV ⟨t1, x1, m1, s1⟩ ⟨t2, x2, m2, s2⟩
  · have HR := Lib.hid (F4.out hq)
    clear hq
    go_wp2_with fail
    go_ret
    exact ⟨ret_bool HR.out.symm, GH.out.bl⟩
  have H_val := Lib.hid hq
  clear hq
  by_cases hz : z1 = z2
  case neg =>
    have q3 : (z1.toList == z2.toList) = false := by rw [beq_keyP]; exact decide_eq_false hz
    have HR := Lib.hid (F6.out hz)
    clear hz
    go_wp2_with fail
    go_ret
    exact ⟨ret_bool HR.out.symm, GH.out.bl⟩
  have q3 : (z1.toList == z2.toList) = true := by rw [beq_keyP]; exact decide_eq_true hz
  have H_text := Lib.hid hz
  clear hz
  go_wp2_with fail
  refine (eqPairs_any pd1 pn1 pc1 ps1 pd2 pn2 pc2 ps2 _ (HP1.out.keep GH.out.bl) (HP2.out.keep GH.out.bl)).mono ?_
  rintro e Wa ⟨rfl, hb⟩
  replace GH := Lib.hid (GH.out.keep hb)
  clear hb k0 k1 k2 k3 k4 k5 k6 k7 k8 l0 l1 l2 l3 l4 l5 l6 l7 l8
  obtain ⟨k0, k1, k2, k3, k4, k5, k6, k7, k8⟩ := AC.rep (code := c1) (num := n1) (ad := ad1) (n := an1) (ca := ac1) (t := t1) (x := x1) (m := m1) (s := s1) (pd := pd1) (pn := pn1) (pc := pc1) (text := z1) GH.out.a
  obtain ⟨l0, l1, l2, l3, l4, l5, l6, l7, l8⟩ := AC.rep (code := c2) (num := n2) (ad := ad2) (n := an2) (ca := ac2) (t := t2) (x := x2) (m := m2) (s := s2) (pd := pd2) (pn := pn2) (pc := pc2) (text := z2) GH.out.b
  cases hq : samePs ps1 ps2
  · have HR := Lib.hid (F5.out hq)
    clear hq
    go_wp2_with fail
    go_ret
    exact ⟨ret_bool HR.out.symm, GH.out.bl⟩
  have H_pairs := Lib.hid hq
  clear hq
  go_wp2_with fail
  go_ret
  exact ⟨ret_bool (F7.out HC.out HN.out H_at.out H_val.out H_pairs.out H_text.out).symm, GH.out.bl⟩
end Go.Proofs.YtaelghbjbopilaaGreat
end

/- bedrockbook.Book: what it does with kinds of which it keeps no list. By an AI agent. -/
section
namespace Go.Proofs.YtaelghbjbopilaaGreat
open Go.RowKit

theorem stillTexts_none (g : Nat) (w : World) (h : w.cell? ⟨g, 0, none⟩ = some (.slice none 0 0)) :
    Calls Tryz.prog 47 #[.pointer (some ⟨g, 0, none⟩)] w fun e w' => e = .returned (.bool true) ∧ w = w' := by
  go_enter Tryz.func47, Tryz.ntmps47
  go_wp2
  go_loop [3] (fun i => i = .int .i64 0) (fun _ => 0)
  case atStart => exact rfl
  case round =>
    subst hrel
    go_wp2
    go_ret
    exact ⟨rfl, rfl⟩
theorem putTexts_none (g : Nat) (w : World) (h : w.cell? ⟨g, 0, none⟩ = some (.slice none 0 0)) :
    Calls Tryz.prog 67 #[.pointer (some ⟨g, 0, none⟩)] w fun e w' => e = .returned (.tuple #[]) ∧ w = w' := by
  go_enter Tryz.func67, Tryz.ntmps67
  go_wp2
  go_loop [2] (fun i => i = .int .i64 0) (fun _ => 0)
  case atStart => exact rfl
  case round =>
    subst hrel
    go_wp2
    go_end0
    exact ⟨rfl, rfl⟩
theorem growTexts_none (g : Nat) (w : World) (h : w.cell? ⟨g, 0, none⟩ = some (.slice none 0 0)) :
    Calls Tryz.prog 77 #[.pointer (some ⟨g, 0, none⟩)] w fun e w' => e = .returned (.slice none 0 0) ∧ w = w' := by
  go_enter Tryz.func77, Tryz.ntmps77
  go_wp2
  go_loop [3, 4] (fun t i => t = .slice none 0 0 ∧ i = .int .i64 0) (fun _ _ => 0)
  case atStart => exact ⟨rfl, rfl⟩
  case round =>
    obtain ⟨rfl, rfl⟩ := hrel
    go_wp2
    go_ret
    exact ⟨rfl, rfl⟩
theorem markedTexts_none (w : World) :
    Calls Tryz.prog 92 #[.slice none 0 0] w fun e w' => e = .returned (.bool true) ∧ w = w' := by
  go_enter Tryz.func92, Tryz.ntmps92
  go_wp2
  go_loop [3] (fun i => i = .int .i64 0) (fun _ => 0)
  case atStart => exact rfl
  case round =>
    subst hrel
    go_wp2
    go_ret
    exact ⟨rfl, rfl⟩
theorem stillInts_none (g : Nat) (w : World) (h : w.cell? ⟨g, 2, none⟩ = some (.slice none 0 0)) :
    Calls Tryz.prog 48 #[.pointer (some ⟨g, 0, none⟩)] w fun e w' => e = .returned (.bool true) ∧ w = w' := by
  go_enter Tryz.func48, Tryz.ntmps48
  go_wp2
  go_loop [3] (fun i => i = .int .i64 0) (fun _ => 0)
  case atStart => exact rfl
  case round =>
    subst hrel
    go_wp2
    go_ret
    exact ⟨rfl, rfl⟩
theorem putInts_none (g : Nat) (w : World) (h : w.cell? ⟨g, 2, none⟩ = some (.slice none 0 0)) :
    Calls Tryz.prog 68 #[.pointer (some ⟨g, 0, none⟩)] w fun e w' => e = .returned (.tuple #[]) ∧ w = w' := by
  go_enter Tryz.func68, Tryz.ntmps68
  go_wp2
  go_loop [2] (fun i => i = .int .i64 0) (fun _ => 0)
  case atStart => exact rfl
  case round =>
    subst hrel
    go_wp2
    go_end0
    exact ⟨rfl, rfl⟩
theorem growInts_none (g : Nat) (w : World) (h : w.cell? ⟨g, 2, none⟩ = some (.slice none 0 0)) :
    Calls Tryz.prog 78 #[.pointer (some ⟨g, 0, none⟩)] w fun e w' => e = .returned (.slice none 0 0) ∧ w = w' := by
  go_enter Tryz.func78, Tryz.ntmps78
  go_wp2
  go_loop [3, 4] (fun t i => t = .slice none 0 0 ∧ i = .int .i64 0) (fun _ _ => 0)
  case atStart => exact ⟨rfl, rfl⟩
  case round =>
    obtain ⟨rfl, rfl⟩ := hrel
    go_wp2
    go_ret
    exact ⟨rfl, rfl⟩
theorem markedInts_none (w : World) :
    Calls Tryz.prog 93 #[.slice none 0 0] w fun e w' => e = .returned (.bool true) ∧ w = w' := by
  go_enter Tryz.func93, Tryz.ntmps93
  go_wp2
  go_loop [3] (fun i => i = .int .i64 0) (fun _ => 0)
  case atStart => exact rfl
  case round =>
    subst hrel
    go_wp2
    go_ret
    exact ⟨rfl, rfl⟩
theorem stillKeys_none (g : Nat) (w : World) (h : w.cell? ⟨g, 6, none⟩ = some (.slice none 0 0)) :
    Calls Tryz.prog 50 #[.pointer (some ⟨g, 0, none⟩)] w fun e w' => e = .returned (.bool true) ∧ w = w' := by
  go_enter Tryz.func50, Tryz.ntmps50
  go_wp2
  go_loop [3] (fun i => i = .int .i64 0) (fun _ => 0)
  case atStart => exact rfl
  case round =>
    subst hrel
    go_wp2
    go_ret
    exact ⟨rfl, rfl⟩
theorem putKeys_none (g : Nat) (w : World) (h : w.cell? ⟨g, 6, none⟩ = some (.slice none 0 0)) :
    Calls Tryz.prog 70 #[.pointer (some ⟨g, 0, none⟩)] w fun e w' => e = .returned (.tuple #[]) ∧ w = w' := by
  go_enter Tryz.func70, Tryz.ntmps70
  go_wp2
  go_loop [2] (fun i => i = .int .i64 0) (fun _ => 0)
  case atStart => exact rfl
  case round =>
    subst hrel
    go_wp2
    go_end0
    exact ⟨rfl, rfl⟩
theorem growKeys_none (g : Nat) (w : World) (h : w.cell? ⟨g, 6, none⟩ = some (.slice none 0 0)) :
    Calls Tryz.prog 80 #[.pointer (some ⟨g, 0, none⟩)] w fun e w' => e = .returned (.slice none 0 0) ∧ w = w' := by
  go_enter Tryz.func80, Tryz.ntmps80
  go_wp2
  go_loop [3, 4] (fun t i => t = .slice none 0 0 ∧ i = .int .i64 0) (fun _ _ => 0)
  case atStart => exact ⟨rfl, rfl⟩
  case round =>
    obtain ⟨rfl, rfl⟩ := hrel
    go_wp2
    go_ret
    exact ⟨rfl, rfl⟩
theorem markedKeys_none (w : World) :
    Calls Tryz.prog 95 #[.slice none 0 0] w fun e w' => e = .returned (.bool true) ∧ w = w' := by
  go_enter Tryz.func95, Tryz.ntmps95
  go_wp2
  go_loop [3] (fun i => i = .int .i64 0) (fun _ => 0)
  case atStart => exact rfl
  case round =>
    subst hrel
    go_wp2
    go_ret
    exact ⟨rfl, rfl⟩
theorem stillVersions_none (g : Nat) (w : World) (h : w.cell? ⟨g, 10, none⟩ = some (.slice none 0 0)) :
    Calls Tryz.prog 52 #[.pointer (some ⟨g, 0, none⟩)] w fun e w' => e = .returned (.bool true) ∧ w = w' := by
  go_enter Tryz.func52, Tryz.ntmps52
  go_wp2
  go_loop [3] (fun i => i = .int .i64 0) (fun _ => 0)
  case atStart => exact rfl
  case round =>
    subst hrel
    go_wp2
    go_ret
    exact ⟨rfl, rfl⟩
theorem putVersions_none (g : Nat) (w : World) (h : w.cell? ⟨g, 10, none⟩ = some (.slice none 0 0)) :
    Calls Tryz.prog 62 #[.pointer (some ⟨g, 0, none⟩)] w fun e w' => e = .returned (.tuple #[]) ∧ w = w' := by
  go_enter Tryz.func62, Tryz.ntmps62
  go_wp2
  go_loop [2] (fun i => i = .int .i64 0) (fun _ => 0)
  case atStart => exact rfl
  case round =>
    subst hrel
    go_wp2
    go_end0
    exact ⟨rfl, rfl⟩
theorem growVersions_none (g : Nat) (w : World) (h : w.cell? ⟨g, 10, none⟩ = some (.slice none 0 0)) :
    Calls Tryz.prog 82 #[.pointer (some ⟨g, 0, none⟩)] w fun e w' => e = .returned (.slice none 0 0) ∧ w = w' := by
  go_enter Tryz.func82, Tryz.ntmps82
  go_wp2
  go_loop [3, 4] (fun t i => t = .slice none 0 0 ∧ i = .int .i64 0) (fun _ _ => 0)
  case atStart => exact ⟨rfl, rfl⟩
  case round =>
    obtain ⟨rfl, rfl⟩ := hrel
    go_wp2
    go_ret
    exact ⟨rfl, rfl⟩
theorem markedVersions_none (w : World) :
    Calls Tryz.prog 97 #[.slice none 0 0] w fun e w' => e = .returned (.bool true) ∧ w = w' := by
  go_enter Tryz.func97, Tryz.ntmps97
  go_wp2
  go_loop [3] (fun i => i = .int .i64 0) (fun _ => 0)
  case atStart => exact rfl
  case round =>
    subst hrel
    go_wp2
    go_ret
    exact ⟨rfl, rfl⟩
theorem stillWrites_none (g : Nat) (w : World) (h : w.cell? ⟨g, 12, none⟩ = some (.slice none 0 0)) :
    Calls Tryz.prog 53 #[.pointer (some ⟨g, 0, none⟩)] w fun e w' => e = .returned (.bool true) ∧ w = w' := by
  go_enter Tryz.func53, Tryz.ntmps53
  go_wp2
  go_loop [3] (fun i => i = .int .i64 0) (fun _ => 0)
  case atStart => exact rfl
  case round =>
    subst hrel
    go_wp2
    go_ret
    exact ⟨rfl, rfl⟩
theorem putWrites_none (g : Nat) (w : World) (h : w.cell? ⟨g, 12, none⟩ = some (.slice none 0 0)) :
    Calls Tryz.prog 72 #[.pointer (some ⟨g, 0, none⟩)] w fun e w' => e = .returned (.tuple #[]) ∧ w = w' := by
  go_enter Tryz.func72, Tryz.ntmps72
  go_wp2
  go_loop [2] (fun i => i = .int .i64 0) (fun _ => 0)
  case atStart => exact rfl
  case round =>
    subst hrel
    go_wp2
    go_end0
    exact ⟨rfl, rfl⟩
theorem growWrites_none (g : Nat) (w : World) (h : w.cell? ⟨g, 12, none⟩ = some (.slice none 0 0)) :
    Calls Tryz.prog 83 #[.pointer (some ⟨g, 0, none⟩)] w fun e w' => e = .returned (.slice none 0 0) ∧ w = w' := by
  go_enter Tryz.func83, Tryz.ntmps83
  go_wp2
  go_loop [3, 4] (fun t i => t = .slice none 0 0 ∧ i = .int .i64 0) (fun _ _ => 0)
  case atStart => exact ⟨rfl, rfl⟩
  case round =>
    obtain ⟨rfl, rfl⟩ := hrel
    go_wp2
    go_ret
    exact ⟨rfl, rfl⟩
theorem markedWrites_none (w : World) :
    Calls Tryz.prog 98 #[.slice none 0 0] w fun e w' => e = .returned (.bool true) ∧ w = w' := by
  go_enter Tryz.func98, Tryz.ntmps98
  go_wp2
  go_loop [3] (fun i => i = .int .i64 0) (fun _ => 0)
  case atStart => exact rfl
  case round =>
    subst hrel
    go_wp2
    go_ret
    exact ⟨rfl, rfl⟩
theorem stillTxns_none (g : Nat) (w : World) (h : w.cell? ⟨g, 14, none⟩ = some (.slice none 0 0)) :
    Calls Tryz.prog 54 #[.pointer (some ⟨g, 0, none⟩)] w fun e w' => e = .returned (.bool true) ∧ w = w' := by
  go_enter Tryz.func54, Tryz.ntmps54
  go_wp2
  go_loop [3] (fun i => i = .int .i64 0) (fun _ => 0)
  case atStart => exact rfl
  case round =>
    subst hrel
    go_wp2
    go_ret
    exact ⟨rfl, rfl⟩
theorem putTxns_none (g : Nat) (w : World) (h : w.cell? ⟨g, 14, none⟩ = some (.slice none 0 0)) :
    Calls Tryz.prog 63 #[.pointer (some ⟨g, 0, none⟩)] w fun e w' => e = .returned (.tuple #[]) ∧ w = w' := by
  go_enter Tryz.func63, Tryz.ntmps63
  go_wp2
  go_loop [2] (fun i => i = .int .i64 0) (fun _ => 0)
  case atStart => exact rfl
  case round =>
    subst hrel
    go_wp2
    go_end0
    exact ⟨rfl, rfl⟩
theorem growTxns_none (g : Nat) (w : World) (h : w.cell? ⟨g, 14, none⟩ = some (.slice none 0 0)) :
    Calls Tryz.prog 84 #[.pointer (some ⟨g, 0, none⟩)] w fun e w' => e = .returned (.slice none 0 0) ∧ w = w' := by
  go_enter Tryz.func84, Tryz.ntmps84
  go_wp2
  go_loop [3, 4] (fun t i => t = .slice none 0 0 ∧ i = .int .i64 0) (fun _ _ => 0)
  case atStart => exact ⟨rfl, rfl⟩
  case round =>
    obtain ⟨rfl, rfl⟩ := hrel
    go_wp2
    go_ret
    exact ⟨rfl, rfl⟩
theorem markedTxns_none (w : World) :
    Calls Tryz.prog 99 #[.slice none 0 0] w fun e w' => e = .returned (.bool true) ∧ w = w' := by
  go_enter Tryz.func99, Tryz.ntmps99
  go_wp2
  go_loop [3] (fun i => i = .int .i64 0) (fun _ => 0)
  case atStart => exact rfl
  case round =>
    subst hrel
    go_wp2
    go_ret
    exact ⟨rfl, rfl⟩
theorem stillFiles_none (g : Nat) (w : World) (h : w.cell? ⟨g, 16, none⟩ = some (.slice none 0 0)) :
    Calls Tryz.prog 55 #[.pointer (some ⟨g, 0, none⟩)] w fun e w' => e = .returned (.bool true) ∧ w = w' := by
  go_enter Tryz.func55, Tryz.ntmps55
  go_wp2
  go_loop [3] (fun i => i = .int .i64 0) (fun _ => 0)
  case atStart => exact rfl
  case round =>
    subst hrel
    go_wp2
    go_ret
    exact ⟨rfl, rfl⟩
theorem putFiles_none (g : Nat) (w : World) (h : w.cell? ⟨g, 16, none⟩ = some (.slice none 0 0)) :
    Calls Tryz.prog 73 #[.pointer (some ⟨g, 0, none⟩)] w fun e w' => e = .returned (.tuple #[]) ∧ w = w' := by
  go_enter Tryz.func73, Tryz.ntmps73
  go_wp2
  go_loop [2] (fun i => i = .int .i64 0) (fun _ => 0)
  case atStart => exact rfl
  case round =>
    subst hrel
    go_wp2
    go_end0
    exact ⟨rfl, rfl⟩
theorem growFiles_none (g : Nat) (w : World) (h : w.cell? ⟨g, 16, none⟩ = some (.slice none 0 0)) :
    Calls Tryz.prog 85 #[.pointer (some ⟨g, 0, none⟩)] w fun e w' => e = .returned (.slice none 0 0) ∧ w = w' := by
  go_enter Tryz.func85, Tryz.ntmps85
  go_wp2
  go_loop [3, 4] (fun t i => t = .slice none 0 0 ∧ i = .int .i64 0) (fun _ _ => 0)
  case atStart => exact ⟨rfl, rfl⟩
  case round =>
    obtain ⟨rfl, rfl⟩ := hrel
    go_wp2
    go_ret
    exact ⟨rfl, rfl⟩
theorem markedFiles_none (w : World) :
    Calls Tryz.prog 100 #[.slice none 0 0] w fun e w' => e = .returned (.bool true) ∧ w = w' := by
  go_enter Tryz.func100, Tryz.ntmps100
  go_wp2
  go_loop [3] (fun i => i = .int .i64 0) (fun _ => 0)
  case atStart => exact rfl
  case round =>
    subst hrel
    go_wp2
    go_ret
    exact ⟨rfl, rfl⟩
theorem stillNotes_none (g : Nat) (w : World) (h : w.cell? ⟨g, 18, none⟩ = some (.slice none 0 0)) :
    Calls Tryz.prog 56 #[.pointer (some ⟨g, 0, none⟩)] w fun e w' => e = .returned (.bool true) ∧ w = w' := by
  go_enter Tryz.func56, Tryz.ntmps56
  go_wp2
  go_loop [3] (fun i => i = .int .i64 0) (fun _ => 0)
  case atStart => exact rfl
  case round =>
    subst hrel
    go_wp2
    go_ret
    exact ⟨rfl, rfl⟩
theorem putNotes_none (g : Nat) (w : World) (h : w.cell? ⟨g, 18, none⟩ = some (.slice none 0 0)) :
    Calls Tryz.prog 74 #[.pointer (some ⟨g, 0, none⟩)] w fun e w' => e = .returned (.tuple #[]) ∧ w = w' := by
  go_enter Tryz.func74, Tryz.ntmps74
  go_wp2
  go_loop [2] (fun i => i = .int .i64 0) (fun _ => 0)
  case atStart => exact rfl
  case round =>
    subst hrel
    go_wp2
    go_end0
    exact ⟨rfl, rfl⟩
theorem growNotes_none (g : Nat) (w : World) (h : w.cell? ⟨g, 18, none⟩ = some (.slice none 0 0)) :
    Calls Tryz.prog 86 #[.pointer (some ⟨g, 0, none⟩)] w fun e w' => e = .returned (.slice none 0 0) ∧ w = w' := by
  go_enter Tryz.func86, Tryz.ntmps86
  go_wp2
  go_loop [3, 4] (fun t i => t = .slice none 0 0 ∧ i = .int .i64 0) (fun _ _ => 0)
  case atStart => exact ⟨rfl, rfl⟩
  case round =>
    obtain ⟨rfl, rfl⟩ := hrel
    go_wp2
    go_ret
    exact ⟨rfl, rfl⟩
theorem markedNotes_none (w : World) :
    Calls Tryz.prog 101 #[.slice none 0 0] w fun e w' => e = .returned (.bool true) ∧ w = w' := by
  go_enter Tryz.func101, Tryz.ntmps101
  go_wp2
  go_loop [3] (fun i => i = .int .i64 0) (fun _ => 0)
  case atStart => exact rfl
  case round =>
    subst hrel
    go_wp2
    go_ret
    exact ⟨rfl, rfl⟩
theorem stillLeases_none (g : Nat) (w : World) (h : w.cell? ⟨g, 20, none⟩ = some (.slice none 0 0)) :
    Calls Tryz.prog 57 #[.pointer (some ⟨g, 0, none⟩)] w fun e w' => e = .returned (.bool true) ∧ w = w' := by
  go_enter Tryz.func57, Tryz.ntmps57
  go_wp2
  go_loop [3] (fun i => i = .int .i64 0) (fun _ => 0)
  case atStart => exact rfl
  case round =>
    subst hrel
    go_wp2
    go_ret
    exact ⟨rfl, rfl⟩
theorem putLeases_none (g : Nat) (w : World) (h : w.cell? ⟨g, 20, none⟩ = some (.slice none 0 0)) :
    Calls Tryz.prog 64 #[.pointer (some ⟨g, 0, none⟩)] w fun e w' => e = .returned (.tuple #[]) ∧ w = w' := by
  go_enter Tryz.func64, Tryz.ntmps64
  go_wp2
  go_loop [2] (fun i => i = .int .i64 0) (fun _ => 0)
  case atStart => exact rfl
  case round =>
    subst hrel
    go_wp2
    go_end0
    exact ⟨rfl, rfl⟩
theorem growLeases_none (g : Nat) (w : World) (h : w.cell? ⟨g, 20, none⟩ = some (.slice none 0 0)) :
    Calls Tryz.prog 87 #[.pointer (some ⟨g, 0, none⟩)] w fun e w' => e = .returned (.slice none 0 0) ∧ w = w' := by
  go_enter Tryz.func87, Tryz.ntmps87
  go_wp2
  go_loop [3, 4] (fun t i => t = .slice none 0 0 ∧ i = .int .i64 0) (fun _ _ => 0)
  case atStart => exact ⟨rfl, rfl⟩
  case round =>
    obtain ⟨rfl, rfl⟩ := hrel
    go_wp2
    go_ret
    exact ⟨rfl, rfl⟩
theorem markedLeases_none (w : World) :
    Calls Tryz.prog 102 #[.slice none 0 0] w fun e w' => e = .returned (.bool true) ∧ w = w' := by
  go_enter Tryz.func102, Tryz.ntmps102
  go_wp2
  go_loop [3] (fun i => i = .int .i64 0) (fun _ => 0)
  case atStart => exact rfl
  case round =>
    subst hrel
    go_wp2
    go_ret
    exact ⟨rfl, rfl⟩
theorem stillLetters_none (g : Nat) (w : World) (h : w.cell? ⟨g, 22, none⟩ = some (.slice none 0 0)) :
    Calls Tryz.prog 58 #[.pointer (some ⟨g, 0, none⟩)] w fun e w' => e = .returned (.bool true) ∧ w = w' := by
  go_enter Tryz.func58, Tryz.ntmps58
  go_wp2
  go_loop [3] (fun i => i = .int .i64 0) (fun _ => 0)
  case atStart => exact rfl
  case round =>
    subst hrel
    go_wp2
    go_ret
    exact ⟨rfl, rfl⟩
theorem putLetters_none (g : Nat) (w : World) (h : w.cell? ⟨g, 22, none⟩ = some (.slice none 0 0)) :
    Calls Tryz.prog 75 #[.pointer (some ⟨g, 0, none⟩)] w fun e w' => e = .returned (.tuple #[]) ∧ w = w' := by
  go_enter Tryz.func75, Tryz.ntmps75
  go_wp2
  go_loop [2] (fun i => i = .int .i64 0) (fun _ => 0)
  case atStart => exact rfl
  case round =>
    subst hrel
    go_wp2
    go_end0
    exact ⟨rfl, rfl⟩
theorem growLetters_none (g : Nat) (w : World) (h : w.cell? ⟨g, 22, none⟩ = some (.slice none 0 0)) :
    Calls Tryz.prog 88 #[.pointer (some ⟨g, 0, none⟩)] w fun e w' => e = .returned (.slice none 0 0) ∧ w = w' := by
  go_enter Tryz.func88, Tryz.ntmps88
  go_wp2
  go_loop [3, 4] (fun t i => t = .slice none 0 0 ∧ i = .int .i64 0) (fun _ _ => 0)
  case atStart => exact ⟨rfl, rfl⟩
  case round =>
    obtain ⟨rfl, rfl⟩ := hrel
    go_wp2
    go_ret
    exact ⟨rfl, rfl⟩
theorem markedLetters_none (w : World) :
    Calls Tryz.prog 103 #[.slice none 0 0] w fun e w' => e = .returned (.bool true) ∧ w = w' := by
  go_enter Tryz.func103, Tryz.ntmps103
  go_wp2
  go_loop [3] (fun i => i = .int .i64 0) (fun _ => 0)
  case atStart => exact rfl
  case round =>
    subst hrel
    go_wp2
    go_ret
    exact ⟨rfl, rfl⟩
theorem stillSteps_none (g : Nat) (w : World) (h : w.cell? ⟨g, 24, none⟩ = some (.slice none 0 0)) :
    Calls Tryz.prog 59 #[.pointer (some ⟨g, 0, none⟩)] w fun e w' => e = .returned (.bool true) ∧ w = w' := by
  go_enter Tryz.func59, Tryz.ntmps59
  go_wp2
  go_loop [3] (fun i => i = .int .i64 0) (fun _ => 0)
  case atStart => exact rfl
  case round =>
    subst hrel
    go_wp2
    go_ret
    exact ⟨rfl, rfl⟩
theorem putSteps_none (g : Nat) (w : World) (h : w.cell? ⟨g, 24, none⟩ = some (.slice none 0 0)) :
    Calls Tryz.prog 65 #[.pointer (some ⟨g, 0, none⟩)] w fun e w' => e = .returned (.tuple #[]) ∧ w = w' := by
  go_enter Tryz.func65, Tryz.ntmps65
  go_wp2
  go_loop [2] (fun i => i = .int .i64 0) (fun _ => 0)
  case atStart => exact rfl
  case round =>
    subst hrel
    go_wp2
    go_end0
    exact ⟨rfl, rfl⟩
theorem growSteps_none (g : Nat) (w : World) (h : w.cell? ⟨g, 24, none⟩ = some (.slice none 0 0)) :
    Calls Tryz.prog 89 #[.pointer (some ⟨g, 0, none⟩)] w fun e w' => e = .returned (.slice none 0 0) ∧ w = w' := by
  go_enter Tryz.func89, Tryz.ntmps89
  go_wp2
  go_loop [3, 4] (fun t i => t = .slice none 0 0 ∧ i = .int .i64 0) (fun _ _ => 0)
  case atStart => exact ⟨rfl, rfl⟩
  case round =>
    obtain ⟨rfl, rfl⟩ := hrel
    go_wp2
    go_ret
    exact ⟨rfl, rfl⟩
theorem markedSteps_none (w : World) :
    Calls Tryz.prog 104 #[.slice none 0 0] w fun e w' => e = .returned (.bool true) ∧ w = w' := by
  go_enter Tryz.func104, Tryz.ntmps104
  go_wp2
  go_loop [3] (fun i => i = .int .i64 0) (fun _ => 0)
  case atStart => exact rfl
  case round =>
    subst hrel
    go_wp2
    go_ret
    exact ⟨rfl, rfl⟩
theorem stillReals_none (g : Nat) (w : World) (h : w.cell? ⟨g, 26, none⟩ = some (.slice none 0 0)) :
    Calls Tryz.prog 60 #[.pointer (some ⟨g, 0, none⟩)] w fun e w' => e = .returned (.bool true) ∧ w = w' := by
  go_enter Tryz.func60, Tryz.ntmps60
  go_wp2
  go_loop [3] (fun i => i = .int .i64 0) (fun _ => 0)
  case atStart => exact rfl
  case round =>
    subst hrel
    go_wp2
    go_ret
    exact ⟨rfl, rfl⟩
theorem putReals_none (g : Nat) (w : World) (h : w.cell? ⟨g, 26, none⟩ = some (.slice none 0 0)) :
    Calls Tryz.prog 76 #[.pointer (some ⟨g, 0, none⟩)] w fun e w' => e = .returned (.tuple #[]) ∧ w = w' := by
  go_enter Tryz.func76, Tryz.ntmps76
  go_wp2
  go_loop [2] (fun i => i = .int .i64 0) (fun _ => 0)
  case atStart => exact rfl
  case round =>
    subst hrel
    go_wp2
    go_end0
    exact ⟨rfl, rfl⟩
theorem growReals_none (g : Nat) (w : World) (h : w.cell? ⟨g, 26, none⟩ = some (.slice none 0 0)) :
    Calls Tryz.prog 90 #[.pointer (some ⟨g, 0, none⟩)] w fun e w' => e = .returned (.slice none 0 0) ∧ w = w' := by
  go_enter Tryz.func90, Tryz.ntmps90
  go_wp2
  go_loop [3, 4] (fun t i => t = .slice none 0 0 ∧ i = .int .i64 0) (fun _ _ => 0)
  case atStart => exact ⟨rfl, rfl⟩
  case round =>
    obtain ⟨rfl, rfl⟩ := hrel
    go_wp2
    go_ret
    exact ⟨rfl, rfl⟩
theorem markedReals_none (w : World) :
    Calls Tryz.prog 105 #[.slice none 0 0] w fun e w' => e = .returned (.bool true) ∧ w = w' := by
  go_enter Tryz.func105, Tryz.ntmps105
  go_wp2
  go_loop [3] (fun i => i = .int .i64 0) (fun _ => 0)
  case atStart => exact rfl
  case round =>
    subst hrel
    go_wp2
    go_ret
    exact ⟨rfl, rfl⟩
theorem stillLists_none (g : Nat) (w : World) (h : w.cell? ⟨g, 28, none⟩ = some (.slice none 0 0)) :
    Calls Tryz.prog 61 #[.pointer (some ⟨g, 0, none⟩)] w fun e w' => e = .returned (.bool true) ∧ w = w' := by
  go_enter Tryz.func61, Tryz.ntmps61
  go_wp2
  go_loop [3] (fun i => i = .int .i64 0) (fun _ => 0)
  case atStart => exact rfl
  case round =>
    subst hrel
    go_wp2
    go_ret
    exact ⟨rfl, rfl⟩
theorem putLists_none (g : Nat) (w : World) (h : w.cell? ⟨g, 28, none⟩ = some (.slice none 0 0)) :
    Calls Tryz.prog 66 #[.pointer (some ⟨g, 0, none⟩)] w fun e w' => e = .returned (.tuple #[]) ∧ w = w' := by
  go_enter Tryz.func66, Tryz.ntmps66
  go_wp2
  go_loop [2] (fun i => i = .int .i64 0) (fun _ => 0)
  case atStart => exact rfl
  case round =>
    subst hrel
    go_wp2
    go_end0
    exact ⟨rfl, rfl⟩
theorem growLists_none (g : Nat) (w : World) (h : w.cell? ⟨g, 28, none⟩ = some (.slice none 0 0)) :
    Calls Tryz.prog 91 #[.pointer (some ⟨g, 0, none⟩)] w fun e w' => e = .returned (.slice none 0 0) ∧ w = w' := by
  go_enter Tryz.func91, Tryz.ntmps91
  go_wp2
  go_loop [3, 4] (fun t i => t = .slice none 0 0 ∧ i = .int .i64 0) (fun _ _ => 0)
  case atStart => exact ⟨rfl, rfl⟩
  case round =>
    obtain ⟨rfl, rfl⟩ := hrel
    go_wp2
    go_ret
    exact ⟨rfl, rfl⟩
theorem markedLists_none (w : World) :
    Calls Tryz.prog 106 #[.slice none 0 0] w fun e w' => e = .returned (.bool true) ∧ w = w' := by
  go_enter Tryz.func106, Tryz.ntmps106
  go_wp2
  go_loop [3] (fun i => i = .int .i64 0) (fun _ => 0)
  case atStart => exact rfl
  case round =>
    subst hrel
    go_wp2
    go_ret
    exact ⟨rfl, rfl⟩
end Go.Proofs.YtaelghbjbopilaaGreat
end
