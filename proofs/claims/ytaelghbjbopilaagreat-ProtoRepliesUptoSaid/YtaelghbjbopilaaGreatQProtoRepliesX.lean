import Derived.Test.YtaelghbjbopilaaGreatQProtoRepliesUptoP27
import Derived.Test.YtaelghbjbopilaaGreatQProtoRepliesUptoP28
import Derived.Test.YtaelghbjbopilaaGreatQProtoRepliesUptoP29
import Derived.Test.YtaelghbjbopilaaGreatQProtoRepliesUptoP30
import Derived.Test.YtaelghbjbopilaaGreatQProtoRepliesUptoP42
import Derived.Test.YtaelghbjbopilaaGreatQProtoRepliesUptoP37
import Derived.Test.YtaelghbjbopilaaGreatQProtoRepliesUptoP43
import Derived.Test.YtaelghbjbopilaaGreatQProtoRepliesUptoP45
import Derived.Test.YtaelghbjbopilaaGreatQProtoRepliesUptoP20

/- the walk of ProtoReplies (printed by gen/protoreplies.py). By an AI agent. -/
section
set_option linter.unusedVariables false
set_option linter.unusedSimpArgs false
namespace Go.Proofs.YtaelghbjbopilaaGreat
open Go.RowKit Go.Shelf
attribute [local go_sem] eOp eOper eUpon

theorem LV.setr {B : Nat} {W : World} {g n c : Nat} {xs : List Int} (h : LV B W g n c xs) {q : Nat} (hq : q < B) (j : Nat) (u : Value) : LV B (W.setCell ⟨q, j, none⟩ u) g n c xs := by
  refine ⟨?_, h.len, h.cap, h.wf⟩
  have ho := h.own
  unfold OI at ho ⊢
  obtain ⟨h1, h2 | ⟨g, cap, cur, hv, hB, hg, r⟩⟩ := ho
  · exact ⟨h1, .inl h2⟩
  · exact ⟨h1, .inr ⟨g, cap, cur, hv, hB, by rw [Below.heap_setCell _ _ _ _ (by show g ≠ q; omega)]; exact hg, r⟩⟩
theorem LV.lower {B B' : Nat} {W : World} {g n c : Nat} {xs : List Int} (h : LV B W g n c xs) (hb : B' ≤ B) : LV B' W g n c xs := ⟨own_mono' h.own hb, h.len, h.cap, h.wf⟩
theorem wpAnyE_viaR {P : Program} {ops : Array Oper} {md : Region.Mode} {C : World → Prop} {Q : Act → World → Prop} : ∀ {m : Nat} {listed : Array Bool} {a : Act} {w : World} (R : Act → Act → World → Prop), wpAnyE P md ops C (R a) m listed a w → (∀ a' w', R a a' w' → Q a' w') → wpAnyE P md ops C Q m listed a w := by
  intro m listed a w R h hq
  generalize R a = S at h hq
  clear R
  induction m generalizing listed a w with
  | zero => exact ⟨h.1, fun w' hb => hq _ _ (h.2 w' hb)⟩
  | succ m ih => exact ⟨fun h0 w' hb => hq _ _ (h.1 h0 w' hb), fun i hi w' hb => eOp_mono (fun a w hk => ⟨hk.1, ih hk.2⟩) (h.2 i hi w' hb)⟩
theorem canon_lt2 {x : Nat} (h : x < two64) : canon x < two64 := by
  unfold canon
  split
  · decide
  · exact h
/-- the round's state: the lent vector, the lent pairs, the box that holds them; w1 the world with the arguments' boxes, U the world at the pairs' making -/
structure RX (w1 wr W : World) (g7 : Nat) (cs : List Value) (B1 gx n cx : Nat) (xs : List Int) (B2 gp pn cp : Nat) (ps : List (ByteArray × ValL)) : Prop where
  bl : Bl wr W
  a : AC W g7 cs
  x : LV B1 W gx n cx xs
  p : LPr B2 W gp pn cp ps
theorem RX.keep {w1 wr W W' : World} {g7 : Nat} {cs : List Value} {B1 gx n cx : Nat} {xs : List Int} {B2 gp pn cp : Nat} {ps : List (ByteArray × ValL)} (h : RX w1 wr W g7 cs B1 gx n cx xs B2 gp pn cp ps) (k : Bl W W') : RX w1 wr W' g7 cs B1 gx n cx xs B2 gp pn cp ps := ⟨h.bl.trans k, h.a.keep k, h.x.keep k, h.p.keep k⟩
set_option maxHeartbeats 51200000 in
set_option maxRecDepth 100000 in
theorem protoReplies_gen (c1 n1 : Int) (ad1 : Option Addr) (an1 ac1 : Nat) (xs1 : List Int) (t1 : Bool) (x1 : Nat) (m1 : Int) (s1 : ByteArray) (pd1 : Option Addr) (pn1 pc1 : Nat) (ps1 : List (ByteArray × ValL)) (z1 : ByteArray) (c2 n2 : Int) (ad2 : Option Addr) (an2 ac2 : Nat) (xs2 : List Int) (t2 : Bool) (x2 : Nat) (m2 : Int) (s2 : ByteArray) (pd2 : Option Addr) (pn2 pc2 : Nat) (ps2 : List (ByteArray × ValL)) (z2 : ByteArray) (w : World) (r1 : RepA w ⟨c1, n1, xs1, ⟨t1, x1, m1, s1⟩, ps1, z1⟩ ad1 an1 pd1 pn1) (r2 : RepA w ⟨c2, n2, xs2, ⟨t2, x2, m2, s2⟩, ps2, z2⟩ ad2 an2 pd2 pn2) :
    Calls Tryz.prog 3 #[.agg #[.int .i64 c1, .int .i64 n1, .slice ad1 an1 ac1, .bool t1, .float .f64 x1, .int .i64 m1, .string s1, .slice pd1 pn1 pc1, .string z1], .agg #[.int .i64 c2, .int .i64 n2, .slice ad2 an2 ac2, .bool t2, .float .f64 x2, .int .i64 m2, .string s2, .slice pd2 pn2 pc2, .string z2]] w fun e w' => e = .returned (.bool true) ∧ Bl w w' := by
  have hsf := store_float
  have G := AB.new w 30 30 (repCs c1 n1 ad1 an1 ac1 t1 x1 m1 s1 pd1 pn1 pc1 z1) (repCs c2 n2 ad2 an2 ac2 t2 x2 m2 s2 pd2 pn2 pc2 z2)
  unfold repCs at G
  have HX1 := Lib.hid r1.x
  have HX2 := Lib.hid r2.x
  have HP1 := Lib.hid r1.p
  have HP2 := Lib.hid r2.p
  have OV1 := Lib.hid r1.v
  have OV2 := Lib.hid r2.v
  have hw1 := r1.w
  have hw2 := r2.w
  have hpn1 := r1.p.cap
  have hpn2 := r2.p.cap
  have hxn1 := r1.x.cap
  have hxn2 := r2.x.cap
  unfold weightR at hw1 hw2
  dsimp only at HX1 HX2 HP1 HP2 OV1 OV2 hw1 hw2
  have HWA := Lib.hid (fun w hp => weight_any c1 n1 ad1 an1 ac1 xs1 t1 x1 m1 s1 pd1 pn1 pc1 ps1 z1 w hp hw1)
  have HWB := Lib.hid (fun w hp => weight_any c2 n2 ad2 an2 ac2 xs2 t2 x2 m2 s2 pd2 pn2 pc2 ps2 z2 w hp hw2)
  obtain ⟨Q1, hQ1⟩ : ∃ Q, z1.size + s1.size + sumP ps1 ps1.length = Q := ⟨_, rfl⟩
  obtain ⟨Q2, hQ2⟩ : ∃ Q, z2.size + s2.size + sumP ps2 ps2.length = Q := ⟨_, rfl⟩
  rw [hQ1] at HWA hw1
  rw [hQ2] at HWB hw2
  have HQ1 := Lib.hid hQ1
  have HQ2 := Lib.hid hQ2
  clear hQ1 hQ2 r1 r2
  obtain ⟨k0, k1, k2, k3, k4, k5, k6, k7, k8⟩ := AC.rep (code := c1) (num := n1) (ad := ad1) (n := an1) (ca := ac1) (t := t1) (x := x1) (m := m1) (s := s1) (pd := pd1) (pn := pn1) (pc := pc1) (text := z1) G.a
  obtain ⟨l0, l1, l2, l3, l4, l5, l6, l7, l8⟩ := AC.rep (code := c2) (num := n2) (ad := ad2) (n := an2) (ca := ac2) (t := t2) (x := x2) (m := m2) (s := s2) (pd := pd2) (pn := pn2) (pc := pc2) (text := z2) G.b
  have GH := Lib.hid G
  clear G
  go_enter Tryz.func3, Tryz.ntmps3
  go_wp2_with fail
  generalize (w.alloc _).alloc _ = W at *
  refine (HWA.out _ (HP1.out.keep GH.out.bl)).mono ?_
  rintro e W1 ⟨rfl, hb⟩
  replace GH := Lib.hid (GH.out.keep hb)
  clear hb k0 k1 k2 k3 k4 k5 k6 k7 k8 l0 l1 l2 l3 l4 l5 l6 l7 l8
  obtain ⟨k0, k1, k2, k3, k4, k5, k6, k7, k8⟩ := AC.rep (code := c1) (num := n1) (ad := ad1) (n := an1) (ca := ac1) (t := t1) (x := x1) (m := m1) (s := s1) (pd := pd1) (pn := pn1) (pc := pc1) (text := z1) GH.out.a
  obtain ⟨l0, l1, l2, l3, l4, l5, l6, l7, l8⟩ := AC.rep (code := c2) (num := n2) (ad := ad2) (n := an2) (ca := ac2) (t := t2) (x := x2) (m := m2) (s := s2) (pd := pd2) (pn := pn2) (pc := pc2) (text := z2) GH.out.b
  by_cases j1 : 60000 < Q1
  · have d1 : decide ((60000 : Int) < (Q1 : Int)) = true := decide_eq_true (by omega)
    have d2 : decide (60000 < Q1) = true := decide_eq_true j1
    go_wp2_with fail
    refine (alive25_any _).mono ?_
    rintro e w2 ⟨rfl, hb2⟩
    go_wp2_with fail
    go_ret
    exact ⟨rfl, GH.out.bl.trans hb2⟩
  have d1 : decide ((60000 : Int) < (Q1 : Int)) = false := decide_eq_false (by omega)
  have d2 : decide (60000 < Q1) = false := decide_eq_false j1
  go_wp2_with fail
  refine (HWB.out _ (HP2.out.keep GH.out.bl)).mono ?_
  rintro e W1 ⟨rfl, hb⟩
  replace GH := Lib.hid (GH.out.keep hb)
  clear hb k0 k1 k2 k3 k4 k5 k6 k7 k8 l0 l1 l2 l3 l4 l5 l6 l7 l8
  obtain ⟨k0, k1, k2, k3, k4, k5, k6, k7, k8⟩ := AC.rep (code := c1) (num := n1) (ad := ad1) (n := an1) (ca := ac1) (t := t1) (x := x1) (m := m1) (s := s1) (pd := pd1) (pn := pn1) (pc := pc1) (text := z1) GH.out.a
  obtain ⟨l0, l1, l2, l3, l4, l5, l6, l7, l8⟩ := AC.rep (code := c2) (num := n2) (ad := ad2) (n := an2) (ca := ac2) (t := t2) (x := x2) (m := m2) (s := s2) (pd := pd2) (pn := pn2) (pc := pc2) (text := z2) GH.out.b
  by_cases i0 : 60000 < Q2
  · have f0 : decide ((60000 : Int) < (Q2 : Int)) = true := decide_eq_true (by omega)
    have g0 : decide (60000 < Q2) = true := decide_eq_true i0
    go_wp2_with fail
    refine (alive25_any _).mono ?_
    rintro e w2 ⟨rfl, hb2⟩
    go_wp2_with fail
    go_ret
    exact ⟨rfl, GH.out.bl.trans hb2⟩
  have f0 : decide ((60000 : Int) < (Q2 : Int)) = false := decide_eq_false (by omega)
  have g0 : decide (60000 < Q2) = false := decide_eq_false i0
  by_cases i1 : 400 < pn1
  · have f1 : decide ((400 : Int) < (pn1 : Int)) = true := decide_eq_true (by omega)
    have g1 : decide (400 < pn1) = true := decide_eq_true i1
    go_wp2_with fail
    refine (alive25_any _).mono ?_
    rintro e w2 ⟨rfl, hb2⟩
    go_wp2_with fail
    go_ret
    exact ⟨rfl, GH.out.bl.trans hb2⟩
  have f1 : decide ((400 : Int) < (pn1 : Int)) = false := decide_eq_false (by omega)
  have g1 : decide (400 < pn1) = false := decide_eq_false i1
  by_cases i2 : 400 < pn2
  · have f2 : decide ((400 : Int) < (pn2 : Int)) = true := decide_eq_true (by omega)
    have g2 : decide (400 < pn2) = true := decide_eq_true i2
    go_wp2_with fail
    refine (alive25_any _).mono ?_
    rintro e w2 ⟨rfl, hb2⟩
    go_wp2_with fail
    go_ret
    exact ⟨rfl, GH.out.bl.trans hb2⟩
  have f2 : decide ((400 : Int) < (pn2 : Int)) = false := decide_eq_false (by omega)
  have g2 : decide (400 < pn2) = false := decide_eq_false i2
  obtain ⟨S, hS⟩ : ∃ S : Nat, an1 + an2 = S := ⟨_, rfl⟩
  have wS : IntKind.i64.wrap ((an1 : Int) + (an2 : Int)) = (S : Int) := by rw [IntKind.wrap_i64]; omega
  by_cases i3 : 40 < S
  · have f3 : decide ((40 : Int) < (S : Int)) = true := decide_eq_true (by omega)
    have g3 : decide (40 < S) = true := decide_eq_true i3
    go_wp2_with fail
    refine (alive25_any _).mono ?_
    rintro e w2 ⟨rfl, hb2⟩
    go_wp2_with fail
    go_ret
    exact ⟨rfl, GH.out.bl.trans hb2⟩
  have f3 : decide ((40 : Int) < (S : Int)) = false := decide_eq_false (by omega)
  have g3 : decide (40 < S) = false := decide_eq_false i3
  have HB0 := Lib.hid (fun T => BQ.new (k := bkVP) (B := W1.heap.size) (T := fun b => b < W1.heap.size) (Nat.le_refl W1.heap.size) (AC.new W1 _ rfl (hsOf (fun _ => .slice none 0 0) (fun _ => .slice none 0 0)) T) (fun b hb => ⟨by simp; omega, by omega⟩))
  go_wp2_with fail
  clear k0 k1 k2 k3 k4 k5 k6 k7 k8 l0 l1 l2 l3 l4 l5 l6 l7 l8 d1 d2 f0 f1 f2 f3 g0 g1 g2 g3 wS
  have HN1 := Lib.hid (show an1 ≤ 40 by omega)
  have HPN := Lib.hid (show pn1 ≤ 400 by omega)
  have HQL := Lib.hid (show Q1 ≤ 60000 by omega)
  clear i0 i1 i2 i3 j1 hS
  have GA := Lib.hid GH.out.a
  have GB := Lib.hid GH.out.b
  have HW := Lib.hid GH.out.bl
  clear GH HWB HQ2 hw2
  generalize w.heap.size + 1 = ga2 at *
  generalize w.heap.size = ga1 at *
  have HRS : Hid (RepS ⟨c1, n1, xs1, ⟨t1, x1, m1, s1⟩, ps1, z1⟩) := Lib.hid ⟨OV1.out, by have := HQ1.out; have := HQL.out; show s1.size ≤ _; omega, by have := HQ1.out; have := HQL.out; show z1.size ≤ _; omega, by have := HP1.out.len; have := HPN.out; show ps1.length ≤ _; omega, fun p hp => by
    have h1 : pairW p ≤ sumP ps1 ps1.length := sumP_mem hp
    have h2 := HQ1.out
    have h3 := HQL.out
    unfold pairW at h1
    exact ⟨by omega, by omega, (HP1.out.ok p hp).2⟩⟩
  have HZS := Lib.hid (show z1.size + s1.size ≤ 60000 by have := HQ1.out; have := HQL.out; omega)
  have HRR := Lib.hid (fun w hx hp => rright_any c1 n1 ad1 an1 ac1 xs1 t1 x1 m1 s1 pd1 pn1 pc1 ps1 z1 w hx hp HRS.out.text HRS.out.vs HPN.out (Lib.hid fun p hp => ⟨(HRS.out.pairs p hp).1, (HRS.out.pairs p hp).2.1⟩))
  go_loopw [6] (fun kv wr => ∃ k : Nat, k ≤ 2 ∧ kv = .int .i64 k ∧ Bl W1 wr ∧ BQ bkVP W1.heap.size wr W1.heap.size (fun b => b < W1.heap.size)) (fun kv _ => 2 - (intOf kv).toNat)
  case atStart => exact ⟨0, by omega, rfl, (Bl.refl W1).alloc _, HB0.out _⟩
  case round =>
    obtain ⟨k, hk, rfl, hb, hbp⟩ := hrel
    have HBL := Lib.hid hb
    have HBP := Lib.hid hbp
    clear hb hbp HB0
    by_cases hlt : k < 2
    case neg =>
      go_wp2_with fail
      refine (alive25_any _).mono ?_
      rintro e w1 ⟨rfl, hb⟩
      have HB := Lib.hid (HBL.out.trans hb)
      have HP := Lib.hid (HBP.out.keep hb)
      clear hb HBL HBP
      go_wp2_with fail
      refine (bqVP_apart W1.heap.size W1.heap.size _ _ HB.out.size HP.out).mono ?_
      rintro e w2 ⟨rfl, hf⟩
      go_wp2_with fail
      go_ret
      exact ⟨rfl, HW.out.trans (HB.out.frV hf (fun b q => q.1))⟩
    have hca := GA.out.keep HBL.out
    obtain ⟨k0, k1, k2, k3, k4, k5, k6, k7, k8⟩ := AC.rep (code := c1) (num := n1) (ad := ad1) (n := an1) (ca := ac1) (t := t1) (x := x1) (m := m1) (s := s1) (pd := pd1) (pn := pn1) (pc := pc1) (text := z1) hca
    have G7 := Lib.hid (AC.new wr _ rfl (repCs c1 n1 ad1 an1 ac1 t1 x1 m1 s1 pd1 pn1 pc1 z1) 30)
    unfold repCs at G7
    have f2 := fun o => ((Bl.refl wr).alloc o).cell k2
    clear hca
    go_wp2_with fail
    refine (lentVec_any ad1 an1 ac1 xs1 _ (HX1.out.keep (HW.out.trans (HBL.out.trans ((Bl.refl wr).alloc _)))) (Nat.le_trans HN1.out (by decide))).mono ?_
    rintro e w2 ⟨gx, cx, rfl, lx, hb2⟩
    have hbW2 : Bl wr (w2.setCell ⟨wr.heap.size, 2, none⟩ (.slice (some ⟨gx, 0, none⟩) an1 cx)) := (((Bl.refl wr).alloc _).trans hb2).setCell (p := ⟨wr.heap.size, 2, none⟩) (Nat.le_refl _) _
    have gx7 : AC (w2.setCell ⟨wr.heap.size, 2, none⟩ (.slice (some ⟨gx, 0, none⟩) an1 cx)) wr.heap.size [.int .i64 c1, .int .i64 n1, .slice (some ⟨gx, 0, none⟩) an1 cx, .bool t1, .float .f64 x1, .int .i64 m1, .string s1, .slice pd1 pn1 pc1, .string z1] := AC.setj (G7.out.keep hb2) 2 _
    have LX := Lib.hid ((lx.setr (q := wr.heap.size) (by simp) 2 (.slice (some ⟨gx, 0, none⟩) an1 cx)).lower (show wr.heap.size + 1 ≤ _ by simp))
    have fr5 := (G7.out.keep hb2).frozen
    have cc5 := (G7.out.keep hb2).cell 2 _ rfl
    have H7 := Lib.hid gx7
    have HBW := Lib.hid hbW2
    clear f2 lx k0 k1 k2 k3 k4 k5 k6 k7 k8 gx7 hbW2 G7 hb2
    go_upto_region 9 with fail
    generalize w2.setCell _ _ = U at *
    have HG7 := Lib.hid H7.out.lt
    have HG71 := Lib.hid (show wr.heap.size ≤ wr.heap.size from Nat.le_refl _)
    generalize hg7 : wr.heap.size = g7 at *
    have HG7e := Lib.hid hg7
    clear hg7 fr5 cc5
    have GAU := Lib.hid (GA.out.keep (HBL.out.trans HBW.out))
    have HPU := Lib.hid (HP1.out.keep (HW.out.trans (HBL.out.trans HBW.out)))
    have HD := Lib.hid ((Bl.refl U).drew)
    refine wp_region_idx [0, 1, 3, 6, 7, 8] 6 (HasBox ga1 [.int .i64 c1, .int .i64 n1, .slice ad1 an1 ac1, .bool t1, .float .f64 x1, .int .i64 m1, .string s1, .slice pd1 pn1 pc1, .string z1]) HasBox.keep (GAU.out.keep HD.out) (by kernel_rfl) rfl (by kernel_rfl) (by kernel_rfl) ?_
    generalize hZ : U.drew = Z at *
    have HZS2 := Lib.hid (show U.heap.size ≤ Z.heap.size from HD.out.size)
    clear hZ
    haveI : Nonempty (ExtC (HasBox ga1 [.int .i64 c1, .int .i64 n1, .slice ad1 an1 ac1, .bool t1, .float .f64 x1, .int .i64 m1, .string s1, .slice pd1 pn1 pc1, .string z1])) := ⟨⟨Z, GAU.out.keep HD.out⟩⟩
    have e7 : ∀ q : ExtC (HasBox ga1 [.int .i64 c1, .int .i64 n1, .slice ad1 an1 ac1, .bool t1, .float .f64 x1, .int .i64 m1, .string s1, .slice pd1 pn1 pc1, .string z1]), _ := fun q => AC.cell (show AC q.at ga1 [.int .i64 c1, .int .i64 n1, .slice ad1 an1 ac1, .bool t1, .float .f64 x1, .int .i64 m1, .string s1, .slice pd1 pn1 pc1, .string z1] from q.ok) 7 _ rfl
    repeat (refine wpI_step rfl (fun K hK => ?_); go_simp; first | (refine hK _ ?_; clear hK K) | (apply Exists.intro; refine ⟨fun q => ?_, hK _ ?_⟩; (fail); clear hK K))
    refine wpI_nil ?_
    clear e7 this
    have HXA := Lib.hid HP1.out.ok
    have HLEN := Lib.hid HP1.out.len
    refine wpAnyE_viaR (fun a a' w' => ∃ (v1 : Value) (gl gp cp : Nat), a' = ((((a.put (some 57) v1).put (some 59) (.slice (some ⟨gl, 0, none⟩) 1 1)).put (some 60) (.slice (some ⟨gp, 0, none⟩) (pn1 + 1) cp)).put (some 64) (.slice (some ⟨gp, 0, none⟩) pn1 cp)).put (some 65) (.pointer (some ⟨g7, 7, none⟩)) ∧ RX W1 wr w' g7 [.int .i64 c1, .int .i64 n1, .slice (some ⟨gx, 0, none⟩) an1 cx, .bool t1, .float .f64 x1, .int .i64 m1, .string s1, .slice (some ⟨gp, 0, none⟩) pn1 cp, .string z1] (g7 + 1) gx an1 cx xs1 Z.heap.size gp pn1 cp ps1) ?h1 ?h2
    case h1 =>
      have hpl := HPN.out
      refine wpAnyE_all (rs := [2, 4]) (by kernel_rfl) (by decide) ?_
      intro i0 hi0 Y0 hy0
      simp only [List.mem_cons, List.not_mem_nil, or_false] at hi0
      rcases hi0 with rfl | rfl
      · refine eOp_appG rfl rfl _ _ 28 rfl el_pair Z.heap.size (.slice none 0 0) 0 [] rfl (World.ownsRow_nil _ _ _ _) hy0.size pd1 pn1 pc1 (cellsP ps1) rfl (PP.sg5 (HPU.out.keep (HD.out.trans hy0))) (by unfold maxLen; omega) (by omega) ?_
        intro v1 w1 ho hg
        have hb1 : Bl Z w1 := hy0.ownRow (World.ownsRow_nil Y0 Z.heap.size 52 5) (Nat.le_refl _) hg
        have ho1 : w1.ownsRow Z.heap.size 52 5 v1 pn1 (cellsP ps1) := by simpa using ho
        have HO0 := Lib.hid ho1
        have HB1 := Lib.hid hb1
        clear ho hg hy0 ho1 hb1
        refine ⟨GAU.out.keep (HD.out.trans HB1.out), ?_⟩
        simp only [Act.put, List.setIfInBounds_toArray, List.set_cons_zero, List.set_cons_succ]
        refine wpAnyE_one (i := 4) (by kernel_rfl) ?_
        intro Y1 hy1
        go_simp
        have HNEW := Lib.hid (heap_alloc_new Y1 (.cells #[.string markPr, .bool false, .float .f64 0, .int .i64 0, .string ⟨#[]⟩] 52))
        have HBZ := Lib.hid ((HB1.out.trans hy1).alloc (.cells #[.string markPr, .bool false, .float .f64 0, .int .i64 0, .string ⟨#[]⟩] 52))
        have HO := Lib.hid (ownsRow_bl HO0.out (hy1.alloc (.cells #[.string markPr, .bool false, .float .f64 0, .int .i64 0, .string ⟨#[]⟩] 52)))
        clear HO0 HB1 hy1
        unfold markPr at HNEW HBZ HO
        generalize Y1.alloc _ = Yt at *
        generalize Y1.heap.size = gl at *
        refine ⟨GAU.out.keep (HD.out.trans HBZ.out), ?_⟩
        refine wpAnyE_one (i := 5) (by kernel_rfl) ?_
        intro Y3 hy3
        refine eOp_appG rfl rfl _ _ 28 rfl el_pair Z.heap.size v1 pn1 (cellsP ps1) rfl (ownsRow_bl HO.out hy3) (HBZ.out.trans hy3).size (some ⟨gl, 0, none⟩) 1 1 [.string markPr, .bool false, .float .f64 0, .int .i64 0, .string ⟨#[]⟩] rfl (SG.lit (hy3.heap HNEW.out) rfl (by simp [Value.oneCell'])) (by unfold maxLen; omega) (by omega) ?_
        intro v2 w3 ho3 hg3
        have hb4 : Bl Z w3 := (HBZ.out.trans hy3).ownRow (ownsRow_bl HO.out hy3) (Nat.le_refl _) hg3
        obtain ⟨gp, cp, rfl⟩ : ∃ gp cp, v2 = .slice (some ⟨gp, 0, none⟩) (pn1 + 1) cp := by
          obtain ⟨_, ⟨_, e⟩ | ⟨g', cap, cur, e, _⟩⟩ := ho3
          · omega
          · exact ⟨g', cap, e⟩
        have HLP : Hid (LPr Z.heap.size w3 gp pn1 cp ps1) := Lib.hid ⟨by rw [cellsP_snoc]; exact ho3, HLEN.out, by omega, HXA.out⟩
        have hmc := HLP.out.mark.2
        have hmc2 : pn1 ≤ cp := by omega
        have HB4 := Lib.hid hb4
        clear ho3 hg3 hb4 hy3 HO HBZ HNEW
        refine ⟨GAU.out.keep (HD.out.trans HB4.out), ?_⟩
        simp only [Act.put, List.setIfInBounds_toArray, List.set_cons_zero, List.set_cons_succ]
        refine wpAnyE_one (i := 9) (by kernel_rfl) ?_
        intro Y5 hy5
        go_simp
        try rw [if_pos hmc2]
        try dsimp only
        have HB5 := Lib.hid (HB4.out.trans hy5)
        have HLP5 := Lib.hid (HLP.out.keep hy5)
        clear hy5 HB4 HLP
        refine ⟨GAU.out.keep (HD.out.trans HB5.out), ?_⟩
        refine wpAnyE_one (i := 10) (by kernel_rfl) ?_
        intro Y6 hy6
        go_simp
        have HB6 := Lib.hid (HB5.out.trans hy6)
        have HLP6 := Lib.hid (HLP5.out.keep hy6)
        clear hy6 HB5 HLP5
        refine ⟨GAU.out.keep (HD.out.trans HB6.out), ?_⟩
        refine wpAnyE_one (i := 11) (by kernel_rfl) ?_
        intro Y7 hy7
        have HB7 := Lib.hid (HB6.out.trans hy7)
        have HLP7 := Lib.hid (HLP6.out.keep hy7)
        have H77 := Lib.hid (H7.out.keep (HD.out.trans HB7.out))
        have fr7 := H77.out.frozen
        have cc7 := H77.out.cell 7 _ rfl
        clear hy7 HB6 HLP6
        go_simp
        clear fr7 cc7
        have hne : ga1 ≠ g7 := by have := GA.out.lt; have := HBL.out.size; have := HG7e.out; omega
        refine ⟨AC.other (GAU.out.keep (HD.out.trans HB7.out)) hne, ?_⟩
        refine wpAnyE_done (by kernel_rfl) ?_
        intro Y8 hy8
        refine ⟨v1, gl, gp, cp, rfl, ⟨?_, ?_, ?_, ?_⟩⟩
        · exact Bl.trans (show Bl wr _ from (HBW.out.trans (HD.out.trans HB7.out)).setCell (p := ⟨g7, 7, none⟩) (by have := HG7e.out; show wr.heap.size ≤ g7; omega) (.slice (some ⟨gp, 0, none⟩) pn1 cp)) hy8
        · exact (AC.setj H77.out 7 (.slice (some ⟨gp, 0, none⟩) pn1 cp)).keep hy8
        · exact ((LX.out.keep (HD.out.trans HB7.out)).setr (q := g7) (Nat.lt_succ_self _) 7 _).keep hy8
        · exact (HLP7.out.setq (q := g7) (by have := HG7.out; have := HZS2.out; omega) 7 _).keep hy8
      · go_simp
        have HNEW0 := Lib.hid (heap_alloc_new Y0 (.cells #[.string markPr, .bool false, .float .f64 0, .int .i64 0, .string ⟨#[]⟩] 52))
        have HB0' := Lib.hid (hy0.alloc (.cells #[.string markPr, .bool false, .float .f64 0, .int .i64 0, .string ⟨#[]⟩] 52))
        clear hy0
        unfold markPr at HNEW0 HB0'
        generalize Y0.alloc _ = Ya at *
        generalize Y0.heap.size = gl at *
        refine ⟨GAU.out.keep (HD.out.trans HB0'.out), ?_⟩
        refine wpAnyE_one (i := 2) (by kernel_rfl) ?_
        intro Y1 hy1
        refine eOp_appG rfl rfl _ _ 28 rfl el_pair Z.heap.size (.slice none 0 0) 0 [] rfl (World.ownsRow_nil _ _ _ _) (HB0'.out.trans hy1).size pd1 pn1 pc1 (cellsP ps1) rfl (PP.sg5 (HPU.out.keep (HD.out.trans (HB0'.out.trans hy1)))) (by unfold maxLen; omega) (by omega) ?_
        intro v1 Yt ho hg
        have hk1 : Bl Y1 Yt := (Bl.refl Y1).ownRow (World.ownsRow_nil Y1 Y1.heap.size 52 5) (Nat.le_refl _) hg
        have HBZ := Lib.hid ((HB0'.out.trans hy1).trans hk1)
        have HNEW := Lib.hid ((hy1.trans hk1).heap HNEW0.out)
        have HO : Hid (Yt.ownsRow Z.heap.size 52 5 v1 pn1 (cellsP ps1)) := Lib.hid (by simpa using ho)
        clear ho hg hk1 hy1 HNEW0 HB0'
        refine ⟨GAU.out.keep (HD.out.trans HBZ.out), ?_⟩
        simp only [Act.put, List.setIfInBounds_toArray, List.set_cons_zero, List.set_cons_succ]
        refine wpAnyE_one (i := 5) (by kernel_rfl) ?_
        intro Y3 hy3
        refine eOp_appG rfl rfl _ _ 28 rfl el_pair Z.heap.size v1 pn1 (cellsP ps1) rfl (ownsRow_bl HO.out hy3) (HBZ.out.trans hy3).size (some ⟨gl, 0, none⟩) 1 1 [.string markPr, .bool false, .float .f64 0, .int .i64 0, .string ⟨#[]⟩] rfl (SG.lit (hy3.heap HNEW.out) rfl (by simp [Value.oneCell'])) (by unfold maxLen; omega) (by omega) ?_
        intro v2 w3 ho3 hg3
        have hb4 : Bl Z w3 := (HBZ.out.trans hy3).ownRow (ownsRow_bl HO.out hy3) (Nat.le_refl _) hg3
        obtain ⟨gp, cp, rfl⟩ : ∃ gp cp, v2 = .slice (some ⟨gp, 0, none⟩) (pn1 + 1) cp := by
          obtain ⟨_, ⟨_, e⟩ | ⟨g', cap, cur, e, _⟩⟩ := ho3
          · omega
          · exact ⟨g', cap, e⟩
        have HLP : Hid (LPr Z.heap.size w3 gp pn1 cp ps1) := Lib.hid ⟨by rw [cellsP_snoc]; exact ho3, HLEN.out, by omega, HXA.out⟩
        have hmc := HLP.out.mark.2
        have hmc2 : pn1 ≤ cp := by omega
        have HB4 := Lib.hid hb4
        clear ho3 hg3 hb4 hy3 HO HBZ HNEW
        refine ⟨GAU.out.keep (HD.out.trans HB4.out), ?_⟩
        simp only [Act.put, List.setIfInBounds_toArray, List.set_cons_zero, List.set_cons_succ]
        refine wpAnyE_one (i := 9) (by kernel_rfl) ?_
        intro Y5 hy5
        go_simp
        try rw [if_pos hmc2]
        try dsimp only
        have HB5 := Lib.hid (HB4.out.trans hy5)
        have HLP5 := Lib.hid (HLP.out.keep hy5)
        clear hy5 HB4 HLP
        refine ⟨GAU.out.keep (HD.out.trans HB5.out), ?_⟩
        refine wpAnyE_one (i := 10) (by kernel_rfl) ?_
        intro Y6 hy6
        go_simp
        have HB6 := Lib.hid (HB5.out.trans hy6)
        have HLP6 := Lib.hid (HLP5.out.keep hy6)
        clear hy6 HB5 HLP5
        refine ⟨GAU.out.keep (HD.out.trans HB6.out), ?_⟩
        refine wpAnyE_one (i := 11) (by kernel_rfl) ?_
        intro Y7 hy7
        have HB7 := Lib.hid (HB6.out.trans hy7)
        have HLP7 := Lib.hid (HLP6.out.keep hy7)
        have H77 := Lib.hid (H7.out.keep (HD.out.trans HB7.out))
        have fr7 := H77.out.frozen
        have cc7 := H77.out.cell 7 _ rfl
        clear hy7 HB6 HLP6
        go_simp
        clear fr7 cc7
        have hne : ga1 ≠ g7 := by have := GA.out.lt; have := HBL.out.size; have := HG7e.out; omega
        refine ⟨AC.other (GAU.out.keep (HD.out.trans HB7.out)) hne, ?_⟩
        refine wpAnyE_done (by kernel_rfl) ?_
        intro Y8 hy8
        refine ⟨v1, gl, gp, cp, rfl, ⟨?_, ?_, ?_, ?_⟩⟩
        · exact Bl.trans (show Bl wr _ from (HBW.out.trans (HD.out.trans HB7.out)).setCell (p := ⟨g7, 7, none⟩) (by have := HG7e.out; show wr.heap.size ≤ g7; omega) (.slice (some ⟨gp, 0, none⟩) pn1 cp)) hy8
        · exact (AC.setj H77.out 7 (.slice (some ⟨gp, 0, none⟩) pn1 cp)).keep hy8
        · exact ((LX.out.keep (HD.out.trans HB7.out)).setr (q := g7) (Nat.lt_succ_self _) 7 _).keep hy8
        · exact (HLP7.out.setq (q := g7) (by have := HG7.out; have := HZS2.out; omega) 7 _).keep hy8
    case h2 =>
      rintro a' w9 ⟨v1, gl, gp, cp, rfl, hx⟩
      simp only [Act.put, List.setIfInBounds_toArray, List.set_cons_zero, List.set_cons_succ]
      have HX := Lib.hid hx
      clear hx HBW H7 LX HG71 HG7 GAU HPU HD HZS2
      have OKX := Lib.hid (show RepOk w9 ⟨c1, n1, xs1, ⟨t1, x1, m1, s1⟩, ps1, z1⟩ (some ⟨gx, 0, none⟩) an1 (some ⟨gp, 0, none⟩) pn1 from ⟨HX.out.x.ia, HX.out.p.pp.pa⟩)
      have hmk1 : (markPr.toList == [109, 97, 114, 107]) = true := markPr_eq
      obtain ⟨sr, hsr⟩ : ∃ sr, sameR ⟨c1, n1, xs1, ⟨t1, x1, m1, s1⟩, ps1, z1⟩ ⟨c2, n2, xs2, ⟨t2, x2, m2, s2⟩, ps2, z2⟩ = sr := ⟨_, rfl⟩
      have HSRP := Lib.hid (fun W hx1 hp1 hx2 hp2 => psameR_any c1 n1 (some ⟨gx, 0, none⟩) an1 cx xs1 t1 x1 m1 s1 (some ⟨gp, 0, none⟩) pn1 cp ps1 z1 c2 n2 ad2 an2 ac2 xs2 t2 x2 m2 s2 pd2 pn2 pc2 ps2 z2 W hx1 hx2 hp1 hp2 OV1.out OV2.out)
      have HSRR := Lib.hid (fun W hx1 hp1 hx2 hp2 => rsameR_any c1 n1 ad1 an1 ac1 xs1 t1 x1 m1 s1 pd1 pn1 pc1 ps1 z1 c2 n2 ad2 an2 ac2 xs2 t2 x2 m2 s2 pd2 pn2 pc2 ps2 z2 W hx1 hx2 hp1 hp2 OV1.out OV2.out)
      rw [hsr] at HSRP HSRR
      clear hsr
      have FX1 := Lib.hid (fun W (hb : Bl wr W) => HX1.out.keep (HW.out.trans (HBL.out.trans hb)))
      have FX2 := Lib.hid (fun W (hb : Bl wr W) => HX2.out.keep (HW.out.trans (HBL.out.trans hb)))
      have FP1 := Lib.hid (fun W (hb : Bl wr W) => HP1.out.keep (HW.out.trans (HBL.out.trans hb)))
      have FP2 := Lib.hid (fun W (hb : Bl wr W) => HP2.out.keep (HW.out.trans (HBL.out.trans hb)))
      cases hrn : rightN ⟨c1, n1, xs1, ⟨t1, x1, m1, s1⟩, ps1, z1⟩
      · as_aux_lemma =>
        have HRN := Lib.hid hrn
        have HPU := Lib.hid (putReply_no ⟨c1, n1, xs1, ⟨t1, x1, m1, s1⟩, ps1, z1⟩ (some ⟨gx, 0, none⟩) an1 cx (some ⟨gp, 0, none⟩) pn1 cp w9 (Lib.hid (fun W hb => pright_no ⟨c1, n1, xs1, ⟨t1, x1, m1, s1⟩, ps1, z1⟩ (some ⟨gx, 0, none⟩) an1 cx (some ⟨gp, 0, none⟩) pn1 cp W (OKX.out.keep hb) hrn)))
        clear hrn OKX
        obtain ⟨h0, h1, h2, h3, h4, h5, h6, h7, h8⟩ := AC.rep (code := c1) (num := n1) (ad := some ⟨gx, 0, none⟩) (n := an1) (ca := cx) (t := t1) (x := x1) (m := m1) (s := s1) (pd := some ⟨gp, 0, none⟩) (pn := pn1) (pc := cp) (text := z1) HX.out.a
        go_wp2_with fail
        refine HPU.out.mono ?_
        rintro e wA ⟨rfl, hb⟩
        clear h0 h1 h2 h3 h4 h5 h6 h7 h8 HPU
        replace HX := Lib.hid (HX.out.keep hb)
        clear hb
        obtain ⟨h0, h1, h2, h3, h4, h5, h6, h7, h8⟩ := AC.rep (code := c1) (num := n1) (ad := some ⟨gx, 0, none⟩) (n := an1) (ca := cx) (t := t1) (x := x1) (m := m1) (s := s1) (pd := some ⟨gp, 0, none⟩) (pn := pn1) (pc := cp) (text := z1) HX.out.a
        obtain ⟨k0, k1, k2, k3, k4, k5, k6, k7, k8⟩ := AC.rep (code := c1) (num := n1) (ad := ad1) (n := an1) (ca := ac1) (t := t1) (x := x1) (m := m1) (s := s1) (pd := pd1) (pn := pn1) (pc := pc1) (text := z1) (GA.out.keep (HBL.out.trans HX.out.bl))
        obtain ⟨l0, l1, l2, l3, l4, l5, l6, l7, l8⟩ := AC.rep (code := c2) (num := n2) (ad := ad2) (n := an2) (ca := ac2) (t := t2) (x := x2) (m := m2) (s := s2) (pd := pd2) (pn := pn2) (pc := pc2) (text := z2) (GB.out.keep (HBL.out.trans HX.out.bl))
        go_wp2_with fail
        refine (HRR.out _ (FX1.out _ HX.out.bl) (FP1.out _ HX.out.bl)).mono ?_
        rintro e wB ⟨rfl, hb⟩
        rw [HRN.out]
        clear h0 h1 h2 h3 h4 h5 h6 h7 h8 k0 k1 k2 k3 k4 k5 k6 k7 k8 l0 l1 l2 l3 l4 l5 l6 l7 l8
        replace HX := Lib.hid (HX.out.keep hb)
        clear hb
        have HXd := Lib.hid (HX.out.keep (Bl.refl wB).drew)
        have hmc2 := HX.out.p.mark.2
        obtain ⟨M, hM⟩ : ∃ M : Nat, pn1 + 1 = M := ⟨_, rfl⟩
        have wM : IntKind.i64.wrap ((pn1 : Int) + 1) = (M : Int) := by rw [IntKind.wrap_i64]; have := HPN.out; omega
        have hM1 : M ≤ cp := by omega
        have hM2 : pn1 < M := by omega
        have hM3 : (pn1 : Int) < (M : Int) := by omega
        clear hM hmc2
        go_upto_region 12 with fail
        refine wp_region_allS (by kernel_rfl) (by kernel_rfl) ?_
        have V1 := Lib.hid (fun q : Ext wB.drew => HSRP.out q.at (HXd.out.keep q.bl).x.ia (HXd.out.keep q.bl).p.pp (FX2.out _ (HXd.out.keep q.bl).bl) (FP2.out _ (HXd.out.keep q.bl).bl))
        have V2 := Lib.hid (fun q : Ext wB.drew => HSRR.out q.at (FX1.out _ (HXd.out.keep q.bl).bl) (FP1.out _ (HXd.out.keep q.bl).bl) (FX2.out _ (HXd.out.keep q.bl).bl) (FP2.out _ (HXd.out.keep q.bl).bl))
        have V3 := Lib.hid (fun q : Ext wB.drew => staysVec_any _ gx an1 cx ad1 an1 ac1 xs1 q.at (HXd.out.keep q.bl).x (FX1.out _ (HXd.out.keep q.bl).bl) (Nat.le_trans HN1.out (by decide)))
        have V4 := Lib.hid (fun q : Ext wB.drew => HWA.out q.at (FP1.out _ (HXd.out.keep q.bl).bl))
        have xm := fun q : Ext wB.drew => (HXd.out.keep q.bl).p.mark.1
        have h0 := fun q : Ext wB.drew => (HXd.out.keep q.bl).a.cell 0 _ rfl
        have h1 := fun q : Ext wB.drew => (HXd.out.keep q.bl).a.cell 1 _ rfl
        have h2 := fun q : Ext wB.drew => (HXd.out.keep q.bl).a.cell 2 _ rfl
        have h3 := fun q : Ext wB.drew => (HXd.out.keep q.bl).a.cell 3 _ rfl
        have h4 := fun q : Ext wB.drew => (HXd.out.keep q.bl).a.cell 4 _ rfl
        have h5 := fun q : Ext wB.drew => (HXd.out.keep q.bl).a.cell 5 _ rfl
        have h6 := fun q : Ext wB.drew => (HXd.out.keep q.bl).a.cell 6 _ rfl
        have h7 := fun q : Ext wB.drew => (HXd.out.keep q.bl).a.cell 7 _ rfl
        have h8 := fun q : Ext wB.drew => (HXd.out.keep q.bl).a.cell 8 _ rfl
        have k0 := fun q : Ext wB.drew => (GA.out.keep (HBL.out.trans (HXd.out.keep q.bl).bl)).cell 0 _ rfl
        have k1 := fun q : Ext wB.drew => (GA.out.keep (HBL.out.trans (HXd.out.keep q.bl).bl)).cell 1 _ rfl
        have k2 := fun q : Ext wB.drew => (GA.out.keep (HBL.out.trans (HXd.out.keep q.bl).bl)).cell 2 _ rfl
        have k3 := fun q : Ext wB.drew => (GA.out.keep (HBL.out.trans (HXd.out.keep q.bl).bl)).cell 3 _ rfl
        have k4 := fun q : Ext wB.drew => (GA.out.keep (HBL.out.trans (HXd.out.keep q.bl).bl)).cell 4 _ rfl
        have k5 := fun q : Ext wB.drew => (GA.out.keep (HBL.out.trans (HXd.out.keep q.bl).bl)).cell 5 _ rfl
        have k6 := fun q : Ext wB.drew => (GA.out.keep (HBL.out.trans (HXd.out.keep q.bl).bl)).cell 6 _ rfl
        have k7 := fun q : Ext wB.drew => (GA.out.keep (HBL.out.trans (HXd.out.keep q.bl).bl)).cell 7 _ rfl
        have k8 := fun q : Ext wB.drew => (GA.out.keep (HBL.out.trans (HXd.out.keep q.bl).bl)).cell 8 _ rfl
        have l0 := fun q : Ext wB.drew => (GB.out.keep (HBL.out.trans (HXd.out.keep q.bl).bl)).cell 0 _ rfl
        have l1 := fun q : Ext wB.drew => (GB.out.keep (HBL.out.trans (HXd.out.keep q.bl).bl)).cell 1 _ rfl
        have l2 := fun q : Ext wB.drew => (GB.out.keep (HBL.out.trans (HXd.out.keep q.bl).bl)).cell 2 _ rfl
        have l3 := fun q : Ext wB.drew => (GB.out.keep (HBL.out.trans (HXd.out.keep q.bl).bl)).cell 3 _ rfl
        have l4 := fun q : Ext wB.drew => (GB.out.keep (HBL.out.trans (HXd.out.keep q.bl).bl)).cell 4 _ rfl
        have l5 := fun q : Ext wB.drew => (GB.out.keep (HBL.out.trans (HXd.out.keep q.bl).bl)).cell 5 _ rfl
        have l6 := fun q : Ext wB.drew => (GB.out.keep (HBL.out.trans (HXd.out.keep q.bl).bl)).cell 6 _ rfl
        have l7 := fun q : Ext wB.drew => (GB.out.keep (HBL.out.trans (HXd.out.keep q.bl).bl)).cell 7 _ rfl
        have l8 := fun q : Ext wB.drew => (GB.out.keep (HBL.out.trans (HXd.out.keep q.bl).bl)).cell 8 _ rfl
        repeat (refine wpS_step (fun K hK => ?_); go_simp; first | (refine hK _ ?_; clear hK K) | (apply Exists.intro; refine ⟨fun q => ?_, hK _ ?_⟩; (first | with_reducible exact V1.out q | with_reducible exact V2.out q | with_reducible exact V3.out q | with_reducible exact V4.out q); clear hK K))
        refine wpS_nil ?_
        intro q1
        replace HX := Lib.hid (HXd.out.keep q1.bl)
        clear V1 V2 V3 V4 xm HXd h0 h1 h2 h3 h4 h5 h6 h7 h8 k0 k1 k2 k3 k4 k5 k6 k7 k8 l0 l1 l2 l3 l4 l5 l6 l7 l8 wM hM1 hM2 hM3
        generalize q1.at = X at *
        clear q1
        go_wp2_with fail
        go_roundw
        case rel => exact ⟨k + 1, by omega, by go_num, HBL.out.trans HX.out.bl, HBP.out.keep HX.out.bl⟩
        case measure => simp [intOf]; omega
      have HRN := Lib.hid hrn
      have HPU := Lib.hid (putReplyG_any ⟨c1, n1, xs1, ⟨t1, x1, m1, s1⟩, ps1, z1⟩ (some ⟨gx, 0, none⟩) an1 cx (some ⟨gp, 0, none⟩) pn1 cp w9 OKX.out HRS.out hrn HZS.out)
      by_cases hlen : (putReplyL ⟨c1, n1, xs1, ⟨t1, x1, m1, s1⟩, ps1, z1⟩).length ≤ 65536
      case neg =>
        have HLL : Hid (¬ (Q1 ≤ 40000 ∧ pn1 ≤ 300)) := Lib.hid (fun q => hlen (light_len hrn (by unfold weightR; dsimp only; have := HQ1.out; omega) (by have := HP1.out.len; show ps1.length ≤ 300; omega)))
        have e1 : prS ⟨c1, n1, xs1, ⟨t1, x1, m1, s1⟩, ps1, z1⟩ = ⟨#[]⟩ := if_neg hlen
        have e2 : prC ⟨c1, n1, xs1, ⟨t1, x1, m1, s1⟩, ps1, z1⟩ = 2 := if_neg hlen
        rw [e1, e2] at HPU
        clear hrn hlen e1 e2 OKX
        obtain ⟨h0, h1, h2, h3, h4, h5, h6, h7, h8⟩ := AC.rep (code := c1) (num := n1) (ad := some ⟨gx, 0, none⟩) (n := an1) (ca := cx) (t := t1) (x := x1) (m := m1) (s := s1) (pd := some ⟨gp, 0, none⟩) (pn := pn1) (pc := cp) (text := z1) HX.out.a
        go_wp2_with fail
        refine HPU.out.mono ?_
        rintro e wA ⟨rfl, hb⟩
        clear h0 h1 h2 h3 h4 h5 h6 h7 h8 HPU
        replace HX := Lib.hid (HX.out.keep hb)
        clear hb
        by_cases hq4 : Q1 ≤ 40000
        · as_aux_lemma =>
          have hq3 : ¬ pn1 ≤ 300 := fun q => HLL.out ⟨hq4, q⟩
          have y1 : decide ((Q1 : Int) ≤ 40000) = true := decide_eq_true (by omega)
          have y2 : decide (Q1 ≤ 40000) = true := decide_eq_true hq4
          have y3 : decide ((pn1 : Int) ≤ 300) = false := decide_eq_false (by omega)
          have y4 : decide (pn1 ≤ 300) = false := decide_eq_false hq3
          obtain ⟨h0, h1, h2, h3, h4, h5, h6, h7, h8⟩ := AC.rep (code := c1) (num := n1) (ad := some ⟨gx, 0, none⟩) (n := an1) (ca := cx) (t := t1) (x := x1) (m := m1) (s := s1) (pd := some ⟨gp, 0, none⟩) (pn := pn1) (pc := cp) (text := z1) HX.out.a
          obtain ⟨k0, k1, k2, k3, k4, k5, k6, k7, k8⟩ := AC.rep (code := c1) (num := n1) (ad := ad1) (n := an1) (ca := ac1) (t := t1) (x := x1) (m := m1) (s := s1) (pd := pd1) (pn := pn1) (pc := pc1) (text := z1) (GA.out.keep (HBL.out.trans HX.out.bl))
          obtain ⟨l0, l1, l2, l3, l4, l5, l6, l7, l8⟩ := AC.rep (code := c2) (num := n2) (ad := ad2) (n := an2) (ca := ac2) (t := t2) (x := x2) (m := m2) (s := s2) (pd := pd2) (pn := pn2) (pc := pc2) (text := z2) (GB.out.keep (HBL.out.trans HX.out.bl))
          go_wp2_with fail
          refine (HRR.out _ (FX1.out _ HX.out.bl) (FP1.out _ HX.out.bl)).mono ?_
          rintro e wB ⟨rfl, hb⟩
          rw [HRN.out]
          clear h0 h1 h2 h3 h4 h5 h6 h7 h8 k0 k1 k2 k3 k4 k5 k6 k7 k8 l0 l1 l2 l3 l4 l5 l6 l7 l8
          replace HX := Lib.hid (HX.out.keep hb)
          clear hb
          have HXd := Lib.hid (HX.out.keep (Bl.refl wB).drew)
          have hmc2 := HX.out.p.mark.2
          obtain ⟨M, hM⟩ : ∃ M : Nat, pn1 + 1 = M := ⟨_, rfl⟩
          have wM : IntKind.i64.wrap ((pn1 : Int) + 1) = (M : Int) := by rw [IntKind.wrap_i64]; have := HPN.out; omega
          have hM1 : M ≤ cp := by omega
          have hM2 : pn1 < M := by omega
          have hM3 : (pn1 : Int) < (M : Int) := by omega
          clear hM hmc2
          go_upto_region 12 with fail
          refine wp_region_allS (by kernel_rfl) (by kernel_rfl) ?_
          have V1 := Lib.hid (fun q : Ext wB.drew => HSRP.out q.at (HXd.out.keep q.bl).x.ia (HXd.out.keep q.bl).p.pp (FX2.out _ (HXd.out.keep q.bl).bl) (FP2.out _ (HXd.out.keep q.bl).bl))
          have V2 := Lib.hid (fun q : Ext wB.drew => HSRR.out q.at (FX1.out _ (HXd.out.keep q.bl).bl) (FP1.out _ (HXd.out.keep q.bl).bl) (FX2.out _ (HXd.out.keep q.bl).bl) (FP2.out _ (HXd.out.keep q.bl).bl))
          have V3 := Lib.hid (fun q : Ext wB.drew => staysVec_any _ gx an1 cx ad1 an1 ac1 xs1 q.at (HXd.out.keep q.bl).x (FX1.out _ (HXd.out.keep q.bl).bl) (Nat.le_trans HN1.out (by decide)))
          have V4 := Lib.hid (fun q : Ext wB.drew => HWA.out q.at (FP1.out _ (HXd.out.keep q.bl).bl))
          have xm := fun q : Ext wB.drew => (HXd.out.keep q.bl).p.mark.1
          have h0 := fun q : Ext wB.drew => (HXd.out.keep q.bl).a.cell 0 _ rfl
          have h1 := fun q : Ext wB.drew => (HXd.out.keep q.bl).a.cell 1 _ rfl
          have h2 := fun q : Ext wB.drew => (HXd.out.keep q.bl).a.cell 2 _ rfl
          have h3 := fun q : Ext wB.drew => (HXd.out.keep q.bl).a.cell 3 _ rfl
          have h4 := fun q : Ext wB.drew => (HXd.out.keep q.bl).a.cell 4 _ rfl
          have h5 := fun q : Ext wB.drew => (HXd.out.keep q.bl).a.cell 5 _ rfl
          have h6 := fun q : Ext wB.drew => (HXd.out.keep q.bl).a.cell 6 _ rfl
          have h7 := fun q : Ext wB.drew => (HXd.out.keep q.bl).a.cell 7 _ rfl
          have h8 := fun q : Ext wB.drew => (HXd.out.keep q.bl).a.cell 8 _ rfl
          have k0 := fun q : Ext wB.drew => (GA.out.keep (HBL.out.trans (HXd.out.keep q.bl).bl)).cell 0 _ rfl
          have k1 := fun q : Ext wB.drew => (GA.out.keep (HBL.out.trans (HXd.out.keep q.bl).bl)).cell 1 _ rfl
          have k2 := fun q : Ext wB.drew => (GA.out.keep (HBL.out.trans (HXd.out.keep q.bl).bl)).cell 2 _ rfl
          have k3 := fun q : Ext wB.drew => (GA.out.keep (HBL.out.trans (HXd.out.keep q.bl).bl)).cell 3 _ rfl
          have k4 := fun q : Ext wB.drew => (GA.out.keep (HBL.out.trans (HXd.out.keep q.bl).bl)).cell 4 _ rfl
          have k5 := fun q : Ext wB.drew => (GA.out.keep (HBL.out.trans (HXd.out.keep q.bl).bl)).cell 5 _ rfl
          have k6 := fun q : Ext wB.drew => (GA.out.keep (HBL.out.trans (HXd.out.keep q.bl).bl)).cell 6 _ rfl
          have k7 := fun q : Ext wB.drew => (GA.out.keep (HBL.out.trans (HXd.out.keep q.bl).bl)).cell 7 _ rfl
          have k8 := fun q : Ext wB.drew => (GA.out.keep (HBL.out.trans (HXd.out.keep q.bl).bl)).cell 8 _ rfl
          have l0 := fun q : Ext wB.drew => (GB.out.keep (HBL.out.trans (HXd.out.keep q.bl).bl)).cell 0 _ rfl
          have l1 := fun q : Ext wB.drew => (GB.out.keep (HBL.out.trans (HXd.out.keep q.bl).bl)).cell 1 _ rfl
          have l2 := fun q : Ext wB.drew => (GB.out.keep (HBL.out.trans (HXd.out.keep q.bl).bl)).cell 2 _ rfl
          have l3 := fun q : Ext wB.drew => (GB.out.keep (HBL.out.trans (HXd.out.keep q.bl).bl)).cell 3 _ rfl
          have l4 := fun q : Ext wB.drew => (GB.out.keep (HBL.out.trans (HXd.out.keep q.bl).bl)).cell 4 _ rfl
          have l5 := fun q : Ext wB.drew => (GB.out.keep (HBL.out.trans (HXd.out.keep q.bl).bl)).cell 5 _ rfl
          have l6 := fun q : Ext wB.drew => (GB.out.keep (HBL.out.trans (HXd.out.keep q.bl).bl)).cell 6 _ rfl
          have l7 := fun q : Ext wB.drew => (GB.out.keep (HBL.out.trans (HXd.out.keep q.bl).bl)).cell 7 _ rfl
          have l8 := fun q : Ext wB.drew => (GB.out.keep (HBL.out.trans (HXd.out.keep q.bl).bl)).cell 8 _ rfl
          repeat (refine wpS_step (fun K hK => ?_); go_simp; first | (refine hK _ ?_; clear hK K) | (apply Exists.intro; refine ⟨fun q => ?_, hK _ ?_⟩; (first | with_reducible exact V1.out q | with_reducible exact V2.out q | with_reducible exact V3.out q | with_reducible exact V4.out q); clear hK K))
          refine wpS_nil ?_
          intro q1
          replace HX := Lib.hid (HXd.out.keep q1.bl)
          clear V1 V2 V3 V4 xm HXd h0 h1 h2 h3 h4 h5 h6 h7 h8 k0 k1 k2 k3 k4 k5 k6 k7 k8 l0 l1 l2 l3 l4 l5 l6 l7 l8 wM hM1 hM2 hM3
          generalize q1.at = X at *
          clear q1
          go_wp2_with fail
          go_roundw
          case rel => exact ⟨k + 1, by omega, by go_num, HBL.out.trans HX.out.bl, HBP.out.keep HX.out.bl⟩
          case measure => simp [intOf]; omega
        · as_aux_lemma =>
          have y1 : decide ((Q1 : Int) ≤ 40000) = false := decide_eq_false (by omega)
          have y2 : decide (Q1 ≤ 40000) = false := decide_eq_false hq4
          obtain ⟨h0, h1, h2, h3, h4, h5, h6, h7, h8⟩ := AC.rep (code := c1) (num := n1) (ad := some ⟨gx, 0, none⟩) (n := an1) (ca := cx) (t := t1) (x := x1) (m := m1) (s := s1) (pd := some ⟨gp, 0, none⟩) (pn := pn1) (pc := cp) (text := z1) HX.out.a
          obtain ⟨k0, k1, k2, k3, k4, k5, k6, k7, k8⟩ := AC.rep (code := c1) (num := n1) (ad := ad1) (n := an1) (ca := ac1) (t := t1) (x := x1) (m := m1) (s := s1) (pd := pd1) (pn := pn1) (pc := pc1) (text := z1) (GA.out.keep (HBL.out.trans HX.out.bl))
          obtain ⟨l0, l1, l2, l3, l4, l5, l6, l7, l8⟩ := AC.rep (code := c2) (num := n2) (ad := ad2) (n := an2) (ca := ac2) (t := t2) (x := x2) (m := m2) (s := s2) (pd := pd2) (pn := pn2) (pc := pc2) (text := z2) (GB.out.keep (HBL.out.trans HX.out.bl))
          go_wp2_with fail
          refine (HRR.out _ (FX1.out _ HX.out.bl) (FP1.out _ HX.out.bl)).mono ?_
          rintro e wB ⟨rfl, hb⟩
          rw [HRN.out]
          clear h0 h1 h2 h3 h4 h5 h6 h7 h8 k0 k1 k2 k3 k4 k5 k6 k7 k8 l0 l1 l2 l3 l4 l5 l6 l7 l8
          replace HX := Lib.hid (HX.out.keep hb)
          clear hb
          have HXd := Lib.hid (HX.out.keep (Bl.refl wB).drew)
          have hmc2 := HX.out.p.mark.2
          obtain ⟨M, hM⟩ : ∃ M : Nat, pn1 + 1 = M := ⟨_, rfl⟩
          have wM : IntKind.i64.wrap ((pn1 : Int) + 1) = (M : Int) := by rw [IntKind.wrap_i64]; have := HPN.out; omega
          have hM1 : M ≤ cp := by omega
          have hM2 : pn1 < M := by omega
          have hM3 : (pn1 : Int) < (M : Int) := by omega
          clear hM hmc2
          go_upto_region 12 with fail
          refine wp_region_allS (by kernel_rfl) (by kernel_rfl) ?_
          have V1 := Lib.hid (fun q : Ext wB.drew => HSRP.out q.at (HXd.out.keep q.bl).x.ia (HXd.out.keep q.bl).p.pp (FX2.out _ (HXd.out.keep q.bl).bl) (FP2.out _ (HXd.out.keep q.bl).bl))
          have V2 := Lib.hid (fun q : Ext wB.drew => HSRR.out q.at (FX1.out _ (HXd.out.keep q.bl).bl) (FP1.out _ (HXd.out.keep q.bl).bl) (FX2.out _ (HXd.out.keep q.bl).bl) (FP2.out _ (HXd.out.keep q.bl).bl))
          have V3 := Lib.hid (fun q : Ext wB.drew => staysVec_any _ gx an1 cx ad1 an1 ac1 xs1 q.at (HXd.out.keep q.bl).x (FX1.out _ (HXd.out.keep q.bl).bl) (Nat.le_trans HN1.out (by decide)))
          have V4 := Lib.hid (fun q : Ext wB.drew => HWA.out q.at (FP1.out _ (HXd.out.keep q.bl).bl))
          have xm := fun q : Ext wB.drew => (HXd.out.keep q.bl).p.mark.1
          have h0 := fun q : Ext wB.drew => (HXd.out.keep q.bl).a.cell 0 _ rfl
          have h1 := fun q : Ext wB.drew => (HXd.out.keep q.bl).a.cell 1 _ rfl
          have h2 := fun q : Ext wB.drew => (HXd.out.keep q.bl).a.cell 2 _ rfl
          have h3 := fun q : Ext wB.drew => (HXd.out.keep q.bl).a.cell 3 _ rfl
          have h4 := fun q : Ext wB.drew => (HXd.out.keep q.bl).a.cell 4 _ rfl
          have h5 := fun q : Ext wB.drew => (HXd.out.keep q.bl).a.cell 5 _ rfl
          have h6 := fun q : Ext wB.drew => (HXd.out.keep q.bl).a.cell 6 _ rfl
          have h7 := fun q : Ext wB.drew => (HXd.out.keep q.bl).a.cell 7 _ rfl
          have h8 := fun q : Ext wB.drew => (HXd.out.keep q.bl).a.cell 8 _ rfl
          have k0 := fun q : Ext wB.drew => (GA.out.keep (HBL.out.trans (HXd.out.keep q.bl).bl)).cell 0 _ rfl
          have k1 := fun q : Ext wB.drew => (GA.out.keep (HBL.out.trans (HXd.out.keep q.bl).bl)).cell 1 _ rfl
          have k2 := fun q : Ext wB.drew => (GA.out.keep (HBL.out.trans (HXd.out.keep q.bl).bl)).cell 2 _ rfl
          have k3 := fun q : Ext wB.drew => (GA.out.keep (HBL.out.trans (HXd.out.keep q.bl).bl)).cell 3 _ rfl
          have k4 := fun q : Ext wB.drew => (GA.out.keep (HBL.out.trans (HXd.out.keep q.bl).bl)).cell 4 _ rfl
          have k5 := fun q : Ext wB.drew => (GA.out.keep (HBL.out.trans (HXd.out.keep q.bl).bl)).cell 5 _ rfl
          have k6 := fun q : Ext wB.drew => (GA.out.keep (HBL.out.trans (HXd.out.keep q.bl).bl)).cell 6 _ rfl
          have k7 := fun q : Ext wB.drew => (GA.out.keep (HBL.out.trans (HXd.out.keep q.bl).bl)).cell 7 _ rfl
          have k8 := fun q : Ext wB.drew => (GA.out.keep (HBL.out.trans (HXd.out.keep q.bl).bl)).cell 8 _ rfl
          have l0 := fun q : Ext wB.drew => (GB.out.keep (HBL.out.trans (HXd.out.keep q.bl).bl)).cell 0 _ rfl
          have l1 := fun q : Ext wB.drew => (GB.out.keep (HBL.out.trans (HXd.out.keep q.bl).bl)).cell 1 _ rfl
          have l2 := fun q : Ext wB.drew => (GB.out.keep (HBL.out.trans (HXd.out.keep q.bl).bl)).cell 2 _ rfl
          have l3 := fun q : Ext wB.drew => (GB.out.keep (HBL.out.trans (HXd.out.keep q.bl).bl)).cell 3 _ rfl
          have l4 := fun q : Ext wB.drew => (GB.out.keep (HBL.out.trans (HXd.out.keep q.bl).bl)).cell 4 _ rfl
          have l5 := fun q : Ext wB.drew => (GB.out.keep (HBL.out.trans (HXd.out.keep q.bl).bl)).cell 5 _ rfl
          have l6 := fun q : Ext wB.drew => (GB.out.keep (HBL.out.trans (HXd.out.keep q.bl).bl)).cell 6 _ rfl
          have l7 := fun q : Ext wB.drew => (GB.out.keep (HBL.out.trans (HXd.out.keep q.bl).bl)).cell 7 _ rfl
          have l8 := fun q : Ext wB.drew => (GB.out.keep (HBL.out.trans (HXd.out.keep q.bl).bl)).cell 8 _ rfl
          repeat (refine wpS_step (fun K hK => ?_); go_simp; first | (refine hK _ ?_; clear hK K) | (apply Exists.intro; refine ⟨fun q => ?_, hK _ ?_⟩; (first | with_reducible exact V1.out q | with_reducible exact V2.out q | with_reducible exact V3.out q | with_reducible exact V4.out q); clear hK K))
          refine wpS_nil ?_
          intro q1
          replace HX := Lib.hid (HXd.out.keep q1.bl)
          clear V1 V2 V3 V4 xm HXd h0 h1 h2 h3 h4 h5 h6 h7 h8 k0 k1 k2 k3 k4 k5 k6 k7 k8 l0 l1 l2 l3 l4 l5 l6 l7 l8 wM hM1 hM2 hM3
          generalize q1.at = X at *
          clear q1
          go_wp2_with fail
          go_roundw
          case rel => exact ⟨k + 1, by omega, by go_num, HBL.out.trans HX.out.bl, HBP.out.keep HX.out.bl⟩
          case measure => simp [intOf]; omega
      as_aux_lemma =>
      have e1 : prS ⟨c1, n1, xs1, ⟨t1, x1, m1, s1⟩, ps1, z1⟩ = strL (putReplyL ⟨c1, n1, xs1, ⟨t1, x1, m1, s1⟩, ps1, z1⟩) := if_pos hlen
      have e2 : prC ⟨c1, n1, xs1, ⟨t1, x1, m1, s1⟩, ps1, z1⟩ = 0 := if_pos hlen
      rw [e1, e2] at HPU
      have HGR := Lib.hid (fun W => getReply_any (putReplyL ⟨c1, n1, xs1, ⟨t1, x1, m1, s1⟩, ps1, z1⟩) W hlen)
      have HRD := Lib.hid (rdReply_put HRS.out hrn)
      have hsz : (strL (putReplyL ⟨c1, n1, xs1, ⟨t1, x1, m1, s1⟩, ps1, z1⟩)).size ≤ 65536 := by rw [strL_size]; exact hlen
      have HSS := Lib.hid (canonR_same ⟨c1, n1, xs1, ⟨t1, x1, m1, s1⟩, ps1, z1⟩)
      generalize putReplyL ⟨c1, n1, xs1, ⟨t1, x1, m1, s1⟩, ps1, z1⟩ = pl at *
      generalize strL pl = sv at *
      clear hrn hlen e1 e2 OKX
      obtain ⟨h0, h1, h2, h3, h4, h5, h6, h7, h8⟩ := AC.rep (code := c1) (num := n1) (ad := some ⟨gx, 0, none⟩) (n := an1) (ca := cx) (t := t1) (x := x1) (m := m1) (s := s1) (pd := some ⟨gp, 0, none⟩) (pn := pn1) (pc := cp) (text := z1) HX.out.a
      go_wp2_with fail
      refine HPU.out.mono ?_
      rintro e wA ⟨rfl, hb⟩
      clear h0 h1 h2 h3 h4 h5 h6 h7 h8 HPU
      replace HX := Lib.hid (HX.out.keep hb)
      clear hb
      obtain ⟨h0, h1, h2, h3, h4, h5, h6, h7, h8⟩ := AC.rep (code := c1) (num := n1) (ad := some ⟨gx, 0, none⟩) (n := an1) (ca := cx) (t := t1) (x := x1) (m := m1) (s := s1) (pd := some ⟨gp, 0, none⟩) (pn := pn1) (pc := cp) (text := z1) HX.out.a
      obtain ⟨k0, k1, k2, k3, k4, k5, k6, k7, k8⟩ := AC.rep (code := c1) (num := n1) (ad := ad1) (n := an1) (ca := ac1) (t := t1) (x := x1) (m := m1) (s := s1) (pd := pd1) (pn := pn1) (pc := pc1) (text := z1) (GA.out.keep (HBL.out.trans HX.out.bl))
      obtain ⟨l0, l1, l2, l3, l4, l5, l6, l7, l8⟩ := AC.rep (code := c2) (num := n2) (ad := ad2) (n := an2) (ca := ac2) (t := t2) (x := x2) (m := m2) (s := s2) (pd := pd2) (pn := pn2) (pc := pc2) (text := z2) (GB.out.keep (HBL.out.trans HX.out.bl))
      go_wp2_with fail
      refine (HRR.out _ (FX1.out _ HX.out.bl) (FP1.out _ HX.out.bl)).mono ?_
      rintro e wB ⟨rfl, hb⟩
      rw [HRN.out]
      clear h0 h1 h2 h3 h4 h5 h6 h7 h8 k0 k1 k2 k3 k4 k5 k6 k7 k8 l0 l1 l2 l3 l4 l5 l6 l7 l8
      replace HX := Lib.hid (HX.out.keep hb)
      clear hb
      have HXd := Lib.hid (HX.out.keep (Bl.refl wB).drew)
      have hmc2 := HX.out.p.mark.2
      obtain ⟨M, hM⟩ : ∃ M : Nat, pn1 + 1 = M := ⟨_, rfl⟩
      have wM : IntKind.i64.wrap ((pn1 : Int) + 1) = (M : Int) := by rw [IntKind.wrap_i64]; have := HPN.out; omega
      have hM1 : M ≤ cp := by omega
      have hM2 : pn1 < M := by omega
      have hM3 : (pn1 : Int) < (M : Int) := by omega
      clear hM hmc2
      go_upto_region 12 with fail
      refine wp_region_allS (by kernel_rfl) (by kernel_rfl) ?_
      have V1 := Lib.hid (fun q : Ext wB.drew => HSRP.out q.at (HXd.out.keep q.bl).x.ia (HXd.out.keep q.bl).p.pp (FX2.out _ (HXd.out.keep q.bl).bl) (FP2.out _ (HXd.out.keep q.bl).bl))
      have V2 := Lib.hid (fun q : Ext wB.drew => HSRR.out q.at (FX1.out _ (HXd.out.keep q.bl).bl) (FP1.out _ (HXd.out.keep q.bl).bl) (FX2.out _ (HXd.out.keep q.bl).bl) (FP2.out _ (HXd.out.keep q.bl).bl))
      have V3 := Lib.hid (fun q : Ext wB.drew => staysVec_any _ gx an1 cx ad1 an1 ac1 xs1 q.at (HXd.out.keep q.bl).x (FX1.out _ (HXd.out.keep q.bl).bl) (Nat.le_trans HN1.out (by decide)))
      have V4 := Lib.hid (fun q : Ext wB.drew => HWA.out q.at (FP1.out _ (HXd.out.keep q.bl).bl))
      have xm := fun q : Ext wB.drew => (HXd.out.keep q.bl).p.mark.1
      have h0 := fun q : Ext wB.drew => (HXd.out.keep q.bl).a.cell 0 _ rfl
      have h1 := fun q : Ext wB.drew => (HXd.out.keep q.bl).a.cell 1 _ rfl
      have h2 := fun q : Ext wB.drew => (HXd.out.keep q.bl).a.cell 2 _ rfl
      have h3 := fun q : Ext wB.drew => (HXd.out.keep q.bl).a.cell 3 _ rfl
      have h4 := fun q : Ext wB.drew => (HXd.out.keep q.bl).a.cell 4 _ rfl
      have h5 := fun q : Ext wB.drew => (HXd.out.keep q.bl).a.cell 5 _ rfl
      have h6 := fun q : Ext wB.drew => (HXd.out.keep q.bl).a.cell 6 _ rfl
      have h7 := fun q : Ext wB.drew => (HXd.out.keep q.bl).a.cell 7 _ rfl
      have h8 := fun q : Ext wB.drew => (HXd.out.keep q.bl).a.cell 8 _ rfl
      have k0 := fun q : Ext wB.drew => (GA.out.keep (HBL.out.trans (HXd.out.keep q.bl).bl)).cell 0 _ rfl
      have k1 := fun q : Ext wB.drew => (GA.out.keep (HBL.out.trans (HXd.out.keep q.bl).bl)).cell 1 _ rfl
      have k2 := fun q : Ext wB.drew => (GA.out.keep (HBL.out.trans (HXd.out.keep q.bl).bl)).cell 2 _ rfl
      have k3 := fun q : Ext wB.drew => (GA.out.keep (HBL.out.trans (HXd.out.keep q.bl).bl)).cell 3 _ rfl
      have k4 := fun q : Ext wB.drew => (GA.out.keep (HBL.out.trans (HXd.out.keep q.bl).bl)).cell 4 _ rfl
      have k5 := fun q : Ext wB.drew => (GA.out.keep (HBL.out.trans (HXd.out.keep q.bl).bl)).cell 5 _ rfl
      have k6 := fun q : Ext wB.drew => (GA.out.keep (HBL.out.trans (HXd.out.keep q.bl).bl)).cell 6 _ rfl
      have k7 := fun q : Ext wB.drew => (GA.out.keep (HBL.out.trans (HXd.out.keep q.bl).bl)).cell 7 _ rfl
      have k8 := fun q : Ext wB.drew => (GA.out.keep (HBL.out.trans (HXd.out.keep q.bl).bl)).cell 8 _ rfl
      have l0 := fun q : Ext wB.drew => (GB.out.keep (HBL.out.trans (HXd.out.keep q.bl).bl)).cell 0 _ rfl
      have l1 := fun q : Ext wB.drew => (GB.out.keep (HBL.out.trans (HXd.out.keep q.bl).bl)).cell 1 _ rfl
      have l2 := fun q : Ext wB.drew => (GB.out.keep (HBL.out.trans (HXd.out.keep q.bl).bl)).cell 2 _ rfl
      have l3 := fun q : Ext wB.drew => (GB.out.keep (HBL.out.trans (HXd.out.keep q.bl).bl)).cell 3 _ rfl
      have l4 := fun q : Ext wB.drew => (GB.out.keep (HBL.out.trans (HXd.out.keep q.bl).bl)).cell 4 _ rfl
      have l5 := fun q : Ext wB.drew => (GB.out.keep (HBL.out.trans (HXd.out.keep q.bl).bl)).cell 5 _ rfl
      have l6 := fun q : Ext wB.drew => (GB.out.keep (HBL.out.trans (HXd.out.keep q.bl).bl)).cell 6 _ rfl
      have l7 := fun q : Ext wB.drew => (GB.out.keep (HBL.out.trans (HXd.out.keep q.bl).bl)).cell 7 _ rfl
      have l8 := fun q : Ext wB.drew => (GB.out.keep (HBL.out.trans (HXd.out.keep q.bl).bl)).cell 8 _ rfl
      repeat (refine wpS_step (fun K hK => ?_); go_simp; first | (refine hK _ ?_; clear hK K) | (apply Exists.intro; refine ⟨fun q => ?_, hK _ ?_⟩; (first | with_reducible exact V1.out q | with_reducible exact V2.out q | with_reducible exact V3.out q | with_reducible exact V4.out q); clear hK K))
      refine wpS_nil ?_
      intro q1
      replace HX := Lib.hid (HXd.out.keep q1.bl)
      clear V1 V2 V3 V4 xm HXd h0 h1 h2 h3 h4 h5 h6 h7 h8 k0 k1 k2 k3 k4 k5 k6 k7 k8 l0 l1 l2 l3 l4 l5 l6 l7 l8 wM hM1 hM2 hM3
      generalize q1.at = X at *
      clear q1
      go_wp2_with fail
      have hsd1 : decide ((65536 : Int) < (sv.size : Int)) = false := decide_eq_false (by omega)
      have hsd2 : decide (65536 < sv.size) = false := decide_eq_false (by omega)
      refine (HGR.out _).mono ?_
      rintro e wG (⟨r3, ad3, an3, ac3, pd3, pn3, pc3, hr3, rfl, hF, hP, hb⟩ | ⟨hr3, -, -⟩)
      case inr => rw [HRD.out] at hr3; cases hr3
      rw [HRD.out] at hr3
      obtain rfl := Option.some.inj hr3
      have hxc : canon x1 < two64 := canon_lt2 OV1.out.x
      have hpo : ∀ p ∈ ps1.map canonPr, PaOk p := fun p hp => by
        obtain ⟨q, hq, rfl⟩ := List.mem_map.1 hp
        have := HP1.out.ok q hq
        exact ⟨this.1, canon_lt2 this.2.x, this.2.n, this.2.s⟩
      have hpn3 : pn3 ≤ 400 := by
        have h1 := hP.1
        have h2 := HP1.out.len
        have h3 := HPN.out
        change (ps1.map canonPr).length = pn3 at h1
        rw [List.length_map] at h1
        omega
      clear HRD hr3
      unfold repV
      dsimp only [canonR, canonV] at hF hP HSS ⊢
      generalize canon x1 = xc at *
      generalize ps1.map canonPr = ps3 at *
      have HF := Lib.hid hF
      have HPR := Lib.hid hP
      have HBG := Lib.hid hb
      have HXB := Lib.hid HX.out.bl
      replace HX := Lib.hid (HX.out.keep hb)
      clear hb hF hP
      have HGY := Lib.hid (AC.new wG _ rfl (repCs c1 n1 ad3 an3 ac3 t1 xc m1 s1 pd3 pn3 pc3 z1) 30)
      have hby := (Bl.refl wG).alloc (.cells (repCs c1 n1 ad3 an3 ac3 t1 xc m1 s1 pd3 pn3 pc3 z1).toArray 30)
      unfold repCs at HGY hby
      have HBY := Lib.hid hby
      have HX3 := Lib.hid (HF.out.far.1.keep hby)
      have HP3 := Lib.hid ((PP.own HPR.out.2 HPR.out.1 (by omega) hpo).keep hby)
      have hca3 := GA.out.keep (HBL.out.trans (HX.out.bl.trans hby))
      have hgy3 := HGY.out
      obtain ⟨y0, y1, y2, y3, y4, y5, y6, y7, y8⟩ := AC.rep (code := c1) (num := n1) (ad := ad3) (n := an3) (ca := ac3) (t := t1) (x := xc) (m := m1) (s := s1) (pd := pd3) (pn := pn3) (pc := pc3) (text := z1) hgy3
      obtain ⟨k0, k1, k2, k3, k4, k5, k6, k7, k8⟩ := AC.rep (code := c1) (num := n1) (ad := ad1) (n := an1) (ca := ac1) (t := t1) (x := x1) (m := m1) (s := s1) (pd := pd1) (pn := pn1) (pc := pc1) (text := z1) hca3
      clear hby hca3 hgy3
      go_wp2_with fail
      have HSM := Lib.hid (fun W h1 h2 h3 h4 => rsameR_any c1 n1 ad3 an3 ac3 xs1 t1 xc m1 s1 pd3 pn3 pc3 ps3 z1 c1 n1 ad1 an1 ac1 xs1 t1 x1 m1 s1 pd1 pn1 pc1 ps1 z1 W h1 h2 h3 h4 ⟨hxc, OV1.out.n, OV1.out.s⟩ OV1.out)
      rw [HSS.out] at HSM
      refine (HSM.out _ HX3.out (FX1.out _ (HX.out.bl.trans HBY.out)) HP3.out (FP1.out _ (HX.out.bl.trans HBY.out))).mono ?_
      rintro e wS ⟨rfl, hbS⟩
      have HGS := Lib.hid (HGY.out.keep hbS)
      have HBS := Lib.hid (HBY.out.trans hbS)
      have VPM := Lib.hid (VPm.new HBL.out HBP.out HXB.out HBG.out HBS.out HF.out HPR.out rfl HGS.out)
      have q2 := HGS.out.cell 2 _ rfl
      clear y0 y1 y2 y3 y4 y5 y6 y7 y8 k0 k1 k2 k3 k4 k5 k6 k7 k8 hbS HSM HX3 HP3 HBY HGY HF HPR HBG HXB
      go_wp2_with fail
      refine (vp_first W1 _ W1.heap.size _ _ xs1 _ pn3 ps3 _ _ VPM.out (by have := HX1.out.len; have := HN1.out; omega) rfl).mono ?_
      rintro e wV ⟨rfl, hv⟩
      have HVO := Lib.hid hv
      have q7 := hv.box.cell 7 _ rfl
      clear hv q2
      go_wp2_with fail
      refine (vp_last W1 _ W1.heap.size _ _ pn3 ps3 _ _ HVO.out (by omega) hpo rfl).mono ?_
      rintro e wP ⟨rfl, h1, h2⟩
      have HE1 := Lib.hid h1
      have HE2 := Lib.hid h2
      clear h1 h2 q7 HVO VPM HGS
      go_wp2_with fail
      go_roundw
      case rel => exact ⟨k + 1, by omega, by go_num, HE1.out, HE2.out⟩
      case measure => simp [intOf]; omega
end Go.Proofs.YtaelghbjbopilaaGreat
end
