import Derived.Test.YtaplefelfiefaaaGreatQArchiveTellsUptoP30
import Derived.Test.YtaplefelfiefaaaGreatQArchiveTellsUptoP37
import Derived.Test.YtaplefelfiefaaaGreatQArchiveTellsUptoP38
import Derived.Test.YtaplefelfiefaaaGreatQArchiveTellsUptoP34
import Derived.Test.YtaplefelfiefaaaGreatQArchiveTellsUptoP19
import Derived.Test.YtaplefelfiefaaaGreatQArchiveTellsUptoP39

/- the walk of ArchiveTells (printed by gen/archivetells.py). By an AI agent. -/
section
set_option linter.unusedVariables false
set_option linter.unusedSimpArgs false
namespace Go.Proofs.YtaplefelfiefaaaGreat
open Go.RowKit Go.Shelf
attribute [local go_sem] eOp eOper eUpon

theorem LV.setr {B : Nat} {W : World} {g n c : Nat} {xs : List Int} (h : LV B W g n c xs) {q : Nat} (hq : q < B) (j : Nat) (u : Value) : LV B (W.setCell ⟨q, j, none⟩ u) g n c xs := by
  refine ⟨?_, h.len, h.cap, h.wf⟩
  have ho := h.own
  unfold OI at ho ⊢
  obtain ⟨h1, h2 | ⟨g, cap, cur, hv, hB, hg, r⟩⟩ := ho
  · exact ⟨h1, .inl h2⟩
  · exact ⟨h1, .inr ⟨g, cap, cur, hv, hB, by rw [Below.heap_setCell _ _ _ _ (by show g ≠ q; omega)]; exact hg, r⟩⟩
theorem LV.lower {B B' : Nat} {W : World} {g n c : Nat} {xs : List Int} (h : LV B W g n c xs) (hb : B' ≤ B) : LV B' W g n c xs := ⟨own_mono' h.own hb, h.len, h.cap, h.wf⟩
theorem wpAnyE_viaR {P : Program} {ops : Array Oper} {md : Region.Mode} {C : World → Prop} {Q : Act → World → Prop} : ∀ {m : Nat} {listed : Array Bool} {a : Act} {w : World} (R : Act → Act → World → Prop), wpAnyE P md ops C (R a) m listed a w → (∀ a' w', R a a' w' → Q a' w') → wpAnyE P md ops C Q m listed a w := by
  intro m listed a w R h hq
  generalize R a = S at h hq
  clear R
  induction m generalizing listed a w with
  | zero => exact ⟨h.1, fun w' hb => hq _ _ (h.2 w' hb)⟩
  | succ m ih => exact ⟨fun h0 w' hb => hq _ _ (h.1 h0 w' hb), fun i hi w' hb => eOp_mono (fun a w hk => ⟨hk.1, ih hk.2⟩) (h.2 i hi w' hb)⟩
theorem rsameA_one (k : Int) (x : Nat) (n : Int) (s : ByteArray) (w : World) (oa : Hid (ActL.Ok ⟨k, x, n, s⟩)) :
    Calls Tryz.prog 15 #[.agg #[.int .i64 k, .float .f64 x, .int .i64 n, .string s], .agg #[.int .i64 k, .float .f64 x, .int .i64 n, .string s]] w fun e w' => e = .returned (.bool true) ∧ Bl w w' := by
  have := refSameA_any ⟨k, x, n, s⟩ ⟨k, x, n, s⟩ w oa.out oa.out
  rw [show sameA ⟨k, x, n, s⟩ ⟨k, x, n, s⟩ = true by simp [sameA]] at this
  exact this
/-- the round's state: the lent vector, the lent pairs, the box that holds them -/
structure RX (wr W : World) (g7 : Nat) (cs : List Value) (B1 gx n cx : Nat) (xs : List Int) (B2 gp pn cp : Nat) (ps : List (ByteArray × ValL)) : Prop where
  bl : Bl wr W
  a : AC W g7 cs
  x : LV B1 W gx n cx xs
  p : LPr B2 W gp pn cp ps
theorem RX.keep {wr W W' : World} {g7 : Nat} {cs : List Value} {B1 gx n cx : Nat} {xs : List Int} {B2 gp pn cp : Nat} {ps : List (ByteArray × ValL)} (h : RX wr W g7 cs B1 gx n cx xs B2 gp pn cp ps) (k : Bl W W') : RX wr W' g7 cs B1 gx n cx xs B2 gp pn cp ps := ⟨h.bl.trans k, h.a.keep k, h.x.keep k, h.p.keep k⟩
theorem FarO.fr {B g : Nat} {w w' : World} {a : Option Addr} {n ca : Nat} {xs : List Int} (h : FarO B w a n ca xs) (hf : Fr (fun b => b = g) w w') (hg : g < B) : FarO B w' a n ca xs := FI.fr h hf (fun b q s => by have := World.ownsRow.lt h.own b q; have s' : b = g := s; omega)
theorem FarPO.fr {B g : Nat} {w w' : World} {a : Option Addr} {n ca : Nat} {ps : List (ByteArray × ValL)} (h : FarPO B w a n ca ps) (hf : Fr (fun b => b = g) w w') (hg : g < B) : FarPO B w' a n ca ps := ⟨h.1, hf.own h.2 (fun b q s => by have := World.ownsRow.lt h.2 b q; have s' : b = g := s; omega)⟩
theorem wSum_ok {ps : List (ByteArray × ValL)} {n : Nat} (h : ps.length = n) (hw : wSum ps n < 60000) : n ≤ 2000 := by
  have := wSum_ge ps
  rw [h] at this
  omega
set_option maxHeartbeats 51200000 in
set_option maxRecDepth 100000 in
theorem archiveTells_gen (n1 parts1 : Int) (ad1 : Option Addr) (an1 ac1 : Nat) (xs1 : List Int) (pd1 : Option Addr) (pn1 pc1 : Nat) (ps1 : List (ByteArray × ValL)) (l : List UInt8) (key : ByteArray) (vb : Bool) (vx : Nat) (vn : Int) (vs : ByteArray) (w : World)
    (hx : IA w ad1 an1 xs1) (hp : PW w pd1 pn1 ps1) (hkz : key.size ≤ 140737488351232) (hvo : ValL.Ok ⟨vb, vx, vn, vs⟩) (hlz : l.length ≤ 140737488351232) :
    Calls Tryz.prog 3 #[.agg #[.int .i64 n1, .int .i64 parts1, .slice ad1 an1 ac1, .slice pd1 pn1 pc1], .string (strL l), .string key, .agg #[.bool vb, .float .f64 vx, .int .i64 vn, .string vs]] w fun e w' => e = .returned (.bool true) ∧ Bl w w' := by
  have hsf := store_float
  have G := AB.new w 26 29 (arcCs n1 parts1 ad1 an1 ac1 pd1 pn1 pc1) [.bool vb, .float .f64 vx, .int .i64 vn, .string vs]
  unfold arcCs at G
  have HX1 := Lib.hid hx
  have HPW := Lib.hid hp
  have HVO := Lib.hid hvo
  have hvz : vs.size ≤ 140737488351232 := hvo.s
  have HLT := Lib.hid (fun W hx hp => light_any n1 parts1 ad1 an1 ac1 xs1 pd1 pn1 pc1 ps1 W hx hp)
  have hsz := strL_size l
  have HRB := Lib.hid (fun (hz : l.length ≤ 9000) W => r24Read_both l W hz)
  have HPG : Hid (∀ n parts code xn pn xs ps qs, Both l n parts code xn pn xs ps qs → ∀ W, Calls Tryz.prog 11 #[.string (strL l)] W fun e w' => ∃ ad ac pd pc, e = .returned (.tuple #[.agg #[.int .i64 n, .int .i64 parts, .slice ad xn ac, .slice pd pn pc], .int .i64 code]) ∧ FarO W.heap.size w' ad xn ac xs ∧ FarPO W.heap.size w' pd pn pc ps ∧ Bl W w') := Lib.hid (fun n parts code xn pn xs ps qs h => h.prog)
  generalize strL l = sl at *
  clear hx hp hvo
  obtain ⟨k0, k1, k2, k3⟩ := AC.arc G.a
  obtain ⟨l0, l1, l2, l3⟩ := AC.val G.b
  have GH := Lib.hid G
  clear G
  go_enter Tryz.func3, Tryz.ntmps3
  go_wp2_with fail
  generalize (w.alloc _).alloc _ = W at *
  refine (HLT.out _ (HX1.out.keep GH.out.bl) (HPW.out.keep GH.out.bl)).mono ?_
  rintro e W1 ⟨lb, rfl, hlb, hb⟩
  replace GH := Lib.hid (GH.out.keep hb)
  have HW := Lib.hid GH.out.bl
  clear hb k0 k1 k2 k3 l0 l1 l2 l3 HLT
  obtain ⟨k0, k1, k2, k3⟩ := AC.arc GH.out.a
  obtain ⟨l0, l1, l2, l3⟩ := AC.val GH.out.b
  cases lb
  case false =>
    as_aux_lemma =>
    clear hlb
    go_wp2_with fail
    refine (alive24_any _).mono ?_
    rintro e w2 ⟨rfl, hb2⟩
    go_wp2_with fail
    go_ret
    exact ⟨rfl, HW.out.trans hb2⟩
  obtain ⟨hw6, han⟩ := hlb rfl
  have hpn2 : pn1 ≤ 2000 := wSum_ok HPW.out.len hw6
  clear hlb hw6
  by_cases i0 : 9000 < sl.size
  · as_aux_lemma =>
    have f0 : decide ((9000 : Int) < (sl.size : Int)) = true := decide_eq_true (by omega)
    have g0 : decide (9000 < sl.size) = true := decide_eq_true i0
    go_wp2_with fail
    refine (alive24_any _).mono ?_
    rintro e w2 ⟨rfl, hb2⟩
    go_wp2_with fail
    go_ret
    exact ⟨rfl, HW.out.trans hb2⟩
  have f0 : decide ((9000 : Int) < (sl.size : Int)) = false := decide_eq_false (by omega)
  have g0 : decide (9000 < sl.size) = false := decide_eq_false i0
  have HZ9 : Hid (l.length ≤ 9000) := Lib.hid (by omega)
  obtain ⟨S, hS⟩ : ∃ S : Nat, key.size + vs.size = S := ⟨_, rfl⟩
  have wS : IntKind.i64.wrap ((key.size : Int) + (vs.size : Int)) = (S : Int) := by rw [IntKind.wrap_i64]; omega
  by_cases i1 : 9000 < S
  · as_aux_lemma =>
    have f1 : decide ((9000 : Int) < (S : Int)) = true := decide_eq_true (by omega)
    have g1 : decide (9000 < S) = true := decide_eq_true i1
    go_wp2_with fail
    refine (alive24_any _).mono ?_
    rintro e w2 ⟨rfl, hb2⟩
    go_wp2_with fail
    go_ret
    exact ⟨rfl, HW.out.trans hb2⟩
  have f1 : decide ((9000 : Int) < (S : Int)) = false := decide_eq_false (by omega)
  have g1 : decide (9000 < S) = false := decide_eq_false i1
  have HP1 : Hid (PP w pd1 pn1 ps1) := Lib.hid ⟨HPW.out.len, by omega, HPW.out.cells, HPW.out.ok⟩
  clear HPW hsz hlz i0 i1 hS
  have m0 := fun o => ((Bl.refl W1).alloc o).cell k0
  have m1 := fun o => ((Bl.refl W1).alloc o).cell k1
  have m2 := fun o => ((Bl.refl W1).alloc o).cell k2
  have m3 := fun o => ((Bl.refl W1).alloc o).cell k3
  go_wp2_with fail
  clear k0 k1 k2 k3 l0 l1 l2 l3 m0 m1 m2 m3 f0 g0 f1 g1 wS
  have GA := Lib.hid GH.out.a
  have GV := Lib.hid GH.out.b
  clear GH
  generalize w.heap.size + 1 = gV at *
  generalize w.heap.size = gA at *
  have HBK0 := Lib.hid (AC.new W1 _ rfl (hsOf (fun _ => .slice none 0 0) (fun _ => .slice none 0 0)))
  generalize hWK : World.alloc _ _ = WK
  have HBK : Hid (AC WK W1.heap.size (hsOf (fun _ => .slice none 0 0) (fun _ => .slice none 0 0))) := Lib.hid (by rw [← hWK]; exact HBK0.out _)
  have HB1 : Hid (Bl W1 WK) := Lib.hid (by rw [← hWK]; exact (Bl.refl W1).alloc _)
  clear hWK HBK0
  refine (plain_any n1 parts1 ad1 an1 ac1 pd1 pn1 pc1 WK).mono ?_
  rintro e W3 ⟨rfl, hb⟩
  replace HBK := Lib.hid (HBK.out.keep hb)
  replace HB1 := Lib.hid (HB1.out.trans hb)
  clear hb
  have HOKA : Hid (ArcOk ⟨n1, parts1, xs1, ps1⟩) := Lib.hid HP1.out.ok
  have HRW := Lib.hid (fun W hx hp => r24Write_any ⟨n1, parts1, xs1, ps1⟩ ad1 an1 ac1 pd1 pn1 pc1 W hx hp HOKA.out)
  have HAW := Lib.hid (fun ad ac pd pc W hx hp => arcWrite_any ⟨n1, parts1, xs1, ps1⟩ ad an1 ac pd pn1 pc W hx hp HOKA.out)
  obtain ⟨vd, hvd⟩ : ∃ vd, validArc ⟨n1, parts1, xs1, ps1⟩ = vd := ⟨_, rfl⟩
  have HAV := Lib.hid (fun ad ac pd pc W hx hp => arcValid_hid n1 parts1 ad an1 ac xs1 pd pn1 pc ps1 W hx hp vd (Lib.hid hvd) HOKA)
  have HRV := Lib.hid (fun W hx hp => r24Valid_hid n1 parts1 ad1 an1 ac1 xs1 pd1 pn1 pc1 ps1 W hx hp vd (Lib.hid hvd) HOKA)
  clear hvd
  generalize strL (wrL ⟨n1, parts1, xs1, ps1⟩) = sv at *
  generalize wrC ⟨n1, parts1, xs1, ps1⟩ = cc at *
  go_wp2_with fail
  refine (HRW.out _ (HX1.out.keep (HW.out.trans HB1.out)) (HP1.out.pa.keep (HW.out.trans HB1.out))).mono ?_
  rintro e W4 ⟨rfl, hb⟩
  replace HBK := Lib.hid (HBK.out.keep hb)
  replace HB1 := Lib.hid (HB1.out.trans hb)
  clear hb HRW
  have hg4 : W1.heap.size < W4.heap.size := HBK.out.lt
  go_wp2_with fail
  refine (HRB.out HZ9.out _).mono ?_
  rintro e W5 ⟨n3, parts3, code, xn, pn, xs3, ps3, qs3, ad3, ac3, pd3, pc3, rfl, hF, hP, hb, hbo⟩
  have HPG2 := Lib.hid (HPG.out _ _ _ _ _ _ _ _ hbo)
  have HSM := Lib.hid hbo.same
  have h45 := hb.size
  have hfew := hbo.few
  have hxs8 := hbo.xs8
  have HOK3 := Lib.hid hbo.ok
  have HPL := Lib.hid hbo.plen
  have HXL := Lib.hid hbo.xlen
  replace HBK := Lib.hid (HBK.out.keep hb)
  replace HB1 := Lib.hid (HB1.out.trans hb)
  have HFY := Lib.hid hF
  have HPY := Lib.hid hP
  clear hb hbo HRB HPG hF hP
  have hgy := AC.new W5 _ rfl [.int .i64 n3, .int .i64 parts3, .slice ad3 xn ac3, .slice pd3 pn pc3] 52
  have hby := (Bl.refl W5).alloc (.cells #[.int .i64 n3, .int .i64 parts3, .slice ad3 xn ac3, .slice pd3 pn pc3] 52)
  go_wp2_with fail
  generalize hW2 : World.alloc _ _ = W2 at *
  have HGY : Hid (AC W2 W5.heap.size [.int .i64 n3, .int .i64 parts3, .slice ad3 xn ac3, .slice pd3 pn pc3]) := Lib.hid hgy
  have HFY2 := Lib.hid (HFY.out.keep hby)
  have HPY2 := Lib.hid (HPY.out.keep hby)
  replace HBK := Lib.hid (HBK.out.keep hby)
  replace HB1 := Lib.hid (HB1.out.trans hby)
  have HNB : Hid (W5.heap.size ≠ W1.heap.size) := Lib.hid (by omega)
  clear hgy hby hW2 HFY HPY
  generalize W5.heap.size = gY at *
  generalize W4.heap.size = B4 at *
  have HQ0 := Lib.hid (BQ.new (k := bkVP) (B := W1.heap.size) (T := Bes W2 W1.heap.size) (Nat.le_refl W1.heap.size) HBK.out (fun b hb => hb))
  have HLT := Lib.hid HBK.out.lt
  clear HBK
  obtain ⟨g, hgk⟩ : ∃ g, W1.heap.size = g := ⟨_, rfl⟩
  rw [hgk] at HQ0 HLT hg4 HNB ⊢
  have HGK := Lib.hid hgk
  clear hgk
  obtain ⟨⟨ak, ax, an2, az⟩, hA⟩ : ∃ A : ActL, actOf key ⟨vb, vx, vn, vs⟩ = A := ⟨_, rfl⟩
  have HA := Lib.hid hA
  have HAO := Lib.hid (show (⟨ak, ax, an2, az⟩ : ActL).Ok from hA ▸ actOf_ok key HVO.out)
  clear hA
  go_loopw [14] (fun kv wr => ∃ k : Nat, k ≤ 2 ∧ kv = .int .i64 k ∧ Fr (fun b => b = g) W2 wr ∧ BQ bkVP g wr g (Bes W2 g)) (fun kv _ => 2 - (intOf kv).toNat)
  case atStart => exact ⟨0, by omega, rfl, Fr.refl _ _, HQ0.out⟩
  case round =>
    obtain ⟨k, hk, rfl, hfr, hbq⟩ := hrel
    have HFR := Lib.hid hfr
    have HBQ := Lib.hid hbq
    have HBL : Hid (Bl W1 wr) := Lib.hid (HB1.out.frV hfr (fun b q => by rw [q]; exact Nat.le_of_eq HGK.out))
    clear hfr hbq HQ0
    by_cases hlt : k < 2
    case neg =>
      as_aux_lemma =>
      go_wp2_with fail
      refine (alive24_any _).mono ?_
      rintro e w1 ⟨rfl, hb⟩
      have HB := Lib.hid (HBL.out.trans hb)
      have HP := Lib.hid (HBQ.out.keep hb)
      clear hb HBL HBQ
      go_wp2_with fail
      refine (bqVP_apart g g _ _ (by have := HB.out.size; have := HGK.out; omega) HP.out).mono ?_
      rintro e w2 ⟨rfl, hf⟩
      go_wp2_with fail
      go_ret
      exact ⟨rfl, HW.out.trans (HB.out.frV hf (fun b q => by rw [HGK.out]; exact q.1))⟩
    have hca := GA.out.keep HBL.out
    obtain ⟨k0, k1, k2, k3⟩ := AC.arc hca
    have G7 := Lib.hid (AC.new wr _ rfl (arcCs n1 parts1 ad1 an1 ac1 pd1 pn1 pc1) 26)
    unfold arcCs at G7
    have f2 := fun o => ((Bl.refl wr).alloc o).cell k2
    clear hca
    go_wp2_with fail
    refine (lentVec_any ad1 an1 ac1 xs1 _ (HX1.out.keep (HW.out.trans (HBL.out.trans ((Bl.refl wr).alloc _)))) (Nat.le_trans han (by decide))).mono ?_
    rintro e w2 ⟨gx, cx, rfl, lx, hb2⟩
    have hbW2 : Bl wr (w2.setCell ⟨wr.heap.size, 2, none⟩ (.slice (some ⟨gx, 0, none⟩) an1 cx)) := (((Bl.refl wr).alloc _).trans hb2).setCell (p := ⟨wr.heap.size, 2, none⟩) (Nat.le_refl _) _
    have gx7 : AC (w2.setCell ⟨wr.heap.size, 2, none⟩ (.slice (some ⟨gx, 0, none⟩) an1 cx)) wr.heap.size [.int .i64 n1, .int .i64 parts1, .slice (some ⟨gx, 0, none⟩) an1 cx, .slice pd1 pn1 pc1] := AC.setj (G7.out.keep hb2) 2 _
    have LX := Lib.hid ((lx.setr (q := wr.heap.size) (by simp) 2 (.slice (some ⟨gx, 0, none⟩) an1 cx)).lower (show wr.heap.size + 1 ≤ _ by simp))
    have fr5 := (G7.out.keep hb2).frozen
    have cc5 := (G7.out.keep hb2).cell 2 _ rfl
    have H7 := Lib.hid gx7
    have HBW := Lib.hid hbW2
    clear f2 lx k0 k1 k2 k3 gx7 hbW2 G7 hb2
    go_upto_region 11 with fail
    generalize w2.setCell _ _ = U at *
    have HG7 := Lib.hid H7.out.lt
    generalize hg7 : wr.heap.size = g7 at *
    have HG7e := Lib.hid hg7
    clear hg7 fr5 cc5
    have GAU := Lib.hid (GA.out.keep (HBL.out.trans HBW.out))
    have HPU := Lib.hid (HP1.out.keep (HW.out.trans (HBL.out.trans HBW.out)))
    have HD := Lib.hid ((Bl.refl U).drew)
    refine wp_region_idx [0, 1, 3, 6, 7, 8] 6 (HasBox gA [.int .i64 n1, .int .i64 parts1, .slice ad1 an1 ac1, .slice pd1 pn1 pc1]) HasBox.keep (GAU.out.keep HD.out) (by kernel_rfl) rfl (by kernel_rfl) (by kernel_rfl) ?_
    generalize hZ : U.drew = Z at *
    have HZS2 := Lib.hid (show U.heap.size ≤ Z.heap.size from HD.out.size)
    clear hZ
    haveI : Nonempty (ExtC (HasBox gA [.int .i64 n1, .int .i64 parts1, .slice ad1 an1 ac1, .slice pd1 pn1 pc1])) := ⟨⟨Z, GAU.out.keep HD.out⟩⟩
    have e7 : ∀ q : ExtC (HasBox gA [.int .i64 n1, .int .i64 parts1, .slice ad1 an1 ac1, .slice pd1 pn1 pc1]), _ := fun q => AC.cell (show AC q.at gA [.int .i64 n1, .int .i64 parts1, .slice ad1 an1 ac1, .slice pd1 pn1 pc1] from q.ok) 3 _ rfl
    repeat (refine wpI_step rfl (fun K hK => ?_); go_simp; first | (refine hK _ ?_; clear hK K) | (apply Exists.intro; refine ⟨fun q => ?_, hK _ ?_⟩; (fail); clear hK K))
    refine wpI_nil ?_
    clear e7 this
    have HXA := Lib.hid HP1.out.ok
    have HLEN := Lib.hid HP1.out.len
    refine wpAnyE_viaR (fun a a' w' => ∃ (v1 : Value) (gl gp cp : Nat), a' = ((((a.put (some 62) v1).put (some 64) (.slice (some ⟨gl, 0, none⟩) 1 1)).put (some 65) (.slice (some ⟨gp, 0, none⟩) (pn1 + 1) cp)).put (some 69) (.slice (some ⟨gp, 0, none⟩) pn1 cp)).put (some 70) (.pointer (some ⟨g7, 3, none⟩)) ∧ RX wr w' g7 [.int .i64 n1, .int .i64 parts1, .slice (some ⟨gx, 0, none⟩) an1 cx, .slice (some ⟨gp, 0, none⟩) pn1 cp] (g7 + 1) gx an1 cx xs1 Z.heap.size gp pn1 cp ps1) ?h1 ?h2
    case h1 =>
      refine wpAnyE_all (rs := [2, 4]) (by kernel_rfl) (by decide) ?_
      intro i0 hi0 Y0 hy0
      simp only [List.mem_cons, List.not_mem_nil, or_false] at hi0
      rcases hi0 with rfl | rfl
      · refine eOp_appG rfl rfl _ _ 24 rfl el_pair Z.heap.size (.slice none 0 0) 0 [] rfl (World.ownsRow_nil _ _ _ _) hy0.size pd1 pn1 pc1 (cellsP ps1) rfl (PP.sg5 (HPU.out.keep (HD.out.trans hy0))) (by unfold maxLen; omega) (by omega) ?_
        intro v1 w1 ho hg
        have hb1 : Bl Z w1 := hy0.ownRow (World.ownsRow_nil Y0 Z.heap.size 58 5) (Nat.le_refl _) hg
        have ho1 : w1.ownsRow Z.heap.size 58 5 v1 pn1 (cellsP ps1) := by simpa using ho
        have HO0 := Lib.hid ho1
        have HB1 := Lib.hid hb1
        clear ho hg hy0 ho1 hb1
        refine ⟨GAU.out.keep (HD.out.trans HB1.out), ?_⟩
        simp only [Act.put, List.setIfInBounds_toArray, List.set_cons_zero, List.set_cons_succ]
        refine wpAnyE_one (i := 4) (by kernel_rfl) ?_
        intro Y1 hy1
        go_simp
        have HNEW := Lib.hid (heap_alloc_new Y1 (.cells #[.string markPr, .bool false, .float .f64 0, .int .i64 0, .string ⟨#[]⟩] 58))
        have HBZ := Lib.hid ((HB1.out.trans hy1).alloc (.cells #[.string markPr, .bool false, .float .f64 0, .int .i64 0, .string ⟨#[]⟩] 58))
        have HO := Lib.hid (ownsRow_bl HO0.out (hy1.alloc (.cells #[.string markPr, .bool false, .float .f64 0, .int .i64 0, .string ⟨#[]⟩] 58)))
        clear HO0 HB1 hy1
        unfold markPr at HNEW HBZ HO
        generalize Y1.alloc _ = Yt at *
        generalize Y1.heap.size = gl at *
        refine ⟨GAU.out.keep (HD.out.trans HBZ.out), ?_⟩
        refine wpAnyE_one (i := 5) (by kernel_rfl) ?_
        intro Y3 hy3
        refine eOp_appG rfl rfl _ _ 24 rfl el_pair Z.heap.size v1 pn1 (cellsP ps1) rfl (ownsRow_bl HO.out hy3) (HBZ.out.trans hy3).size (some ⟨gl, 0, none⟩) 1 1 [.string markPr, .bool false, .float .f64 0, .int .i64 0, .string ⟨#[]⟩] rfl (SG.lit (hy3.heap HNEW.out) rfl (by simp [Value.oneCell'])) (by unfold maxLen; omega) (by omega) ?_
        intro v2 w3 ho3 hg3
        have hb4 : Bl Z w3 := (HBZ.out.trans hy3).ownRow (ownsRow_bl HO.out hy3) (Nat.le_refl _) hg3
        obtain ⟨gp, cp, rfl⟩ : ∃ gp cp, v2 = .slice (some ⟨gp, 0, none⟩) (pn1 + 1) cp := by
          obtain ⟨_, ⟨_, e⟩ | ⟨g', cap, cur, e, _⟩⟩ := ho3
          · omega
          · exact ⟨g', cap, e⟩
        have HLP : Hid (LPr Z.heap.size w3 gp pn1 cp ps1) := Lib.hid ⟨by rw [cellsP_snoc]; exact ho3, HLEN.out, by omega, HXA.out⟩
        have hmc := HLP.out.mark.2
        have hmc2 : pn1 ≤ cp := by omega
        have HB4 := Lib.hid hb4
        clear ho3 hg3 hb4 hy3 HO HBZ HNEW
        refine ⟨GAU.out.keep (HD.out.trans HB4.out), ?_⟩
        simp only [Act.put, List.setIfInBounds_toArray, List.set_cons_zero, List.set_cons_succ]
        refine wpAnyE_one (i := 9) (by kernel_rfl) ?_
        intro Y5 hy5
        go_simp
        try rw [if_pos hmc2]
        try dsimp only
        have HB5 := Lib.hid (HB4.out.trans hy5)
        have HLP5 := Lib.hid (HLP.out.keep hy5)
        clear hy5 HB4 HLP
        refine ⟨GAU.out.keep (HD.out.trans HB5.out), ?_⟩
        refine wpAnyE_one (i := 10) (by kernel_rfl) ?_
        intro Y6 hy6
        go_simp
        have HB6 := Lib.hid (HB5.out.trans hy6)
        have HLP6 := Lib.hid (HLP5.out.keep hy6)
        clear hy6 HB5 HLP5
        refine ⟨GAU.out.keep (HD.out.trans HB6.out), ?_⟩
        refine wpAnyE_one (i := 11) (by kernel_rfl) ?_
        intro Y7 hy7
        have HB7 := Lib.hid (HB6.out.trans hy7)
        have HLP7 := Lib.hid (HLP6.out.keep hy7)
        have H77 := Lib.hid (H7.out.keep (HD.out.trans HB7.out))
        have fr7 := H77.out.frozen
        have cc7 := H77.out.cell 3 _ rfl
        clear hy7 HB6 HLP6
        go_simp
        clear fr7 cc7
        have hne : gA ≠ g7 := by have := GA.out.lt; have := HBL.out.size; have := HG7e.out; omega
        refine ⟨AC.other (GAU.out.keep (HD.out.trans HB7.out)) hne, ?_⟩
        refine wpAnyE_done (by kernel_rfl) ?_
        intro Y8 hy8
        refine ⟨v1, gl, gp, cp, rfl, ⟨?_, ?_, ?_, ?_⟩⟩
        · exact Bl.trans (show Bl wr _ from (HBW.out.trans (HD.out.trans HB7.out)).setCell (p := ⟨g7, 3, none⟩) (by have := HG7e.out; show wr.heap.size ≤ g7; omega) (.slice (some ⟨gp, 0, none⟩) pn1 cp)) hy8
        · exact (AC.setj H77.out 3 (.slice (some ⟨gp, 0, none⟩) pn1 cp)).keep hy8
        · exact ((LX.out.keep (HD.out.trans HB7.out)).setr (q := g7) (Nat.lt_succ_self _) 3 _).keep hy8
        · exact (HLP7.out.setq (q := g7) (by have := HG7.out; have := HZS2.out; omega) 3 _).keep hy8
      · go_simp
        have HNEW0 := Lib.hid (heap_alloc_new Y0 (.cells #[.string markPr, .bool false, .float .f64 0, .int .i64 0, .string ⟨#[]⟩] 58))
        have HB0' := Lib.hid (hy0.alloc (.cells #[.string markPr, .bool false, .float .f64 0, .int .i64 0, .string ⟨#[]⟩] 58))
        clear hy0
        unfold markPr at HNEW0 HB0'
        generalize Y0.alloc _ = Ya at *
        generalize Y0.heap.size = gl at *
        refine ⟨GAU.out.keep (HD.out.trans HB0'.out), ?_⟩
        refine wpAnyE_one (i := 2) (by kernel_rfl) ?_
        intro Y1 hy1
        refine eOp_appG rfl rfl _ _ 24 rfl el_pair Z.heap.size (.slice none 0 0) 0 [] rfl (World.ownsRow_nil _ _ _ _) (HB0'.out.trans hy1).size pd1 pn1 pc1 (cellsP ps1) rfl (PP.sg5 (HPU.out.keep (HD.out.trans (HB0'.out.trans hy1)))) (by unfold maxLen; omega) (by omega) ?_
        intro v1 Yt ho hg
        have hk1 : Bl Y1 Yt := (Bl.refl Y1).ownRow (World.ownsRow_nil Y1 Y1.heap.size 58 5) (Nat.le_refl _) hg
        have HBZ := Lib.hid ((HB0'.out.trans hy1).trans hk1)
        have HNEW := Lib.hid ((hy1.trans hk1).heap HNEW0.out)
        have HO : Hid (Yt.ownsRow Z.heap.size 58 5 v1 pn1 (cellsP ps1)) := Lib.hid (by simpa using ho)
        clear ho hg hk1 hy1 HNEW0 HB0'
        refine ⟨GAU.out.keep (HD.out.trans HBZ.out), ?_⟩
        simp only [Act.put, List.setIfInBounds_toArray, List.set_cons_zero, List.set_cons_succ]
        refine wpAnyE_one (i := 5) (by kernel_rfl) ?_
        intro Y3 hy3
        refine eOp_appG rfl rfl _ _ 24 rfl el_pair Z.heap.size v1 pn1 (cellsP ps1) rfl (ownsRow_bl HO.out hy3) (HBZ.out.trans hy3).size (some ⟨gl, 0, none⟩) 1 1 [.string markPr, .bool false, .float .f64 0, .int .i64 0, .string ⟨#[]⟩] rfl (SG.lit (hy3.heap HNEW.out) rfl (by simp [Value.oneCell'])) (by unfold maxLen; omega) (by omega) ?_
        intro v2 w3 ho3 hg3
        have hb4 : Bl Z w3 := (HBZ.out.trans hy3).ownRow (ownsRow_bl HO.out hy3) (Nat.le_refl _) hg3
        obtain ⟨gp, cp, rfl⟩ : ∃ gp cp, v2 = .slice (some ⟨gp, 0, none⟩) (pn1 + 1) cp := by
          obtain ⟨_, ⟨_, e⟩ | ⟨g', cap, cur, e, _⟩⟩ := ho3
          · omega
          · exact ⟨g', cap, e⟩
        have HLP : Hid (LPr Z.heap.size w3 gp pn1 cp ps1) := Lib.hid ⟨by rw [cellsP_snoc]; exact ho3, HLEN.out, by omega, HXA.out⟩
        have hmc := HLP.out.mark.2
        have hmc2 : pn1 ≤ cp := by omega
        have HB4 := Lib.hid hb4
        clear ho3 hg3 hb4 hy3 HO HBZ HNEW
        refine ⟨GAU.out.keep (HD.out.trans HB4.out), ?_⟩
        simp only [Act.put, List.setIfInBounds_toArray, List.set_cons_zero, List.set_cons_succ]
        refine wpAnyE_one (i := 9) (by kernel_rfl) ?_
        intro Y5 hy5
        go_simp
        try rw [if_pos hmc2]
        try dsimp only
        have HB5 := Lib.hid (HB4.out.trans hy5)
        have HLP5 := Lib.hid (HLP.out.keep hy5)
        clear hy5 HB4 HLP
        refine ⟨GAU.out.keep (HD.out.trans HB5.out), ?_⟩
        refine wpAnyE_one (i := 10) (by kernel_rfl) ?_
        intro Y6 hy6
        go_simp
        have HB6 := Lib.hid (HB5.out.trans hy6)
        have HLP6 := Lib.hid (HLP5.out.keep hy6)
        clear hy6 HB5 HLP5
        refine ⟨GAU.out.keep (HD.out.trans HB6.out), ?_⟩
        refine wpAnyE_one (i := 11) (by kernel_rfl) ?_
        intro Y7 hy7
        have HB7 := Lib.hid (HB6.out.trans hy7)
        have HLP7 := Lib.hid (HLP6.out.keep hy7)
        have H77 := Lib.hid (H7.out.keep (HD.out.trans HB7.out))
        have fr7 := H77.out.frozen
        have cc7 := H77.out.cell 3 _ rfl
        clear hy7 HB6 HLP6
        go_simp
        clear fr7 cc7
        have hne : gA ≠ g7 := by have := GA.out.lt; have := HBL.out.size; have := HG7e.out; omega
        refine ⟨AC.other (GAU.out.keep (HD.out.trans HB7.out)) hne, ?_⟩
        refine wpAnyE_done (by kernel_rfl) ?_
        intro Y8 hy8
        refine ⟨v1, gl, gp, cp, rfl, ⟨?_, ?_, ?_, ?_⟩⟩
        · exact Bl.trans (show Bl wr _ from (HBW.out.trans (HD.out.trans HB7.out)).setCell (p := ⟨g7, 3, none⟩) (by have := HG7e.out; show wr.heap.size ≤ g7; omega) (.slice (some ⟨gp, 0, none⟩) pn1 cp)) hy8
        · exact (AC.setj H77.out 3 (.slice (some ⟨gp, 0, none⟩) pn1 cp)).keep hy8
        · exact ((LX.out.keep (HD.out.trans HB7.out)).setr (q := g7) (Nat.lt_succ_self _) 3 _).keep hy8
        · exact (HLP7.out.setq (q := g7) (by have := HG7.out; have := HZS2.out; omega) 3 _).keep hy8
    case h2 =>
      rintro a' w9 ⟨v1, gl, gp, cp, rfl, hx⟩
      simp only [Act.put, List.setIfInBounds_toArray, List.set_cons_zero, List.set_cons_succ]
      have HX := Lib.hid hx
      clear hx HBW H7 LX HG7 GAU HPU HD HZS2
      have hmk1 : (markPr.toList == [109, 97, 114, 107]) = true := markPr_eq
      have FX1 := Lib.hid (fun W (hb : Bl wr W) => HX1.out.keep (HW.out.trans (HBL.out.trans hb)))
      have FP1 := Lib.hid (fun W (hb : Bl wr W) => HP1.out.keep (HW.out.trans (HBL.out.trans hb)))
      have FY := Lib.hid (fun W (hb : Bl wr W) => (HFR.out.bl hb).ac HGY.out HNB.out)
      have FYX := Lib.hid (fun W (hb : Bl wr W) => (HFY2.out.fr (HFR.out.bl hb) hg4).far.1)
      have FYP := Lib.hid (fun W (hb : Bl wr W) => (FarPO.far (HPY2.out.fr (HFR.out.bl hb) hg4) (by omega)).1)
      obtain ⟨h0, h1, h2, h3⟩ := AC.arc HX.out.a
      go_wp2_with fail
      refine (HAW.out (some ⟨gx, 0, none⟩) cx (some ⟨gp, 0, none⟩) cp _ HX.out.x.ia HX.out.p.pp.pa).mono ?_
      rintro e wA ⟨rfl, hb⟩
      replace HX := Lib.hid (HX.out.keep hb)
      clear hb h0 h1 h2 h3 HAW
      go_wp2_with fail
      refine (HPG2.out _).mono ?_
      rintro e wG ⟨ad4, ac4, pd4, pc4, rfl, hF, hP, hb⟩
      have HFZ := Lib.hid hF
      have HPZ := Lib.hid hP
      have HXB := Lib.hid HX.out.bl
      have HBG := Lib.hid hb
      replace HX := Lib.hid (HX.out.keep hb)
      clear hF hP hb
      have HGZ := Lib.hid (AC.new wG _ rfl [.int .i64 n3, .int .i64 parts3, .slice ad4 xn ac4, .slice pd4 pn pc4] 26)
      have hbz := (Bl.refl wG).alloc (.cells #[.int .i64 n3, .int .i64 parts3, .slice ad4 xn ac4, .slice pd4 pn pc4] 26)
      have HZX : Hid (IA (wG.alloc (.cells #[.int .i64 n3, .int .i64 parts3, .slice ad4 xn ac4, .slice pd4 pn pc4] 26)) ad4 xn xs3) := Lib.hid (HFZ.out.far.1.keep hbz)
      have HZP : Hid (PP (wG.alloc (.cells #[.int .i64 n3, .int .i64 parts3, .slice ad4 xn ac4, .slice pd4 pn pc4] 26)) pd4 pn ps3) := Lib.hid ((PP.own HPZ.out.2 HPL.out (by omega) HOK3.out).keep hbz)
      have HXZ := Lib.hid (HX.out.keep hbz)
      have HBZ0 := Lib.hid hbz
      clear hbz
      go_upto_region 14 with fail
      generalize hwz : World.alloc _ _ = wZ at *
      have HWZ := Lib.hid hwz
      clear hwz
      refine wp_region_allS (by kernel_rfl) (by kernel_rfl) ?_
      have HXd := Lib.hid (HXZ.out.keep (Bl.refl wZ).drew)
      have HGd := Lib.hid (HGZ.out.keep (Bl.refl wZ).drew)
      have HZXd := Lib.hid (HZX.out.keep (Bl.refl wZ).drew)
      have HZPd := Lib.hid (HZP.out.keep (Bl.refl wZ).drew)
      have V1 := Lib.hid (fun q : Ext wZ.drew => plain_any n3 parts3 ad4 xn ac4 pd4 pn pc4 q.at)
      have V2 := Lib.hid (fun q : Ext wZ.drew => refSameArc_yes n3 parts3 xs3 ad4 ad3 xn ac4 ac3 pd4 pd3 pn pc4 pc3 ps3 qs3 q.at (HZXd.out.keep q.bl) (FYX.out _ (HXd.out.keep q.bl).bl) (HZPd.out.keep q.bl).pa (FYP.out _ (HXd.out.keep q.bl).bl) HSM)
      have V3 := Lib.hid (fun q : Ext wZ.drew => HAV.out (some ⟨gx, 0, none⟩) cx (some ⟨gp, 0, none⟩) cp q.at (HXd.out.keep q.bl).x.ia (HXd.out.keep q.bl).p.pp.pa)
      have V4 := Lib.hid (fun q : Ext wZ.drew => plain_any n1 parts1 ad1 an1 ac1 pd1 pn1 pc1 q.at)
      have V5 := Lib.hid (fun q : Ext wZ.drew => HRV.out q.at (FX1.out _ (HXd.out.keep q.bl).bl) (FP1.out _ (HXd.out.keep q.bl).bl).pa)
      have V6 := Lib.hid (fun q : Ext wZ.drew => arcAct_agg key vb vx vn vs ak ax an2 az q.at hkz HA)
      have V7 := Lib.hid (fun q : Ext wZ.drew => r24Act_agg key vb vx vn vs ak ax an2 az q.at hkz HA)
      have V8 := Lib.hid (fun q : Ext wZ.drew => rsameA_one ak ax an2 az q.at HAO)
      have h0 := fun q : Ext wZ.drew => ((HXd.out.keep q.bl).a).cell 0 _ rfl
      have h1 := fun q : Ext wZ.drew => ((HXd.out.keep q.bl).a).cell 1 _ rfl
      have h2 := fun q : Ext wZ.drew => ((HXd.out.keep q.bl).a).cell 2 _ rfl
      have h3 := fun q : Ext wZ.drew => ((HXd.out.keep q.bl).a).cell 3 _ rfl
      have k0 := fun q : Ext wZ.drew => (GA.out.keep (HBL.out.trans (HXd.out.keep q.bl).bl)).cell 0 _ rfl
      have k1 := fun q : Ext wZ.drew => (GA.out.keep (HBL.out.trans (HXd.out.keep q.bl).bl)).cell 1 _ rfl
      have k2 := fun q : Ext wZ.drew => (GA.out.keep (HBL.out.trans (HXd.out.keep q.bl).bl)).cell 2 _ rfl
      have k3 := fun q : Ext wZ.drew => (GA.out.keep (HBL.out.trans (HXd.out.keep q.bl).bl)).cell 3 _ rfl
      have l0 := fun q : Ext wZ.drew => (GV.out.keep (HBL.out.trans (HXd.out.keep q.bl).bl)).cell 0 _ rfl
      have l1 := fun q : Ext wZ.drew => (GV.out.keep (HBL.out.trans (HXd.out.keep q.bl).bl)).cell 1 _ rfl
      have l2 := fun q : Ext wZ.drew => (GV.out.keep (HBL.out.trans (HXd.out.keep q.bl).bl)).cell 2 _ rfl
      have l3 := fun q : Ext wZ.drew => (GV.out.keep (HBL.out.trans (HXd.out.keep q.bl).bl)).cell 3 _ rfl
      have y0 := fun q : Ext wZ.drew => (FY.out _ (HXd.out.keep q.bl).bl).cell 0 _ rfl
      have y1 := fun q : Ext wZ.drew => (FY.out _ (HXd.out.keep q.bl).bl).cell 1 _ rfl
      have y2 := fun q : Ext wZ.drew => (FY.out _ (HXd.out.keep q.bl).bl).cell 2 _ rfl
      have y3 := fun q : Ext wZ.drew => (FY.out _ (HXd.out.keep q.bl).bl).cell 3 _ rfl
      have z0 := fun q : Ext wZ.drew => (HGd.out.keep q.bl).cell 0 _ rfl
      have z1 := fun q : Ext wZ.drew => (HGd.out.keep q.bl).cell 1 _ rfl
      have z2 := fun q : Ext wZ.drew => (HGd.out.keep q.bl).cell 2 _ rfl
      have z3 := fun q : Ext wZ.drew => (HGd.out.keep q.bl).cell 3 _ rfl
      repeat (refine wpS_step (fun K hK => ?_); go_simp; first | (refine hK _ ?_; clear hK K) | (apply Exists.intro; refine ⟨fun q => ?_, hK _ ?_⟩; (first | with_reducible exact V1.out q | with_reducible exact V2.out q | with_reducible exact V3.out q | with_reducible exact V4.out q | with_reducible exact V5.out q | with_reducible exact V6.out q | with_reducible exact V7.out q | with_reducible exact V8.out q); clear hK K))
      refine wpS_nil ?_
      intro q1
      have HQ1 : Hid (Bl wZ q1.at) := Lib.hid ((Bl.refl wZ).drew.trans q1.bl)
      clear V1 V2 V3 V4 V5 V6 V7 V8 HXd HGd HZXd HZPd h0 h1 h2 h3 k0 k1 k2 k3 l0 l1 l2 l3 y0 y1 y2 y3 z0 z1 z2 z3
      generalize q1.at = X at *
      clear q1
      have HXX := Lib.hid (HXZ.out.keep HQ1.out)
      have hmc2 := HXX.out.p.mark.2
      obtain ⟨M, hM⟩ : ∃ M : Nat, pn1 + 1 = M := ⟨_, rfl⟩
      have wM : IntKind.i64.wrap ((pn1 : Int) + 1) = (M : Int) := by rw [IntKind.wrap_i64]; omega
      have hM1 : M ≤ cp := by omega
      have hM2 : pn1 < M := by omega
      have hM3 : (pn1 : Int) < (M : Int) := by omega
      clear hM hmc2
      go_upto_region 16 with fail
      refine wp_region_allS (by kernel_rfl) (by kernel_rfl) ?_
      have HXd := Lib.hid (HXX.out.keep (Bl.refl X).drew)
      have HSR : Hid (∀ j, j < pn1 → (nthQ ps1 j).1 = (nthQ ps1 j).1 ∧ sameV (nthQ ps1 j).2 (nthQ ps1 j).2 = true ∧ (nthQ ps1 j).2.Ok ∧ (nthQ ps1 j).2.Ok) := Lib.hid (fun j hj => by
        have := HP1.out.ok _ (nthQ_mem (show j < ps1.length by rw [HP1.out.len]; exact hj))
        exact ⟨rfl, sameV_refl _, this.2, this.2⟩)
      have V2 := Lib.hid (fun q : Ext X.drew => samePairs_yes (some ⟨gp, 0, none⟩) pd1 pn1 cp pc1 ps1 ps1 q.at (HXd.out.keep q.bl).p.pp.pa (FP1.out _ (HXd.out.keep q.bl).bl).pa HSR)
      have V3 := Lib.hid (fun q : Ext X.drew => staysVec_any _ gx an1 cx ad1 an1 ac1 xs1 q.at (HXd.out.keep q.bl).x (FX1.out _ (HXd.out.keep q.bl).bl) (Nat.le_trans han (by decide)))
      have xm := fun q : Ext X.drew => (HXd.out.keep q.bl).p.mark.1
      have h0 := fun q : Ext X.drew => ((HXd.out.keep q.bl).a).cell 0 _ rfl
      have h1 := fun q : Ext X.drew => ((HXd.out.keep q.bl).a).cell 1 _ rfl
      have h2 := fun q : Ext X.drew => ((HXd.out.keep q.bl).a).cell 2 _ rfl
      have h3 := fun q : Ext X.drew => ((HXd.out.keep q.bl).a).cell 3 _ rfl
      have k0 := fun q : Ext X.drew => (GA.out.keep (HBL.out.trans (HXd.out.keep q.bl).bl)).cell 0 _ rfl
      have k1 := fun q : Ext X.drew => (GA.out.keep (HBL.out.trans (HXd.out.keep q.bl).bl)).cell 1 _ rfl
      have k2 := fun q : Ext X.drew => (GA.out.keep (HBL.out.trans (HXd.out.keep q.bl).bl)).cell 2 _ rfl
      have k3 := fun q : Ext X.drew => (GA.out.keep (HBL.out.trans (HXd.out.keep q.bl).bl)).cell 3 _ rfl
      repeat (refine wpS_step (fun K hK => ?_); go_simp; first | (refine hK _ ?_; clear hK K) | (apply Exists.intro; refine ⟨fun q => ?_, hK _ ?_⟩; (first | with_reducible exact V2.out q | with_reducible exact V3.out q); clear hK K))
      refine wpS_nil ?_
      intro q1
      replace HQ1 := Lib.hid (HQ1.out.trans ((Bl.refl X).drew.trans q1.bl))
      clear V2 V3 xm HXd HXX h0 h1 h2 h3 k0 k1 k2 k3 wM hM1 hM2 hM3
      generalize q1.at = X2 at *
      clear q1
      have HGX := Lib.hid (HGZ.out.keep HQ1.out)
      have VQM : Hid (VQm W2 X2 g (.slice ad4 xn ac4) xs3 (.slice pd4 pn pc4) pn ps3 wG.heap.size [.int .i64 n3, .int .i64 parts3, .slice ad4 xn ac4, .slice pd4 pn pc4]) := Lib.hid (VQm.new HFR.out HLT.out HBQ.out HXB.out HBG.out (HBZ0.out.trans HQ1.out) HFZ.out HPZ.out rfl HGX.out)
      have q2 := HGX.out.cell 2 _ rfl
      clear HGX HGZ HXZ HZX HZP HXB HBG
      go_wp2_with fail
      refine (vq_first W2 X2 g _ _ xs3 _ pn ps3 _ _ VQM.out (by have := HXL.out; omega) rfl).mono ?_
      rintro e wV ⟨rfl, hv⟩
      have HVO2 := Lib.hid hv
      have q3 := hv.box.cell 3 _ rfl
      clear hv q2
      go_wp2_with fail
      refine (vq_last W2 _ g _ _ pn ps3 _ _ HVO2.out (by omega) HOK3.out rfl).mono ?_
      rintro e wP ⟨rfl, h1, h2⟩
      have HE1 := Lib.hid h1
      have HE2 := Lib.hid h2
      clear h1 h2 q3 HVO2 VQM
      go_wp2_with fail
      go_roundw
      case rel => exact ⟨k + 1, by omega, by go_num, HE1.out, HE2.out⟩
      case measure => simp [intOf]; omega
end Go.Proofs.YtaplefelfiefaaaGreat
end
