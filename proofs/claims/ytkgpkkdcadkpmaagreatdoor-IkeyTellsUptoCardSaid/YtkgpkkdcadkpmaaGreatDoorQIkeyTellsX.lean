import Derived.Test.YtkgpkkdcadkpmaaGreatDoorQIkeyBoth
import Derived.Test.YtkgpkkdcadkpmaaGreatDoorQIkeyTellsUptoP28
import Derived.Test.YtkgpkkdcadkpmaaGreatDoorQIkeyTellsUptoP20

/- the walk of IkeyTells (printed by wip/gen/ikeytells.py). By an AI agent. -/
section
set_option linter.unusedVariables false
set_option linter.unusedSimpArgs false
namespace Go.Proofs.YtkgpkkdcadkpmaaGreatDoor
open Go.RowKit Go.Shelf

/-- where a box that lay there before is written on, a lent vector stays -/
theorem LV.setq {B : Nat} {W : World} {g n c : Nat} {xs : List Int} (h : LV B W g n c xs) {q : Nat} (hq : q < B) (j : Nat) (u : Value) : LV B (W.setCell ⟨q, j, none⟩ u) g n c xs := by
  refine ⟨?_, h.len, h.cap, h.wf⟩
  have ho := h.own
  unfold OI at ho ⊢
  obtain ⟨h1, h2 | ⟨g, cap, cur, hv, hB, hg, r⟩⟩ := ho
  · exact ⟨h1, .inl h2⟩
  · exact ⟨h1, .inr ⟨g, cap, cur, hv, hB, by rw [Below.heap_setCell _ _ _ _ (by show g ≠ q; omega)]; exact hg, r⟩⟩
theorem isKeyB_any (s : ByteArray) (w : World) (hs : s.size ≤ 140737488351232) : Calls Tryz.prog 14 #[.string s] w fun e w' => e = .returned (.bool (isKeyB s)) ∧ Bl w w' :=
  (isKey_any s w hs).mono (by rintro e w' ⟨rfl, rfl⟩; exact ⟨rfl, Bl.refl _⟩)
theorem rIsKeyB_any (s : ByteArray) (w : World) (hs : s.size ≤ 140737488351232) : Calls Tryz.prog 15 #[.string s] w fun e w' => e = .returned (.bool (isKeyB s)) ∧ Bl w w' :=
  (refIsKey_any s w hs).mono (by rintro e w' ⟨rfl, rfl⟩; exact ⟨rfl, Bl.refl _⟩)
theorem bp_vecE (w : World) (g : Nat) (hg : w.heap.size = g) (v : Value) (zs : List Int) (ps : List (Value × List Int)) (W : World) (hb : Bl w W) (h : BP w.heap.size W w.heap.size ((v, zs) :: ps) (fun b => b < w.heap.size)) :
    Calls Tryz.prog 19 #[.pointer (some ⟨g, 0, none⟩), v] W fun e W' => e = .returned (.tuple #[]) ∧ BP w.heap.size W' w.heap.size ps (fun b => b < w.heap.size) ∧ Bl w W' := by
  subst hg
  exact bp_vecS w v zs ps W hb h
theorem bp_apartE (w : World) (g : Nat) (hg : w.heap.size = g) (W : World) (hB : w.heap.size ≤ W.heap.size) (h : BP w.heap.size W w.heap.size [] (fun b => b < w.heap.size)) :
    Calls Tryz.prog 20 #[.pointer (some ⟨g, 0, none⟩)] W fun e w' => e = .returned (.bool true) ∧ Fr (fun b => w.heap.size ≤ b) W w' := by
  subst hg
  exact bp_apart _ _ _ _ hB h
set_option maxHeartbeats 6400000 in
set_option maxRecDepth 100000 in
theorem ikeyTells_gen (key : ByteArray) (a : Option Addr) (n ca : Nat) (xs : List Int) (o t ak : Int) (ax : Nat) (an : Int) (az : ByteArray) (s : ByteArray) (w : World) (hx : IA w a n xs) (hkey : key.size ≤ 140737488351232) (hs : s.size ≤ 140737488351232) :
    Calls Tryz.prog 3 #[.agg #[.string key, .slice a n ca, .int .i64 o, .int .i64 t, .int .i64 ak, .float .f64 ax, .int .i64 an, .string az], .string s] w fun e w' => e = .returned (.bool true) ∧ Bl w w' := by
  have hsf := store_float
  have HX := Lib.hid hx
  have G := ver_box w key a n ca o t ak ax an az
  have HW := Lib.hid ((Bl.refl w).alloc (.cells #[.string key, .slice a n ca, .int .i64 o, .int .i64 t, .int .i64 ak, .float .f64 ax, .int .i64 an, .string az] 28))
  obtain ⟨k0, k1, k2, k3, k4, k5, k6, k7⟩ := G.ver
  have GH := Lib.hid G
  clear G hx
  by_cases h1 : 3000 < key.size
  · have d1 : decide ((3000 : Int) < (key.size : Int)) = true := decide_eq_true (by omega)
    have d2 : decide (3000 < key.size) = true := decide_eq_true h1
    go_enter Tryz.func3, Tryz.ntmps3
    go_wp2_with fail
    refine (alive5_any _).mono ?_
    rintro e w1 ⟨rfl, hb⟩
    go_wp2_with fail
    go_ret
    exact ⟨rfl, HW.out.trans hb⟩
  have d1 : decide ((3000 : Int) < (key.size : Int)) = false := decide_eq_false (by omega)
  have d2 : decide (3000 < key.size) = false := decide_eq_false h1
  by_cases h2 : 60 < n
  · have d3 : decide ((60 : Int) < (n : Int)) = true := decide_eq_true (by omega)
    have d4 : decide (60 < n) = true := decide_eq_true h2
    go_enter Tryz.func3, Tryz.ntmps3
    go_wp2_with fail
    refine (alive5_any _).mono ?_
    rintro e w1 ⟨rfl, hb⟩
    go_wp2_with fail
    go_ret
    exact ⟨rfl, HW.out.trans hb⟩
  have d3 : decide ((60 : Int) < (n : Int)) = false := decide_eq_false (by omega)
  have d4 : decide (60 < n) = false := decide_eq_false h2
  by_cases h3 : 3000 < s.size
  · have d5 : decide ((3000 : Int) < (s.size : Int)) = true := decide_eq_true (by omega)
    have d6 : decide (3000 < s.size) = true := decide_eq_true h3
    go_enter Tryz.func3, Tryz.ntmps3
    go_wp2_with fail
    refine (alive5_any _).mono ?_
    rintro e w1 ⟨rfl, hb⟩
    go_wp2_with fail
    go_ret
    exact ⟨rfl, HW.out.trans hb⟩
  have d5 : decide ((3000 : Int) < (s.size : Int)) = false := decide_eq_false (by omega)
  have d6 : decide (3000 < s.size) = false := decide_eq_false h3
  have HK := Lib.hid (show key.size ≤ 3000 by omega)
  have HN := Lib.hid (show n ≤ 60 by omega)
  have HS := Lib.hid (show s.size ≤ 3000 by omega)
  obtain ⟨r, hr⟩ : ∃ r, strL (kputS ⟨key, xs, o, t, ⟨ak, ax, an, az⟩⟩) = r := ⟨_, rfl⟩
  obtain ⟨c, hc⟩ : ∃ c, kputC ⟨key, xs, o, t, ⟨ak, ax, an, az⟩⟩ = c := ⟨_, rfl⟩
  obtain ⟨vb, hvb⟩ : ∃ b, validK ⟨key, xs, o, t, ⟨ak, ax, an, az⟩⟩ = b := ⟨_, rfl⟩
  have HRC : Hid (SB r (kputS ⟨key, xs, o, t, ⟨ak, ax, an, az⟩⟩) ∧ kputC ⟨key, xs, o, t, ⟨ak, ax, an, az⟩⟩ = c) := Lib.hid ⟨by rw [← hr]; exact strL_SB _, hc⟩
  have HVB := Lib.hid hvb
  clear hr hc hvb h1 h2 h3
  go_enter Tryz.func3, Tryz.ntmps3
  go_wp2_with fail
  clear d1 d2 d3 d4 d5 d6 k0 k1 k2 k3 k4 k5 k6 k7
  have hsz1 : (w.alloc (.cells #[.string key, .slice a n ca, .int .i64 o, .int .i64 t, .int .i64 ak, .float .f64 ax, .int .i64 an, .string az] 28)).heap.size = w.heap.size + 1 := by simp
  generalize w.heap.size = ga at *
  generalize w.alloc (.cells #[.string key, .slice a n ca, .int .i64 o, .int .i64 t, .int .i64 ak, .float .f64 ax, .int .i64 an, .string az] 28) = W1 at *
  have HSZ := Lib.hid hsz1
  clear hsz1
  have HB0 := Lib.hid (fun T => BP.new (T := fun b => b < W1.heap.size) (Nat.le_refl W1.heap.size) (AC.new W1 _ rfl (bookCs (.slice none 0 0) (.slice none 0 0)) T) (fun b hb => ⟨by simp; omega, by omega⟩))
  go_loopw [6] (fun kv wr => ∃ k : Nat, k ≤ 2 ∧ kv = .int .i64 k ∧ Bl W1 wr ∧ BP W1.heap.size wr W1.heap.size [] (fun b => b < W1.heap.size)) (fun kv _ => 2 - (intOf kv).toNat)
  case atStart => exact ⟨0, by omega, rfl, (Bl.refl W1).alloc _, HB0.out _⟩
  case round =>
    obtain ⟨k, hk, rfl, hb, hbp⟩ := hrel
    have HBL := Lib.hid hb
    have HBP := Lib.hid hbp
    clear hb hbp HB0
    by_cases hlt : k < 2
    · have hca := GH.out.keep HBL.out
      obtain ⟨c0, c1, c2, c3, c4, c5, c6, c7⟩ := hca.ver
      have G7 := Lib.hid (ver_box wr key a n ca o t ak ax an az)
      have f1 := fun o => ((Bl.refl wr).alloc o).cell c1
      clear hca
      go_wp2_with fail
      refine (lentVec_any a n ca xs _ (HX.out.keep (HW.out.trans (HBL.out.trans ((Bl.refl wr).alloc _)))) (Nat.le_trans HN.out (by decide))).mono ?_
      rintro e w2 ⟨gx, cx, rfl, lx, hb2⟩
      have hbW2 : Bl wr (w2.setCell ⟨wr.heap.size, 1, none⟩ (.slice (some ⟨gx, 0, none⟩) n cx)) := (((Bl.refl wr).alloc _).trans hb2).setCell (p := ⟨wr.heap.size, 1, none⟩) (Nat.le_refl _) _
      have gx7 : AC (w2.setCell ⟨wr.heap.size, 1, none⟩ (.slice (some ⟨gx, 0, none⟩) n cx)) wr.heap.size (verC key (some ⟨gx, 0, none⟩) n cx o t ak ax an az) := AC.setj (G7.out.keep hb2) 1 _
      have LX := Lib.hid (lx.setq (q := wr.heap.size) (by simp) 1 (.slice (some ⟨gx, 0, none⟩) n cx))
      clear f1 lx c0 c1 c2 c3 c4 c5 c6 c7
      have fr5 := (G7.out.keep hb2).frozen
      have cc5 := (G7.out.keep hb2).cell 1 _ rfl
      obtain ⟨e0, e1, e2, e3, e4, e5, e6, e7⟩ := gx7.ver
      have H7 := Lib.hid gx7
      have HBP2 := Lib.hid (HBP.out.keep hbW2)
      have HBW := Lib.hid (HBL.out.trans hbW2)
      clear gx7 hbW2 G7 hb2
      go_wp2_with fail
      generalize w2.setCell _ _ = U at *
      generalize wr.heap.size = g7 at *
      clear HBL HBP
      refine (kput_any key (some ⟨gx, 0, none⟩) n cx xs o t ak ax an az r c _ hkey LX.out.ia HRC).mono ?_
      rintro e w3 ⟨rfl, hb3⟩
      have H73 := Lib.hid (H7.out.keep hb3)
      have LX3 := Lib.hid (LX.out.keep hb3)
      have P3 := Lib.hid (HBP2.out.keep hb3)
      have B3 := Lib.hid (HBW.out.trans hb3)
      clear hb3 H7 LX HBP2 HBW e0 e1 e2 e3 e4 e5 e6 e7 cc5 fr5
      obtain ⟨c0, c1, c2, c3, c4, c5, c6, c7⟩ := (GH.out.keep B3.out).ver
      go_wp2_with fail
      refine (r5put_any key a n ca xs o t ak ax an az r c _ hkey (HX.out.keep (HW.out.trans B3.out)) HRC).mono ?_
      rintro e w4 ⟨rfl, hb4⟩
      have H74 := Lib.hid (H73.out.keep hb4)
      have LX4 := Lib.hid (LX3.out.keep hb4)
      have P4 := Lib.hid (P3.out.keep hb4)
      have B4 := Lib.hid (B3.out.trans hb4)
      clear hb4 H73 LX3 P3 B3 c0 c1 c2 c3 c4 c5 c6 c7
      go_wp2_with fail
      refine (kget_ky s s.data.toList _ rfl (by have := HS.out; simpa using (by omega : s.size ≤ 1000000))).mono ?_
      rintro e w5 ⟨ky, ya, yn, yc, ys, oy, ty, cd, rfl, hf, hb5, hky⟩
      have HKY := Lib.hid hky
      have P5 := Lib.hid (P4.out.push hb5 B4.out.size (v := .slice ya yn yc) (ys := ys) hf (by have := hky.len; omega))
      have HFY := Lib.hid (hf.far.1)
      have H75 := Lib.hid (H74.out.keep hb5)
      have LX5 := Lib.hid (LX4.out.keep hb5)
      have B5 := Lib.hid (B4.out.trans hb5)
      have GY := Lib.hid (ver_box w5 ky ya yn yc oy ty 0 0 0 ⟨#[]⟩)
      have by5 := (Bl.refl w5).alloc (.cells #[.string ky, .slice ya yn yc, .int .i64 oy, .int .i64 ty, .int .i64 0, .float .f64 0, .int .i64 0, .string ⟨#[]⟩] 28)
      have P6 := Lib.hid (P5.out.keep by5)
      have HFY6 := Lib.hid (HFY.out.keep by5)
      have H76 := Lib.hid (H75.out.keep by5)
      have LX6 := Lib.hid (LX5.out.keep by5)
      have B6 := Lib.hid (B5.out.trans by5)
      clear hb5 hf hky by5 P4 H74 LX4 B4 P5 HFY H75 LX5 B5
      go_wp2_with fail
      generalize w5.alloc _ = w6 at *
      generalize w5.heap.size = gy at *
      refine (r5get_ky s s.data.toList ky ys oy ty cd _ rfl (by have := HS.out; simpa using (by omega : s.size ≤ 1000000)) HKY.out).mono ?_
      rintro e w7 ⟨za, zn, zc, rfl, hz, hb7⟩
      have GZ := Lib.hid (ver_box w7 ky za zn zc oy ty 0 0 0 ⟨#[]⟩)
      have bz7 := hb7.alloc (.cells #[.string ky, .slice za zn zc, .int .i64 oy, .int .i64 ty, .int .i64 0, .float .f64 0, .int .i64 0, .string ⟨#[]⟩] 28)
      have HFZ := Lib.hid (hz.keep ((Bl.refl w7).alloc (.cells #[.string ky, .slice za zn zc, .int .i64 oy, .int .i64 ty, .int .i64 0, .float .f64 0, .int .i64 0, .string ⟨#[]⟩] 28)))
      have P8 := Lib.hid (P6.out.keep bz7)
      have HFY8 := Lib.hid (HFY6.out.keep bz7)
      have GY8 := Lib.hid (GY.out.keep bz7)
      have H78 := Lib.hid (H76.out.keep bz7)
      have LX8 := Lib.hid (LX6.out.keep bz7)
      have B8 := Lib.hid (B6.out.trans bz7)
      clear hz hb7 bz7 P6 HFY6 GY H76 LX6 B6
      go_wp2_with fail
      generalize w7.alloc _ = w8 at *
      generalize w7.heap.size = gz at *
      refine (kkey_ky s s.data.toList ky ys oy ty cd _ rfl (by have := HS.out; simpa using (by omega : s.size ≤ 1000000)) HKY.out).mono ?_
      rintro e w9 ⟨rfl, hb9⟩
      have bD : Bl w8 w9.drew := hb9.drew
      have P9 := Lib.hid (P8.out.keep bD)
      have Y9 := Lib.hid (HFY8.out.keep bD)
      have Z9 := Lib.hid (HFZ.out.keep bD)
      have GY9 := Lib.hid (GY8.out.keep bD)
      have GZ9 := Lib.hid (GZ.out.keep bD)
      have H79 := Lib.hid (H78.out.keep bD)
      have LX9 := Lib.hid (LX8.out.keep bD)
      have B9 := Lib.hid (B8.out.trans bD)
      have GA9 := Lib.hid (GH.out.keep B9.out)
      have X9 := Lib.hid (HX.out.keep (HW.out.trans B9.out))
      clear hb9 bD P8 HFY8 HFZ GY8 GZ H78 LX8 B8
      go_upto_region 14 with fail
      refine wp_region_allS (by kernel_rfl) (by kernel_rfl) ?_
      have V1 := Lib.hid (fun q : Ext w9.drew => sameVer_any ky ya yn yc ys oy ty ky za zn zc ys oy ty true q.at (Y9.out.keep q.bl) (Z9.out.keep q.bl) (Lib.hid (decide_eq_true ⟨rfl, rfl, rfl, rfl⟩)))
      have V2 := Lib.hid (fun q : Ext w9.drew => kvalid_any key (some ⟨gx, 0, none⟩) n cx xs o t ak ax an az vb q.at hkey (LX9.out.keep q.bl).ia HVB)
      have V3 := Lib.hid (fun q : Ext w9.drew => r5valid_any key a n ca xs o t ak ax an az vb q.at hkey (X9.out.keep q.bl) HVB)
      have V4 := Lib.hid (fun q : Ext w9.drew => isKeyB_any key q.at hkey)
      have V5 := Lib.hid (fun q : Ext w9.drew => rIsKeyB_any key q.at hkey)
      have V6 := Lib.hid (fun q : Ext w9.drew => head_any key key.data.toList q.at rfl (Nat.le_trans HK.out (by decide)))
      have V7 := Lib.hid (fun q : Ext w9.drew => rhead_any key q.at (Nat.le_trans HK.out (by decide)))
      have V8 := Lib.hid (fun q : Ext w9.drew => staysVec_any _ gx n cx a n ca xs q.at (LX9.out.keep q.bl) (X9.out.keep q.bl) (Nat.le_trans HN.out (by decide)))
      generalize isKeyB key = ik at *
      generalize (⟨(headL key.data.toList).toArray⟩ : ByteArray) = hd at *
      have x0 := fun q : Ext w9.drew => (H79.out.keep q.bl).cell 0 _ rfl
      have x1 := fun q : Ext w9.drew => (H79.out.keep q.bl).cell 1 _ rfl
      have x2 := fun q : Ext w9.drew => (H79.out.keep q.bl).cell 2 _ rfl
      have x3 := fun q : Ext w9.drew => (H79.out.keep q.bl).cell 3 _ rfl
      have x4 := fun q : Ext w9.drew => (H79.out.keep q.bl).cell 4 _ rfl
      have x5 := fun q : Ext w9.drew => (H79.out.keep q.bl).cell 5 _ rfl
      have x6 := fun q : Ext w9.drew => (H79.out.keep q.bl).cell 6 _ rfl
      have x7 := fun q : Ext w9.drew => (H79.out.keep q.bl).cell 7 _ rfl
      have a0 := fun q : Ext w9.drew => (GA9.out.keep q.bl).cell 0 _ rfl
      have a1 := fun q : Ext w9.drew => (GA9.out.keep q.bl).cell 1 _ rfl
      have a2 := fun q : Ext w9.drew => (GA9.out.keep q.bl).cell 2 _ rfl
      have a3 := fun q : Ext w9.drew => (GA9.out.keep q.bl).cell 3 _ rfl
      have a4 := fun q : Ext w9.drew => (GA9.out.keep q.bl).cell 4 _ rfl
      have a5 := fun q : Ext w9.drew => (GA9.out.keep q.bl).cell 5 _ rfl
      have a6 := fun q : Ext w9.drew => (GA9.out.keep q.bl).cell 6 _ rfl
      have a7 := fun q : Ext w9.drew => (GA9.out.keep q.bl).cell 7 _ rfl
      have y0 := fun q : Ext w9.drew => (GY9.out.keep q.bl).cell 0 _ rfl
      have y1 := fun q : Ext w9.drew => (GY9.out.keep q.bl).cell 1 _ rfl
      have y2 := fun q : Ext w9.drew => (GY9.out.keep q.bl).cell 2 _ rfl
      have y3 := fun q : Ext w9.drew => (GY9.out.keep q.bl).cell 3 _ rfl
      have y4 := fun q : Ext w9.drew => (GY9.out.keep q.bl).cell 4 _ rfl
      have y5 := fun q : Ext w9.drew => (GY9.out.keep q.bl).cell 5 _ rfl
      have y6 := fun q : Ext w9.drew => (GY9.out.keep q.bl).cell 6 _ rfl
      have y7 := fun q : Ext w9.drew => (GY9.out.keep q.bl).cell 7 _ rfl
      have z0 := fun q : Ext w9.drew => (GZ9.out.keep q.bl).cell 0 _ rfl
      have z1 := fun q : Ext w9.drew => (GZ9.out.keep q.bl).cell 1 _ rfl
      have z2 := fun q : Ext w9.drew => (GZ9.out.keep q.bl).cell 2 _ rfl
      have z3 := fun q : Ext w9.drew => (GZ9.out.keep q.bl).cell 3 _ rfl
      have z4 := fun q : Ext w9.drew => (GZ9.out.keep q.bl).cell 4 _ rfl
      have z5 := fun q : Ext w9.drew => (GZ9.out.keep q.bl).cell 5 _ rfl
      have z6 := fun q : Ext w9.drew => (GZ9.out.keep q.bl).cell 6 _ rfl
      have z7 := fun q : Ext w9.drew => (GZ9.out.keep q.bl).cell 7 _ rfl
      repeat (refine wpS_step (fun K hK => ?_); go_simp; first | (refine hK _ ?_; clear hK K) | (apply Exists.intro; refine ⟨fun q => ?_, hK _ ?_⟩; (first | with_reducible exact V1.out q | with_reducible exact V2.out q | with_reducible exact V3.out q | with_reducible exact V4.out q | with_reducible exact V5.out q | with_reducible exact V6.out q | with_reducible exact V7.out q | with_reducible exact V8.out q); clear hK K))
      refine wpS_nil ?_
      intro q1
      have BA := Lib.hid (B9.out.trans q1.bl)
      have PA := Lib.hid (P9.out.keep q1.bl)
      have yy := (GY9.out.keep q1.bl).cell 1 _ rfl
      clear V1 V2 V3 V4 V5 V6 V7 V8 P9 Y9 Z9 GY9 GZ9 H79 LX9 B9 GA9 X9 x0 x1 x2 x3 x4 x5 x6 x7 a0 a1 a2 a3 a4 a5 a6 a7 y0 y1 y2 y3 y4 y5 y6 y7 z0 z1 z2 z3 z4 z5 z6 z7
      generalize q1.at = X at *
      clear q1
      rw [List.nil_append] at PA
      go_wp2_with fail
      refine (bp_vecE W1 _ HSZ.out _ ys [] _ BA.out PA.out).mono ?_
      rintro e wz ⟨rfl, hp, hb⟩
      have BB := Lib.hid hb
      have PB := Lib.hid hp
      clear hp hb BA PA
      go_wp2_with fail
      go_roundw
      case rel => exact ⟨k + 1, by omega, by go_num, BB.out, PB.out⟩
      case measure => simp [intOf]; omega
    · go_wp2_with fail
      refine (alive5_any _).mono ?_
      rintro e w1 ⟨rfl, hb⟩
      have HB := Lib.hid (HBL.out.trans hb)
      have HP := Lib.hid (HBP.out.keep hb)
      clear hb HBL HBP
      go_wp2_with fail
      refine (bp_apartE W1 _ HSZ.out _ HB.out.size HP.out).mono ?_
      rintro e w2 ⟨rfl, hf⟩
      go_wp2_with fail
      go_ret
      exact ⟨rfl, HW.out.trans (HB.out.fr hf (fun b q => q))⟩
theorem ikeyTells_walk (a : Option Addr) (n ca : Nat) (V : VerL) (s : ByteArray) (w : World) (hx : IA w a n V.at_) (hv : VR V) (hs : s.size ≤ 140737488351232) :
    Calls Tryz.prog 3 #[.agg #[.string V.key, .slice a n ca, .int .i64 V.origin, .int .i64 V.tx, .int .i64 V.act.k, .float .f64 V.act.x, .int .i64 V.act.n, .string V.act.s], .string s] w fun e w' => e = .returned (.bool true) ∧ Bl w w' :=
  ikeyTells_gen V.key a n ca V.at_ V.origin V.tx V.act.k V.act.x V.act.n V.act.s s w hx hv.key hs
end Go.Proofs.YtkgpkkdcadkpmaaGreatDoor
end
