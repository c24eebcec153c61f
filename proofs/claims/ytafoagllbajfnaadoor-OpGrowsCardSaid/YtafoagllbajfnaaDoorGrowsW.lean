/- bedrocklaw6.OpGrows. By an AI agent. -/
import Derived.Test.YtafoagllbajfnaaDoorGrows0
import Derived.Test.YtafoagllbajfnaaDoorOp7
import Derived.StillTailTactics
import Derived.Deep.DeepCutAuto
namespace Go.Proofs.YtafoagllbajfnaaDoor
open Go.RowKit

set_option maxHeartbeats 6400000 in
set_option maxRecDepth 100000 in
theorem grows_any (a : Option Addr) (n ca : Nat) (vs : List VerL) (f : Nat) (m : Int) (w : World) (hv : VA w a n vs) (hf : f < two64) (hm : -9223372036854775808 ≤ m ∧ m ≤ 9223372036854775807) (hT : Tab w) :
    Calls Tryd.prog 9 #[.slice a n ca, .float .f64 f, .int .i64 m] w fun e w' => e = .returned (.bool true) ∧ Bl w w' := by
  have hsf := store_float
  have HL := Lib.hid hv.len
  have hcap := hv.cap
  by_cases hn60 : n ≤ 60
  · have hk0 : decide (60 < (n : Int)) = false := by simp; omega
    go_enter Tryd.func9, Tryd.ntmps9
    go_wp2_with fail
    go_loopw [7] (fun i wr => ∃ k : Nat, k ≤ n ∧ i = .int .i64 k ∧ Bl w wr) (fun i _ => n - (intOf i).toNat)
    case atStart => exact ⟨0, Nat.zero_le _, rfl, Bl.refl _⟩
    case round =>
      obtain ⟨k, hk, rfl, G⟩ := hrel
      by_cases hlt : k < n
      · obtain ⟨b, off, rfl, hc⟩ := hv.cells k hlt
        have E := (hc k hlt).keep G
        generalize nthR vs k = V at *
        obtain ⟨va, vn, vc, v1, vI⟩ := E.at_
        have e7 := E.c7
        by_cases hat : vn ≤ 8
        · have ha1 : decide (8 < (vn : Int)) = false := by simp; omega
          go_wp2_with (first | (refine (alive6_any _ (hT.keep G)).mono ?_; rintro e w1 ⟨rfl, hb1⟩) | fail)
          · go_ret
            exact ⟨rfl, G.trans hb1⟩
          · go_roundw
            case rel => exact ⟨k + 1, by omega, by go_num, G⟩
            case measure => simp [intOf]; omega
        · have ha1 : decide (8 < (vn : Int)) = true := by simp; omega
          go_wp2_with (first | (refine (alive6_any _ (hT.keep G)).mono ?_; rintro e w1 ⟨rfl, hb1⟩) | fail)
          go_ret
          exact ⟨rfl, G.trans hb1⟩
      · have HT := Lib.hid hT
        clear hT hcap HL
        have hn1000 : n ≤ 1000 := by omega
        have hn1000b : n + 1 ≤ 140737488351232 := by omega
        have hV2 := ok_max hf
        have hV3 := ok_min hf
        have hV1 := ok_add hm
        obtain ⟨ab, ax, an, az, hA⟩ : ∃ ab ax an az, valueL kX vs = ⟨ab, ax, an, az⟩ := ⟨_, _, _, _, rfl⟩
        obtain ⟨bb, bx, bn, bz, hB⟩ : ∃ ab ax an az, valueL kN vs = ⟨ab, ax, an, az⟩ := ⟨_, _, _, _, rfl⟩
        obtain ⟨db, dx, dn, dz, hD⟩ : ∃ ab ax an az, valueL kC vs = ⟨ab, ax, an, az⟩ := ⟨_, _, _, _, rfl⟩
        have HXx := valueL_x vs f
        have HYx := valueL_n vs f
        have HCx := valueL_c vs m
        have OA : ValL.Ok ⟨ab, ax, an, az⟩ := by rw [← hA]; exact valueL_num_ok (by decide +kernel) hv.oks
        have OB : ValL.Ok ⟨bb, bx, bn, bz⟩ := by rw [← hB]; exact valueL_num_ok (by decide +kernel) hv.oks
        rw [hA] at HXx
        rw [hB] at HYx
        rw [hD] at HCx
        simp only at HXx HYx HCx
        have GF := growF hf OA.x OB.x ab bb
        obtain ⟨xx, hxx⟩ : ∃ xx, (if ab then rmax ax f else f) = xx := ⟨_, rfl⟩
        obtain ⟨yx, hyx⟩ : ∃ yx, (if bb then rmin bx f else f) = yx := ⟨_, rfl⟩
        obtain ⟨cn, hcn⟩ : ∃ cn, (if db then wrap64 (dn + m) else m) = cn := ⟨_, rfl⟩
        rw [hxx, hyx] at GF
        rw [hxx] at HXx
        rw [hyx] at HYx
        rw [hcn] at HCx
        replace HXx := Lib.hid HXx
        replace HYx := Lib.hid HYx
        replace HCx := Lib.hid HCx
        replace hA := Lib.hid hA
        replace hB := Lib.hid hB
        replace hD := Lib.hid hD
        clear hxx hyx
        replace hcn := Lib.hid hcn
        have HGF := Lib.hid GF
        clear GF
        have VA0 := hv.keep G
        obtain ⟨cs, SC0⟩ := va_src VA0
        go_wp2_with (at_builtin; refine wpList_app1 rfl _ _ rfl rfl _ _ _ cs rfl SC0 hn1000 ?_)
        intro v1 W1 ho1 hb1
        have ho1a := ho1.keep ((Bl.refl W1).alloc (.cells #[.string ⟨#[]⟩, .slice none 0 0, .int .i64 0, .int .i64 0, .int .i64 2, .float .f64 f, .int .i64 0, .string ⟨#[]⟩] 39))
        have cj := AC.new W1 W1.heap.size rfl [.string ⟨#[]⟩, .slice none 0 0, .int .i64 0, .int .i64 0, .int .i64 2, .float .f64 f, .int .i64 0, .string ⟨#[]⟩] 39
        go_wp2_with (at_builtin; refine wpList_app2 rfl _ _ rfl _ v1 n cs rfl ho1a ?c1 hn1000 _ [.string ⟨#[]⟩, .slice none 0 0, .int .i64 0, .int .i64 0, .int .i64 2, .float .f64 f, .int .i64 0, .string ⟨#[]⟩] rfl cj rfl ?c2 ?_)
        case c1 => have := hb1.size; simp; omega
        case c2 => simp [Value.oneCell']
        intro v2 W2 ho2 hgr
        have hb2 : Bl wr W2 := Bl.grownRow (hb1.alloc _) ho1a (Nat.le_refl _) hgr
        obtain ⟨a2, c2, rfl, VA2⟩ := va_own (V := vMax f) VA0 SC0 hb2 ho2 hn1000b rfl ⟨none, 0, 0, rfl, IA.nil _ _⟩ rfl rfl rfl rfl rfl rfl hV2
        clear ho1 ho1a ho2 hgr cj hb1 SC0 VA0
        replace hb2 := G.trans hb2
        clear G
        go_wp2_with fail
        refine (value_agg kX a2 (n + 1) c2 _ _ _ _ _ _ (Lib.hid (HXx.out)) (by decide) VA2).mono ?_
        rintro e W3 ⟨rfl, hb3⟩
        replace hb3 := hb2.trans hb3
        clear hb2 VA2
        go_upto_region 9 with fail
        have cx := AC.new W3 W3.heap.size rfl [.bool true, .float .f64 xx, .int .i64 0, .string nilS] 29
        have G := hb3.alloc (.cells #[.bool true, .float .f64 xx, .int .i64 0, .string nilS] 29)
        clear hb3
        generalize W3.alloc (.cells #[.bool true, .float .f64 xx, .int .i64 0, .string nilS] 29) = WA at *
        generalize W3.heap.size = gx at *
        have VA0 := hv.keep G
        obtain ⟨cs, SC0⟩ := va_src VA0
        go_wp2_with (at_builtin; refine wpList_app1 rfl _ _ rfl rfl _ _ _ cs rfl SC0 hn1000 ?_)
        intro v1 W1 ho1 hb1
        have ho1a := ho1.keep ((Bl.refl W1).alloc (.cells #[.string ⟨#[]⟩, .slice none 0 0, .int .i64 0, .int .i64 0, .int .i64 3, .float .f64 f, .int .i64 0, .string ⟨#[]⟩] 39))
        have cj := AC.new W1 W1.heap.size rfl [.string ⟨#[]⟩, .slice none 0 0, .int .i64 0, .int .i64 0, .int .i64 3, .float .f64 f, .int .i64 0, .string ⟨#[]⟩] 39
        go_wp2_with (at_builtin; refine wpList_app2 rfl _ _ rfl _ v1 n cs rfl ho1a ?c1 hn1000 _ [.string ⟨#[]⟩, .slice none 0 0, .int .i64 0, .int .i64 0, .int .i64 3, .float .f64 f, .int .i64 0, .string ⟨#[]⟩] rfl cj rfl ?c2 ?_)
        case c1 => have := hb1.size; simp; omega
        case c2 => simp [Value.oneCell']
        intro v2 W2 ho2 hgr
        have hb2 : Bl WA W2 := Bl.grownRow (hb1.alloc _) ho1a (Nat.le_refl _) hgr
        obtain ⟨a2, c2, rfl, VA2⟩ := va_own (V := vMin f) VA0 SC0 hb2 ho2 hn1000b rfl ⟨none, 0, 0, rfl, IA.nil _ _⟩ rfl rfl rfl rfl rfl rfl hV3
        clear ho1 ho1a ho2 hgr cj hb1 SC0 VA0
        replace cx := cx.keep hb2
        replace hb2 := G.trans hb2
        clear G
        go_wp2_with fail
        refine (value_agg kN a2 (n + 1) c2 _ _ _ _ _ _ (Lib.hid (HYx.out)) (by decide) VA2).mono ?_
        rintro e W3 ⟨rfl, hb3⟩
        replace cx := cx.keep hb3
        replace hb3 := hb2.trans hb3
        clear hb2 VA2
        go_upto_region 10 with fail
        have cy := AC.new W3 W3.heap.size rfl [.bool true, .float .f64 yx, .int .i64 0, .string nilS] 29
        replace cx := cx.keep ((Bl.refl W3).alloc (.cells #[.bool true, .float .f64 yx, .int .i64 0, .string nilS] 29))
        have G := hb3.alloc (.cells #[.bool true, .float .f64 yx, .int .i64 0, .string nilS] 29)
        clear hb3
        generalize W3.alloc (.cells #[.bool true, .float .f64 yx, .int .i64 0, .string nilS] 29) = WB at *
        generalize W3.heap.size = gy at *
        have VA0 := hv.keep G
        obtain ⟨cs, SC0⟩ := va_src VA0
        go_wp2_with (at_builtin; refine wpList_app1 rfl _ _ rfl rfl _ _ _ cs rfl SC0 hn1000 ?_)
        intro v1 W1 ho1 hb1
        have ho1a := ho1.keep ((Bl.refl W1).alloc (.cells #[.string ⟨#[]⟩, .slice none 0 0, .int .i64 0, .int .i64 0, .int .i64 1, .float .f64 0, .int .i64 m, .string ⟨#[]⟩] 39))
        have cj := AC.new W1 W1.heap.size rfl [.string ⟨#[]⟩, .slice none 0 0, .int .i64 0, .int .i64 0, .int .i64 1, .float .f64 0, .int .i64 m, .string ⟨#[]⟩] 39
        go_wp2_with (at_builtin; refine wpList_app2 rfl _ _ rfl _ v1 n cs rfl ho1a ?c1 hn1000 _ [.string ⟨#[]⟩, .slice none 0 0, .int .i64 0, .int .i64 0, .int .i64 1, .float .f64 0, .int .i64 m, .string ⟨#[]⟩] rfl cj rfl ?c2 ?_)
        case c1 => have := hb1.size; simp; omega
        case c2 => simp [Value.oneCell']
        intro v2 W2 ho2 hgr
        have hb2 : Bl WB W2 := Bl.grownRow (hb1.alloc _) ho1a (Nat.le_refl _) hgr
        obtain ⟨a2, c2, rfl, VA2⟩ := va_own (V := vAdd m) VA0 SC0 hb2 ho2 hn1000b rfl ⟨none, 0, 0, rfl, IA.nil _ _⟩ rfl rfl rfl rfl rfl rfl hV1
        clear ho1 ho1a ho2 hgr cj hb1 SC0 VA0
        replace cx := cx.keep hb2
        replace cy := cy.keep hb2
        replace hb2 := G.trans hb2
        clear G
        go_wp2_with fail
        refine (value_agg kC a2 (n + 1) c2 _ _ _ _ _ _ (Lib.hid (HCx.out)) (by decide) VA2).mono ?_
        rintro e W3 ⟨rfl, hb3⟩
        replace cx := cx.keep hb3
        replace cy := cy.keep hb3
        replace hb3 := hb2.trans hb3
        clear hb2 VA2
        go_upto_region 11 with fail
        have cc := AC.new W3 W3.heap.size rfl [.bool true, .float .f64 0, .int .i64 cn, .string nilS] 29
        replace cx := cx.keep ((Bl.refl W3).alloc (.cells #[.bool true, .float .f64 0, .int .i64 cn, .string nilS] 29))
        replace cy := cy.keep ((Bl.refl W3).alloc (.cells #[.bool true, .float .f64 0, .int .i64 cn, .string nilS] 29))
        have G := hb3.alloc (.cells #[.bool true, .float .f64 0, .int .i64 cn, .string nilS] 29)
        clear hb3
        generalize W3.alloc (.cells #[.bool true, .float .f64 0, .int .i64 cn, .string nilS] 29) = WC at *
        generalize W3.heap.size = gc at *
        have VA0 := hv.keep G
        go_wp2_with fail
        refine (value_agg kX a n ca _ _ _ _ _ _ hA (by decide) VA0).mono ?_
        rintro e V1 ⟨rfl, hb⟩
        replace cx := cx.keep hb
        replace cy := cy.keep hb
        replace cc := cc.keep hb
        replace VA0 := VA0.keep hb
        replace G := G.trans hb
        clear hb
        go_wp2_with fail
        refine (value_agg kN a n ca _ _ _ _ _ _ hB (by decide) VA0).mono ?_
        rintro e V2 ⟨rfl, hb⟩
        replace cx := cx.keep hb
        replace cy := cy.keep hb
        replace cc := cc.keep hb
        replace VA0 := VA0.keep hb
        replace G := G.trans hb
        clear hb
        go_wp2_with fail
        refine (value_agg kC a n ca _ _ _ _ _ _ hD (by decide) VA0).mono ?_
        rintro e V3 ⟨rfl, hb⟩
        replace cx := cx.keep hb
        replace cy := cy.keep hb
        replace cc := cc.keep hb
        replace VA0 := VA0.keep hb
        replace G := G.trans hb
        clear hb
        clear VA0 hV1 hV2 hV3
        go_upto_region 12 with fail
        have ca := AC.new V3 V3.heap.size rfl [.bool ab, .float .f64 ax, .int .i64 an, .string az] 29
        replace cx := cx.keep ((Bl.refl V3).alloc (.cells #[.bool ab, .float .f64 ax, .int .i64 an, .string az] 29))
        replace cy := cy.keep ((Bl.refl V3).alloc (.cells #[.bool ab, .float .f64 ax, .int .i64 an, .string az] 29))
        replace cc := cc.keep ((Bl.refl V3).alloc (.cells #[.bool ab, .float .f64 ax, .int .i64 an, .string az] 29))
        replace G := G.alloc (.cells #[.bool ab, .float .f64 ax, .int .i64 an, .string az] 29)
        have hsa : (V3.alloc (.cells #[.bool ab, .float .f64 ax, .int .i64 an, .string az] 29)).heap.size = V3.heap.size + 1 := by simp
        generalize V3.alloc (.cells #[.bool ab, .float .f64 ax, .int .i64 an, .string az] 29) = Xa at *
        have cb := AC.new Xa Xa.heap.size rfl [.bool bb, .float .f64 bx, .int .i64 bn, .string bz] 29
        replace cx := cx.keep ((Bl.refl Xa).alloc (.cells #[.bool bb, .float .f64 bx, .int .i64 bn, .string bz] 29))
        replace cy := cy.keep ((Bl.refl Xa).alloc (.cells #[.bool bb, .float .f64 bx, .int .i64 bn, .string bz] 29))
        replace cc := cc.keep ((Bl.refl Xa).alloc (.cells #[.bool bb, .float .f64 bx, .int .i64 bn, .string bz] 29))
        replace ca := ca.keep ((Bl.refl Xa).alloc (.cells #[.bool bb, .float .f64 bx, .int .i64 bn, .string bz] 29))
        replace G := G.alloc (.cells #[.bool bb, .float .f64 bx, .int .i64 bn, .string bz] 29)
        have hsb : (Xa.alloc (.cells #[.bool bb, .float .f64 bx, .int .i64 bn, .string bz] 29)).heap.size = Xa.heap.size + 1 := by simp
        rw [hsa] at cb hsb
        generalize Xa.alloc (.cells #[.bool bb, .float .f64 bx, .int .i64 bn, .string bz] 29) = Xb at *
        have cd := AC.new Xb Xb.heap.size rfl [.bool db, .float .f64 dx, .int .i64 dn, .string dz] 29
        replace cx := cx.keep ((Bl.refl Xb).alloc (.cells #[.bool db, .float .f64 dx, .int .i64 dn, .string dz] 29))
        replace cy := cy.keep ((Bl.refl Xb).alloc (.cells #[.bool db, .float .f64 dx, .int .i64 dn, .string dz] 29))
        replace cc := cc.keep ((Bl.refl Xb).alloc (.cells #[.bool db, .float .f64 dx, .int .i64 dn, .string dz] 29))
        replace ca := ca.keep ((Bl.refl Xb).alloc (.cells #[.bool db, .float .f64 dx, .int .i64 dn, .string dz] 29))
        replace cb := cb.keep ((Bl.refl Xb).alloc (.cells #[.bool db, .float .f64 dx, .int .i64 dn, .string dz] 29))
        replace G := G.alloc (.cells #[.bool db, .float .f64 dx, .int .i64 dn, .string dz] 29)
        rw [hsb] at cd
        generalize Xb.alloc (.cells #[.bool db, .float .f64 dx, .int .i64 dn, .string dz] 29) = Xd at *
        clear hsa hsb
        generalize V3.heap.size = ga at *
        generalize hgb : ga + 1 = gb at *
        generalize hgd : gb + 1 = gd at *
        clear hgb hgd
        obtain ⟨x0, x1, x2, x3⟩ := cx.val
        obtain ⟨y0, y1, y2, y3⟩ := cy.val
        obtain ⟨c0, c1, c2, c3⟩ := cc.val
        obtain ⟨a0, a1, a2, a3⟩ := ca.val
        obtain ⟨b0, b1, b2, b3⟩ := cb.val
        obtain ⟨d0, d1, d2, d3⟩ := cd.val
        have qxf := HGF.out.xf
        obtain ⟨t, ht⟩ : ∃ t, (FloatKind.f64.format.order f f == some .eq) = t := ⟨_, rfl⟩
        cases ab
        · have ex := Lib.hid (HGF.out.x0 rfl)
          cases bb
          · skip
            cases db
            · skip
              cases t
              · go_wp2_with fail
                refine (alive6_any _ (HT.out.keep G)).mono ?_
                rintro e U1 ⟨rfl, hb⟩
                replace G := G.trans hb
                replace a0 := hb.cell a0
                replace x0 := hb.cell x0
                replace x1 := hb.cell x1
                replace x2 := hb.cell x2
                replace x3 := hb.cell x3
                clear hb
                go_wp2_with fail
                refine (same_agg true xx 0 nilS true f 0 nilS true _ (Lib.hid (by rw [ex.out]; exact sameV_refl _)) (Lib.hid (ok_val HGF.out.xo true)) (Lib.hid (ok_val hf true))).mono ?_
                rintro e U2 ⟨rfl, hb⟩
                replace G := G.trans hb
                go_wp2_with fail
                go_ret
                exact ⟨rfl, G⟩
              · go_wp2_with fail
                refine (alive6_any _ (HT.out.keep G)).mono ?_
                rintro e U1 ⟨rfl, hb⟩
                replace G := G.trans hb
                replace a0 := hb.cell a0
                replace x0 := hb.cell x0
                replace x1 := hb.cell x1
                replace x2 := hb.cell x2
                replace x3 := hb.cell x3
                clear hb
                go_wp2_with fail
                refine (same_agg true xx 0 nilS true f 0 nilS true _ (Lib.hid (by rw [ex.out]; exact sameV_refl _)) (Lib.hid (ok_val HGF.out.xo true)) (Lib.hid (ok_val hf true))).mono ?_
                rintro e U2 ⟨rfl, hb⟩
                replace G := G.trans hb
                go_wp2_with fail
                go_ret
                exact ⟨rfl, G⟩
            · have qc : wrap64 (dn + m) = cn := hcn.out
              cases t
              · go_wp2_with fail
                refine (alive6_any _ (HT.out.keep G)).mono ?_
                rintro e U1 ⟨rfl, hb⟩
                replace G := G.trans hb
                replace a0 := hb.cell a0
                replace x0 := hb.cell x0
                replace x1 := hb.cell x1
                replace x2 := hb.cell x2
                replace x3 := hb.cell x3
                clear hb
                go_wp2_with fail
                refine (same_agg true xx 0 nilS true f 0 nilS true _ (Lib.hid (by rw [ex.out]; exact sameV_refl _)) (Lib.hid (ok_val HGF.out.xo true)) (Lib.hid (ok_val hf true))).mono ?_
                rintro e U2 ⟨rfl, hb⟩
                replace G := G.trans hb
                go_wp2_with fail
                go_ret
                exact ⟨rfl, G⟩
              · go_wp2_with fail
                refine (alive6_any _ (HT.out.keep G)).mono ?_
                rintro e U1 ⟨rfl, hb⟩
                replace G := G.trans hb
                replace a0 := hb.cell a0
                replace x0 := hb.cell x0
                replace x1 := hb.cell x1
                replace x2 := hb.cell x2
                replace x3 := hb.cell x3
                clear hb
                go_wp2_with fail
                refine (same_agg true xx 0 nilS true f 0 nilS true _ (Lib.hid (by rw [ex.out]; exact sameV_refl _)) (Lib.hid (ok_val HGF.out.xo true)) (Lib.hid (ok_val hf true))).mono ?_
                rintro e U2 ⟨rfl, hb⟩
                replace G := G.trans hb
                go_wp2_with fail
                go_ret
                exact ⟨rfl, G⟩
          · have qyb := HGF.out.yb rfl
            cases db
            · skip
              cases t
              · go_wp2_with fail
                refine (alive6_any _ (HT.out.keep G)).mono ?_
                rintro e U1 ⟨rfl, hb⟩
                replace G := G.trans hb
                replace a0 := hb.cell a0
                replace x0 := hb.cell x0
                replace x1 := hb.cell x1
                replace x2 := hb.cell x2
                replace x3 := hb.cell x3
                clear hb
                go_wp2_with fail
                refine (same_agg true xx 0 nilS true f 0 nilS true _ (Lib.hid (by rw [ex.out]; exact sameV_refl _)) (Lib.hid (ok_val HGF.out.xo true)) (Lib.hid (ok_val hf true))).mono ?_
                rintro e U2 ⟨rfl, hb⟩
                replace G := G.trans hb
                go_wp2_with fail
                go_ret
                exact ⟨rfl, G⟩
              · go_wp2_with fail
                refine (alive6_any _ (HT.out.keep G)).mono ?_
                rintro e U1 ⟨rfl, hb⟩
                replace G := G.trans hb
                replace a0 := hb.cell a0
                replace x0 := hb.cell x0
                replace x1 := hb.cell x1
                replace x2 := hb.cell x2
                replace x3 := hb.cell x3
                clear hb
                go_wp2_with fail
                refine (same_agg true xx 0 nilS true f 0 nilS true _ (Lib.hid (by rw [ex.out]; exact sameV_refl _)) (Lib.hid (ok_val HGF.out.xo true)) (Lib.hid (ok_val hf true))).mono ?_
                rintro e U2 ⟨rfl, hb⟩
                replace G := G.trans hb
                go_wp2_with fail
                go_ret
                exact ⟨rfl, G⟩
            · have qc : wrap64 (dn + m) = cn := hcn.out
              cases t
              · go_wp2_with fail
                refine (alive6_any _ (HT.out.keep G)).mono ?_
                rintro e U1 ⟨rfl, hb⟩
                replace G := G.trans hb
                replace a0 := hb.cell a0
                replace x0 := hb.cell x0
                replace x1 := hb.cell x1
                replace x2 := hb.cell x2
                replace x3 := hb.cell x3
                clear hb
                go_wp2_with fail
                refine (same_agg true xx 0 nilS true f 0 nilS true _ (Lib.hid (by rw [ex.out]; exact sameV_refl _)) (Lib.hid (ok_val HGF.out.xo true)) (Lib.hid (ok_val hf true))).mono ?_
                rintro e U2 ⟨rfl, hb⟩
                replace G := G.trans hb
                go_wp2_with fail
                go_ret
                exact ⟨rfl, G⟩
              · go_wp2_with fail
                refine (alive6_any _ (HT.out.keep G)).mono ?_
                rintro e U1 ⟨rfl, hb⟩
                replace G := G.trans hb
                replace a0 := hb.cell a0
                replace x0 := hb.cell x0
                replace x1 := hb.cell x1
                replace x2 := hb.cell x2
                replace x3 := hb.cell x3
                clear hb
                go_wp2_with fail
                refine (same_agg true xx 0 nilS true f 0 nilS true _ (Lib.hid (by rw [ex.out]; exact sameV_refl _)) (Lib.hid (ok_val HGF.out.xo true)) (Lib.hid (ok_val hf true))).mono ?_
                rintro e U2 ⟨rfl, hb⟩
                replace G := G.trans hb
                go_wp2_with fail
                go_ret
                exact ⟨rfl, G⟩
        · have qxa := HGF.out.xa rfl
          cases bb
          · skip
            cases db
            · skip
              cases t
              · go_wp2_with fail
                refine (alive6_any _ (HT.out.keep G)).mono ?_
                rintro e U1 ⟨rfl, hb⟩
                replace G := G.trans hb
                replace a0 := hb.cell a0
                clear hb
                go_wp2_with fail
                go_ret
                exact ⟨rfl, G⟩
              · go_wp2_with fail
                refine (alive6_any _ (HT.out.keep G)).mono ?_
                rintro e U1 ⟨rfl, hb⟩
                replace G := G.trans hb
                replace a0 := hb.cell a0
                clear hb
                go_wp2_with fail
                go_ret
                exact ⟨rfl, G⟩
            · have qc : wrap64 (dn + m) = cn := hcn.out
              cases t
              · go_wp2_with fail
                refine (alive6_any _ (HT.out.keep G)).mono ?_
                rintro e U1 ⟨rfl, hb⟩
                replace G := G.trans hb
                replace a0 := hb.cell a0
                clear hb
                go_wp2_with fail
                go_ret
                exact ⟨rfl, G⟩
              · go_wp2_with fail
                refine (alive6_any _ (HT.out.keep G)).mono ?_
                rintro e U1 ⟨rfl, hb⟩
                replace G := G.trans hb
                replace a0 := hb.cell a0
                clear hb
                go_wp2_with fail
                go_ret
                exact ⟨rfl, G⟩
          · have qyb := HGF.out.yb rfl
            cases db
            · skip
              cases t
              · go_wp2_with fail
                refine (alive6_any _ (HT.out.keep G)).mono ?_
                rintro e U1 ⟨rfl, hb⟩
                replace G := G.trans hb
                replace a0 := hb.cell a0
                clear hb
                go_wp2_with fail
                go_ret
                exact ⟨rfl, G⟩
              · go_wp2_with fail
                refine (alive6_any _ (HT.out.keep G)).mono ?_
                rintro e U1 ⟨rfl, hb⟩
                replace G := G.trans hb
                replace a0 := hb.cell a0
                clear hb
                go_wp2_with fail
                go_ret
                exact ⟨rfl, G⟩
            · have qc : wrap64 (dn + m) = cn := hcn.out
              cases t
              · go_wp2_with fail
                refine (alive6_any _ (HT.out.keep G)).mono ?_
                rintro e U1 ⟨rfl, hb⟩
                replace G := G.trans hb
                replace a0 := hb.cell a0
                clear hb
                go_wp2_with fail
                go_ret
                exact ⟨rfl, G⟩
              · go_wp2_with fail
                refine (alive6_any _ (HT.out.keep G)).mono ?_
                rintro e U1 ⟨rfl, hb⟩
                replace G := G.trans hb
                replace a0 := hb.cell a0
                clear hb
                go_wp2_with fail
                go_ret
                exact ⟨rfl, G⟩
  · have hk0 : decide (60 < (n : Int)) = true := by simp; omega
    go_enter Tryd.func9, Tryd.ntmps9
    go_wp2_with fail
    refine (alive6_any _ hT).mono ?_
    rintro e w1 ⟨rfl, hb1⟩
    go_wp2_with fail
    go_ret
    exact ⟨rfl, hb1⟩
end Go.Proofs.YtafoagllbajfnaaDoor
