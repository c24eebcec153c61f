/- bedrocklaw6.OpLatest, of a text. By an AI agent. -/
import Derived.Test.YtafoagllbajfnaaDoorLat1
import Derived.Test.YtafoagllbajfnaaDoorGrows0
import Derived.Test.YtafoagllbajfnaaDoorOp7
import Derived.StillTailTactics
import Derived.Deep.DeepCutAuto
namespace Go.Proofs.YtafoagllbajfnaaDoor
open Go.RowKit
attribute [local go_sem] eOp eOper eUpon
set_option linter.unusedSimpArgs false in
set_option maxHeartbeats 6400000 in
set_option maxRecDepth 100000 in
theorem latest_text (a : Option Addr) (n ca : Nat) (vs : List VerL) (f : Nat) (w : World) (hv : VA w a n vs) (_hf : f < two64) (hT : Tab w) :
    Calls Tryd.prog 7 #[.bool true, .slice a n ca, .float .f64 f] w fun e w' => e = .returned (.bool true) ∧ Bl w w' := by
  have hsf := store_float
  have HL := Lib.hid hv.len
  by_cases hn60 : n ≤ 40
  · have hk0 : decide (40 < (n : Int)) = false := by simp; omega
    go_enter Tryd.func7, Tryd.ntmps7
    go_wp2_with fail
    go_loop [8, 9] (fun t i => ∃ (k : Nat) (M : Int), k ≤ n ∧ i = .int .i64 k ∧ t = .int .i64 M ∧ 0 ≤ M ∧ M ≤ 281474976710655 ∧ Hid (MostL vs k M)) (fun _ i => n - (intOf i).toNat)
    case atStart => exact ⟨0, 0, Nat.zero_le _, rfl, rfl, Int.le_refl _, by decide, Lib.hid (fun j hj => absurd hj (Nat.not_lt_zero _))⟩
    case round =>
      obtain ⟨k, M, hk, rfl, rfl, hM0, hM1, HM⟩ := hrel
      by_cases hlt : k < n
      · obtain ⟨b, off, rfl, hc⟩ := hv.cells k hlt
        have E := hc k hlt
        obtain ⟨V, hV⟩ : ∃ V, nthR vs k = V := ⟨_, rfl⟩
        rw [hV] at E
        replace hV := Lib.hid hV
        clear hc
        obtain ⟨va, vn, vc, v1, vI⟩ := E.at_
        have e7 := E.c7
        clear E
        have HVL := Lib.hid vI.len
        by_cases hat : vn ≤ 8
        · have ha1 : decide (8 < (vn : Int)) = false := by simp; omega
          go_wp2_with (first | (refine (alive6_any _ hT).mono ?_; rintro e w1 ⟨rfl, hb1⟩) | fail)
          · go_ret
            exact ⟨rfl, hb1⟩
          · go_loop [8, 10] (fun t i => ∃ (q : Nat) (M' : Int), q ≤ vn ∧ i = .int .i64 q ∧ t = .int .i64 M' ∧ M ≤ M' ∧ M' ≤ 281474976710655 ∧ Hid (∀ x ∈ V.at_.take q, x ≤ M')) (fun _ i => vn - (intOf i).toNat)
            case atStart => exact ⟨0, M, Nat.zero_le _, rfl, rfl, Int.le_refl _, hM1, Lib.hid (by simp)⟩
            case round =>
              obtain ⟨q, M', hq, rfl, rfl, hM2, hM3, HM'⟩ := hrel
              by_cases hlt2 : q < vn
              · obtain ⟨vb, vo, rfl, hx⟩ := vI.at_k q hlt2
                have HN : Hid (nth V.at_ q = nth V.at_ q) := Lib.hid rfl
                obtain ⟨x, hx0⟩ : ∃ x, nth V.at_ q = x := ⟨_, rfl⟩
                rw [hx0] at hx
                replace hx0 := Lib.hid hx0
                clear HN
                have HQ : Hid (q < V.at_.length) := Lib.hid (by rw [HVL.out]; exact hlt2)
                by_cases hx1 : x < 0
                · have d1 : decide (x < 0) = true := by simp; omega
                  go_wp2_with (first | (refine (alive6_any _ hT).mono ?_; rintro e w1 ⟨rfl, hb1⟩) | fail)
                  go_ret
                  exact ⟨rfl, hb1⟩
                · have d1 : decide (x < 0) = false := by simp; omega
                  by_cases hx2 : 281474976710655 ≤ x
                  · have d2 : decide (281474976710655 ≤ x) = true := by simp; omega
                    go_wp2_with (first | (refine (alive6_any _ hT).mono ?_; rintro e w1 ⟨rfl, hb1⟩) | fail)
                    go_ret
                    exact ⟨rfl, hb1⟩
                  · have d2 : decide (281474976710655 ≤ x) = false := by simp; omega
                    go_wp2_with fail
                    go_round
                    case rel => exact ⟨q + 1, max M' x, by omega, by go_num, rfl, by omega, by omega, Lib.hid (all_take HQ.out HM'.out (by omega) (by rw [hx0.out]; omega))⟩
                    case measure => simp [intOf]; omega
              · have HE : Hid (∀ x ∈ V.at_, x ≤ M') := Lib.hid (by have := HM'.out; rwa [List.take_of_length_le (by rw [HVL.out]; omega)] at this)
                go_wp2_with fail
                go_round
                case rel => exact ⟨k + 1, M', by omega, by go_num, rfl, by omega, by omega, Lib.hid (most_next HM.out hM2 (by rw [hV.out]; exact HE.out))⟩
                case measure => simp [intOf]; omega
        · have ha1 : decide (8 < (vn : Int)) = true := by simp; omega
          go_wp2_with (first | (refine (alive6_any _ hT).mono ?_; rintro e w1 ⟨rfl, hb1⟩) | fail)
          go_ret
          exact ⟨rfl, hb1⟩
      · have hn1000 : n ≤ 1000 := by omega
        have hn1000b : n + 1 ≤ 140737488351232 := by omega
        have hM5 : M + 1 ≤ 9223372036854775807 := by omega
        have HM2 := Lib.hid (most_all HM.out (by rw [HL.out]; omega))
        have HX : Hid (valueL kT (vs ++ [⟨kT, [M + 1], 0, 0, ⟨0, 0, 0, sLatest⟩⟩]) = ⟨true, 0, 0, sLatest⟩) := Lib.hid (by rw [value_snoc reg_t fits_t (fun u hu => by rw [time_new]; have := time_le hM0 (HM2.out u hu); omega)]; rfl)
        have HY : Hid (valueL kT (⟨kT, [M + 1], 0, 0, ⟨4, 0, 0, nilS⟩⟩ :: vs) = ⟨false, 0, 0, nilS⟩) := Lib.hid (by rw [value_cons reg_t (fits_clear (.inr rfl)) (fun u hu => by rw [time_new]; have := time_le hM0 (HM2.out u hu); omega)]; rfl)
        have hVok : ActL.Ok ⟨0, 0, 0, sLatest⟩ := ok_latest
        have HT := Lib.hid hT
        clear hT HM HM2
        go_upto_region 20 with fail
        have ci := AC.new w w.heap.size rfl [.int .i64 (M + 1)] 3
        have hw0 : (w.alloc (.cells #[.int .i64 (M + 1)] 3)).heap.size = w.heap.size + 1 := by simp
        have cv := AC.new (w.alloc (.cells #[.int .i64 (M + 1)] 3)) (w.heap.size + 1) hw0.symm [.string ⟨#[116]⟩, .slice (some ⟨w.heap.size, 0, none⟩) 1 1, .int .i64 0, .int .i64 0, .int .i64 0, .float .f64 f, .int .i64 0, .string ⟨#[]⟩] 39
        replace ci := ci.keep ((Bl.refl _).alloc (.cells #[.string ⟨#[116]⟩, .slice (some ⟨w.heap.size, 0, none⟩) 1 1, .int .i64 0, .int .i64 0, .int .i64 0, .float .f64 f, .int .i64 0, .string ⟨#[]⟩] 39))
        have G : Bl w ((w.alloc (.cells #[.int .i64 (M + 1)] 3)).alloc (.cells #[.string ⟨#[116]⟩, .slice (some ⟨w.heap.size, 0, none⟩) 1 1, .int .i64 0, .int .i64 0, .int .i64 0, .float .f64 f, .int .i64 0, .string ⟨#[]⟩] 39)) := ((Bl.refl w).alloc _).alloc _
        clear hw0
        have hne : w.heap.size ≠ w.heap.size + 1 := by omega
        generalize (w.alloc (.cells #[.int .i64 (M + 1)] 3)).alloc (.cells #[.string ⟨#[116]⟩, .slice (some ⟨w.heap.size, 0, none⟩) 1 1, .int .i64 0, .int .i64 0, .int .i64 0, .float .f64 f, .int .i64 0, .string ⟨#[]⟩] 39) = W1 at *
        have hgv : w.heap.size ≤ w.heap.size + 1 := Nat.le_succ _
        generalize w.heap.size + 1 = gv at *
        obtain ⟨gi, hgi⟩ : ∃ gi, gi = w.heap.size := ⟨_, rfl⟩
        rw [← hgi] at cv ci hne ⊢
        clear hgi
        obtain ⟨p0, p1, p2, p3, p4, p5, p6, p7⟩ := cv.eight
        have f4 := cv.frozen 4
        have f5 := cv.frozen 5
        have f6 := cv.frozen 6
        have f7 := cv.frozen 7
        go_upto_region 21 with fail
        clear p0 p1 p2 p3 p4 p5 p6 p7 f4 f5 f6 f7
        replace cv := cv.set4at (.int .i64 0) (.float .f64 0) (.int .i64 0) (.string ⟨#[108, 97, 116, 101, 115, 116]⟩)
        replace G := G.store4at hgv (.int .i64 0) (.float .f64 0) (.int .i64 0) (.string ⟨#[108, 97, 116, 101, 115, 116]⟩)
        replace ci : AC ((((W1.setCell ⟨gv, 4, none⟩ (.int .i64 0)).setCell ⟨gv, 5, none⟩ (.float .f64 0)).setCell ⟨gv, 6, none⟩ (.int .i64 0)).setCell ⟨gv, 7, none⟩ (.string ⟨#[108, 97, 116, 101, 115, 116]⟩)) gi [.int .i64 (M + 1)] := (((ci.other hne).other hne).other hne).other hne
        generalize ((((W1.setCell ⟨gv, 4, none⟩ (.int .i64 0)).setCell ⟨gv, 5, none⟩ (.float .f64 0)).setCell ⟨gv, 6, none⟩ (.int .i64 0)).setCell ⟨gv, 7, none⟩ (.string ⟨#[108, 97, 116, 101, 115, 116]⟩)) = W2 at *
        have IV := IA.one ci ⟨by omega, hM5⟩
        clear ci hne
        go_cut [12] (fun s12 W => ∃ g, s12 = .pointer (some ⟨g, 0, none⟩) ∧ Bl W2 W ∧ AC W g [.bool true, .float .f64 0, .int .i64 0, .string sLatest])
        case first =>
          refine wp_region_idx [0, 1, 3] 6 (Bl W2.drew) (fun _ _ h k => h.trans k) (Bl.refl _) (by kernel_rfl) rfl (by kernel_rfl) (by kernel_rfl) ?_
          have GD : Bl W2 W2.drew := (Bl.refl W2).drew
          have VA0 := hv.keep (G.trans GD)
          replace cv := cv.keep GD
          have IV0 := IV.keep GD
          generalize W2.drew = W at *
          obtain ⟨cs, SC0⟩ := va_src VA0
          have hb1 := Bl.refl W
          have p0 : ∀ m : Ext W, _ := fun m => (cv.keep m.bl).cell 0 _ rfl
          have p1 : ∀ m : Ext W, _ := fun m => (cv.keep m.bl).cell 1 _ rfl
          have p2 : ∀ m : Ext W, _ := fun m => (cv.keep m.bl).cell 2 _ rfl
          have p3 : ∀ m : Ext W, _ := fun m => (cv.keep m.bl).cell 3 _ rfl
          have p4 : ∀ m : Ext W, _ := fun m => (cv.keep m.bl).cell 4 _ rfl
          have p5 : ∀ m : Ext W, _ := fun m => (cv.keep m.bl).cell 5 _ rfl
          have p6 : ∀ m : Ext W, _ := fun m => (cv.keep m.bl).cell 6 _ rfl
          have p7 : ∀ m : Ext W, _ := fun m => (cv.keep m.bl).cell 7 _ rfl
          repeat (refine wpI_step rfl (fun K hK => ?_); go_simp; refine hK _ ?_; clear hK K)
          refine wpI_nil ?_
          clear p0 p1 p2 p3 p4 p5 p6 p7
          refine wpAnyE_all (rs := [2, 4, 7]) (by kernel_rfl) (by simp) ?_
          intro i hi Y1 hbn
          replace hb1 := hb1.trans hbn
          clear hbn
          simp only [List.mem_cons, List.not_mem_nil, or_false] at hi
          rcases hi with rfl | rfl | rfl
          · refine eOp_app1 rfl rfl _ _ rfl rfl _ _ _ cs rfl (SC0.keep hb1) hn1000 ?_
            intro v1 Y2 ho1 hbm
            have hB1 : W.heap.size ≤ Y1.heap.size := hb1.size
            replace hb1 := hb1.trans hbm
            have hB1b : Y1.heap.size ≤ Y2.heap.size := hbm.size
            clear hbm
            generalize Y1.heap.size = B1 at *
            refine ⟨hb1, ?_⟩
            simp only [Act.put, List.setIfInBounds_toArray]
            refine wpAnyE_all (rs := [4, 7]) (by kernel_rfl) (by simp) ?_
            intro i hi Y3 hbn
            replace ho1 := ho1.keep hbn
            replace hB1b := Nat.le_trans hB1b hbn.size
            replace hb1 := hb1.trans hbn
            clear hbn
            simp only [List.mem_cons, List.not_mem_nil, or_false] at hi
            rcases hi with rfl | rfl
            · go_simp
              have hbm : Bl Y3 (Y3.alloc (.cells #[.string ⟨#[116]⟩, .slice (some ⟨gi, 0, none⟩) 1 1, .int .i64 0, .int .i64 0, .int .i64 0, .float .f64 0, .int .i64 0, .string ⟨#[108, 97, 116, 101, 115, 116]⟩] 39)) := (Bl.refl Y3).alloc _
              have cj := AC.new Y3 Y3.heap.size rfl [.string ⟨#[116]⟩, .slice (some ⟨gi, 0, none⟩) 1 1, .int .i64 0, .int .i64 0, .int .i64 0, .float .f64 0, .int .i64 0, .string ⟨#[108, 97, 116, 101, 115, 116]⟩] 39
              replace ho1 := ho1.keep hbm
              replace hB1b := Nat.le_trans hB1b hbm.size
              replace hb1 := hb1.trans hbm
              clear hbm
              refine ⟨hb1, ?_⟩
              generalize Y3.alloc (.cells #[.string ⟨#[116]⟩, .slice (some ⟨gi, 0, none⟩) 1 1, .int .i64 0, .int .i64 0, .int .i64 0, .float .f64 0, .int .i64 0, .string ⟨#[108, 97, 116, 101, 115, 116]⟩] 39) = Y4 at *
              generalize Y3.heap.size = j at *
              refine wpAnyE_all (rs := [5, 7]) (by kernel_rfl) (by simp) ?_
              intro i hi Y5 hbn
              replace ho1 := ho1.keep hbn
              replace hB1b := Nat.le_trans hB1b hbn.size
              replace cj := cj.keep hbn
              replace hb1 := hb1.trans hbn
              clear hbn
              simp only [List.mem_cons, List.not_mem_nil, or_false] at hi
              rcases hi with rfl | rfl
              · refine eOp_app2 rfl rfl _ _ rfl _ v1 n cs rfl ho1 hB1b hn1000 j [.string ⟨#[116]⟩, .slice (some ⟨gi, 0, none⟩) 1 1, .int .i64 0, .int .i64 0, .int .i64 0, .float .f64 0, .int .i64 0, .string ⟨#[108, 97, 116, 101, 115, 116]⟩] rfl cj rfl (by simp [Value.oneCell']) ?_
                intro v2 Y6 ho2 hgr
                replace hb1 := Bl.grownRow hb1 ho1 hB1 hgr
                obtain ⟨a2, c2, rfl, VA2⟩ := va_own (V := ⟨kT, [M + 1], 0, 0, ⟨0, 0, 0, sLatest⟩⟩) VA0 SC0 hb1 ho2 hn1000b rfl ⟨_, _, _, rfl, IV0.keep hb1⟩ rfl rfl rfl rfl rfl rfl hVok
                clear ho1 ho2 hgr hB1 hB1b cj
                refine ⟨hb1, ?_⟩
                simp only [Act.put, List.setIfInBounds_toArray]
                refine wpAnyE_all (rs := [6, 7]) (by kernel_rfl) (by simp) ?_
                intro i hi Y7 hbn
                replace VA2 := VA2.keep hbn
                replace hb1 := hb1.trans hbn
                clear hbn
                simp only [List.mem_cons, List.not_mem_nil, or_false] at hi
                rcases hi with rfl | rfl
                · go_simp
                  refine (value_agg kT _ _ _ _ _ _ _ _ _ HX (by decide) VA2).mono ?_
                  rintro e Y8 ⟨rfl, hbm⟩
                  replace hb1 := hb1.trans hbm
                  clear hbm VA2
                  refine ⟨_, rfl, hb1, ?_⟩
                  refine wpAnyE_one (i := 7) (by kernel_rfl) ?_
                  intro Y9 hbn
                  replace hb1 := hb1.trans hbn
                  clear hbn
                  go_simp
                  have hbm : Bl Y9 (Y9.alloc (.cells #[.bool false, .float .f64 0, .int .i64 0, .string ⟨#[]⟩] 29)) := (Bl.refl Y9).alloc _
                  have cg := AC.new Y9 Y9.heap.size rfl [.bool false, .float .f64 0, .int .i64 0, .string ⟨#[]⟩] 29
                  have hzg : W.heap.size ≤ Y9.heap.size := hb1.size
                  replace hb1 := hb1.trans hbm
                  clear hbm
                  refine ⟨hb1, ?_⟩
                  generalize Y9.alloc (.cells #[.bool false, .float .f64 0, .int .i64 0, .string ⟨#[]⟩] 29) = Y10 at *
                  generalize Y9.heap.size = g at *
                  refine wpAnyE_one (i := 8) (by kernel_rfl) ?_
                  intro Y11 hbn
                  replace cg := cg.keep hbn
                  replace hb1 := hb1.trans hbn
                  clear hbn
                  obtain ⟨g0, g1, g2, g3⟩ := cg.val
                  have f0 := cg.frozen 0
                  have f1 := cg.frozen 1
                  have f2 := cg.frozen 2
                  have f3 := cg.frozen 3
                  go_simp
                  clear g0 g1 g2 g3 f0 f1 f2 f3
                  replace hb1 := hb1.store4 hzg (.bool true) (.float .f64 0) (.int .i64 0) (.string sLatest)
                  replace cg := cg.set4 (.bool true) (.float .f64 0) (.int .i64 0) (.string sLatest)
                  refine ⟨hb1, ?_⟩
                  generalize ((((Y11.setCell ⟨g, 0, none⟩ (.bool true)).setCell ⟨g, 1, none⟩ (.float .f64 0)).setCell ⟨g, 2, none⟩ (.int .i64 0)).setCell ⟨g, 3, none⟩ (.string sLatest)) = Y12 at *
                  refine wpAnyE_done (by kernel_rfl) ?_
                  intro Y13 hbn
                  replace cg := cg.keep hbn
                  replace hb1 := hb1.trans hbn
                  clear hbn
                  go_step
                  go_meet
                  case rel => exact ⟨g, rfl, GD.trans hb1, cg⟩
                · go_simp
                  have hbm : Bl Y7 (Y7.alloc (.cells #[.bool false, .float .f64 0, .int .i64 0, .string ⟨#[]⟩] 29)) := (Bl.refl Y7).alloc _
                  have cg := AC.new Y7 Y7.heap.size rfl [.bool false, .float .f64 0, .int .i64 0, .string ⟨#[]⟩] 29
                  have hzg : W.heap.size ≤ Y7.heap.size := hb1.size
                  replace VA2 := VA2.keep hbm
                  replace hb1 := hb1.trans hbm
                  clear hbm
                  refine ⟨hb1, ?_⟩
                  generalize Y7.alloc (.cells #[.bool false, .float .f64 0, .int .i64 0, .string ⟨#[]⟩] 29) = Y14 at *
                  generalize Y7.heap.size = g at *
                  refine wpAnyE_one (i := 6) (by kernel_rfl) ?_
                  intro Y15 hbn
                  replace cg := cg.keep hbn
                  replace VA2 := VA2.keep hbn
                  replace hb1 := hb1.trans hbn
                  clear hbn
                  go_simp
                  refine (value_agg kT _ _ _ _ _ _ _ _ _ HX (by decide) VA2).mono ?_
                  rintro e Y16 ⟨rfl, hbm⟩
                  replace cg := cg.keep hbm
                  replace hb1 := hb1.trans hbm
                  clear hbm VA2
                  refine ⟨_, rfl, hb1, ?_⟩
                  refine wpAnyE_one (i := 8) (by kernel_rfl) ?_
                  intro Y17 hbn
                  replace cg := cg.keep hbn
                  replace hb1 := hb1.trans hbn
                  clear hbn
                  obtain ⟨g0, g1, g2, g3⟩ := cg.val
                  have f0 := cg.frozen 0
                  have f1 := cg.frozen 1
                  have f2 := cg.frozen 2
                  have f3 := cg.frozen 3
                  go_simp
                  clear g0 g1 g2 g3 f0 f1 f2 f3
                  replace hb1 := hb1.store4 hzg (.bool true) (.float .f64 0) (.int .i64 0) (.string sLatest)
                  replace cg := cg.set4 (.bool true) (.float .f64 0) (.int .i64 0) (.string sLatest)
                  refine ⟨hb1, ?_⟩
                  generalize ((((Y17.setCell ⟨g, 0, none⟩ (.bool true)).setCell ⟨g, 1, none⟩ (.float .f64 0)).setCell ⟨g, 2, none⟩ (.int .i64 0)).setCell ⟨g, 3, none⟩ (.string sLatest)) = Y18 at *
                  refine wpAnyE_done (by kernel_rfl) ?_
                  intro Y19 hbn
                  replace cg := cg.keep hbn
                  replace hb1 := hb1.trans hbn
                  clear hbn
                  go_step
                  go_meet
                  case rel => exact ⟨g, rfl, GD.trans hb1, cg⟩
              · go_simp
                have hbm : Bl Y5 (Y5.alloc (.cells #[.bool false, .float .f64 0, .int .i64 0, .string ⟨#[]⟩] 29)) := (Bl.refl Y5).alloc _
                have cg := AC.new Y5 Y5.heap.size rfl [.bool false, .float .f64 0, .int .i64 0, .string ⟨#[]⟩] 29
                have hzg : W.heap.size ≤ Y5.heap.size := hb1.size
                have hne := ho1.ne_ge (Nat.le_refl Y5.heap.size)
                replace ho1 := ho1.keep hbm
                replace hB1b := Nat.le_trans hB1b hbm.size
                replace cj := cj.keep hbm
                replace hb1 := hb1.trans hbm
                clear hbm
                refine ⟨hb1, ?_⟩
                generalize Y5.alloc (.cells #[.bool false, .float .f64 0, .int .i64 0, .string ⟨#[]⟩] 29) = Y20 at *
                generalize Y5.heap.size = g at *
                refine wpAnyE_one (i := 5) (by kernel_rfl) ?_
                intro Y21 hbn
                replace ho1 := ho1.keep hbn
                replace hB1b := Nat.le_trans hB1b hbn.size
                replace cj := cj.keep hbn
                replace cg := cg.keep hbn
                replace hb1 := hb1.trans hbn
                clear hbn
                refine eOp_app2 rfl rfl _ _ rfl _ v1 n cs rfl ho1 hB1b hn1000 j [.string ⟨#[116]⟩, .slice (some ⟨gi, 0, none⟩) 1 1, .int .i64 0, .int .i64 0, .int .i64 0, .float .f64 0, .int .i64 0, .string ⟨#[108, 97, 116, 101, 115, 116]⟩] rfl cj rfl (by simp [Value.oneCell']) ?_
                intro v2 Y22 ho2 hgr
                replace cg := cg.grown hgr hne
                replace hb1 := Bl.grownRow hb1 ho1 hB1 hgr
                obtain ⟨a2, c2, rfl, VA2⟩ := va_own (V := ⟨kT, [M + 1], 0, 0, ⟨0, 0, 0, sLatest⟩⟩) VA0 SC0 hb1 ho2 hn1000b rfl ⟨_, _, _, rfl, IV0.keep hb1⟩ rfl rfl rfl rfl rfl rfl hVok
                clear ho1 ho2 hgr hB1 hB1b cj
                clear hne
                refine ⟨hb1, ?_⟩
                simp only [Act.put, List.setIfInBounds_toArray]
                refine wpAnyE_one (i := 6) (by kernel_rfl) ?_
                intro Y23 hbn
                replace cg := cg.keep hbn
                replace VA2 := VA2.keep hbn
                replace hb1 := hb1.trans hbn
                clear hbn
                go_simp
                refine (value_agg kT _ _ _ _ _ _ _ _ _ HX (by decide) VA2).mono ?_
                rintro e Y24 ⟨rfl, hbm⟩
                replace cg := cg.keep hbm
                replace hb1 := hb1.trans hbm
                clear hbm VA2
                refine ⟨_, rfl, hb1, ?_⟩
                refine wpAnyE_one (i := 8) (by kernel_rfl) ?_
                intro Y25 hbn
                replace cg := cg.keep hbn
                replace hb1 := hb1.trans hbn
                clear hbn
                obtain ⟨g0, g1, g2, g3⟩ := cg.val
                have f0 := cg.frozen 0
                have f1 := cg.frozen 1
                have f2 := cg.frozen 2
                have f3 := cg.frozen 3
                go_simp
                clear g0 g1 g2 g3 f0 f1 f2 f3
                replace hb1 := hb1.store4 hzg (.bool true) (.float .f64 0) (.int .i64 0) (.string sLatest)
                replace cg := cg.set4 (.bool true) (.float .f64 0) (.int .i64 0) (.string sLatest)
                refine ⟨hb1, ?_⟩
                generalize ((((Y25.setCell ⟨g, 0, none⟩ (.bool true)).setCell ⟨g, 1, none⟩ (.float .f64 0)).setCell ⟨g, 2, none⟩ (.int .i64 0)).setCell ⟨g, 3, none⟩ (.string sLatest)) = Y26 at *
                refine wpAnyE_done (by kernel_rfl) ?_
                intro Y27 hbn
                replace cg := cg.keep hbn
                replace hb1 := hb1.trans hbn
                clear hbn
                go_step
                go_meet
                case rel => exact ⟨g, rfl, GD.trans hb1, cg⟩
            · go_simp
              have hbm : Bl Y3 (Y3.alloc (.cells #[.bool false, .float .f64 0, .int .i64 0, .string ⟨#[]⟩] 29)) := (Bl.refl Y3).alloc _
              have cg := AC.new Y3 Y3.heap.size rfl [.bool false, .float .f64 0, .int .i64 0, .string ⟨#[]⟩] 29
              have hzg : W.heap.size ≤ Y3.heap.size := hb1.size
              have hne := ho1.ne_ge (Nat.le_refl Y3.heap.size)
              replace ho1 := ho1.keep hbm
              replace hB1b := Nat.le_trans hB1b hbm.size
              replace hb1 := hb1.trans hbm
              clear hbm
              refine ⟨hb1, ?_⟩
              generalize Y3.alloc (.cells #[.bool false, .float .f64 0, .int .i64 0, .string ⟨#[]⟩] 29) = Y28 at *
              generalize Y3.heap.size = g at *
              refine wpAnyE_one (i := 4) (by kernel_rfl) ?_
              intro Y29 hbn
              replace ho1 := ho1.keep hbn
              replace hB1b := Nat.le_trans hB1b hbn.size
              replace cg := cg.keep hbn
              replace hb1 := hb1.trans hbn
              clear hbn
              go_simp
              have hbm : Bl Y29 (Y29.alloc (.cells #[.string ⟨#[116]⟩, .slice (some ⟨gi, 0, none⟩) 1 1, .int .i64 0, .int .i64 0, .int .i64 0, .float .f64 0, .int .i64 0, .string ⟨#[108, 97, 116, 101, 115, 116]⟩] 39)) := (Bl.refl Y29).alloc _
              have cj := AC.new Y29 Y29.heap.size rfl [.string ⟨#[116]⟩, .slice (some ⟨gi, 0, none⟩) 1 1, .int .i64 0, .int .i64 0, .int .i64 0, .float .f64 0, .int .i64 0, .string ⟨#[108, 97, 116, 101, 115, 116]⟩] 39
              replace ho1 := ho1.keep hbm
              replace hB1b := Nat.le_trans hB1b hbm.size
              replace cg := cg.keep hbm
              replace hb1 := hb1.trans hbm
              clear hbm
              refine ⟨hb1, ?_⟩
              generalize Y29.alloc (.cells #[.string ⟨#[116]⟩, .slice (some ⟨gi, 0, none⟩) 1 1, .int .i64 0, .int .i64 0, .int .i64 0, .float .f64 0, .int .i64 0, .string ⟨#[108, 97, 116, 101, 115, 116]⟩] 39) = Y30 at *
              generalize Y29.heap.size = j at *
              refine wpAnyE_one (i := 5) (by kernel_rfl) ?_
              intro Y31 hbn
              replace ho1 := ho1.keep hbn
              replace hB1b := Nat.le_trans hB1b hbn.size
              replace cj := cj.keep hbn
              replace cg := cg.keep hbn
              replace hb1 := hb1.trans hbn
              clear hbn
              refine eOp_app2 rfl rfl _ _ rfl _ v1 n cs rfl ho1 hB1b hn1000 j [.string ⟨#[116]⟩, .slice (some ⟨gi, 0, none⟩) 1 1, .int .i64 0, .int .i64 0, .int .i64 0, .float .f64 0, .int .i64 0, .string ⟨#[108, 97, 116, 101, 115, 116]⟩] rfl cj rfl (by simp [Value.oneCell']) ?_
              intro v2 Y32 ho2 hgr
              replace cg := cg.grown hgr hne
              replace hb1 := Bl.grownRow hb1 ho1 hB1 hgr
              obtain ⟨a2, c2, rfl, VA2⟩ := va_own (V := ⟨kT, [M + 1], 0, 0, ⟨0, 0, 0, sLatest⟩⟩) VA0 SC0 hb1 ho2 hn1000b rfl ⟨_, _, _, rfl, IV0.keep hb1⟩ rfl rfl rfl rfl rfl rfl hVok
              clear ho1 ho2 hgr hB1 hB1b cj
              clear hne
              refine ⟨hb1, ?_⟩
              simp only [Act.put, List.setIfInBounds_toArray]
              refine wpAnyE_one (i := 6) (by kernel_rfl) ?_
              intro Y33 hbn
              replace cg := cg.keep hbn
              replace VA2 := VA2.keep hbn
              replace hb1 := hb1.trans hbn
              clear hbn
              go_simp
              refine (value_agg kT _ _ _ _ _ _ _ _ _ HX (by decide) VA2).mono ?_
              rintro e Y34 ⟨rfl, hbm⟩
              replace cg := cg.keep hbm
              replace hb1 := hb1.trans hbm
              clear hbm VA2
              refine ⟨_, rfl, hb1, ?_⟩
              refine wpAnyE_one (i := 8) (by kernel_rfl) ?_
              intro Y35 hbn
              replace cg := cg.keep hbn
              replace hb1 := hb1.trans hbn
              clear hbn
              obtain ⟨g0, g1, g2, g3⟩ := cg.val
              have f0 := cg.frozen 0
              have f1 := cg.frozen 1
              have f2 := cg.frozen 2
              have f3 := cg.frozen 3
              go_simp
              clear g0 g1 g2 g3 f0 f1 f2 f3
              replace hb1 := hb1.store4 hzg (.bool true) (.float .f64 0) (.int .i64 0) (.string sLatest)
              replace cg := cg.set4 (.bool true) (.float .f64 0) (.int .i64 0) (.string sLatest)
              refine ⟨hb1, ?_⟩
              generalize ((((Y35.setCell ⟨g, 0, none⟩ (.bool true)).setCell ⟨g, 1, none⟩ (.float .f64 0)).setCell ⟨g, 2, none⟩ (.int .i64 0)).setCell ⟨g, 3, none⟩ (.string sLatest)) = Y36 at *
              refine wpAnyE_done (by kernel_rfl) ?_
              intro Y37 hbn
              replace cg := cg.keep hbn
              replace hb1 := hb1.trans hbn
              clear hbn
              go_step
              go_meet
              case rel => exact ⟨g, rfl, GD.trans hb1, cg⟩
          · go_simp
            have hbm : Bl Y1 (Y1.alloc (.cells #[.string ⟨#[116]⟩, .slice (some ⟨gi, 0, none⟩) 1 1, .int .i64 0, .int .i64 0, .int .i64 0, .float .f64 0, .int .i64 0, .string ⟨#[108, 97, 116, 101, 115, 116]⟩] 39)) := (Bl.refl Y1).alloc _
            have cj := AC.new Y1 Y1.heap.size rfl [.string ⟨#[116]⟩, .slice (some ⟨gi, 0, none⟩) 1 1, .int .i64 0, .int .i64 0, .int .i64 0, .float .f64 0, .int .i64 0, .string ⟨#[108, 97, 116, 101, 115, 116]⟩] 39
            replace hb1 := hb1.trans hbm
            clear hbm
            refine ⟨hb1, ?_⟩
            generalize Y1.alloc (.cells #[.string ⟨#[116]⟩, .slice (some ⟨gi, 0, none⟩) 1 1, .int .i64 0, .int .i64 0, .int .i64 0, .float .f64 0, .int .i64 0, .string ⟨#[108, 97, 116, 101, 115, 116]⟩] 39) = Y38 at *
            generalize Y1.heap.size = j at *
            refine wpAnyE_all (rs := [2, 7]) (by kernel_rfl) (by simp) ?_
            intro i hi Y39 hbn
            replace cj := cj.keep hbn
            replace hb1 := hb1.trans hbn
            clear hbn
            simp only [List.mem_cons, List.not_mem_nil, or_false] at hi
            rcases hi with rfl | rfl
            · refine eOp_app1 rfl rfl _ _ rfl rfl _ _ _ cs rfl (SC0.keep hb1) hn1000 ?_
              intro v1 Y40 ho1 hbm
              replace cj := cj.keep hbm
              have hB1 : W.heap.size ≤ Y39.heap.size := hb1.size
              replace hb1 := hb1.trans hbm
              have hB1b : Y39.heap.size ≤ Y40.heap.size := hbm.size
              clear hbm
              generalize Y39.heap.size = B1 at *
              refine ⟨hb1, ?_⟩
              simp only [Act.put, List.setIfInBounds_toArray]
              refine wpAnyE_all (rs := [5, 7]) (by kernel_rfl) (by simp) ?_
              intro i hi Y41 hbn
              replace ho1 := ho1.keep hbn
              replace hB1b := Nat.le_trans hB1b hbn.size
              replace cj := cj.keep hbn
              replace hb1 := hb1.trans hbn
              clear hbn
              simp only [List.mem_cons, List.not_mem_nil, or_false] at hi
              rcases hi with rfl | rfl
              · refine eOp_app2 rfl rfl _ _ rfl _ v1 n cs rfl ho1 hB1b hn1000 j [.string ⟨#[116]⟩, .slice (some ⟨gi, 0, none⟩) 1 1, .int .i64 0, .int .i64 0, .int .i64 0, .float .f64 0, .int .i64 0, .string ⟨#[108, 97, 116, 101, 115, 116]⟩] rfl cj rfl (by simp [Value.oneCell']) ?_
                intro v2 Y42 ho2 hgr
                replace hb1 := Bl.grownRow hb1 ho1 hB1 hgr
                obtain ⟨a2, c2, rfl, VA2⟩ := va_own (V := ⟨kT, [M + 1], 0, 0, ⟨0, 0, 0, sLatest⟩⟩) VA0 SC0 hb1 ho2 hn1000b rfl ⟨_, _, _, rfl, IV0.keep hb1⟩ rfl rfl rfl rfl rfl rfl hVok
                clear ho1 ho2 hgr hB1 hB1b cj
                refine ⟨hb1, ?_⟩
                simp only [Act.put, List.setIfInBounds_toArray]
                refine wpAnyE_all (rs := [6, 7]) (by kernel_rfl) (by simp) ?_
                intro i hi Y43 hbn
                replace VA2 := VA2.keep hbn
                replace hb1 := hb1.trans hbn
                clear hbn
                simp only [List.mem_cons, List.not_mem_nil, or_false] at hi
                rcases hi with rfl | rfl
                · go_simp
                  refine (value_agg kT _ _ _ _ _ _ _ _ _ HX (by decide) VA2).mono ?_
                  rintro e Y44 ⟨rfl, hbm⟩
                  replace hb1 := hb1.trans hbm
                  clear hbm VA2
                  refine ⟨_, rfl, hb1, ?_⟩
                  refine wpAnyE_one (i := 7) (by kernel_rfl) ?_
                  intro Y45 hbn
                  replace hb1 := hb1.trans hbn
                  clear hbn
                  go_simp
                  have hbm : Bl Y45 (Y45.alloc (.cells #[.bool false, .float .f64 0, .int .i64 0, .string ⟨#[]⟩] 29)) := (Bl.refl Y45).alloc _
                  have cg := AC.new Y45 Y45.heap.size rfl [.bool false, .float .f64 0, .int .i64 0, .string ⟨#[]⟩] 29
                  have hzg : W.heap.size ≤ Y45.heap.size := hb1.size
                  replace hb1 := hb1.trans hbm
                  clear hbm
                  refine ⟨hb1, ?_⟩
                  generalize Y45.alloc (.cells #[.bool false, .float .f64 0, .int .i64 0, .string ⟨#[]⟩] 29) = Y46 at *
                  generalize Y45.heap.size = g at *
                  refine wpAnyE_one (i := 8) (by kernel_rfl) ?_
                  intro Y47 hbn
                  replace cg := cg.keep hbn
                  replace hb1 := hb1.trans hbn
                  clear hbn
                  obtain ⟨g0, g1, g2, g3⟩ := cg.val
                  have f0 := cg.frozen 0
                  have f1 := cg.frozen 1
                  have f2 := cg.frozen 2
                  have f3 := cg.frozen 3
                  go_simp
                  clear g0 g1 g2 g3 f0 f1 f2 f3
                  replace hb1 := hb1.store4 hzg (.bool true) (.float .f64 0) (.int .i64 0) (.string sLatest)
                  replace cg := cg.set4 (.bool true) (.float .f64 0) (.int .i64 0) (.string sLatest)
                  refine ⟨hb1, ?_⟩
                  generalize ((((Y47.setCell ⟨g, 0, none⟩ (.bool true)).setCell ⟨g, 1, none⟩ (.float .f64 0)).setCell ⟨g, 2, none⟩ (.int .i64 0)).setCell ⟨g, 3, none⟩ (.string sLatest)) = Y48 at *
                  refine wpAnyE_done (by kernel_rfl) ?_
                  intro Y49 hbn
                  replace cg := cg.keep hbn
                  replace hb1 := hb1.trans hbn
                  clear hbn
                  go_step
                  go_meet
                  case rel => exact ⟨g, rfl, GD.trans hb1, cg⟩
                · go_simp
                  have hbm : Bl Y43 (Y43.alloc (.cells #[.bool false, .float .f64 0, .int .i64 0, .string ⟨#[]⟩] 29)) := (Bl.refl Y43).alloc _
                  have cg := AC.new Y43 Y43.heap.size rfl [.bool false, .float .f64 0, .int .i64 0, .string ⟨#[]⟩] 29
                  have hzg : W.heap.size ≤ Y43.heap.size := hb1.size
                  replace VA2 := VA2.keep hbm
                  replace hb1 := hb1.trans hbm
                  clear hbm
                  refine ⟨hb1, ?_⟩
                  generalize Y43.alloc (.cells #[.bool false, .float .f64 0, .int .i64 0, .string ⟨#[]⟩] 29) = Y50 at *
                  generalize Y43.heap.size = g at *
                  refine wpAnyE_one (i := 6) (by kernel_rfl) ?_
                  intro Y51 hbn
                  replace cg := cg.keep hbn
                  replace VA2 := VA2.keep hbn
                  replace hb1 := hb1.trans hbn
                  clear hbn
                  go_simp
                  refine (value_agg kT _ _ _ _ _ _ _ _ _ HX (by decide) VA2).mono ?_
                  rintro e Y52 ⟨rfl, hbm⟩
                  replace cg := cg.keep hbm
                  replace hb1 := hb1.trans hbm
                  clear hbm VA2
                  refine ⟨_, rfl, hb1, ?_⟩
                  refine wpAnyE_one (i := 8) (by kernel_rfl) ?_
                  intro Y53 hbn
                  replace cg := cg.keep hbn
                  replace hb1 := hb1.trans hbn
                  clear hbn
                  obtain ⟨g0, g1, g2, g3⟩ := cg.val
                  have f0 := cg.frozen 0
                  have f1 := cg.frozen 1
                  have f2 := cg.frozen 2
                  have f3 := cg.frozen 3
                  go_simp
                  clear g0 g1 g2 g3 f0 f1 f2 f3
                  replace hb1 := hb1.store4 hzg (.bool true) (.float .f64 0) (.int .i64 0) (.string sLatest)
                  replace cg := cg.set4 (.bool true) (.float .f64 0) (.int .i64 0) (.string sLatest)
                  refine ⟨hb1, ?_⟩
                  generalize ((((Y53.setCell ⟨g, 0, none⟩ (.bool true)).setCell ⟨g, 1, none⟩ (.float .f64 0)).setCell ⟨g, 2, none⟩ (.int .i64 0)).setCell ⟨g, 3, none⟩ (.string sLatest)) = Y54 at *
                  refine wpAnyE_done (by kernel_rfl) ?_
                  intro Y55 hbn
                  replace cg := cg.keep hbn
                  replace hb1 := hb1.trans hbn
                  clear hbn
                  go_step
                  go_meet
                  case rel => exact ⟨g, rfl, GD.trans hb1, cg⟩
              · go_simp
                have hbm : Bl Y41 (Y41.alloc (.cells #[.bool false, .float .f64 0, .int .i64 0, .string ⟨#[]⟩] 29)) := (Bl.refl Y41).alloc _
                have cg := AC.new Y41 Y41.heap.size rfl [.bool false, .float .f64 0, .int .i64 0, .string ⟨#[]⟩] 29
                have hzg : W.heap.size ≤ Y41.heap.size := hb1.size
                have hne := ho1.ne_ge (Nat.le_refl Y41.heap.size)
                replace ho1 := ho1.keep hbm
                replace hB1b := Nat.le_trans hB1b hbm.size
                replace cj := cj.keep hbm
                replace hb1 := hb1.trans hbm
                clear hbm
                refine ⟨hb1, ?_⟩
                generalize Y41.alloc (.cells #[.bool false, .float .f64 0, .int .i64 0, .string ⟨#[]⟩] 29) = Y56 at *
                generalize Y41.heap.size = g at *
                refine wpAnyE_one (i := 5) (by kernel_rfl) ?_
                intro Y57 hbn
                replace ho1 := ho1.keep hbn
                replace hB1b := Nat.le_trans hB1b hbn.size
                replace cj := cj.keep hbn
                replace cg := cg.keep hbn
                replace hb1 := hb1.trans hbn
                clear hbn
                refine eOp_app2 rfl rfl _ _ rfl _ v1 n cs rfl ho1 hB1b hn1000 j [.string ⟨#[116]⟩, .slice (some ⟨gi, 0, none⟩) 1 1, .int .i64 0, .int .i64 0, .int .i64 0, .float .f64 0, .int .i64 0, .string ⟨#[108, 97, 116, 101, 115, 116]⟩] rfl cj rfl (by simp [Value.oneCell']) ?_
                intro v2 Y58 ho2 hgr
                replace cg := cg.grown hgr hne
                replace hb1 := Bl.grownRow hb1 ho1 hB1 hgr
                obtain ⟨a2, c2, rfl, VA2⟩ := va_own (V := ⟨kT, [M + 1], 0, 0, ⟨0, 0, 0, sLatest⟩⟩) VA0 SC0 hb1 ho2 hn1000b rfl ⟨_, _, _, rfl, IV0.keep hb1⟩ rfl rfl rfl rfl rfl rfl hVok
                clear ho1 ho2 hgr hB1 hB1b cj
                clear hne
                refine ⟨hb1, ?_⟩
                simp only [Act.put, List.setIfInBounds_toArray]
                refine wpAnyE_one (i := 6) (by kernel_rfl) ?_
                intro Y59 hbn
                replace cg := cg.keep hbn
                replace VA2 := VA2.keep hbn
                replace hb1 := hb1.trans hbn
                clear hbn
                go_simp
                refine (value_agg kT _ _ _ _ _ _ _ _ _ HX (by decide) VA2).mono ?_
                rintro e Y60 ⟨rfl, hbm⟩
                replace cg := cg.keep hbm
                replace hb1 := hb1.trans hbm
                clear hbm VA2
                refine ⟨_, rfl, hb1, ?_⟩
                refine wpAnyE_one (i := 8) (by kernel_rfl) ?_
                intro Y61 hbn
                replace cg := cg.keep hbn
                replace hb1 := hb1.trans hbn
                clear hbn
                obtain ⟨g0, g1, g2, g3⟩ := cg.val
                have f0 := cg.frozen 0
                have f1 := cg.frozen 1
                have f2 := cg.frozen 2
                have f3 := cg.frozen 3
                go_simp
                clear g0 g1 g2 g3 f0 f1 f2 f3
                replace hb1 := hb1.store4 hzg (.bool true) (.float .f64 0) (.int .i64 0) (.string sLatest)
                replace cg := cg.set4 (.bool true) (.float .f64 0) (.int .i64 0) (.string sLatest)
                refine ⟨hb1, ?_⟩
                generalize ((((Y61.setCell ⟨g, 0, none⟩ (.bool true)).setCell ⟨g, 1, none⟩ (.float .f64 0)).setCell ⟨g, 2, none⟩ (.int .i64 0)).setCell ⟨g, 3, none⟩ (.string sLatest)) = Y62 at *
                refine wpAnyE_done (by kernel_rfl) ?_
                intro Y63 hbn
                replace cg := cg.keep hbn
                replace hb1 := hb1.trans hbn
                clear hbn
                go_step
                go_meet
                case rel => exact ⟨g, rfl, GD.trans hb1, cg⟩
            · go_simp
              have hbm : Bl Y39 (Y39.alloc (.cells #[.bool false, .float .f64 0, .int .i64 0, .string ⟨#[]⟩] 29)) := (Bl.refl Y39).alloc _
              have cg := AC.new Y39 Y39.heap.size rfl [.bool false, .float .f64 0, .int .i64 0, .string ⟨#[]⟩] 29
              have hzg : W.heap.size ≤ Y39.heap.size := hb1.size
              replace cj := cj.keep hbm
              replace hb1 := hb1.trans hbm
              clear hbm
              refine ⟨hb1, ?_⟩
              generalize Y39.alloc (.cells #[.bool false, .float .f64 0, .int .i64 0, .string ⟨#[]⟩] 29) = Y64 at *
              generalize Y39.heap.size = g at *
              refine wpAnyE_one (i := 2) (by kernel_rfl) ?_
              intro Y65 hbn
              replace cj := cj.keep hbn
              replace cg := cg.keep hbn
              replace hb1 := hb1.trans hbn
              clear hbn
              refine eOp_app1 rfl rfl _ _ rfl rfl _ _ _ cs rfl (SC0.keep hb1) hn1000 ?_
              intro v1 Y66 ho1 hbm
              have hne := ho1.ne_lt cg.lt
              replace cj := cj.keep hbm
              replace cg := cg.keep hbm
              have hB1 : W.heap.size ≤ Y65.heap.size := hb1.size
              replace hb1 := hb1.trans hbm
              have hB1b : Y65.heap.size ≤ Y66.heap.size := hbm.size
              clear hbm
              generalize Y65.heap.size = B1 at *
              refine ⟨hb1, ?_⟩
              simp only [Act.put, List.setIfInBounds_toArray]
              refine wpAnyE_one (i := 5) (by kernel_rfl) ?_
              intro Y67 hbn
              replace ho1 := ho1.keep hbn
              replace hB1b := Nat.le_trans hB1b hbn.size
              replace cj := cj.keep hbn
              replace cg := cg.keep hbn
              replace hb1 := hb1.trans hbn
              clear hbn
              refine eOp_app2 rfl rfl _ _ rfl _ v1 n cs rfl ho1 hB1b hn1000 j [.string ⟨#[116]⟩, .slice (some ⟨gi, 0, none⟩) 1 1, .int .i64 0, .int .i64 0, .int .i64 0, .float .f64 0, .int .i64 0, .string ⟨#[108, 97, 116, 101, 115, 116]⟩] rfl cj rfl (by simp [Value.oneCell']) ?_
              intro v2 Y68 ho2 hgr
              replace cg := cg.grown hgr hne
              replace hb1 := Bl.grownRow hb1 ho1 hB1 hgr
              obtain ⟨a2, c2, rfl, VA2⟩ := va_own (V := ⟨kT, [M + 1], 0, 0, ⟨0, 0, 0, sLatest⟩⟩) VA0 SC0 hb1 ho2 hn1000b rfl ⟨_, _, _, rfl, IV0.keep hb1⟩ rfl rfl rfl rfl rfl rfl hVok
              clear ho1 ho2 hgr hB1 hB1b cj
              clear hne
              refine ⟨hb1, ?_⟩
              simp only [Act.put, List.setIfInBounds_toArray]
              refine wpAnyE_one (i := 6) (by kernel_rfl) ?_
              intro Y69 hbn
              replace cg := cg.keep hbn
              replace VA2 := VA2.keep hbn
              replace hb1 := hb1.trans hbn
              clear hbn
              go_simp
              refine (value_agg kT _ _ _ _ _ _ _ _ _ HX (by decide) VA2).mono ?_
              rintro e Y70 ⟨rfl, hbm⟩
              replace cg := cg.keep hbm
              replace hb1 := hb1.trans hbm
              clear hbm VA2
              refine ⟨_, rfl, hb1, ?_⟩
              refine wpAnyE_one (i := 8) (by kernel_rfl) ?_
              intro Y71 hbn
              replace cg := cg.keep hbn
              replace hb1 := hb1.trans hbn
              clear hbn
              obtain ⟨g0, g1, g2, g3⟩ := cg.val
              have f0 := cg.frozen 0
              have f1 := cg.frozen 1
              have f2 := cg.frozen 2
              have f3 := cg.frozen 3
              go_simp
              clear g0 g1 g2 g3 f0 f1 f2 f3
              replace hb1 := hb1.store4 hzg (.bool true) (.float .f64 0) (.int .i64 0) (.string sLatest)
              replace cg := cg.set4 (.bool true) (.float .f64 0) (.int .i64 0) (.string sLatest)
              refine ⟨hb1, ?_⟩
              generalize ((((Y71.setCell ⟨g, 0, none⟩ (.bool true)).setCell ⟨g, 1, none⟩ (.float .f64 0)).setCell ⟨g, 2, none⟩ (.int .i64 0)).setCell ⟨g, 3, none⟩ (.string sLatest)) = Y72 at *
              refine wpAnyE_done (by kernel_rfl) ?_
              intro Y73 hbn
              replace cg := cg.keep hbn
              replace hb1 := hb1.trans hbn
              clear hbn
              go_step
              go_meet
              case rel => exact ⟨g, rfl, GD.trans hb1, cg⟩
          · go_simp
            have hbm : Bl Y1 (Y1.alloc (.cells #[.bool false, .float .f64 0, .int .i64 0, .string ⟨#[]⟩] 29)) := (Bl.refl Y1).alloc _
            have cg := AC.new Y1 Y1.heap.size rfl [.bool false, .float .f64 0, .int .i64 0, .string ⟨#[]⟩] 29
            have hzg : W.heap.size ≤ Y1.heap.size := hb1.size
            replace hb1 := hb1.trans hbm
            clear hbm
            refine ⟨hb1, ?_⟩
            generalize Y1.alloc (.cells #[.bool false, .float .f64 0, .int .i64 0, .string ⟨#[]⟩] 29) = Y74 at *
            generalize Y1.heap.size = g at *
            refine wpAnyE_all (rs := [2, 4]) (by kernel_rfl) (by simp) ?_
            intro i hi Y75 hbn
            replace cg := cg.keep hbn
            replace hb1 := hb1.trans hbn
            clear hbn
            simp only [List.mem_cons, List.not_mem_nil, or_false] at hi
            rcases hi with rfl | rfl
            · refine eOp_app1 rfl rfl _ _ rfl rfl _ _ _ cs rfl (SC0.keep hb1) hn1000 ?_
              intro v1 Y76 ho1 hbm
              have hne := ho1.ne_lt cg.lt
              replace cg := cg.keep hbm
              have hB1 : W.heap.size ≤ Y75.heap.size := hb1.size
              replace hb1 := hb1.trans hbm
              have hB1b : Y75.heap.size ≤ Y76.heap.size := hbm.size
              clear hbm
              generalize Y75.heap.size = B1 at *
              refine ⟨hb1, ?_⟩
              simp only [Act.put, List.setIfInBounds_toArray]
              refine wpAnyE_one (i := 4) (by kernel_rfl) ?_
              intro Y77 hbn
              replace ho1 := ho1.keep hbn
              replace hB1b := Nat.le_trans hB1b hbn.size
              replace cg := cg.keep hbn
              replace hb1 := hb1.trans hbn
              clear hbn
              go_simp
              have hbm : Bl Y77 (Y77.alloc (.cells #[.string ⟨#[116]⟩, .slice (some ⟨gi, 0, none⟩) 1 1, .int .i64 0, .int .i64 0, .int .i64 0, .float .f64 0, .int .i64 0, .string ⟨#[108, 97, 116, 101, 115, 116]⟩] 39)) := (Bl.refl Y77).alloc _
              have cj := AC.new Y77 Y77.heap.size rfl [.string ⟨#[116]⟩, .slice (some ⟨gi, 0, none⟩) 1 1, .int .i64 0, .int .i64 0, .int .i64 0, .float .f64 0, .int .i64 0, .string ⟨#[108, 97, 116, 101, 115, 116]⟩] 39
              replace ho1 := ho1.keep hbm
              replace hB1b := Nat.le_trans hB1b hbm.size
              replace cg := cg.keep hbm
              replace hb1 := hb1.trans hbm
              clear hbm
              refine ⟨hb1, ?_⟩
              generalize Y77.alloc (.cells #[.string ⟨#[116]⟩, .slice (some ⟨gi, 0, none⟩) 1 1, .int .i64 0, .int .i64 0, .int .i64 0, .float .f64 0, .int .i64 0, .string ⟨#[108, 97, 116, 101, 115, 116]⟩] 39) = Y78 at *
              generalize Y77.heap.size = j at *
              refine wpAnyE_one (i := 5) (by kernel_rfl) ?_
              intro Y79 hbn
              replace ho1 := ho1.keep hbn
              replace hB1b := Nat.le_trans hB1b hbn.size
              replace cj := cj.keep hbn
              replace cg := cg.keep hbn
              replace hb1 := hb1.trans hbn
              clear hbn
              refine eOp_app2 rfl rfl _ _ rfl _ v1 n cs rfl ho1 hB1b hn1000 j [.string ⟨#[116]⟩, .slice (some ⟨gi, 0, none⟩) 1 1, .int .i64 0, .int .i64 0, .int .i64 0, .float .f64 0, .int .i64 0, .string ⟨#[108, 97, 116, 101, 115, 116]⟩] rfl cj rfl (by simp [Value.oneCell']) ?_
              intro v2 Y80 ho2 hgr
              replace cg := cg.grown hgr hne
              replace hb1 := Bl.grownRow hb1 ho1 hB1 hgr
              obtain ⟨a2, c2, rfl, VA2⟩ := va_own (V := ⟨kT, [M + 1], 0, 0, ⟨0, 0, 0, sLatest⟩⟩) VA0 SC0 hb1 ho2 hn1000b rfl ⟨_, _, _, rfl, IV0.keep hb1⟩ rfl rfl rfl rfl rfl rfl hVok
              clear ho1 ho2 hgr hB1 hB1b cj
              clear hne
              refine ⟨hb1, ?_⟩
              simp only [Act.put, List.setIfInBounds_toArray]
              refine wpAnyE_one (i := 6) (by kernel_rfl) ?_
              intro Y81 hbn
              replace cg := cg.keep hbn
              replace VA2 := VA2.keep hbn
              replace hb1 := hb1.trans hbn
              clear hbn
              go_simp
              refine (value_agg kT _ _ _ _ _ _ _ _ _ HX (by decide) VA2).mono ?_
              rintro e Y82 ⟨rfl, hbm⟩
              replace cg := cg.keep hbm
              replace hb1 := hb1.trans hbm
              clear hbm VA2
              refine ⟨_, rfl, hb1, ?_⟩
              refine wpAnyE_one (i := 8) (by kernel_rfl) ?_
              intro Y83 hbn
              replace cg := cg.keep hbn
              replace hb1 := hb1.trans hbn
              clear hbn
              obtain ⟨g0, g1, g2, g3⟩ := cg.val
              have f0 := cg.frozen 0
              have f1 := cg.frozen 1
              have f2 := cg.frozen 2
              have f3 := cg.frozen 3
              go_simp
              clear g0 g1 g2 g3 f0 f1 f2 f3
              replace hb1 := hb1.store4 hzg (.bool true) (.float .f64 0) (.int .i64 0) (.string sLatest)
              replace cg := cg.set4 (.bool true) (.float .f64 0) (.int .i64 0) (.string sLatest)
              refine ⟨hb1, ?_⟩
              generalize ((((Y83.setCell ⟨g, 0, none⟩ (.bool true)).setCell ⟨g, 1, none⟩ (.float .f64 0)).setCell ⟨g, 2, none⟩ (.int .i64 0)).setCell ⟨g, 3, none⟩ (.string sLatest)) = Y84 at *
              refine wpAnyE_done (by kernel_rfl) ?_
              intro Y85 hbn
              replace cg := cg.keep hbn
              replace hb1 := hb1.trans hbn
              clear hbn
              go_step
              go_meet
              case rel => exact ⟨g, rfl, GD.trans hb1, cg⟩
            · go_simp
              have hbm : Bl Y75 (Y75.alloc (.cells #[.string ⟨#[116]⟩, .slice (some ⟨gi, 0, none⟩) 1 1, .int .i64 0, .int .i64 0, .int .i64 0, .float .f64 0, .int .i64 0, .string ⟨#[108, 97, 116, 101, 115, 116]⟩] 39)) := (Bl.refl Y75).alloc _
              have cj := AC.new Y75 Y75.heap.size rfl [.string ⟨#[116]⟩, .slice (some ⟨gi, 0, none⟩) 1 1, .int .i64 0, .int .i64 0, .int .i64 0, .float .f64 0, .int .i64 0, .string ⟨#[108, 97, 116, 101, 115, 116]⟩] 39
              replace cg := cg.keep hbm
              replace hb1 := hb1.trans hbm
              clear hbm
              refine ⟨hb1, ?_⟩
              generalize Y75.alloc (.cells #[.string ⟨#[116]⟩, .slice (some ⟨gi, 0, none⟩) 1 1, .int .i64 0, .int .i64 0, .int .i64 0, .float .f64 0, .int .i64 0, .string ⟨#[108, 97, 116, 101, 115, 116]⟩] 39) = Y86 at *
              generalize Y75.heap.size = j at *
              refine wpAnyE_one (i := 2) (by kernel_rfl) ?_
              intro Y87 hbn
              replace cj := cj.keep hbn
              replace cg := cg.keep hbn
              replace hb1 := hb1.trans hbn
              clear hbn
              refine eOp_app1 rfl rfl _ _ rfl rfl _ _ _ cs rfl (SC0.keep hb1) hn1000 ?_
              intro v1 Y88 ho1 hbm
              have hne := ho1.ne_lt cg.lt
              replace cj := cj.keep hbm
              replace cg := cg.keep hbm
              have hB1 : W.heap.size ≤ Y87.heap.size := hb1.size
              replace hb1 := hb1.trans hbm
              have hB1b : Y87.heap.size ≤ Y88.heap.size := hbm.size
              clear hbm
              generalize Y87.heap.size = B1 at *
              refine ⟨hb1, ?_⟩
              simp only [Act.put, List.setIfInBounds_toArray]
              refine wpAnyE_one (i := 5) (by kernel_rfl) ?_
              intro Y89 hbn
              replace ho1 := ho1.keep hbn
              replace hB1b := Nat.le_trans hB1b hbn.size
              replace cj := cj.keep hbn
              replace cg := cg.keep hbn
              replace hb1 := hb1.trans hbn
              clear hbn
              refine eOp_app2 rfl rfl _ _ rfl _ v1 n cs rfl ho1 hB1b hn1000 j [.string ⟨#[116]⟩, .slice (some ⟨gi, 0, none⟩) 1 1, .int .i64 0, .int .i64 0, .int .i64 0, .float .f64 0, .int .i64 0, .string ⟨#[108, 97, 116, 101, 115, 116]⟩] rfl cj rfl (by simp [Value.oneCell']) ?_
              intro v2 Y90 ho2 hgr
              replace cg := cg.grown hgr hne
              replace hb1 := Bl.grownRow hb1 ho1 hB1 hgr
              obtain ⟨a2, c2, rfl, VA2⟩ := va_own (V := ⟨kT, [M + 1], 0, 0, ⟨0, 0, 0, sLatest⟩⟩) VA0 SC0 hb1 ho2 hn1000b rfl ⟨_, _, _, rfl, IV0.keep hb1⟩ rfl rfl rfl rfl rfl rfl hVok
              clear ho1 ho2 hgr hB1 hB1b cj
              clear hne
              refine ⟨hb1, ?_⟩
              simp only [Act.put, List.setIfInBounds_toArray]
              refine wpAnyE_one (i := 6) (by kernel_rfl) ?_
              intro Y91 hbn
              replace cg := cg.keep hbn
              replace VA2 := VA2.keep hbn
              replace hb1 := hb1.trans hbn
              clear hbn
              go_simp
              refine (value_agg kT _ _ _ _ _ _ _ _ _ HX (by decide) VA2).mono ?_
              rintro e Y92 ⟨rfl, hbm⟩
              replace cg := cg.keep hbm
              replace hb1 := hb1.trans hbm
              clear hbm VA2
              refine ⟨_, rfl, hb1, ?_⟩
              refine wpAnyE_one (i := 8) (by kernel_rfl) ?_
              intro Y93 hbn
              replace cg := cg.keep hbn
              replace hb1 := hb1.trans hbn
              clear hbn
              obtain ⟨g0, g1, g2, g3⟩ := cg.val
              have f0 := cg.frozen 0
              have f1 := cg.frozen 1
              have f2 := cg.frozen 2
              have f3 := cg.frozen 3
              go_simp
              clear g0 g1 g2 g3 f0 f1 f2 f3
              replace hb1 := hb1.store4 hzg (.bool true) (.float .f64 0) (.int .i64 0) (.string sLatest)
              replace cg := cg.set4 (.bool true) (.float .f64 0) (.int .i64 0) (.string sLatest)
              refine ⟨hb1, ?_⟩
              generalize ((((Y93.setCell ⟨g, 0, none⟩ (.bool true)).setCell ⟨g, 1, none⟩ (.float .f64 0)).setCell ⟨g, 2, none⟩ (.int .i64 0)).setCell ⟨g, 3, none⟩ (.string sLatest)) = Y94 at *
              refine wpAnyE_done (by kernel_rfl) ?_
              intro Y95 hbn
              replace cg := cg.keep hbn
              replace hb1 := hb1.trans hbn
              clear hbn
              go_step
              go_meet
              case rel => exact ⟨g, rfl, GD.trans hb1, cg⟩
        case rest =>
          obtain ⟨gx, rfl, GE, cx⟩ := hcut
          replace cv := cv.keep GE
          replace IV := IV.keep GE
          replace G := G.trans GE
          clear GE
          obtain ⟨p0, p1, p2, p3, p4, p5, p6, p7⟩ := cv.eight
          go_upto_region 23 with fail
          clear p0 p1 p2 p3 p4 p5 p6 p7
          have cw := AC.new wc wc.heap.size rfl [.string ⟨#[116]⟩, .slice (some ⟨gi, 0, none⟩) 1 1, .int .i64 0, .int .i64 0, .int .i64 0, .float .f64 0, .int .i64 0, .string ⟨#[108, 97, 116, 101, 115, 116]⟩] 39
          have G5 : Bl wc (wc.alloc (.cells #[.string ⟨#[116]⟩, .slice (some ⟨gi, 0, none⟩) 1 1, .int .i64 0, .int .i64 0, .int .i64 0, .float .f64 0, .int .i64 0, .string ⟨#[108, 97, 116, 101, 115, 116]⟩] 39)) := (Bl.refl wc).alloc _
          have hz5 : wc.heap.size ≤ wc.heap.size := Nat.le_refl _
          generalize wc.alloc (.cells #[.string ⟨#[116]⟩, .slice (some ⟨gi, 0, none⟩) 1 1, .int .i64 0, .int .i64 0, .int .i64 0, .float .f64 0, .int .i64 0, .string ⟨#[108, 97, 116, 101, 115, 116]⟩] 39) = W5 at *
          obtain ⟨gw, hgw⟩ : ∃ gw, gw = wc.heap.size := ⟨_, rfl⟩
          rw [← hgw] at cw ⊢
          replace hz5 : wc.heap.size ≤ gw := by omega
          clear hgw
          obtain ⟨p0, p1, p2, p3, p4, p5, p6, p7⟩ := cw.eight
          have f4 := cw.frozen 4
          have f5 := cw.frozen 5
          have f6 := cw.frozen 6
          have f7 := cw.frozen 7
          go_upto_region 24 with fail
          clear p0 p1 p2 p3 p4 p5 p6 p7 f4 f5 f6 f7
          replace cw := cw.set4at (.int .i64 4) (.float .f64 0) (.int .i64 0) (.string ⟨#[]⟩)
          replace G5 := G5.store4at hz5 (.int .i64 4) (.float .f64 0) (.int .i64 0) (.string ⟨#[]⟩)
          generalize ((((W5.setCell ⟨gw, 4, none⟩ (.int .i64 4)).setCell ⟨gw, 5, none⟩ (.float .f64 0)).setCell ⟨gw, 6, none⟩ (.int .i64 0)).setCell ⟨gw, 7, none⟩ (.string ⟨#[]⟩)) = W6 at *
          replace cx := cx.keep G5
          replace IV := IV.keep G5
          replace G := G.trans G5
          clear G5 hz5 cv
          have VA0 := hv.keep G
          obtain ⟨cs, SC0⟩ := va_src VA0
          have hown := OVS.lit (B := W6.heap.size) (w := W6) (cs := [.string ⟨#[116]⟩, .slice (some ⟨gi, 0, none⟩) 1 1, .int .i64 0, .int .i64 0, .int .i64 4, .float .f64 0, .int .i64 0, .string ⟨#[]⟩]) rfl (Nat.le_refl _)
          obtain ⟨p0, p1, p2, p3, p4, p5, p6, p7⟩ := cw.eight
          go_wp2_with (at_builtin; refine wpList_app3 rfl _ _ rfl W6.heap.size _ [.string ⟨#[116]⟩, .slice (some ⟨gi, 0, none⟩) 1 1, .int .i64 0, .int .i64 0, .int .i64 4, .float .f64 0, .int .i64 0, .string ⟨#[]⟩] rfl hown (by simp) _ _ _ cs rfl (SC0.keep ((Bl.refl W6).alloc _)) hn1000 ?_)
          intro v2 W7 ho2 hgr
          have hb7 : Bl W6 W7 := Bl.grownRow ((Bl.refl W6).alloc _) hown (Nat.le_refl _) hgr
          obtain ⟨a2, c2, rfl, VA2⟩ := va_cons (V := ⟨kT, [M + 1], 0, 0, ⟨4, 0, 0, nilS⟩⟩) VA0 SC0 hb7 ho2 hn1000b rfl ⟨_, _, _, rfl, IV.keep hb7⟩ rfl rfl rfl rfl rfl rfl ok_clear
          clear p0 p1 p2 p3 p4 p5 p6 p7 ho2 hgr hown SC0 VA0 IV cw
          go_wp2_with fail
          refine (value_agg kT a2 (n + 1) c2 _ _ _ _ _ _ HY (by decide) VA2).mono ?_
          rintro e W8 ⟨rfl, hb8⟩
          replace cx := cx.keep (hb7.trans hb8)
          replace G := G.trans (hb7.trans hb8)
          clear hb7 hb8 VA2
          go_upto_region 25 with fail
          have cy := AC.new W8 W8.heap.size rfl [.bool false, .float .f64 0, .int .i64 0, .string nilS] 29
          replace cx := cx.keep ((Bl.refl W8).alloc (.cells #[.bool false, .float .f64 0, .int .i64 0, .string nilS] 29))
          replace G := G.alloc (.cells #[.bool false, .float .f64 0, .int .i64 0, .string nilS] 29)
          generalize W8.alloc (.cells #[.bool false, .float .f64 0, .int .i64 0, .string nilS] 29) = W9 at *
          generalize W8.heap.size = gy at *
          go_wp2_with fail
          refine (alive6_any _ (HT.out.keep G)).mono ?_
          rintro e U1 ⟨rfl, hb⟩
          replace G := G.trans hb
          replace cx := cx.keep hb
          replace cy := cy.keep hb
          clear hb
          obtain ⟨x0, x1, x2, x3⟩ := cx.val
          obtain ⟨y0, y1, y2, y3⟩ := cy.val
          have qs : sLatest.toList = [108, 97, 116, 101, 115, 116] := by rw [ByteArray.toList_eq]; rfl
          go_wp2_with fail
          go_ret
          exact ⟨rfl, G⟩
  · have hk0 : decide (40 < (n : Int)) = true := by simp; omega
    go_enter Tryd.func7, Tryd.ntmps7
    go_wp2_with fail
    refine (alive6_any _ hT).mono ?_
    rintro e w1 ⟨rfl, hb1⟩
    go_wp2_with fail
    go_ret
    exact ⟨rfl, hb1⟩
end Go.Proofs.YtafoagllbajfnaaDoor
