/- the walk of TxnReads. By an AI agent. -/
import Derived.Test.YtaokennbpgdngaaCore32
import Derived.Test.YtaokennbpgdngaaQTxLight

set_option linter.unusedVariables false
set_option linter.unusedSimpArgs false
namespace Go.Proofs.Ytaokennbpgdngaa
open Go.RowKit
attribute [local go_sem] eOp eOper eUpon

theorem wpAnyE_via {P : Program} {ops : Array Oper} {md : Region.Mode} {C : World → Prop} {Q : Act → World → Prop} : ∀ {m : Nat} {listed : Array Bool} {a : Act} {w : World} (R : Act → Act → World → Prop), wpAnyE P md ops C (R a) m listed a w → (∀ a' w', R a a' w' → Q a' w') → wpAnyE P md ops C Q m listed a w := by
  intro m listed a w R h hq
  generalize R a = S at h hq
  clear R
  induction m generalizing listed a w with
  | zero => exact ⟨h.1, fun w' hb => hq _ _ (h.2 w' hb)⟩
  | succ m ih => exact ⟨fun h0 w' hb => hq _ _ (h.1 h0 w' hb), fun i hi w' hb => eOp_mono (fun a w hk => ⟨hk.1, ih hk.2⟩) (h.2 i hi w' hb)⟩
theorem readW_app (key : ByteArray) (v : ValL) (xs ys : List (ByteArray × ActL)) : readW key v (xs ++ ys) = readW key (readW key v xs) ys := by
  unfold readW
  rw [List.foldl_append]
theorem addC_zero {n : Nat} {key : ByteArray} {x : ActL} {ws : List (ByteArray × ActL)} (hl : ws.length = n) (h : addC n key x = 0) : addLs ws key x = ws ++ [(key, x)] ∧ n < 200 := by
  unfold addC at h
  split at h
  · rename_i h1
    split at h
    · rename_i h2
      unfold addLs
      rw [if_pos ⟨h1, by omega⟩]
      exact ⟨rfl, h2⟩
    · exact absurd h (by decide)
  · exact absurd h (by decide)
theorem addC_not {n : Nat} {key : ByteArray} {x : ActL} {ws : List (ByteArray × ActL)} (hl : ws.length = n) (h : addC n key x ≠ 0) : addLs ws key x = [] ∧ (addC n key x = 40 ∨ addC n key x = 2 ∧ 200 ≤ n) := by
  unfold addC at h ⊢
  unfold addLs
  split at h
  · rename_i h1
    split at h
    · exact absurd rfl h
    · rename_i h2
      rw [if_neg (by omega), if_pos h1, if_neg h2]
      exact ⟨rfl, .inr ⟨rfl, by omega⟩⟩
  · rename_i h1
    rw [if_neg (fun q => h1 q.1), if_neg h1]
    exact ⟨rfl, .inl rfl⟩
/-- the boxes of TxnReads: its act and its value -/
structure RDB (w W : World) (a : ActL) (v : ValL) : Prop where
  bl : Bl w W
  a : AC W w.heap.size [.int .i64 a.k, .float .f64 a.x, .int .i64 a.n, .string a.s]
  v : AC W (w.heap.size + 1) [.bool v.there, .float .f64 v.x, .int .i64 v.n, .string v.s]
theorem RDB.keep {w W W' : World} {a : ActL} {v : ValL} (h : RDB w W a v) (k : Bl W W') : RDB w W' a v := ⟨h.bl.trans k, h.a.keep k, h.v.keep k⟩
theorem RDB.new (w : World) (a : ActL) (v : ValL) (T U : TypeId) : RDB w ((w.alloc (.cells #[.int .i64 a.k, .float .f64 a.x, .int .i64 a.n, .string a.s] T)).alloc (.cells #[.bool v.there, .float .f64 v.x, .int .i64 v.n, .string v.s] U)) a v :=
  ⟨((Bl.refl w).alloc _).alloc _, (AC.new w _ rfl [.int .i64 a.k, .float .f64 a.x, .int .i64 a.n, .string a.s] T).keep ((Bl.refl _).alloc _), AC.new _ (w.heap.size + 1) (by simp) [.bool v.there, .float .f64 v.x, .int .i64 v.n, .string v.s] U⟩
set_option maxHeartbeats 6400000 in
set_option maxRecDepth 100000 in
theorem txReads_walk (a : Option Addr) (n c : Nat) (ws : List (ByteArray × ActL)) (key other : ByteArray) (x : ActL) (v : ValL) (w : World) (h : WW w a n ws) (hk : key.size ≤ 140737488351232) (ho : other.size ≤ 140737488351232) (ox : x.Ok) (ov : v.Ok) :
    Calls Try.prog 7 #[.slice a n c, .string key, .string other, .agg #[.int .i64 x.k, .float .f64 x.x, .int .i64 x.n, .string x.s], .agg #[.bool v.there, .float .f64 v.x, .int .i64 v.n, .string v.s]] w fun e w' => e = .returned (.bool true) ∧ Bl w w' := by
  have hsf := store_float
  have HW := Lib.hid h
  have HL := Lib.hid h.len
  have hcap := h.cap
  have OX := Lib.hid ox
  have OV := Lib.hid ov
  have hxs := ox.s
  have hvs := ov.s
  have G := RDB.new w x v 54 51
  obtain ⟨ak, ax, an, az⟩ := x
  obtain ⟨vb, vx, vn, vs⟩ := v
  dsimp only at G hxs hvs ⊢
  clear h ox ov
  cases hl : lightB ws
  · have HLB := Lib.hid hl
    clear hl
    go_enter Try.func7, Try.ntmps7
    go_wp2_with fail
    refine (light21_any a n c ws _ (HW.out.keep G.bl)).mono ?_
    rintro e w1 ⟨rfl, hb1⟩
    rw [HLB.out]
    go_wp2_with fail
    refine (alive21_any _).mono ?_
    rintro e w2 ⟨rfl, hb2⟩
    go_wp2_with fail
    go_ret
    exact ⟨rfl, G.bl.trans (hb1.trans hb2)⟩
  have HLB := Lib.hid hl
  have hnl := lightB_len hl
  rw [HL.out] at hnl
  clear hl
  by_cases hko : key = other
  · have q1 : (key.toList == other.toList) = true := by rw [hko]; simp
    clear hko
    go_enter Try.func7, Try.ntmps7
    go_wp2_with fail
    refine (light21_any a n c ws _ (HW.out.keep G.bl)).mono ?_
    rintro e w1 ⟨rfl, hb1⟩
    rw [HLB.out]
    go_wp2_with fail
    refine (alive21_any _).mono ?_
    rintro e w2 ⟨rfl, hb2⟩
    go_wp2_with fail
    go_ret
    exact ⟨rfl, G.bl.trans (hb1.trans hb2)⟩
  have q1 : (key.toList == other.toList) = false := by rw [beq_eq_false_iff_ne]; exact fun e => hko (toList_inj e)
  have HKO := Lib.hid hko
  clear hko
  obtain ⟨S, hS⟩ : ∃ S : Nat, key.size + other.size + az.size + vs.size = S := ⟨_, rfl⟩
  have s1 : IntKind.i64.wrap ((key.size : Int) + (other.size : Int)) = ((key.size + other.size : Nat) : Int) := by rw [IntKind.wrap_i64]; omega
  have s2 : IntKind.i64.wrap (((key.size + other.size : Nat) : Int) + (az.size : Int)) = ((key.size + other.size + az.size : Nat) : Int) := by rw [IntKind.wrap_i64]; omega
  have s3 : IntKind.i64.wrap (((key.size + other.size + az.size : Nat) : Int) + (vs.size : Int)) = (S : Int) := by rw [IntKind.wrap_i64]; omega
  by_cases hs6 : 6000 < S
  · have d1 : decide ((6000 : Int) < (S : Int)) = true := decide_eq_true (by omega)
    have d2 : decide (6000 < S) = true := decide_eq_true hs6
    go_enter Try.func7, Try.ntmps7
    go_wp2_with fail
    refine (light21_any a n c ws _ (HW.out.keep G.bl)).mono ?_
    rintro e w1 ⟨rfl, hb1⟩
    rw [HLB.out]
    have G1 := G.keep hb1
    obtain ⟨a0, a1, a2, a3⟩ := G1.a.act
    obtain ⟨v0, v1, v2, v3⟩ := G1.v.val
    go_wp2_with fail
    refine (alive21_any _).mono ?_
    rintro e w2 ⟨rfl, hb2⟩
    go_wp2_with fail
    go_ret
    exact ⟨rfl, G.bl.trans (hb1.trans hb2)⟩
  have d1 : decide ((6000 : Int) < (S : Int)) = false := decide_eq_false (by omega)
  have d2 : decide (6000 < S) = false := decide_eq_false hs6
  have hks : key.size ≤ 140737488351232 := hk
  obtain ⟨CC, hcc⟩ : ∃ CC, addC n key ⟨ak, ax, an, az⟩ = CC := ⟨_, rfl⟩
  have HCC := Lib.hid hcc
  clear hcc
  go_enter Try.func7, Try.ntmps7
  go_wp2_with fail
  generalize (w.alloc _).alloc _ = W at *
  have HG := Lib.hid G
  clear G
  refine (light21_any a n c ws _ (HW.out.keep HG.out.bl)).mono ?_
  rintro e w1 ⟨rfl, hb1⟩
  rw [HLB.out]
  have G1 := Lib.hid (HG.out.keep hb1)
  clear hb1 HG
  obtain ⟨a0, a1, a2, a3⟩ := G1.out.a.act
  obtain ⟨v0, v1, v2, v3⟩ := G1.out.v.val
  go_wp2_with fail
  refine (tadd_any a n c ws key ⟨ak, ax, an, az⟩ _ (HW.out.keep G1.out.bl) hk OX.out).mono ?_
  rintro e w2 ⟨m, rfl, hm, hb2⟩
  have G2 := Lib.hid (G1.out.keep hb2)
  rw [HCC.out]
  obtain ⟨ma, mc, rfl⟩ := hm.form
  have HM := Lib.hid hm
  clear hm hb2 G1 a0 a1 a2 a3 v0 v1 v2 v3 d1 d2 s1 s2 s3 q1
  by_cases hc0 : CC = 0
  case neg =>
    have q0 : (CC != 0) = true := by rw [bne_iff_ne]; exact hc0
    obtain ⟨hnil, hor⟩ := addC_not (ws := ws) HL.out (by rw [HCC.out]; exact hc0 : addC n key ⟨ak, ax, an, az⟩ ≠ 0)
    rw [hnil] at HM ⊢
    rw [HCC.out] at hor
    clear hc0 hnil
    rcases hor with rfl | ⟨rfl, h200⟩
    · go_wp2_with fail
      refine (alive21_any _).mono ?_
      rintro e w3 ⟨rfl, hb3⟩
      go_wp2_with fail
      go_ret
      exact ⟨rfl, G2.out.bl.trans hb3⟩
    · have d1 : decide ((200 : Int) ≤ (n : Int)) = true := decide_eq_true (by omega)
      have d2 : decide (200 ≤ n) = true := decide_eq_true h200
      go_wp2_with fail
      refine (alive21_any _).mono ?_
      rintro e w3 ⟨rfl, hb3⟩
      go_wp2_with fail
      go_ret
      exact ⟨rfl, G2.out.bl.trans hb3⟩
  subst hc0
  obtain ⟨hadd, h200⟩ := addC_zero (ws := ws) HL.out HCC.out
  rw [hadd] at HM ⊢
  have hlen : (ws ++ [(key, (⟨ak, ax, an, az⟩ : ActL))]).length = n + 1 := by rw [List.length_append, HL.out]; rfl
  rw [hlen] at HM ⊢
  have hokm : ∀ p ∈ ws ++ [(key, (⟨ak, ax, an, az⟩ : ActL))], WrOk p := fun p hp => by
    rcases List.mem_append.1 hp with h | h
    · exact HW.out.ok p h
    · rw [List.mem_singleton.1 h]; exact ⟨hks, OX.out⟩
  have HMW := Lib.hid (HM.out.ww (by omega) hokm)
  have HW2 := Lib.hid (HW.out.keep G2.out.bl)
  have HRA : Hid (readW key ⟨vb, vx, vn, vs⟩ (ws ++ [(key, ⟨ak, ax, an, az⟩)]) = readW key (readW key ⟨vb, vx, vn, vs⟩ ws) [(key, ⟨ak, ax, an, az⟩)]) := Lib.hid (readW_app _ _ _ _)
  have HRO : Hid (readW other ⟨vb, vx, vn, vs⟩ (ws ++ [(key, ⟨ak, ax, an, az⟩)]) = readW other ⟨vb, vx, vn, vs⟩ ws) := Lib.hid (by rw [readW_snoc, if_neg HKO.out])
  have HOK1 := Lib.hid (readW_ok (key := key) OV.out ws (fun p hp => (HW.out.ok p hp).2))
  clear hadd hlen hokm HCC HM
  go_upto_region 6 with fail
  have G3 := Lib.hid (G2.out.keep (Bl.refl w2).drew)
  have HMW3 := Lib.hid (HMW.out.keep (Bl.refl w2).drew)
  have HW3 := Lib.hid (HW2.out.keep (Bl.refl w2).drew)
  clear G2 HMW HW2
  refine wp_region_idx [0, 1, 2, 3, 4, 5, 6, 8, 9, 10, 11, 12] 6 (Bl w2.drew) (fun _ _ h k => h.trans k) (Bl.refl _) (by kernel_rfl) rfl (by kernel_rfl) (by kernel_rfl) ?_
  generalize w2.drew = Z at *
  haveI : Nonempty (ExtC (Bl Z)) := ⟨⟨Z, Bl.refl _⟩⟩
  have k0 : ∀ q : ExtC (Bl Z), _ := fun q => (AC.act (G3.out.keep q.ok).a).1
  have k1 : ∀ q : ExtC (Bl Z), _ := fun q => (AC.act (G3.out.keep q.ok).a).2.1
  have k2 : ∀ q : ExtC (Bl Z), _ := fun q => (AC.act (G3.out.keep q.ok).a).2.2.1
  have k3 : ∀ q : ExtC (Bl Z), _ := fun q => (AC.act (G3.out.keep q.ok).a).2.2.2
  have l0 : ∀ q : ExtC (Bl Z), _ := fun q => (AC.val (G3.out.keep q.ok).v).1
  have l1 : ∀ q : ExtC (Bl Z), _ := fun q => (AC.val (G3.out.keep q.ok).v).2.1
  have l2 : ∀ q : ExtC (Bl Z), _ := fun q => (AC.val (G3.out.keep q.ok).v).2.2.1
  have l3 : ∀ q : ExtC (Bl Z), _ := fun q => (AC.val (G3.out.keep q.ok).v).2.2.2
  have HX := Lib.hid (fun (q : ExtC (Bl Z)) => tread_any ma (n + 1) mc _ key ⟨vb, vx, vn, vs⟩ q.at (HMW3.out.keep q.ok) hk OV.out)
  have HU := Lib.hid (fun (q : ExtC (Bl Z)) => tread_any a n c _ key ⟨vb, vx, vn, vs⟩ q.at (HW3.out.keep q.ok) hk OV.out)
  rw [HRA.out] at HX
  obtain ⟨⟨ub, ux, un, us⟩, hu⟩ : ∃ u, readW key ⟨vb, vx, vn, vs⟩ ws = u := ⟨_, rfl⟩
  rw [hu] at HX HU HOK1
  obtain ⟨⟨rb, rx, rn, rs⟩, hr⟩ : ∃ r, readW key ⟨ub, ux, un, us⟩ [(key, ⟨ak, ax, an, az⟩)] = r := ⟨_, rfl⟩
  rw [hr] at HX
  have HR := Lib.hid hr
  dsimp only at HX HU
  clear hu hr HRA
  repeat (refine wpI_step rfl (fun K hK => ?_); go_simp; first | (refine hK _ ?_; clear hK K) | (apply Exists.intro; refine ⟨fun q => ?_, hK _ ?_⟩; (first | with_reducible exact HX.out q | with_reducible exact HU.out q); clear hK K))
  refine wpI_nil ?_
  clear k0 k1 k2 k3 l0 l1 l2 l3 HX HU this
  have HZ := Lib.hid (Bl.refl Z)
  refine wpAnyE_via (fun a a' w' => ∃ gl gx gy : Nat, a' = (((a.put (some 77) (.slice (some ⟨gl, 0, none⟩) 1 1)).put (some 83) (.agg #[.bool rb, .float .f64 rx, .int .i64 rn, .string rs])).put (some 13) (.pointer (some ⟨gx, 0, none⟩))).put (some 14) (.pointer (some ⟨gy, 0, none⟩)) ∧ Bl Z w' ∧ AC w' gx [.bool rb, .float .f64 rx, .int .i64 rn, .string rs] ∧ AC w' gy [.bool rb, .float .f64 rx, .int .i64 rn, .string rs]) ?h1 ?h2
  case h1 =>
  -- ORDERS6
    refine wpAnyE_all (rs := [7, 14, 15]) (by kernel_rfl) (by decide) ?_
    intro i0 hi0 Y0 hy0
    simp only [List.mem_cons, List.not_mem_nil, or_false] at hi0
    rcases hi0 with rfl | rfl | rfl
    · skip
      go_simp
      have hw0 := WA.lit1 Y0 (key, ⟨ak, ax, an, az⟩) 56
      have hb0 := (Bl.refl Y0).alloc (.cells (writeCs (key, ⟨ak, ax, an, az⟩)).toArray 56)
      unfold writeCs at hw0 hb0
      replace HZ := Lib.hid (HZ.out.trans (hy0.trans hb0))
      have HLW := Lib.hid (hw0.ww (fun p hp => by obtain rfl := List.mem_singleton.1 hp; exact ⟨hk, OX.out⟩))
      clear hw0 hb0 hy0
      generalize Y0.alloc _ = Y1 at *
      generalize Y0.heap.size = gl at *
      refine ⟨HZ.out, ?_⟩
      refine wpAnyE_all (rs := [13, 14, 15]) (by kernel_rfl) (by decide) ?_
      intro i2 hi2 Y2 hy2
      simp only [List.mem_cons, List.not_mem_nil, or_false] at hi2
      rcases hi2 with rfl | rfl | rfl
      · skip
        go_simp
        refine (tread_any (some ⟨gl, 0, none⟩) 1 1 [(key, ⟨ak, ax, an, az⟩)] key ⟨ub, ux, un, us⟩ Y2 (HLW.out.keep hy2) hk HOK1.out).mono ?_
        rintro e Y3 ⟨rfl, hb2⟩
        rw [HR.out]
        replace HLW := Lib.hid (HLW.out.keep (hy2.trans hb2))
        replace HZ := Lib.hid (HZ.out.trans (hy2.trans hb2))
        clear hy2 hb2
        refine ⟨_, rfl, HZ.out, ?_⟩
        refine wpAnyE_all (rs := [14, 15]) (by kernel_rfl) (by decide) ?_
        intro i4 hi4 Y4 hy4
        simp only [List.mem_cons, List.not_mem_nil, or_false] at hi4
        rcases hi4 with rfl | rfl
        · skip
          go_simp
          have ha4 := AC.new Y4 _ rfl [.bool false, .float .f64 0, .int .i64 0, .string ⟨#[]⟩] 51
          have hb4 := (Bl.refl Y4).alloc (.cells ([.bool false, .float .f64 0, .int .i64 0, .string ⟨#[]⟩] : List Value).toArray 51)
          have HGx := Lib.hid (HZ.out.trans hy4).size
          replace HLW := Lib.hid (HLW.out.keep (hy4.trans hb4))
          replace HZ := Lib.hid (HZ.out.trans (hy4.trans hb4))
          have HBx := Lib.hid ha4
          clear ha4 hb4 hy4
          generalize Y4.alloc _ = Y5 at *
          generalize Y4.heap.size = gx at *
          refine ⟨HZ.out, ?_⟩
          refine wpAnyE_one (i := 15) (by kernel_rfl) ?_
          intro Y6 hy6
          go_simp
          have ha6 := AC.new Y6 _ rfl [.bool false, .float .f64 0, .int .i64 0, .string ⟨#[]⟩] 51
          have hb6 := (Bl.refl Y6).alloc (.cells ([.bool false, .float .f64 0, .int .i64 0, .string ⟨#[]⟩] : List Value).toArray 51)
          have HNE := Lib.hid (show Y6.heap.size ≠ gx from Nat.ne_of_gt (HBx.out.keep hy6).lt)
          have HGy := Lib.hid (HZ.out.trans hy6).size
          replace HLW := Lib.hid (HLW.out.keep (hy6.trans hb6))
          replace HBx := Lib.hid (HBx.out.keep (hy6.trans hb6))
          replace HZ := Lib.hid (HZ.out.trans (hy6.trans hb6))
          have HBy := Lib.hid ha6
          clear ha6 hb6 hy6
          generalize Y6.alloc _ = Y7 at *
          generalize Y6.heap.size = gy at *
          refine ⟨HZ.out, ?_⟩
          refine wpAnyE_one (i := 16) (by kernel_rfl) ?_
          intro Y8 hy8
          go_simp
          have fr8 := (HBx.out.keep hy8).frozen
          obtain ⟨c0, c1, c2, c3⟩ := AC.val (HBx.out.keep hy8)
          go_simp
          clear c0 c1 c2 c3 fr8
          have HBxn := Lib.hid ((HBx.out.keep hy8).set4 (.bool rb) (.float .f64 rx) (.int .i64 rn) (.string rs))
          have HByn := Lib.hid ((HBy.out.keep hy8).other4 HNE.out (.bool rb) (.float .f64 rx) (.int .i64 rn) (.string rs))
          have HZn := Lib.hid ((HZ.out.trans hy8).store4 HGx.out (.bool rb) (.float .f64 rx) (.int .i64 rn) (.string rs))
          clear HBx HBy HZ hy8
          have HBx := HBxn
          have HBy := HByn
          have HZ := HZn
          clear HBxn HByn HZn
          refine ⟨HZ.out, ?_⟩
          generalize World.setCell _ _ (.string rs) = Y9 at *
          refine wpAnyE_one (i := 17) (by kernel_rfl) ?_
          intro Y10 hy10
          go_simp
          have fr10 := (HBy.out.keep hy10).frozen
          obtain ⟨c0, c1, c2, c3⟩ := AC.val (HBy.out.keep hy10)
          go_simp
          clear c0 c1 c2 c3 fr10
          have HByn := Lib.hid ((HBy.out.keep hy10).set4 (.bool rb) (.float .f64 rx) (.int .i64 rn) (.string rs))
          have HBxn := Lib.hid ((HBx.out.keep hy10).other4 (Ne.symm HNE.out) (.bool rb) (.float .f64 rx) (.int .i64 rn) (.string rs))
          have HZn := Lib.hid ((HZ.out.trans hy10).store4 HGy.out (.bool rb) (.float .f64 rx) (.int .i64 rn) (.string rs))
          clear HBx HBy HZ hy10
          have HBx := HBxn
          have HBy := HByn
          have HZ := HZn
          clear HBxn HByn HZn
          refine ⟨HZ.out, ?_⟩
          generalize World.setCell _ _ (.string rs) = Y11 at *
          refine wpAnyE_done (by kernel_rfl) ?_
          intro Y12 hy12
          exact ⟨gl, gx, gy, by kernel_rfl, HZ.out.trans hy12, HBx.out.keep hy12, HBy.out.keep hy12⟩
        · skip
          go_simp
          have ha4 := AC.new Y4 _ rfl [.bool false, .float .f64 0, .int .i64 0, .string ⟨#[]⟩] 51
          have hb4 := (Bl.refl Y4).alloc (.cells ([.bool false, .float .f64 0, .int .i64 0, .string ⟨#[]⟩] : List Value).toArray 51)
          have HGy := Lib.hid (HZ.out.trans hy4).size
          replace HLW := Lib.hid (HLW.out.keep (hy4.trans hb4))
          replace HZ := Lib.hid (HZ.out.trans (hy4.trans hb4))
          have HBy := Lib.hid ha4
          clear ha4 hb4 hy4
          generalize Y4.alloc _ = Y13 at *
          generalize Y4.heap.size = gy at *
          refine ⟨HZ.out, ?_⟩
          refine wpAnyE_one (i := 14) (by kernel_rfl) ?_
          intro Y14 hy14
          go_simp
          have ha14 := AC.new Y14 _ rfl [.bool false, .float .f64 0, .int .i64 0, .string ⟨#[]⟩] 51
          have hb14 := (Bl.refl Y14).alloc (.cells ([.bool false, .float .f64 0, .int .i64 0, .string ⟨#[]⟩] : List Value).toArray 51)
          have HNE := Lib.hid (show Y14.heap.size ≠ gy from Nat.ne_of_gt (HBy.out.keep hy14).lt)
          have HGx := Lib.hid (HZ.out.trans hy14).size
          replace HLW := Lib.hid (HLW.out.keep (hy14.trans hb14))
          replace HBy := Lib.hid (HBy.out.keep (hy14.trans hb14))
          replace HZ := Lib.hid (HZ.out.trans (hy14.trans hb14))
          have HBx := Lib.hid ha14
          clear ha14 hb14 hy14
          generalize Y14.alloc _ = Y15 at *
          generalize Y14.heap.size = gx at *
          refine ⟨HZ.out, ?_⟩
          refine wpAnyE_one (i := 16) (by kernel_rfl) ?_
          intro Y16 hy16
          go_simp
          have fr16 := (HBx.out.keep hy16).frozen
          obtain ⟨c0, c1, c2, c3⟩ := AC.val (HBx.out.keep hy16)
          go_simp
          clear c0 c1 c2 c3 fr16
          have HBxn := Lib.hid ((HBx.out.keep hy16).set4 (.bool rb) (.float .f64 rx) (.int .i64 rn) (.string rs))
          have HByn := Lib.hid ((HBy.out.keep hy16).other4 (Ne.symm HNE.out) (.bool rb) (.float .f64 rx) (.int .i64 rn) (.string rs))
          have HZn := Lib.hid ((HZ.out.trans hy16).store4 HGx.out (.bool rb) (.float .f64 rx) (.int .i64 rn) (.string rs))
          clear HBx HBy HZ hy16
          have HBx := HBxn
          have HBy := HByn
          have HZ := HZn
          clear HBxn HByn HZn
          refine ⟨HZ.out, ?_⟩
          generalize World.setCell _ _ (.string rs) = Y17 at *
          refine wpAnyE_one (i := 17) (by kernel_rfl) ?_
          intro Y18 hy18
          go_simp
          have fr18 := (HBy.out.keep hy18).frozen
          obtain ⟨c0, c1, c2, c3⟩ := AC.val (HBy.out.keep hy18)
          go_simp
          clear c0 c1 c2 c3 fr18
          have HByn := Lib.hid ((HBy.out.keep hy18).set4 (.bool rb) (.float .f64 rx) (.int .i64 rn) (.string rs))
          have HBxn := Lib.hid ((HBx.out.keep hy18).other4 HNE.out (.bool rb) (.float .f64 rx) (.int .i64 rn) (.string rs))
          have HZn := Lib.hid ((HZ.out.trans hy18).store4 HGy.out (.bool rb) (.float .f64 rx) (.int .i64 rn) (.string rs))
          clear HBx HBy HZ hy18
          have HBx := HBxn
          have HBy := HByn
          have HZ := HZn
          clear HBxn HByn HZn
          refine ⟨HZ.out, ?_⟩
          generalize World.setCell _ _ (.string rs) = Y19 at *
          refine wpAnyE_done (by kernel_rfl) ?_
          intro Y20 hy20
          exact ⟨gl, gx, gy, by kernel_rfl, HZ.out.trans hy20, HBx.out.keep hy20, HBy.out.keep hy20⟩
      · skip
        go_simp
        have ha2 := AC.new Y2 _ rfl [.bool false, .float .f64 0, .int .i64 0, .string ⟨#[]⟩] 51
        have hb2 := (Bl.refl Y2).alloc (.cells ([.bool false, .float .f64 0, .int .i64 0, .string ⟨#[]⟩] : List Value).toArray 51)
        have HGx := Lib.hid (HZ.out.trans hy2).size
        replace HLW := Lib.hid (HLW.out.keep (hy2.trans hb2))
        replace HZ := Lib.hid (HZ.out.trans (hy2.trans hb2))
        have HBx := Lib.hid ha2
        clear ha2 hb2 hy2
        generalize Y2.alloc _ = Y21 at *
        generalize Y2.heap.size = gx at *
        refine ⟨HZ.out, ?_⟩
        refine wpAnyE_all (rs := [13, 15]) (by kernel_rfl) (by decide) ?_
        intro i22 hi22 Y22 hy22
        simp only [List.mem_cons, List.not_mem_nil, or_false] at hi22
        rcases hi22 with rfl | rfl
        · skip
          go_simp
          refine (tread_any (some ⟨gl, 0, none⟩) 1 1 [(key, ⟨ak, ax, an, az⟩)] key ⟨ub, ux, un, us⟩ Y22 (HLW.out.keep hy22) hk HOK1.out).mono ?_
          rintro e Y23 ⟨rfl, hb22⟩
          rw [HR.out]
          replace HLW := Lib.hid (HLW.out.keep (hy22.trans hb22))
          replace HBx := Lib.hid (HBx.out.keep (hy22.trans hb22))
          replace HZ := Lib.hid (HZ.out.trans (hy22.trans hb22))
          clear hy22 hb22
          refine ⟨_, rfl, HZ.out, ?_⟩
          refine wpAnyE_one (i := 15) (by kernel_rfl) ?_
          intro Y24 hy24
          go_simp
          have ha24 := AC.new Y24 _ rfl [.bool false, .float .f64 0, .int .i64 0, .string ⟨#[]⟩] 51
          have hb24 := (Bl.refl Y24).alloc (.cells ([.bool false, .float .f64 0, .int .i64 0, .string ⟨#[]⟩] : List Value).toArray 51)
          have HNE := Lib.hid (show Y24.heap.size ≠ gx from Nat.ne_of_gt (HBx.out.keep hy24).lt)
          have HGy := Lib.hid (HZ.out.trans hy24).size
          replace HLW := Lib.hid (HLW.out.keep (hy24.trans hb24))
          replace HBx := Lib.hid (HBx.out.keep (hy24.trans hb24))
          replace HZ := Lib.hid (HZ.out.trans (hy24.trans hb24))
          have HBy := Lib.hid ha24
          clear ha24 hb24 hy24
          generalize Y24.alloc _ = Y25 at *
          generalize Y24.heap.size = gy at *
          refine ⟨HZ.out, ?_⟩
          refine wpAnyE_one (i := 16) (by kernel_rfl) ?_
          intro Y26 hy26
          go_simp
          have fr26 := (HBx.out.keep hy26).frozen
          obtain ⟨c0, c1, c2, c3⟩ := AC.val (HBx.out.keep hy26)
          go_simp
          clear c0 c1 c2 c3 fr26
          have HBxn := Lib.hid ((HBx.out.keep hy26).set4 (.bool rb) (.float .f64 rx) (.int .i64 rn) (.string rs))
          have HByn := Lib.hid ((HBy.out.keep hy26).other4 HNE.out (.bool rb) (.float .f64 rx) (.int .i64 rn) (.string rs))
          have HZn := Lib.hid ((HZ.out.trans hy26).store4 HGx.out (.bool rb) (.float .f64 rx) (.int .i64 rn) (.string rs))
          clear HBx HBy HZ hy26
          have HBx := HBxn
          have HBy := HByn
          have HZ := HZn
          clear HBxn HByn HZn
          refine ⟨HZ.out, ?_⟩
          generalize World.setCell _ _ (.string rs) = Y27 at *
          refine wpAnyE_one (i := 17) (by kernel_rfl) ?_
          intro Y28 hy28
          go_simp
          have fr28 := (HBy.out.keep hy28).frozen
          obtain ⟨c0, c1, c2, c3⟩ := AC.val (HBy.out.keep hy28)
          go_simp
          clear c0 c1 c2 c3 fr28
          have HByn := Lib.hid ((HBy.out.keep hy28).set4 (.bool rb) (.float .f64 rx) (.int .i64 rn) (.string rs))
          have HBxn := Lib.hid ((HBx.out.keep hy28).other4 (Ne.symm HNE.out) (.bool rb) (.float .f64 rx) (.int .i64 rn) (.string rs))
          have HZn := Lib.hid ((HZ.out.trans hy28).store4 HGy.out (.bool rb) (.float .f64 rx) (.int .i64 rn) (.string rs))
          clear HBx HBy HZ hy28
          have HBx := HBxn
          have HBy := HByn
          have HZ := HZn
          clear HBxn HByn HZn
          refine ⟨HZ.out, ?_⟩
          generalize World.setCell _ _ (.string rs) = Y29 at *
          refine wpAnyE_done (by kernel_rfl) ?_
          intro Y30 hy30
          exact ⟨gl, gx, gy, by kernel_rfl, HZ.out.trans hy30, HBx.out.keep hy30, HBy.out.keep hy30⟩
        · skip
          go_simp
          have ha22 := AC.new Y22 _ rfl [.bool false, .float .f64 0, .int .i64 0, .string ⟨#[]⟩] 51
          have hb22 := (Bl.refl Y22).alloc (.cells ([.bool false, .float .f64 0, .int .i64 0, .string ⟨#[]⟩] : List Value).toArray 51)
          have HNE := Lib.hid (show Y22.heap.size ≠ gx from Nat.ne_of_gt (HBx.out.keep hy22).lt)
          have HGy := Lib.hid (HZ.out.trans hy22).size
          replace HLW := Lib.hid (HLW.out.keep (hy22.trans hb22))
          replace HBx := Lib.hid (HBx.out.keep (hy22.trans hb22))
          replace HZ := Lib.hid (HZ.out.trans (hy22.trans hb22))
          have HBy := Lib.hid ha22
          clear ha22 hb22 hy22
          generalize Y22.alloc _ = Y31 at *
          generalize Y22.heap.size = gy at *
          refine ⟨HZ.out, ?_⟩
          refine wpAnyE_one (i := 13) (by kernel_rfl) ?_
          intro Y32 hy32
          go_simp
          refine (tread_any (some ⟨gl, 0, none⟩) 1 1 [(key, ⟨ak, ax, an, az⟩)] key ⟨ub, ux, un, us⟩ Y32 (HLW.out.keep hy32) hk HOK1.out).mono ?_
          rintro e Y33 ⟨rfl, hb32⟩
          rw [HR.out]
          replace HLW := Lib.hid (HLW.out.keep (hy32.trans hb32))
          replace HBx := Lib.hid (HBx.out.keep (hy32.trans hb32))
          replace HBy := Lib.hid (HBy.out.keep (hy32.trans hb32))
          replace HZ := Lib.hid (HZ.out.trans (hy32.trans hb32))
          clear hy32 hb32
          refine ⟨_, rfl, HZ.out, ?_⟩
          refine wpAnyE_one (i := 16) (by kernel_rfl) ?_
          intro Y34 hy34
          go_simp
          have fr34 := (HBx.out.keep hy34).frozen
          obtain ⟨c0, c1, c2, c3⟩ := AC.val (HBx.out.keep hy34)
          go_simp
          clear c0 c1 c2 c3 fr34
          have HBxn := Lib.hid ((HBx.out.keep hy34).set4 (.bool rb) (.float .f64 rx) (.int .i64 rn) (.string rs))
          have HByn := Lib.hid ((HBy.out.keep hy34).other4 HNE.out (.bool rb) (.float .f64 rx) (.int .i64 rn) (.string rs))
          have HZn := Lib.hid ((HZ.out.trans hy34).store4 HGx.out (.bool rb) (.float .f64 rx) (.int .i64 rn) (.string rs))
          clear HBx HBy HZ hy34
          have HBx := HBxn
          have HBy := HByn
          have HZ := HZn
          clear HBxn HByn HZn
          refine ⟨HZ.out, ?_⟩
          generalize World.setCell _ _ (.string rs) = Y35 at *
          refine wpAnyE_one (i := 17) (by kernel_rfl) ?_
          intro Y36 hy36
          go_simp
          have fr36 := (HBy.out.keep hy36).frozen
          obtain ⟨c0, c1, c2, c3⟩ := AC.val (HBy.out.keep hy36)
          go_simp
          clear c0 c1 c2 c3 fr36
          have HByn := Lib.hid ((HBy.out.keep hy36).set4 (.bool rb) (.float .f64 rx) (.int .i64 rn) (.string rs))
          have HBxn := Lib.hid ((HBx.out.keep hy36).other4 (Ne.symm HNE.out) (.bool rb) (.float .f64 rx) (.int .i64 rn) (.string rs))
          have HZn := Lib.hid ((HZ.out.trans hy36).store4 HGy.out (.bool rb) (.float .f64 rx) (.int .i64 rn) (.string rs))
          clear HBx HBy HZ hy36
          have HBx := HBxn
          have HBy := HByn
          have HZ := HZn
          clear HBxn HByn HZn
          refine ⟨HZ.out, ?_⟩
          generalize World.setCell _ _ (.string rs) = Y37 at *
          refine wpAnyE_done (by kernel_rfl) ?_
          intro Y38 hy38
          exact ⟨gl, gx, gy, by kernel_rfl, HZ.out.trans hy38, HBx.out.keep hy38, HBy.out.keep hy38⟩
      · skip
        go_simp
        have ha2 := AC.new Y2 _ rfl [.bool false, .float .f64 0, .int .i64 0, .string ⟨#[]⟩] 51
        have hb2 := (Bl.refl Y2).alloc (.cells ([.bool false, .float .f64 0, .int .i64 0, .string ⟨#[]⟩] : List Value).toArray 51)
        have HGy := Lib.hid (HZ.out.trans hy2).size
        replace HLW := Lib.hid (HLW.out.keep (hy2.trans hb2))
        replace HZ := Lib.hid (HZ.out.trans (hy2.trans hb2))
        have HBy := Lib.hid ha2
        clear ha2 hb2 hy2
        generalize Y2.alloc _ = Y39 at *
        generalize Y2.heap.size = gy at *
        refine ⟨HZ.out, ?_⟩
        refine wpAnyE_all (rs := [13, 14]) (by kernel_rfl) (by decide) ?_
        intro i40 hi40 Y40 hy40
        simp only [List.mem_cons, List.not_mem_nil, or_false] at hi40
        rcases hi40 with rfl | rfl
        · skip
          go_simp
          refine (tread_any (some ⟨gl, 0, none⟩) 1 1 [(key, ⟨ak, ax, an, az⟩)] key ⟨ub, ux, un, us⟩ Y40 (HLW.out.keep hy40) hk HOK1.out).mono ?_
          rintro e Y41 ⟨rfl, hb40⟩
          rw [HR.out]
          replace HLW := Lib.hid (HLW.out.keep (hy40.trans hb40))
          replace HBy := Lib.hid (HBy.out.keep (hy40.trans hb40))
          replace HZ := Lib.hid (HZ.out.trans (hy40.trans hb40))
          clear hy40 hb40
          refine ⟨_, rfl, HZ.out, ?_⟩
          refine wpAnyE_one (i := 14) (by kernel_rfl) ?_
          intro Y42 hy42
          go_simp
          have ha42 := AC.new Y42 _ rfl [.bool false, .float .f64 0, .int .i64 0, .string ⟨#[]⟩] 51
          have hb42 := (Bl.refl Y42).alloc (.cells ([.bool false, .float .f64 0, .int .i64 0, .string ⟨#[]⟩] : List Value).toArray 51)
          have HNE := Lib.hid (show Y42.heap.size ≠ gy from Nat.ne_of_gt (HBy.out.keep hy42).lt)
          have HGx := Lib.hid (HZ.out.trans hy42).size
          replace HLW := Lib.hid (HLW.out.keep (hy42.trans hb42))
          replace HBy := Lib.hid (HBy.out.keep (hy42.trans hb42))
          replace HZ := Lib.hid (HZ.out.trans (hy42.trans hb42))
          have HBx := Lib.hid ha42
          clear ha42 hb42 hy42
          generalize Y42.alloc _ = Y43 at *
          generalize Y42.heap.size = gx at *
          refine ⟨HZ.out, ?_⟩
          refine wpAnyE_one (i := 16) (by kernel_rfl) ?_
          intro Y44 hy44
          go_simp
          have fr44 := (HBx.out.keep hy44).frozen
          obtain ⟨c0, c1, c2, c3⟩ := AC.val (HBx.out.keep hy44)
          go_simp
          clear c0 c1 c2 c3 fr44
          have HBxn := Lib.hid ((HBx.out.keep hy44).set4 (.bool rb) (.float .f64 rx) (.int .i64 rn) (.string rs))
          have HByn := Lib.hid ((HBy.out.keep hy44).other4 (Ne.symm HNE.out) (.bool rb) (.float .f64 rx) (.int .i64 rn) (.string rs))
          have HZn := Lib.hid ((HZ.out.trans hy44).store4 HGx.out (.bool rb) (.float .f64 rx) (.int .i64 rn) (.string rs))
          clear HBx HBy HZ hy44
          have HBx := HBxn
          have HBy := HByn
          have HZ := HZn
          clear HBxn HByn HZn
          refine ⟨HZ.out, ?_⟩
          generalize World.setCell _ _ (.string rs) = Y45 at *
          refine wpAnyE_one (i := 17) (by kernel_rfl) ?_
          intro Y46 hy46
          go_simp
          have fr46 := (HBy.out.keep hy46).frozen
          obtain ⟨c0, c1, c2, c3⟩ := AC.val (HBy.out.keep hy46)
          go_simp
          clear c0 c1 c2 c3 fr46
          have HByn := Lib.hid ((HBy.out.keep hy46).set4 (.bool rb) (.float .f64 rx) (.int .i64 rn) (.string rs))
          have HBxn := Lib.hid ((HBx.out.keep hy46).other4 HNE.out (.bool rb) (.float .f64 rx) (.int .i64 rn) (.string rs))
          have HZn := Lib.hid ((HZ.out.trans hy46).store4 HGy.out (.bool rb) (.float .f64 rx) (.int .i64 rn) (.string rs))
          clear HBx HBy HZ hy46
          have HBx := HBxn
          have HBy := HByn
          have HZ := HZn
          clear HBxn HByn HZn
          refine ⟨HZ.out, ?_⟩
          generalize World.setCell _ _ (.string rs) = Y47 at *
          refine wpAnyE_done (by kernel_rfl) ?_
          intro Y48 hy48
          exact ⟨gl, gx, gy, by kernel_rfl, HZ.out.trans hy48, HBx.out.keep hy48, HBy.out.keep hy48⟩
        · skip
          go_simp
          have ha40 := AC.new Y40 _ rfl [.bool false, .float .f64 0, .int .i64 0, .string ⟨#[]⟩] 51
          have hb40 := (Bl.refl Y40).alloc (.cells ([.bool false, .float .f64 0, .int .i64 0, .string ⟨#[]⟩] : List Value).toArray 51)
          have HNE := Lib.hid (show Y40.heap.size ≠ gy from Nat.ne_of_gt (HBy.out.keep hy40).lt)
          have HGx := Lib.hid (HZ.out.trans hy40).size
          replace HLW := Lib.hid (HLW.out.keep (hy40.trans hb40))
          replace HBy := Lib.hid (HBy.out.keep (hy40.trans hb40))
          replace HZ := Lib.hid (HZ.out.trans (hy40.trans hb40))
          have HBx := Lib.hid ha40
          clear ha40 hb40 hy40
          generalize Y40.alloc _ = Y49 at *
          generalize Y40.heap.size = gx at *
          refine ⟨HZ.out, ?_⟩
          refine wpAnyE_one (i := 13) (by kernel_rfl) ?_
          intro Y50 hy50
          go_simp
          refine (tread_any (some ⟨gl, 0, none⟩) 1 1 [(key, ⟨ak, ax, an, az⟩)] key ⟨ub, ux, un, us⟩ Y50 (HLW.out.keep hy50) hk HOK1.out).mono ?_
          rintro e Y51 ⟨rfl, hb50⟩
          rw [HR.out]
          replace HLW := Lib.hid (HLW.out.keep (hy50.trans hb50))
          replace HBy := Lib.hid (HBy.out.keep (hy50.trans hb50))
          replace HBx := Lib.hid (HBx.out.keep (hy50.trans hb50))
          replace HZ := Lib.hid (HZ.out.trans (hy50.trans hb50))
          clear hy50 hb50
          refine ⟨_, rfl, HZ.out, ?_⟩
          refine wpAnyE_one (i := 16) (by kernel_rfl) ?_
          intro Y52 hy52
          go_simp
          have fr52 := (HBx.out.keep hy52).frozen
          obtain ⟨c0, c1, c2, c3⟩ := AC.val (HBx.out.keep hy52)
          go_simp
          clear c0 c1 c2 c3 fr52
          have HBxn := Lib.hid ((HBx.out.keep hy52).set4 (.bool rb) (.float .f64 rx) (.int .i64 rn) (.string rs))
          have HByn := Lib.hid ((HBy.out.keep hy52).other4 (Ne.symm HNE.out) (.bool rb) (.float .f64 rx) (.int .i64 rn) (.string rs))
          have HZn := Lib.hid ((HZ.out.trans hy52).store4 HGx.out (.bool rb) (.float .f64 rx) (.int .i64 rn) (.string rs))
          clear HBx HBy HZ hy52
          have HBx := HBxn
          have HBy := HByn
          have HZ := HZn
          clear HBxn HByn HZn
          refine ⟨HZ.out, ?_⟩
          generalize World.setCell _ _ (.string rs) = Y53 at *
          refine wpAnyE_one (i := 17) (by kernel_rfl) ?_
          intro Y54 hy54
          go_simp
          have fr54 := (HBy.out.keep hy54).frozen
          obtain ⟨c0, c1, c2, c3⟩ := AC.val (HBy.out.keep hy54)
          go_simp
          clear c0 c1 c2 c3 fr54
          have HByn := Lib.hid ((HBy.out.keep hy54).set4 (.bool rb) (.float .f64 rx) (.int .i64 rn) (.string rs))
          have HBxn := Lib.hid ((HBx.out.keep hy54).other4 HNE.out (.bool rb) (.float .f64 rx) (.int .i64 rn) (.string rs))
          have HZn := Lib.hid ((HZ.out.trans hy54).store4 HGy.out (.bool rb) (.float .f64 rx) (.int .i64 rn) (.string rs))
          clear HBx HBy HZ hy54
          have HBx := HBxn
          have HBy := HByn
          have HZ := HZn
          clear HBxn HByn HZn
          refine ⟨HZ.out, ?_⟩
          generalize World.setCell _ _ (.string rs) = Y55 at *
          refine wpAnyE_done (by kernel_rfl) ?_
          intro Y56 hy56
          exact ⟨gl, gx, gy, by kernel_rfl, HZ.out.trans hy56, HBx.out.keep hy56, HBy.out.keep hy56⟩
    · skip
      go_simp
      have ha0 := AC.new Y0 _ rfl [.bool false, .float .f64 0, .int .i64 0, .string ⟨#[]⟩] 51
      have hb0 := (Bl.refl Y0).alloc (.cells ([.bool false, .float .f64 0, .int .i64 0, .string ⟨#[]⟩] : List Value).toArray 51)
      have HGx := Lib.hid (HZ.out.trans hy0).size
      replace HZ := Lib.hid (HZ.out.trans (hy0.trans hb0))
      have HBx := Lib.hid ha0
      clear ha0 hb0 hy0
      generalize Y0.alloc _ = Y57 at *
      generalize Y0.heap.size = gx at *
      refine ⟨HZ.out, ?_⟩
      refine wpAnyE_all (rs := [7, 15]) (by kernel_rfl) (by decide) ?_
      intro i58 hi58 Y58 hy58
      simp only [List.mem_cons, List.not_mem_nil, or_false] at hi58
      rcases hi58 with rfl | rfl
      · skip
        go_simp
        have hw58 := WA.lit1 Y58 (key, ⟨ak, ax, an, az⟩) 56
        have hb58 := (Bl.refl Y58).alloc (.cells (writeCs (key, ⟨ak, ax, an, az⟩)).toArray 56)
        unfold writeCs at hw58 hb58
        replace HBx := Lib.hid (HBx.out.keep (hy58.trans hb58))
        replace HZ := Lib.hid (HZ.out.trans (hy58.trans hb58))
        have HLW := Lib.hid (hw58.ww (fun p hp => by obtain rfl := List.mem_singleton.1 hp; exact ⟨hk, OX.out⟩))
        clear hw58 hb58 hy58
        generalize Y58.alloc _ = Y59 at *
        generalize Y58.heap.size = gl at *
        refine ⟨HZ.out, ?_⟩
        refine wpAnyE_all (rs := [13, 15]) (by kernel_rfl) (by decide) ?_
        intro i60 hi60 Y60 hy60
        simp only [List.mem_cons, List.not_mem_nil, or_false] at hi60
        rcases hi60 with rfl | rfl
        · skip
          go_simp
          refine (tread_any (some ⟨gl, 0, none⟩) 1 1 [(key, ⟨ak, ax, an, az⟩)] key ⟨ub, ux, un, us⟩ Y60 (HLW.out.keep hy60) hk HOK1.out).mono ?_
          rintro e Y61 ⟨rfl, hb60⟩
          rw [HR.out]
          replace HBx := Lib.hid (HBx.out.keep (hy60.trans hb60))
          replace HLW := Lib.hid (HLW.out.keep (hy60.trans hb60))
          replace HZ := Lib.hid (HZ.out.trans (hy60.trans hb60))
          clear hy60 hb60
          refine ⟨_, rfl, HZ.out, ?_⟩
          refine wpAnyE_one (i := 15) (by kernel_rfl) ?_
          intro Y62 hy62
          go_simp
          have ha62 := AC.new Y62 _ rfl [.bool false, .float .f64 0, .int .i64 0, .string ⟨#[]⟩] 51
          have hb62 := (Bl.refl Y62).alloc (.cells ([.bool false, .float .f64 0, .int .i64 0, .string ⟨#[]⟩] : List Value).toArray 51)
          have HNE := Lib.hid (show Y62.heap.size ≠ gx from Nat.ne_of_gt (HBx.out.keep hy62).lt)
          have HGy := Lib.hid (HZ.out.trans hy62).size
          replace HBx := Lib.hid (HBx.out.keep (hy62.trans hb62))
          replace HLW := Lib.hid (HLW.out.keep (hy62.trans hb62))
          replace HZ := Lib.hid (HZ.out.trans (hy62.trans hb62))
          have HBy := Lib.hid ha62
          clear ha62 hb62 hy62
          generalize Y62.alloc _ = Y63 at *
          generalize Y62.heap.size = gy at *
          refine ⟨HZ.out, ?_⟩
          refine wpAnyE_one (i := 16) (by kernel_rfl) ?_
          intro Y64 hy64
          go_simp
          have fr64 := (HBx.out.keep hy64).frozen
          obtain ⟨c0, c1, c2, c3⟩ := AC.val (HBx.out.keep hy64)
          go_simp
          clear c0 c1 c2 c3 fr64
          have HBxn := Lib.hid ((HBx.out.keep hy64).set4 (.bool rb) (.float .f64 rx) (.int .i64 rn) (.string rs))
          have HByn := Lib.hid ((HBy.out.keep hy64).other4 HNE.out (.bool rb) (.float .f64 rx) (.int .i64 rn) (.string rs))
          have HZn := Lib.hid ((HZ.out.trans hy64).store4 HGx.out (.bool rb) (.float .f64 rx) (.int .i64 rn) (.string rs))
          clear HBx HBy HZ hy64
          have HBx := HBxn
          have HBy := HByn
          have HZ := HZn
          clear HBxn HByn HZn
          refine ⟨HZ.out, ?_⟩
          generalize World.setCell _ _ (.string rs) = Y65 at *
          refine wpAnyE_one (i := 17) (by kernel_rfl) ?_
          intro Y66 hy66
          go_simp
          have fr66 := (HBy.out.keep hy66).frozen
          obtain ⟨c0, c1, c2, c3⟩ := AC.val (HBy.out.keep hy66)
          go_simp
          clear c0 c1 c2 c3 fr66
          have HByn := Lib.hid ((HBy.out.keep hy66).set4 (.bool rb) (.float .f64 rx) (.int .i64 rn) (.string rs))
          have HBxn := Lib.hid ((HBx.out.keep hy66).other4 (Ne.symm HNE.out) (.bool rb) (.float .f64 rx) (.int .i64 rn) (.string rs))
          have HZn := Lib.hid ((HZ.out.trans hy66).store4 HGy.out (.bool rb) (.float .f64 rx) (.int .i64 rn) (.string rs))
          clear HBx HBy HZ hy66
          have HBx := HBxn
          have HBy := HByn
          have HZ := HZn
          clear HBxn HByn HZn
          refine ⟨HZ.out, ?_⟩
          generalize World.setCell _ _ (.string rs) = Y67 at *
          refine wpAnyE_done (by kernel_rfl) ?_
          intro Y68 hy68
          exact ⟨gl, gx, gy, by kernel_rfl, HZ.out.trans hy68, HBx.out.keep hy68, HBy.out.keep hy68⟩
        · skip
          go_simp
          have ha60 := AC.new Y60 _ rfl [.bool false, .float .f64 0, .int .i64 0, .string ⟨#[]⟩] 51
          have hb60 := (Bl.refl Y60).alloc (.cells ([.bool false, .float .f64 0, .int .i64 0, .string ⟨#[]⟩] : List Value).toArray 51)
          have HNE := Lib.hid (show Y60.heap.size ≠ gx from Nat.ne_of_gt (HBx.out.keep hy60).lt)
          have HGy := Lib.hid (HZ.out.trans hy60).size
          replace HBx := Lib.hid (HBx.out.keep (hy60.trans hb60))
          replace HLW := Lib.hid (HLW.out.keep (hy60.trans hb60))
          replace HZ := Lib.hid (HZ.out.trans (hy60.trans hb60))
          have HBy := Lib.hid ha60
          clear ha60 hb60 hy60
          generalize Y60.alloc _ = Y69 at *
          generalize Y60.heap.size = gy at *
          refine ⟨HZ.out, ?_⟩
          refine wpAnyE_one (i := 13) (by kernel_rfl) ?_
          intro Y70 hy70
          go_simp
          refine (tread_any (some ⟨gl, 0, none⟩) 1 1 [(key, ⟨ak, ax, an, az⟩)] key ⟨ub, ux, un, us⟩ Y70 (HLW.out.keep hy70) hk HOK1.out).mono ?_
          rintro e Y71 ⟨rfl, hb70⟩
          rw [HR.out]
          replace HBx := Lib.hid (HBx.out.keep (hy70.trans hb70))
          replace HLW := Lib.hid (HLW.out.keep (hy70.trans hb70))
          replace HBy := Lib.hid (HBy.out.keep (hy70.trans hb70))
          replace HZ := Lib.hid (HZ.out.trans (hy70.trans hb70))
          clear hy70 hb70
          refine ⟨_, rfl, HZ.out, ?_⟩
          refine wpAnyE_one (i := 16) (by kernel_rfl) ?_
          intro Y72 hy72
          go_simp
          have fr72 := (HBx.out.keep hy72).frozen
          obtain ⟨c0, c1, c2, c3⟩ := AC.val (HBx.out.keep hy72)
          go_simp
          clear c0 c1 c2 c3 fr72
          have HBxn := Lib.hid ((HBx.out.keep hy72).set4 (.bool rb) (.float .f64 rx) (.int .i64 rn) (.string rs))
          have HByn := Lib.hid ((HBy.out.keep hy72).other4 HNE.out (.bool rb) (.float .f64 rx) (.int .i64 rn) (.string rs))
          have HZn := Lib.hid ((HZ.out.trans hy72).store4 HGx.out (.bool rb) (.float .f64 rx) (.int .i64 rn) (.string rs))
          clear HBx HBy HZ hy72
          have HBx := HBxn
          have HBy := HByn
          have HZ := HZn
          clear HBxn HByn HZn
          refine ⟨HZ.out, ?_⟩
          generalize World.setCell _ _ (.string rs) = Y73 at *
          refine wpAnyE_one (i := 17) (by kernel_rfl) ?_
          intro Y74 hy74
          go_simp
          have fr74 := (HBy.out.keep hy74).frozen
          obtain ⟨c0, c1, c2, c3⟩ := AC.val (HBy.out.keep hy74)
          go_simp
          clear c0 c1 c2 c3 fr74
          have HByn := Lib.hid ((HBy.out.keep hy74).set4 (.bool rb) (.float .f64 rx) (.int .i64 rn) (.string rs))
          have HBxn := Lib.hid ((HBx.out.keep hy74).other4 (Ne.symm HNE.out) (.bool rb) (.float .f64 rx) (.int .i64 rn) (.string rs))
          have HZn := Lib.hid ((HZ.out.trans hy74).store4 HGy.out (.bool rb) (.float .f64 rx) (.int .i64 rn) (.string rs))
          clear HBx HBy HZ hy74
          have HBx := HBxn
          have HBy := HByn
          have HZ := HZn
          clear HBxn HByn HZn
          refine ⟨HZ.out, ?_⟩
          generalize World.setCell _ _ (.string rs) = Y75 at *
          refine wpAnyE_done (by kernel_rfl) ?_
          intro Y76 hy76
          exact ⟨gl, gx, gy, by kernel_rfl, HZ.out.trans hy76, HBx.out.keep hy76, HBy.out.keep hy76⟩
      · skip
        go_simp
        have ha58 := AC.new Y58 _ rfl [.bool false, .float .f64 0, .int .i64 0, .string ⟨#[]⟩] 51
        have hb58 := (Bl.refl Y58).alloc (.cells ([.bool false, .float .f64 0, .int .i64 0, .string ⟨#[]⟩] : List Value).toArray 51)
        have HNE := Lib.hid (show Y58.heap.size ≠ gx from Nat.ne_of_gt (HBx.out.keep hy58).lt)
        have HGy := Lib.hid (HZ.out.trans hy58).size
        replace HBx := Lib.hid (HBx.out.keep (hy58.trans hb58))
        replace HZ := Lib.hid (HZ.out.trans (hy58.trans hb58))
        have HBy := Lib.hid ha58
        clear ha58 hb58 hy58
        generalize Y58.alloc _ = Y77 at *
        generalize Y58.heap.size = gy at *
        refine ⟨HZ.out, ?_⟩
        refine wpAnyE_one (i := 7) (by kernel_rfl) ?_
        intro Y78 hy78
        go_simp
        have hw78 := WA.lit1 Y78 (key, ⟨ak, ax, an, az⟩) 56
        have hb78 := (Bl.refl Y78).alloc (.cells (writeCs (key, ⟨ak, ax, an, az⟩)).toArray 56)
        unfold writeCs at hw78 hb78
        replace HBx := Lib.hid (HBx.out.keep (hy78.trans hb78))
        replace HBy := Lib.hid (HBy.out.keep (hy78.trans hb78))
        replace HZ := Lib.hid (HZ.out.trans (hy78.trans hb78))
        have HLW := Lib.hid (hw78.ww (fun p hp => by obtain rfl := List.mem_singleton.1 hp; exact ⟨hk, OX.out⟩))
        clear hw78 hb78 hy78
        generalize Y78.alloc _ = Y79 at *
        generalize Y78.heap.size = gl at *
        refine ⟨HZ.out, ?_⟩
        refine wpAnyE_one (i := 13) (by kernel_rfl) ?_
        intro Y80 hy80
        go_simp
        refine (tread_any (some ⟨gl, 0, none⟩) 1 1 [(key, ⟨ak, ax, an, az⟩)] key ⟨ub, ux, un, us⟩ Y80 (HLW.out.keep hy80) hk HOK1.out).mono ?_
        rintro e Y81 ⟨rfl, hb80⟩
        rw [HR.out]
        replace HBx := Lib.hid (HBx.out.keep (hy80.trans hb80))
        replace HBy := Lib.hid (HBy.out.keep (hy80.trans hb80))
        replace HLW := Lib.hid (HLW.out.keep (hy80.trans hb80))
        replace HZ := Lib.hid (HZ.out.trans (hy80.trans hb80))
        clear hy80 hb80
        refine ⟨_, rfl, HZ.out, ?_⟩
        refine wpAnyE_one (i := 16) (by kernel_rfl) ?_
        intro Y82 hy82
        go_simp
        have fr82 := (HBx.out.keep hy82).frozen
        obtain ⟨c0, c1, c2, c3⟩ := AC.val (HBx.out.keep hy82)
        go_simp
        clear c0 c1 c2 c3 fr82
        have HBxn := Lib.hid ((HBx.out.keep hy82).set4 (.bool rb) (.float .f64 rx) (.int .i64 rn) (.string rs))
        have HByn := Lib.hid ((HBy.out.keep hy82).other4 HNE.out (.bool rb) (.float .f64 rx) (.int .i64 rn) (.string rs))
        have HZn := Lib.hid ((HZ.out.trans hy82).store4 HGx.out (.bool rb) (.float .f64 rx) (.int .i64 rn) (.string rs))
        clear HBx HBy HZ hy82
        have HBx := HBxn
        have HBy := HByn
        have HZ := HZn
        clear HBxn HByn HZn
        refine ⟨HZ.out, ?_⟩
        generalize World.setCell _ _ (.string rs) = Y83 at *
        refine wpAnyE_one (i := 17) (by kernel_rfl) ?_
        intro Y84 hy84
        go_simp
        have fr84 := (HBy.out.keep hy84).frozen
        obtain ⟨c0, c1, c2, c3⟩ := AC.val (HBy.out.keep hy84)
        go_simp
        clear c0 c1 c2 c3 fr84
        have HByn := Lib.hid ((HBy.out.keep hy84).set4 (.bool rb) (.float .f64 rx) (.int .i64 rn) (.string rs))
        have HBxn := Lib.hid ((HBx.out.keep hy84).other4 (Ne.symm HNE.out) (.bool rb) (.float .f64 rx) (.int .i64 rn) (.string rs))
        have HZn := Lib.hid ((HZ.out.trans hy84).store4 HGy.out (.bool rb) (.float .f64 rx) (.int .i64 rn) (.string rs))
        clear HBx HBy HZ hy84
        have HBx := HBxn
        have HBy := HByn
        have HZ := HZn
        clear HBxn HByn HZn
        refine ⟨HZ.out, ?_⟩
        generalize World.setCell _ _ (.string rs) = Y85 at *
        refine wpAnyE_done (by kernel_rfl) ?_
        intro Y86 hy86
        exact ⟨gl, gx, gy, by kernel_rfl, HZ.out.trans hy86, HBx.out.keep hy86, HBy.out.keep hy86⟩
    · skip
      go_simp
      have ha0 := AC.new Y0 _ rfl [.bool false, .float .f64 0, .int .i64 0, .string ⟨#[]⟩] 51
      have hb0 := (Bl.refl Y0).alloc (.cells ([.bool false, .float .f64 0, .int .i64 0, .string ⟨#[]⟩] : List Value).toArray 51)
      have HGy := Lib.hid (HZ.out.trans hy0).size
      replace HZ := Lib.hid (HZ.out.trans (hy0.trans hb0))
      have HBy := Lib.hid ha0
      clear ha0 hb0 hy0
      generalize Y0.alloc _ = Y87 at *
      generalize Y0.heap.size = gy at *
      refine ⟨HZ.out, ?_⟩
      refine wpAnyE_all (rs := [7, 14]) (by kernel_rfl) (by decide) ?_
      intro i88 hi88 Y88 hy88
      simp only [List.mem_cons, List.not_mem_nil, or_false] at hi88
      rcases hi88 with rfl | rfl
      · skip
        go_simp
        have hw88 := WA.lit1 Y88 (key, ⟨ak, ax, an, az⟩) 56
        have hb88 := (Bl.refl Y88).alloc (.cells (writeCs (key, ⟨ak, ax, an, az⟩)).toArray 56)
        unfold writeCs at hw88 hb88
        replace HBy := Lib.hid (HBy.out.keep (hy88.trans hb88))
        replace HZ := Lib.hid (HZ.out.trans (hy88.trans hb88))
        have HLW := Lib.hid (hw88.ww (fun p hp => by obtain rfl := List.mem_singleton.1 hp; exact ⟨hk, OX.out⟩))
        clear hw88 hb88 hy88
        generalize Y88.alloc _ = Y89 at *
        generalize Y88.heap.size = gl at *
        refine ⟨HZ.out, ?_⟩
        refine wpAnyE_all (rs := [13, 14]) (by kernel_rfl) (by decide) ?_
        intro i90 hi90 Y90 hy90
        simp only [List.mem_cons, List.not_mem_nil, or_false] at hi90
        rcases hi90 with rfl | rfl
        · skip
          go_simp
          refine (tread_any (some ⟨gl, 0, none⟩) 1 1 [(key, ⟨ak, ax, an, az⟩)] key ⟨ub, ux, un, us⟩ Y90 (HLW.out.keep hy90) hk HOK1.out).mono ?_
          rintro e Y91 ⟨rfl, hb90⟩
          rw [HR.out]
          replace HBy := Lib.hid (HBy.out.keep (hy90.trans hb90))
          replace HLW := Lib.hid (HLW.out.keep (hy90.trans hb90))
          replace HZ := Lib.hid (HZ.out.trans (hy90.trans hb90))
          clear hy90 hb90
          refine ⟨_, rfl, HZ.out, ?_⟩
          refine wpAnyE_one (i := 14) (by kernel_rfl) ?_
          intro Y92 hy92
          go_simp
          have ha92 := AC.new Y92 _ rfl [.bool false, .float .f64 0, .int .i64 0, .string ⟨#[]⟩] 51
          have hb92 := (Bl.refl Y92).alloc (.cells ([.bool false, .float .f64 0, .int .i64 0, .string ⟨#[]⟩] : List Value).toArray 51)
          have HNE := Lib.hid (show Y92.heap.size ≠ gy from Nat.ne_of_gt (HBy.out.keep hy92).lt)
          have HGx := Lib.hid (HZ.out.trans hy92).size
          replace HBy := Lib.hid (HBy.out.keep (hy92.trans hb92))
          replace HLW := Lib.hid (HLW.out.keep (hy92.trans hb92))
          replace HZ := Lib.hid (HZ.out.trans (hy92.trans hb92))
          have HBx := Lib.hid ha92
          clear ha92 hb92 hy92
          generalize Y92.alloc _ = Y93 at *
          generalize Y92.heap.size = gx at *
          refine ⟨HZ.out, ?_⟩
          refine wpAnyE_one (i := 16) (by kernel_rfl) ?_
          intro Y94 hy94
          go_simp
          have fr94 := (HBx.out.keep hy94).frozen
          obtain ⟨c0, c1, c2, c3⟩ := AC.val (HBx.out.keep hy94)
          go_simp
          clear c0 c1 c2 c3 fr94
          have HBxn := Lib.hid ((HBx.out.keep hy94).set4 (.bool rb) (.float .f64 rx) (.int .i64 rn) (.string rs))
          have HByn := Lib.hid ((HBy.out.keep hy94).other4 (Ne.symm HNE.out) (.bool rb) (.float .f64 rx) (.int .i64 rn) (.string rs))
          have HZn := Lib.hid ((HZ.out.trans hy94).store4 HGx.out (.bool rb) (.float .f64 rx) (.int .i64 rn) (.string rs))
          clear HBx HBy HZ hy94
          have HBx := HBxn
          have HBy := HByn
          have HZ := HZn
          clear HBxn HByn HZn
          refine ⟨HZ.out, ?_⟩
          generalize World.setCell _ _ (.string rs) = Y95 at *
          refine wpAnyE_one (i := 17) (by kernel_rfl) ?_
          intro Y96 hy96
          go_simp
          have fr96 := (HBy.out.keep hy96).frozen
          obtain ⟨c0, c1, c2, c3⟩ := AC.val (HBy.out.keep hy96)
          go_simp
          clear c0 c1 c2 c3 fr96
          have HByn := Lib.hid ((HBy.out.keep hy96).set4 (.bool rb) (.float .f64 rx) (.int .i64 rn) (.string rs))
          have HBxn := Lib.hid ((HBx.out.keep hy96).other4 HNE.out (.bool rb) (.float .f64 rx) (.int .i64 rn) (.string rs))
          have HZn := Lib.hid ((HZ.out.trans hy96).store4 HGy.out (.bool rb) (.float .f64 rx) (.int .i64 rn) (.string rs))
          clear HBx HBy HZ hy96
          have HBx := HBxn
          have HBy := HByn
          have HZ := HZn
          clear HBxn HByn HZn
          refine ⟨HZ.out, ?_⟩
          generalize World.setCell _ _ (.string rs) = Y97 at *
          refine wpAnyE_done (by kernel_rfl) ?_
          intro Y98 hy98
          exact ⟨gl, gx, gy, by kernel_rfl, HZ.out.trans hy98, HBx.out.keep hy98, HBy.out.keep hy98⟩
        · skip
          go_simp
          have ha90 := AC.new Y90 _ rfl [.bool false, .float .f64 0, .int .i64 0, .string ⟨#[]⟩] 51
          have hb90 := (Bl.refl Y90).alloc (.cells ([.bool false, .float .f64 0, .int .i64 0, .string ⟨#[]⟩] : List Value).toArray 51)
          have HNE := Lib.hid (show Y90.heap.size ≠ gy from Nat.ne_of_gt (HBy.out.keep hy90).lt)
          have HGx := Lib.hid (HZ.out.trans hy90).size
          replace HBy := Lib.hid (HBy.out.keep (hy90.trans hb90))
          replace HLW := Lib.hid (HLW.out.keep (hy90.trans hb90))
          replace HZ := Lib.hid (HZ.out.trans (hy90.trans hb90))
          have HBx := Lib.hid ha90
          clear ha90 hb90 hy90
          generalize Y90.alloc _ = Y99 at *
          generalize Y90.heap.size = gx at *
          refine ⟨HZ.out, ?_⟩
          refine wpAnyE_one (i := 13) (by kernel_rfl) ?_
          intro Y100 hy100
          go_simp
          refine (tread_any (some ⟨gl, 0, none⟩) 1 1 [(key, ⟨ak, ax, an, az⟩)] key ⟨ub, ux, un, us⟩ Y100 (HLW.out.keep hy100) hk HOK1.out).mono ?_
          rintro e Y101 ⟨rfl, hb100⟩
          rw [HR.out]
          replace HBy := Lib.hid (HBy.out.keep (hy100.trans hb100))
          replace HLW := Lib.hid (HLW.out.keep (hy100.trans hb100))
          replace HBx := Lib.hid (HBx.out.keep (hy100.trans hb100))
          replace HZ := Lib.hid (HZ.out.trans (hy100.trans hb100))
          clear hy100 hb100
          refine ⟨_, rfl, HZ.out, ?_⟩
          refine wpAnyE_one (i := 16) (by kernel_rfl) ?_
          intro Y102 hy102
          go_simp
          have fr102 := (HBx.out.keep hy102).frozen
          obtain ⟨c0, c1, c2, c3⟩ := AC.val (HBx.out.keep hy102)
          go_simp
          clear c0 c1 c2 c3 fr102
          have HBxn := Lib.hid ((HBx.out.keep hy102).set4 (.bool rb) (.float .f64 rx) (.int .i64 rn) (.string rs))
          have HByn := Lib.hid ((HBy.out.keep hy102).other4 (Ne.symm HNE.out) (.bool rb) (.float .f64 rx) (.int .i64 rn) (.string rs))
          have HZn := Lib.hid ((HZ.out.trans hy102).store4 HGx.out (.bool rb) (.float .f64 rx) (.int .i64 rn) (.string rs))
          clear HBx HBy HZ hy102
          have HBx := HBxn
          have HBy := HByn
          have HZ := HZn
          clear HBxn HByn HZn
          refine ⟨HZ.out, ?_⟩
          generalize World.setCell _ _ (.string rs) = Y103 at *
          refine wpAnyE_one (i := 17) (by kernel_rfl) ?_
          intro Y104 hy104
          go_simp
          have fr104 := (HBy.out.keep hy104).frozen
          obtain ⟨c0, c1, c2, c3⟩ := AC.val (HBy.out.keep hy104)
          go_simp
          clear c0 c1 c2 c3 fr104
          have HByn := Lib.hid ((HBy.out.keep hy104).set4 (.bool rb) (.float .f64 rx) (.int .i64 rn) (.string rs))
          have HBxn := Lib.hid ((HBx.out.keep hy104).other4 HNE.out (.bool rb) (.float .f64 rx) (.int .i64 rn) (.string rs))
          have HZn := Lib.hid ((HZ.out.trans hy104).store4 HGy.out (.bool rb) (.float .f64 rx) (.int .i64 rn) (.string rs))
          clear HBx HBy HZ hy104
          have HBx := HBxn
          have HBy := HByn
          have HZ := HZn
          clear HBxn HByn HZn
          refine ⟨HZ.out, ?_⟩
          generalize World.setCell _ _ (.string rs) = Y105 at *
          refine wpAnyE_done (by kernel_rfl) ?_
          intro Y106 hy106
          exact ⟨gl, gx, gy, by kernel_rfl, HZ.out.trans hy106, HBx.out.keep hy106, HBy.out.keep hy106⟩
      · skip
        go_simp
        have ha88 := AC.new Y88 _ rfl [.bool false, .float .f64 0, .int .i64 0, .string ⟨#[]⟩] 51
        have hb88 := (Bl.refl Y88).alloc (.cells ([.bool false, .float .f64 0, .int .i64 0, .string ⟨#[]⟩] : List Value).toArray 51)
        have HNE := Lib.hid (show Y88.heap.size ≠ gy from Nat.ne_of_gt (HBy.out.keep hy88).lt)
        have HGx := Lib.hid (HZ.out.trans hy88).size
        replace HBy := Lib.hid (HBy.out.keep (hy88.trans hb88))
        replace HZ := Lib.hid (HZ.out.trans (hy88.trans hb88))
        have HBx := Lib.hid ha88
        clear ha88 hb88 hy88
        generalize Y88.alloc _ = Y107 at *
        generalize Y88.heap.size = gx at *
        refine ⟨HZ.out, ?_⟩
        refine wpAnyE_one (i := 7) (by kernel_rfl) ?_
        intro Y108 hy108
        go_simp
        have hw108 := WA.lit1 Y108 (key, ⟨ak, ax, an, az⟩) 56
        have hb108 := (Bl.refl Y108).alloc (.cells (writeCs (key, ⟨ak, ax, an, az⟩)).toArray 56)
        unfold writeCs at hw108 hb108
        replace HBy := Lib.hid (HBy.out.keep (hy108.trans hb108))
        replace HBx := Lib.hid (HBx.out.keep (hy108.trans hb108))
        replace HZ := Lib.hid (HZ.out.trans (hy108.trans hb108))
        have HLW := Lib.hid (hw108.ww (fun p hp => by obtain rfl := List.mem_singleton.1 hp; exact ⟨hk, OX.out⟩))
        clear hw108 hb108 hy108
        generalize Y108.alloc _ = Y109 at *
        generalize Y108.heap.size = gl at *
        refine ⟨HZ.out, ?_⟩
        refine wpAnyE_one (i := 13) (by kernel_rfl) ?_
        intro Y110 hy110
        go_simp
        refine (tread_any (some ⟨gl, 0, none⟩) 1 1 [(key, ⟨ak, ax, an, az⟩)] key ⟨ub, ux, un, us⟩ Y110 (HLW.out.keep hy110) hk HOK1.out).mono ?_
        rintro e Y111 ⟨rfl, hb110⟩
        rw [HR.out]
        replace HBy := Lib.hid (HBy.out.keep (hy110.trans hb110))
        replace HBx := Lib.hid (HBx.out.keep (hy110.trans hb110))
        replace HLW := Lib.hid (HLW.out.keep (hy110.trans hb110))
        replace HZ := Lib.hid (HZ.out.trans (hy110.trans hb110))
        clear hy110 hb110
        refine ⟨_, rfl, HZ.out, ?_⟩
        refine wpAnyE_one (i := 16) (by kernel_rfl) ?_
        intro Y112 hy112
        go_simp
        have fr112 := (HBx.out.keep hy112).frozen
        obtain ⟨c0, c1, c2, c3⟩ := AC.val (HBx.out.keep hy112)
        go_simp
        clear c0 c1 c2 c3 fr112
        have HBxn := Lib.hid ((HBx.out.keep hy112).set4 (.bool rb) (.float .f64 rx) (.int .i64 rn) (.string rs))
        have HByn := Lib.hid ((HBy.out.keep hy112).other4 (Ne.symm HNE.out) (.bool rb) (.float .f64 rx) (.int .i64 rn) (.string rs))
        have HZn := Lib.hid ((HZ.out.trans hy112).store4 HGx.out (.bool rb) (.float .f64 rx) (.int .i64 rn) (.string rs))
        clear HBx HBy HZ hy112
        have HBx := HBxn
        have HBy := HByn
        have HZ := HZn
        clear HBxn HByn HZn
        refine ⟨HZ.out, ?_⟩
        generalize World.setCell _ _ (.string rs) = Y113 at *
        refine wpAnyE_one (i := 17) (by kernel_rfl) ?_
        intro Y114 hy114
        go_simp
        have fr114 := (HBy.out.keep hy114).frozen
        obtain ⟨c0, c1, c2, c3⟩ := AC.val (HBy.out.keep hy114)
        go_simp
        clear c0 c1 c2 c3 fr114
        have HByn := Lib.hid ((HBy.out.keep hy114).set4 (.bool rb) (.float .f64 rx) (.int .i64 rn) (.string rs))
        have HBxn := Lib.hid ((HBx.out.keep hy114).other4 HNE.out (.bool rb) (.float .f64 rx) (.int .i64 rn) (.string rs))
        have HZn := Lib.hid ((HZ.out.trans hy114).store4 HGy.out (.bool rb) (.float .f64 rx) (.int .i64 rn) (.string rs))
        clear HBx HBy HZ hy114
        have HBx := HBxn
        have HBy := HByn
        have HZ := HZn
        clear HBxn HByn HZn
        refine ⟨HZ.out, ?_⟩
        generalize World.setCell _ _ (.string rs) = Y115 at *
        refine wpAnyE_done (by kernel_rfl) ?_
        intro Y116 hy116
        exact ⟨gl, gx, gy, by kernel_rfl, HZ.out.trans hy116, HBx.out.keep hy116, HBy.out.keep hy116⟩
  -- END6
  rintro a' w3 ⟨gl, gx, gy, rfl, hz3, hx3, hy3⟩
  simp only [Act.put, List.setIfInBounds_toArray, List.set_cons_zero, List.set_cons_succ]
  have G4 := Lib.hid (G3.out.keep hz3)
  have HMW4 := Lib.hid (HMW3.out.keep hz3)
  have HW4 := Lib.hid (HW3.out.keep hz3)
  have HBX := Lib.hid hx3
  have HBY := Lib.hid hy3
  clear hz3 hx3 hy3 G3 HMW3 HW3 HR HOK1
  go_upto_region 7 with fail
  refine wp_region_idx [0, 1, 2, 3, 4, 5, 6, 7] 4 (Bl w3.drew) (fun _ _ h k => h.trans k) (Bl.refl _) (by kernel_rfl) rfl (by kernel_rfl) (by kernel_rfl) ?_
  have HD := Lib.hid ((Bl.refl w3).drew)
  generalize w3.drew = Z2 at *
  haveI : Nonempty (ExtC (Bl Z2)) := ⟨⟨Z2, Bl.refl _⟩⟩
  have l0 : ∀ q : ExtC (Bl Z2), _ := fun q => (AC.val (G4.out.keep (HD.out.trans q.ok)).v).1
  have l1 : ∀ q : ExtC (Bl Z2), _ := fun q => (AC.val (G4.out.keep (HD.out.trans q.ok)).v).2.1
  have l2 : ∀ q : ExtC (Bl Z2), _ := fun q => (AC.val (G4.out.keep (HD.out.trans q.ok)).v).2.2.1
  have l3 : ∀ q : ExtC (Bl Z2), _ := fun q => (AC.val (G4.out.keep (HD.out.trans q.ok)).v).2.2.2
  have HX := Lib.hid (fun (q : ExtC (Bl Z2)) => tread_any ma (n + 1) mc _ other ⟨vb, vx, vn, vs⟩ q.at (HMW4.out.keep (HD.out.trans q.ok)) ho OV.out)
  have HU := Lib.hid (fun (q : ExtC (Bl Z2)) => tread_any a n c _ other ⟨vb, vx, vn, vs⟩ q.at (HW4.out.keep (HD.out.trans q.ok)) ho OV.out)
  rw [HRO.out] at HX
  obtain ⟨⟨zb, zx, zn, zs⟩, hz⟩ : ∃ u, readW other ⟨vb, vx, vn, vs⟩ ws = u := ⟨_, rfl⟩
  rw [hz] at HX HU
  dsimp only at HX HU
  clear hz HRO
  repeat (refine wpI_step rfl (fun K hK => ?_); go_simp; first | (refine hK _ ?_; clear hK K) | (apply Exists.intro; refine ⟨fun q => ?_, hK _ ?_⟩; (first | with_reducible exact HX.out q | with_reducible exact HU.out q); clear hK K))
  refine wpI_nil ?_
  clear l0 l1 l2 l3 HX HU this
  have HB0 := Lib.hid (G4.out.bl.trans HD.out)
  have HBX0 := Lib.hid (HBX.out.keep HD.out)
  have HBY0 := Lib.hid (HBY.out.keep HD.out)
  clear HD G4 HMW4 HW4 HBX HBY
  have HZ := Lib.hid (Bl.refl Z2)
  generalize hgx1 : gx = gx1 at *
  generalize hgy1 : gy = gy1 at *
  clear hgx1 hgy1
  refine wpAnyE_via (fun a a' w' => ∃ gx gy : Nat, a' = (a.put (some 15) (.pointer (some ⟨gx, 0, none⟩))).put (some 16) (.pointer (some ⟨gy, 0, none⟩)) ∧ Bl Z2 w' ∧ AC w' gx [.bool zb, .float .f64 zx, .int .i64 zn, .string zs] ∧ AC w' gy [.bool zb, .float .f64 zx, .int .i64 zn, .string zs]) ?h3 ?h4
  case h3 =>
  -- ORDERS7
    refine wpAnyE_all (rs := [8, 9]) (by kernel_rfl) (by decide) ?_
    intro i117 hi117 Y117 hy117
    simp only [List.mem_cons, List.not_mem_nil, or_false] at hi117
    rcases hi117 with rfl | rfl
    · skip
      go_simp
      have ha117 := AC.new Y117 _ rfl [.bool false, .float .f64 0, .int .i64 0, .string ⟨#[]⟩] 51
      have hb117 := (Bl.refl Y117).alloc (.cells ([.bool false, .float .f64 0, .int .i64 0, .string ⟨#[]⟩] : List Value).toArray 51)
      have HGx := Lib.hid (HZ.out.trans hy117).size
      replace HZ := Lib.hid (HZ.out.trans (hy117.trans hb117))
      have HBx := Lib.hid ha117
      clear ha117 hb117 hy117
      generalize Y117.alloc _ = Y118 at *
      generalize Y117.heap.size = gx at *
      refine ⟨HZ.out, ?_⟩
      refine wpAnyE_one (i := 9) (by kernel_rfl) ?_
      intro Y119 hy119
      go_simp
      have ha119 := AC.new Y119 _ rfl [.bool false, .float .f64 0, .int .i64 0, .string ⟨#[]⟩] 51
      have hb119 := (Bl.refl Y119).alloc (.cells ([.bool false, .float .f64 0, .int .i64 0, .string ⟨#[]⟩] : List Value).toArray 51)
      have HNE := Lib.hid (show Y119.heap.size ≠ gx from Nat.ne_of_gt (HBx.out.keep hy119).lt)
      have HGy := Lib.hid (HZ.out.trans hy119).size
      replace HBx := Lib.hid (HBx.out.keep (hy119.trans hb119))
      replace HZ := Lib.hid (HZ.out.trans (hy119.trans hb119))
      have HBy := Lib.hid ha119
      clear ha119 hb119 hy119
      generalize Y119.alloc _ = Y120 at *
      generalize Y119.heap.size = gy at *
      refine ⟨HZ.out, ?_⟩
      refine wpAnyE_one (i := 10) (by kernel_rfl) ?_
      intro Y121 hy121
      go_simp
      have fr121 := (HBx.out.keep hy121).frozen
      obtain ⟨c0, c1, c2, c3⟩ := AC.val (HBx.out.keep hy121)
      go_simp
      clear c0 c1 c2 c3 fr121
      have HBxn := Lib.hid ((HBx.out.keep hy121).set4 (.bool zb) (.float .f64 zx) (.int .i64 zn) (.string zs))
      have HByn := Lib.hid ((HBy.out.keep hy121).other4 HNE.out (.bool zb) (.float .f64 zx) (.int .i64 zn) (.string zs))
      have HZn := Lib.hid ((HZ.out.trans hy121).store4 HGx.out (.bool zb) (.float .f64 zx) (.int .i64 zn) (.string zs))
      clear HBx HBy HZ hy121
      have HBx := HBxn
      have HBy := HByn
      have HZ := HZn
      clear HBxn HByn HZn
      refine ⟨HZ.out, ?_⟩
      generalize World.setCell _ _ (.string zs) = Y122 at *
      refine wpAnyE_one (i := 11) (by kernel_rfl) ?_
      intro Y123 hy123
      go_simp
      have fr123 := (HBy.out.keep hy123).frozen
      obtain ⟨c0, c1, c2, c3⟩ := AC.val (HBy.out.keep hy123)
      go_simp
      clear c0 c1 c2 c3 fr123
      have HByn := Lib.hid ((HBy.out.keep hy123).set4 (.bool zb) (.float .f64 zx) (.int .i64 zn) (.string zs))
      have HBxn := Lib.hid ((HBx.out.keep hy123).other4 (Ne.symm HNE.out) (.bool zb) (.float .f64 zx) (.int .i64 zn) (.string zs))
      have HZn := Lib.hid ((HZ.out.trans hy123).store4 HGy.out (.bool zb) (.float .f64 zx) (.int .i64 zn) (.string zs))
      clear HBx HBy HZ hy123
      have HBx := HBxn
      have HBy := HByn
      have HZ := HZn
      clear HBxn HByn HZn
      refine ⟨HZ.out, ?_⟩
      generalize World.setCell _ _ (.string zs) = Y124 at *
      refine wpAnyE_done (by kernel_rfl) ?_
      intro Y125 hy125
      exact ⟨gx, gy, by kernel_rfl, HZ.out.trans hy125, HBx.out.keep hy125, HBy.out.keep hy125⟩
    · skip
      go_simp
      have ha117 := AC.new Y117 _ rfl [.bool false, .float .f64 0, .int .i64 0, .string ⟨#[]⟩] 51
      have hb117 := (Bl.refl Y117).alloc (.cells ([.bool false, .float .f64 0, .int .i64 0, .string ⟨#[]⟩] : List Value).toArray 51)
      have HGy := Lib.hid (HZ.out.trans hy117).size
      replace HZ := Lib.hid (HZ.out.trans (hy117.trans hb117))
      have HBy := Lib.hid ha117
      clear ha117 hb117 hy117
      generalize Y117.alloc _ = Y126 at *
      generalize Y117.heap.size = gy at *
      refine ⟨HZ.out, ?_⟩
      refine wpAnyE_one (i := 8) (by kernel_rfl) ?_
      intro Y127 hy127
      go_simp
      have ha127 := AC.new Y127 _ rfl [.bool false, .float .f64 0, .int .i64 0, .string ⟨#[]⟩] 51
      have hb127 := (Bl.refl Y127).alloc (.cells ([.bool false, .float .f64 0, .int .i64 0, .string ⟨#[]⟩] : List Value).toArray 51)
      have HNE := Lib.hid (show Y127.heap.size ≠ gy from Nat.ne_of_gt (HBy.out.keep hy127).lt)
      have HGx := Lib.hid (HZ.out.trans hy127).size
      replace HBy := Lib.hid (HBy.out.keep (hy127.trans hb127))
      replace HZ := Lib.hid (HZ.out.trans (hy127.trans hb127))
      have HBx := Lib.hid ha127
      clear ha127 hb127 hy127
      generalize Y127.alloc _ = Y128 at *
      generalize Y127.heap.size = gx at *
      refine ⟨HZ.out, ?_⟩
      refine wpAnyE_one (i := 10) (by kernel_rfl) ?_
      intro Y129 hy129
      go_simp
      have fr129 := (HBx.out.keep hy129).frozen
      obtain ⟨c0, c1, c2, c3⟩ := AC.val (HBx.out.keep hy129)
      go_simp
      clear c0 c1 c2 c3 fr129
      have HBxn := Lib.hid ((HBx.out.keep hy129).set4 (.bool zb) (.float .f64 zx) (.int .i64 zn) (.string zs))
      have HByn := Lib.hid ((HBy.out.keep hy129).other4 (Ne.symm HNE.out) (.bool zb) (.float .f64 zx) (.int .i64 zn) (.string zs))
      have HZn := Lib.hid ((HZ.out.trans hy129).store4 HGx.out (.bool zb) (.float .f64 zx) (.int .i64 zn) (.string zs))
      clear HBx HBy HZ hy129
      have HBx := HBxn
      have HBy := HByn
      have HZ := HZn
      clear HBxn HByn HZn
      refine ⟨HZ.out, ?_⟩
      generalize World.setCell _ _ (.string zs) = Y130 at *
      refine wpAnyE_one (i := 11) (by kernel_rfl) ?_
      intro Y131 hy131
      go_simp
      have fr131 := (HBy.out.keep hy131).frozen
      obtain ⟨c0, c1, c2, c3⟩ := AC.val (HBy.out.keep hy131)
      go_simp
      clear c0 c1 c2 c3 fr131
      have HByn := Lib.hid ((HBy.out.keep hy131).set4 (.bool zb) (.float .f64 zx) (.int .i64 zn) (.string zs))
      have HBxn := Lib.hid ((HBx.out.keep hy131).other4 HNE.out (.bool zb) (.float .f64 zx) (.int .i64 zn) (.string zs))
      have HZn := Lib.hid ((HZ.out.trans hy131).store4 HGy.out (.bool zb) (.float .f64 zx) (.int .i64 zn) (.string zs))
      clear HBx HBy HZ hy131
      have HBx := HBxn
      have HBy := HByn
      have HZ := HZn
      clear HBxn HByn HZn
      refine ⟨HZ.out, ?_⟩
      generalize World.setCell _ _ (.string zs) = Y132 at *
      refine wpAnyE_done (by kernel_rfl) ?_
      intro Y133 hy133
      exact ⟨gx, gy, by kernel_rfl, HZ.out.trans hy133, HBx.out.keep hy133, HBy.out.keep hy133⟩
  -- END7
  rintro a' w4 ⟨gz, gw, rfl, hz4, hx4, hy4⟩
  simp only [Act.put, List.setIfInBounds_toArray, List.set_cons_zero, List.set_cons_succ]
  have HB4 := Lib.hid (HB0.out.trans hz4)
  have HX4 := Lib.hid (HBX0.out.keep hz4)
  have HY4 := Lib.hid (HBY0.out.keep hz4)
  have HZ4 := Lib.hid hx4
  have HW4 := Lib.hid hy4
  clear hz4 hx4 hy4 HB0 HBX0 HBY0
  go_wp2_with fail
  refine (alive21_any _).mono ?_
  rintro e w5 ⟨rfl, hb5⟩
  obtain ⟨x0, x1, x2, x3⟩ := AC.val (HX4.out.keep hb5)
  obtain ⟨y0, y1, y2, y3⟩ := AC.val (HY4.out.keep hb5)
  obtain ⟨z0, z1, z2, z3⟩ := AC.val (HZ4.out.keep hb5)
  obtain ⟨w0, w1, w2, w3⟩ := AC.val (HW4.out.keep hb5)
  have hn1 : IntKind.i64.wrap ((n : Int) + 1) = ((n + 1 : Nat) : Int) := by rw [IntKind.wrap_i64]; omega
  go_wp2_with fail
  go_ret
  exact ⟨ret_bool (by simp), HB4.out.trans hb5⟩
end Go.Proofs.Ytaokennbpgdngaa
