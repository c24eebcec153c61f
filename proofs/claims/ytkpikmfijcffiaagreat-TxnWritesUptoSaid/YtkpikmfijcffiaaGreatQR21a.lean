import Derived.Test.YtkpikmfijcffiaaGreatQTxnWritesUptoP39
import Derived.Test.YtkpikmfijcffiaaGreatQRefO5
import Derived.Test.YtkpikmfijcffiaaGreatQTxnWritesUptoP24
import Derived.Test.YtkpikmfijcffiaaGreatQTxnWritesUptoP37

/- bedrockref21.Part, Add. By an AI agent. -/
section
set_option linter.unusedVariables false
set_option linter.unusedSimpArgs false
namespace Go.Proofs.YtkpikmfijcffiaaGreat
open Go.RowKit
attribute [local go_sem] eOp eOper eUpon

theorem rpart_any (key : ByteArray) (parts : Int) (w : World) (hk : key.size ≤ 140737488351232) :
    Calls Tryz.prog 16 #[.string key, .int .i64 parts] w fun e w' => e = .returned (.int .i64 (partL key parts)) ∧ w = w' := by
  have HS := Lib.hid (fun w => refSum_any key w hk)
  have hsl := sumL_lt key.data.toList
  by_cases h1 : parts < 1
  · have d1 : decide (parts < 1) = true := decide_eq_true h1
    have e : partL key parts = 0 := by unfold partL; rw [if_neg (by omega)]
    rw [e]
    go_enter Tryz.func16, Tryz.ntmps16
    go_wp2_with fail
    go_ret
    exact ⟨rfl, rfl⟩
  have d1 : decide (parts < 1) = false := decide_eq_false h1
  by_cases h2 : 64 < parts
  · have d2 : decide (64 < parts) = true := decide_eq_true h2
    have e : partL key parts = 0 := by unfold partL; rw [if_neg (by omega)]
    rw [e]
    go_enter Tryz.func16, Tryz.ntmps16
    go_wp2_with fail
    go_ret
    exact ⟨rfl, rfl⟩
  have d2 : decide (64 < parts) = false := decide_eq_false h2
  have e : partL key parts = (sumL key.data.toList : Int) % parts := by unfold partL; rw [if_pos (by omega)]
  rw [e]
  generalize sumL key.data.toList = s at *
  have hne : parts ≠ 0 := by omega
  have hne2 : (parts == 0) = false := by rw [beq_eq_false_iff_ne]; exact hne
  have h3 := Int.emod_nonneg (s : Int) hne
  have h4 := Int.emod_lt_of_pos (s : Int) (show 0 < parts by omega)
  have ht : Int.tmod (s : Int) parts = (s : Int) % parts := Int.tmod_eq_emod_of_nonneg (by omega)
  have hw : IntKind.i64.wrap ((s : Int) % parts) = (s : Int) % parts := by rw [IntKind.wrap_i64]; omega
  go_enter Tryz.func16, Tryz.ntmps16
  go_wp2_with fail
  refine (HS.out _).mono ?_
  rintro e w' ⟨rfl, rfl⟩
  go_wp2_with fail
  go_ret
  exact ⟨rfl, rfl⟩
set_option maxHeartbeats 3200000 in
set_option maxRecDepth 100000 in
theorem radd_any (a : Option Addr) (n c : Nat) (ws : List (ByteArray × ActL)) (key : ByteArray) (x : ActL) (w : World) (h : WW w a n ws) (hk : key.size ≤ 140737488351232) (ox : x.Ok) :
    Calls Tryz.prog 8 #[.slice a n c, .string key, .agg #[.int .i64 x.k, .float .f64 x.x, .int .i64 x.n, .string x.s]] w fun e w' =>
      ∃ v, e = .returned (.tuple #[v, .int .i64 (addC n key x)]) ∧ OWR w.heap.size w' v (addLs ws key x).length (addLs ws key x) ∧ Bl w w' := by
  have hsf := store_float
  have hcap := h.cap
  have HW := Lib.hid h
  have HL := Lib.hid h.len
  have OX := Lib.hid ox
  obtain ⟨ak, ax, an, az⟩ := x
  have hb := (Bl.refl w).alloc (.cells #[.int .i64 ak, .float .f64 ax, .int .i64 an, .string az] 25)
  have hg := AC.new w _ rfl [.int .i64 ak, .float .f64 ax, .int .i64 an, .string az] 25
  obtain ⟨g0, g1, g2, g3⟩ := hg.act
  dsimp only
  clear h ox
  cases hf : fitsB key ⟨ak, ax, an, az⟩
  · have HF := Lib.hid hf
    have e1 : addLs ws key ⟨ak, ax, an, az⟩ = [] := by unfold addLs; rw [if_neg (fun q => by rw [hf] at q; exact absurd q.1 (by decide))]
    have e2 : addC n key ⟨ak, ax, an, az⟩ = 40 := by unfold addC; rw [if_neg (fun q => by rw [hf] at q; exact absurd q (by decide))]
    rw [e1, e2]
    clear hf e1 e2
    go_enter Tryz.func8, Tryz.ntmps8
    go_wp2_with fail
    refine (refFits_agg key ak ax an az false _ HF hk OX).mono ?_
    rintro e w1 ⟨rfl, hb1⟩
    go_wp2_with fail
    go_ret2
    exact ⟨_, rfl, OWR.nil _ _, hb.trans hb1⟩
  have HF := Lib.hid hf
  by_cases hn : n < 200
  case neg =>
    have e1 : addLs ws key ⟨ak, ax, an, az⟩ = [] := by unfold addLs; rw [if_neg (fun q => by have := HL.out; omega)]
    have e2 : addC n key ⟨ak, ax, an, az⟩ = 2 := by unfold addC; rw [if_pos hf, if_neg hn]
    have d1 : decide ((200 : Int) ≤ (n : Int)) = true := decide_eq_true (by omega)
    have d2 : decide (200 ≤ n) = true := decide_eq_true (by omega)
    rw [e1, e2]
    clear hf e1 e2
    go_enter Tryz.func8, Tryz.ntmps8
    go_wp2_with fail
    refine (refFits_agg key ak ax an az true _ HF hk OX).mono ?_
    rintro e w1 ⟨rfl, hb1⟩
    go_wp2_with fail
    go_ret2
    exact ⟨_, rfl, OWR.nil _ _, hb.trans hb1⟩
  have e1 : addLs ws key ⟨ak, ax, an, az⟩ = ws ++ [(key, ⟨ak, ax, an, az⟩)] := by unfold addLs; rw [if_pos ⟨hf, by have := HL.out; omega⟩]
  have e2 : addC n key ⟨ak, ax, an, az⟩ = 0 := by unfold addC; rw [if_pos hf, if_pos hn]
  have d1 : decide ((200 : Int) ≤ (n : Int)) = false := decide_eq_false (by omega)
  have d2 : decide (200 ≤ n) = false := decide_eq_false (by omega)
  have HLE : Hid ((ws ++ [(key, (⟨ak, ax, an, az⟩ : ActL))]).length = n + 1) := Lib.hid (by rw [List.length_append, HL.out]; rfl)
  rw [e1, e2]
  clear hf e1 e2
  go_enter Tryz.func8, Tryz.ntmps8
  go_wp2_with fail
  refine (refFits_agg key ak ax an az true _ HF hk OX).mono ?_
  rintro e w1 ⟨rfl, hb1⟩
  go_upto_region 5 with fail
  have HB := Lib.hid ((hb.trans hb1).drew)
  have HG := Lib.hid ((hg.keep hb1).keep ((Bl.refl _).drew))
  clear hb hb1 hg g0 g1 g2 g3 d1 d2
  refine wp_region_idx [0, 2, 3, 4] 5 (Bl w1.drew) (fun _ _ h k => h.trans k) (Bl.refl _) (by kernel_rfl) rfl (by kernel_rfl) (by kernel_rfl) ?_
  generalize w1.drew = Z at *
  haveI : Nonempty (ExtC (Bl Z)) := ⟨⟨Z, Bl.refl _⟩⟩
  have k0 : ∀ q : ExtC (Bl Z), _ := fun q => (AC.act (HG.out.keep q.ok)).1
  have k1 : ∀ q : ExtC (Bl Z), _ := fun q => (AC.act (HG.out.keep q.ok)).2.1
  have k2 : ∀ q : ExtC (Bl Z), _ := fun q => (AC.act (HG.out.keep q.ok)).2.2.1
  have k3 : ∀ q : ExtC (Bl Z), _ := fun q => (AC.act (HG.out.keep q.ok)).2.2.2
  repeat (refine wpI_step rfl (fun K hK => ?_); go_simp; first | (refine hK _ ?_; clear hK K) | (apply Exists.intro; refine ⟨fun q => ?_, hK _ ?_⟩; (fail); clear hK K))
  refine wpI_nil ?_
  clear k0 k1 k2 k3 this
  have hlit : ∀ X : World, (X.alloc (.cells #[.string key, .int .i64 ak, .float .f64 ax, .int .i64 an, .string az] 58)).heap[X.heap.size]? = some (.cells (writeCs (key, ⟨ak, ax, an, az⟩)).toArray 58 (0, 0)) := fun X => heap_alloc_new X _
  have HLIT := Lib.hid hlit
  clear hlit
  refine wpAnyE_all (rs := [1, 5]) (by kernel_rfl) (by decide) ?_
  intro i hi Y1 hy1
  simp only [List.mem_cons, List.not_mem_nil, or_false] at hi
  rcases hi with rfl | rfl
  · refine eOp_appG (i := 1) rfl rfl _ _ _ rfl el_wr Y1.heap.size (.slice none 0 0) 0 [] rfl (World.ownsRow_nil _ _ _ _) (Nat.le_refl _) a n c _ rfl (sg_ww (HW.out.keep (HB.out.trans hy1))) (by unfold maxLen; omega) (by omega) ?_
    intro v Y2 ho2 hg2
    have hb2 : Bl Y1 Y2 := (Bl.refl Y1).ownRow (World.ownsRow_nil _ _ 58 5) (Nat.le_refl _) hg2
    have hv : OWR Y1.heap.size Y2 v n ws := ⟨HL.out, by simpa using ho2⟩
    clear ho2 hg2
    have HY2 := Lib.hid (hy1.trans hb2)
    have HV := Lib.hid (show OWR Z.heap.size Y2 v n ws from ⟨hv.1, own_less hv.2 hy1.size⟩)
    obtain ⟨va, vc, hve⟩ := OWR.form hv
    subst hve
    clear hy1 hb2 hv
    refine ⟨HY2.out, ?_⟩
    simp only [Act.put, List.setIfInBounds_toArray]
    refine wpAnyE_one (i := 5) (by kernel_rfl) ?_
    intro Y3 hy3
    go_simp
    have hbl := (Bl.refl Y3).alloc (.cells #[.string key, .int .i64 ak, .float .f64 ax, .int .i64 an, .string az] 58)
    have HS := Lib.hid (SG.lit (size := 5) (HLIT.out Y3) rfl (by simp [writeCs, Value.oneCell']))
    have HY4 := Lib.hid (HY2.out.trans (hy3.trans hbl))
    have HV4 := Lib.hid (HV.out.keep (hy3.trans hbl))
    clear hy3 hbl HV HY2
    generalize Y3.alloc _ = Y4 at *
    generalize Y3.heap.size = gl at *
    refine ⟨HY4.out, ?_⟩
    refine wpAnyE_one (i := 6) (by kernel_rfl) ?_
    intro Y5 hy5
    have HS5 := Lib.hid (HS.out.keep hy5)
    have HV5 := Lib.hid (HV4.out.keep hy5)
    have HY5 := Lib.hid (HB.out.trans (HY4.out.trans hy5))
    have HZ5 := Lib.hid (HY4.out.trans hy5)
    clear hy5 HS HV4 HY4
    refine eOp_appG rfl rfl _ _ _ rfl el_wr Z.heap.size (.slice va n vc) n (cellsW ws) rfl HV5.out.2 HZ5.out.size (some ⟨gl, 0, none⟩) 1 1 (writeCs (key, ⟨ak, ax, an, az⟩)) rfl HS5.out (by unfold maxLen; omega) (by omega) ?_
    intro v' Y6 ho hgr
    have HO : Hid (OWR Z.heap.size Y6 v' (n + 1) (ws ++ [(key, ⟨ak, ax, an, az⟩)])) := Lib.hid ⟨HLE.out, by rw [cellsW_snoc]; exact ho⟩
    have HY6 : Hid (Bl w Y6) := Lib.hid (Bl.ownRow HY5.out HV5.out.2 HB.out.size hgr)
    have HZ6 : Hid (Bl Z Y6) := Lib.hid (Bl.ownRow HZ5.out HV5.out.2 (Nat.le_refl _) hgr)
    clear ho hgr HS5 HV5 HY5 HZ5
    refine ⟨HZ6.out, ?_⟩
    simp only [Act.put, List.setIfInBounds_toArray]
    refine wpAnyE_one (i := 7) (by kernel_rfl) ?_
    intro Y7 hy7
    go_simp
    refine ⟨HZ6.out.trans hy7, ?_⟩
    refine wpAnyE_one (i := 8) (by kernel_rfl) ?_
    intro Y8 hy8
    go_simp
    refine ⟨HZ6.out.trans (hy7.trans hy8), ?_⟩
    refine wpAnyE_done (by kernel_rfl) ?_
    intro Y9 hy9
    have HO9 := Lib.hid (HO.out.keep (hy7.trans (hy8.trans hy9)))
    have HB9 := Lib.hid (HY6.out.trans (hy7.trans (hy8.trans hy9)))
    clear hy7 hy8 hy9 HO HY6 HZ6
    go_wp2_with fail
    go_ret2
    rw [HLE.out]
    exact ⟨_, rfl, ⟨HO9.out.1, own_less HO9.out.2 HB.out.size⟩, HB9.out⟩
  · go_simp
    have hbl := (Bl.refl Y1).alloc (.cells #[.string key, .int .i64 ak, .float .f64 ax, .int .i64 an, .string az] 58)
    have HS := Lib.hid (SG.lit (size := 5) (HLIT.out Y1) rfl (by simp [writeCs, Value.oneCell']))
    have HY2 := Lib.hid (hy1.trans hbl)
    clear hy1 hbl
    generalize Y1.alloc _ = Y2 at *
    generalize Y1.heap.size = gl at *
    refine ⟨HY2.out, ?_⟩
    refine wpAnyE_one (i := 1) (by kernel_rfl) ?_
    intro Y3 hy3
    refine eOp_appG (i := 1) rfl rfl _ _ _ rfl el_wr Y3.heap.size (.slice none 0 0) 0 [] rfl (World.ownsRow_nil _ _ _ _) (Nat.le_refl _) a n c _ rfl (sg_ww (HW.out.keep (HB.out.trans (HY2.out.trans hy3)))) (by unfold maxLen; omega) (by omega) ?_
    intro v Y4 ho2 hg2
    have hb2 : Bl Y3 Y4 := (Bl.refl Y3).ownRow (World.ownsRow_nil _ _ 58 5) (Nat.le_refl _) hg2
    have hv : OWR Y3.heap.size Y4 v n ws := ⟨HL.out, by simpa using ho2⟩
    clear ho2 hg2
    have HY4 := Lib.hid (HY2.out.trans (hy3.trans hb2))
    have HV4 := Lib.hid (show OWR Z.heap.size Y4 v n ws from ⟨hv.1, own_less hv.2 (HY2.out.trans hy3).size⟩)
    have HS2 := Lib.hid (HS.out.keep (hy3.trans hb2))
    obtain ⟨va, vc, hve⟩ := OWR.form hv
    subst hve
    clear hy3 hb2 hv HS HY2
    refine ⟨HY4.out, ?_⟩
    simp only [Act.put, List.setIfInBounds_toArray]
    have HS := HS2
    clear HS2
    refine wpAnyE_one (i := 6) (by kernel_rfl) ?_
    intro Y5 hy5
    have HS5 := Lib.hid (HS.out.keep hy5)
    have HV5 := Lib.hid (HV4.out.keep hy5)
    have HY5 := Lib.hid (HB.out.trans (HY4.out.trans hy5))
    have HZ5 := Lib.hid (HY4.out.trans hy5)
    clear hy5 HS HV4 HY4
    refine eOp_appG rfl rfl _ _ _ rfl el_wr Z.heap.size (.slice va n vc) n (cellsW ws) rfl HV5.out.2 HZ5.out.size (some ⟨gl, 0, none⟩) 1 1 (writeCs (key, ⟨ak, ax, an, az⟩)) rfl HS5.out (by unfold maxLen; omega) (by omega) ?_
    intro v' Y6 ho hgr
    have HO : Hid (OWR Z.heap.size Y6 v' (n + 1) (ws ++ [(key, ⟨ak, ax, an, az⟩)])) := Lib.hid ⟨HLE.out, by rw [cellsW_snoc]; exact ho⟩
    have HY6 : Hid (Bl w Y6) := Lib.hid (Bl.ownRow HY5.out HV5.out.2 HB.out.size hgr)
    have HZ6 : Hid (Bl Z Y6) := Lib.hid (Bl.ownRow HZ5.out HV5.out.2 (Nat.le_refl _) hgr)
    clear ho hgr HS5 HV5 HY5 HZ5
    refine ⟨HZ6.out, ?_⟩
    simp only [Act.put, List.setIfInBounds_toArray]
    refine wpAnyE_one (i := 7) (by kernel_rfl) ?_
    intro Y7 hy7
    go_simp
    refine ⟨HZ6.out.trans hy7, ?_⟩
    refine wpAnyE_one (i := 8) (by kernel_rfl) ?_
    intro Y8 hy8
    go_simp
    refine ⟨HZ6.out.trans (hy7.trans hy8), ?_⟩
    refine wpAnyE_done (by kernel_rfl) ?_
    intro Y9 hy9
    have HO9 := Lib.hid (HO.out.keep (hy7.trans (hy8.trans hy9)))
    have HB9 := Lib.hid (HY6.out.trans (hy7.trans (hy8.trans hy9)))
    clear hy7 hy8 hy9 HO HY6 HZ6
    go_wp2_with fail
    go_ret2
    rw [HLE.out]
    exact ⟨_, rfl, ⟨HO9.out.1, own_less HO9.out.2 HB.out.size⟩, HB9.out⟩
end Go.Proofs.YtkpikmfijcffiaaGreat
end
