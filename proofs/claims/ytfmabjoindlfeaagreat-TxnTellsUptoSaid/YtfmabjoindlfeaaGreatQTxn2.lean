import Derived.Test.YtfmabjoindlfeaaGreatQTxnTellsUptoP23
import Derived.Test.YtfmabjoindlfeaaGreatQTxnTellsUptoP27
import Derived.Test.YtfmabjoindlfeaaGreatQTxnTellsUptoP11
import Derived.Test.YtfmabjoindlfeaaGreatQTxnTellsUptoP5
import Derived.Maps.OwnSet
import Derived.Deep.DeepCutAuto

/- txn.Valid (printed by wip/gen/txnvalid.py). By an AI agent. -/
section
set_option linter.unusedVariables false
set_option linter.unusedSimpArgs false
namespace Go.Proofs.YtfmabjoindlfeaaGreat
open Go.RowKit Go.Maps
attribute [local go_sem] eOp eOper eUpon

theorem str_law : Keyed Tryz.prog 9 := string_keyed Tryz.underlying9
theorem zero_unit (w : World) : (zeroValue 91).run Tryz.prog w = .ok (.agg #[]) w := by kernel_rfl
/-- a key as a map's key -/
def klit (s : ByteArray) : Lit := .string s.data.toList
theorem key_klit {s : ByteArray} (h : s.size ≤ 140737488351232) : keyOf Tryz.prog 9 (.string s) = some (klit s) := Go.WideMaps.keyOf_string_mk Tryz.underlying9 (by unfold maxLen; omega)
theorem any_klit (l : List (ByteArray × ActL)) (x : ByteArray) : ((l.map (·.1)).map klit).any (fun y => y.sameKey (klit x)) = l.any (fun q => decide (q.1 = x)) := by
  rw [List.any_map, List.any_map]
  congr 1
  funext q
  rw [Bool.eq_iff_iff]
  show Lit.sameKey (klit q.1) (klit x) = true ↔ _
  rw [WideAt.sameKey_iff (show WideAt.IsKeyLit (klit x) from trivial), decide_eq_true_eq]
  constructor
  · intro h
    simp only [klit, Lit.string.injEq] at h
    exact toList_inj (by rw [ByteArray.toList_eq, ByteArray.toList_eq]; exact h)
  · intro h; rw [h]
/-- the set of the first k keys -/
def setK (ws : List (ByteArray × ActL)) (k : Nat) : DataW Unit := setOf (.agg []) (((ws.take k).map (·.1)).map klit)
theorem setK_zero (ws : List (ByteArray × ActL)) : setK ws 0 = .map [] := by simp [setK, setOf]
theorem setK_succ {ws : List (ByteArray × ActL)} {k : Nat} (h : k < ws.length) : setK ws (k + 1) = (setK ws k).put (klit (nthW ws k).1) (.agg []) := by
  unfold setK
  rw [List.take_succ_eq_append_getElem h, List.map_append, List.map_append, ← nthW_eq h]
  exact setOf_snoc _ _ _
theorem has_setK (ws : List (ByteArray × ActL)) (k : Nat) : Maps.has (setK ws k) (klit (nthW ws k).1) = !freshAt ws k := by
  unfold setK freshAt
  rw [has_setOf _ _ _ (fun y hy => by obtain ⟨_, _, rfl⟩ := List.mem_map.1 hy; trivial), any_klit, Bool.not_not]
theorem ownsMap_bl {w w' : World} {H : Type} {P : Program} {k : TypeId} {R : Value → Option (DataW H × List MemPlace)} {b n : Nat} {D : DataW H} (h : w.ownsMap P k R b n D) (hb : Bl w w') : w'.ownsMap P k R b n D := by
  obtain ⟨es, clock, h1, h2⟩ := h
  exact ⟨es, clock, hb.heap h1, h2⟩
theorem notTx {t : TxnL} (h : TxParts t → False) : validT t = false := by
  cases hv : validT t
  · rfl
  · exact absurd (h (validT_parts hv)) id
theorem okW_step {ws : List (ByteArray × ActL)} {k : Nat} (h : ∀ j, j < k → okW ws j = true) (hk : okW ws k = true) : ∀ j, j < k + 1 → okW ws j = true := fun j hj => by
  rcases Nat.lt_or_ge j k with h' | h'
  · exact h j h'
  · have : j = k := by omega
    subst this; exact hk
theorem fitsA_any (key : ByteArray) (a : ActL) (w : World) (hk : key.size ≤ 140737488351232) (oa : a.Ok) : Calls Tryz.prog 36 #[.string key, .agg #[.int .i64 a.k, .float .f64 a.x, .int .i64 a.n, .string a.s]] w fun e w' => e = .returned (.bool (fitsB key a)) ∧ Bl w w' :=
  fits_agg key a.k a.x a.n a.s (fitsB key a) w (Lib.hid rfl) hk (Lib.hid oa)

set_option maxHeartbeats 12800000 in
set_option maxRecDepth 100000 in
theorem txValid_hid (o num prev : Int) (da : Option Addr) (dn dc : Nat) (ds : List Int) (aa : Option Addr) (an ac : Nat) (xs : List Int) (wa : Option Addr) (wn wc : Nat) (ws : List (ByteArray × ActL)) (w : World)
    (hd : IA w da dn ds) (hx : IA w aa an xs) (hw : WW w wa wn ws) (R : Bool) (HR : Hid (validT ⟨o, num, prev, ds, xs, ws⟩ = R)) :
    Calls Tryz.prog 9 #[.agg #[.int .i64 o, .int .i64 num, .int .i64 prev, .slice da dn dc, .slice aa an ac, .slice wa wn wc]] w fun e w' => e = .returned (.bool R) ∧ Bl w w' := by
  have hmm := @run_makeMap Tryz.prog
  have hn1 := hd.cap
  have hn2 := hx.cap
  have hn3 := hw.cap
  have HD := Lib.hid hd
  have HX := Lib.hid hx
  have HWW := Lib.hid hw
  have HDL := Lib.hid hd.len
  have HXL := Lib.hid hx.len
  have HWL := Lib.hid hw.len
  have hg := AC.new w _ rfl [.int .i64 o, .int .i64 num, .int .i64 prev, .slice da dn dc, .slice aa an ac, .slice wa wn wc] 26
  have hb := (Bl.refl w).alloc (.cells [Value.int .i64 o, .int .i64 num, .int .i64 prev, .slice da dn dc, .slice aa an ac, .slice wa wn wc].toArray 26)
  have HN : Hid ((TxParts ⟨o, num, prev, ds, xs, ws⟩ → False) → R = false) := Lib.hid fun h => by rw [← HR.out]; exact notTx h
  have c0 := hg.cell 0 _ rfl
  have c1 := hg.cell 1 _ rfl
  have c2 := hg.cell 2 _ rfl
  have c3 := hg.cell 3 _ rfl
  have c4 := hg.cell 4 _ rfl
  have c5 := hg.cell 5 _ rfl
  clear hd hx hw
  go_enter Tryz.func9, Tryz.ntmps9
  go_upto_region 1 with fail
  generalize w.alloc _ = W at *
  have HG := Lib.hid hg
  have HB := Lib.hid hb
  clear hg hb
  cases hv : validL ds
  · have HF := Lib.hid (HN.out fun h => by have := h.deps; dsimp only at this; rw [hv] at this; cases this)
    have HVD := Lib.hid hv
    clear hv
    go_wp2_with fail
    refine (valid_any da dn dc ds _ (HD.out.keep HB.out)).mono ?_
    rintro e w' ⟨rfl, rfl⟩
    rw [HVD.out]
    go_wp2_with fail
    go_ret
    exact ⟨ret_bool HF.out.symm, HB.out⟩
  have HVD := Lib.hid hv
  clear hv
  cases hv : validL xs
  · have HF := Lib.hid (HN.out fun h => by have := h.at_; dsimp only at this; rw [hv] at this; cases this)
    have HVX := Lib.hid hv
    clear hv
    go_wp2_with fail
    refine (valid_any da dn dc ds _ (HD.out.keep HB.out)).mono ?_
    rintro e w' ⟨rfl, rfl⟩
    rw [HVD.out]
    go_wp2_with fail
    refine (valid_any aa an ac xs _ (HX.out.keep HB.out)).mono ?_
    rintro e w' ⟨rfl, rfl⟩
    rw [HVX.out]
    go_wp2_with fail
    go_ret
    exact ⟨ret_bool HF.out.symm, HB.out⟩
  have HVX := Lib.hid hv
  clear hv
  by_cases e5 : dn = an
  case neg =>
    have HF := Lib.hid (HN.out fun h => by have := h.len; have := HDL.out; have := HXL.out; dsimp only at *; omega)
    have q5 : ((dn : Int) != (an : Int)) = true := by rw [bne_iff_ne]; omega
    clear e5
    go_wp2_with fail
    refine (valid_any da dn dc ds _ (HD.out.keep HB.out)).mono ?_
    rintro e w' ⟨rfl, rfl⟩
    rw [HVD.out]
    go_wp2_with fail
    refine (valid_any aa an ac xs _ (HX.out.keep HB.out)).mono ?_
    rintro e w' ⟨rfl, rfl⟩
    rw [HVX.out]
    go_wp2_with fail
    go_ret
    exact ⟨ret_bool HF.out.symm, HB.out⟩
  subst e5
  have q5 : ((dn : Int) != (dn : Int)) = false := by simp
  by_cases e6 : o < 0
  · have HF := Lib.hid (HN.out fun h => by have := h.o0; dsimp only at *; omega)
    have d6 : decide (o < 0) = true := decide_eq_true e6
    go_wp2_with fail
    refine (valid_any da dn dc ds _ (HD.out.keep HB.out)).mono ?_
    rintro e w' ⟨rfl, rfl⟩
    rw [HVD.out]
    go_wp2_with fail
    refine (valid_any aa dn ac xs _ (HX.out.keep HB.out)).mono ?_
    rintro e w' ⟨rfl, rfl⟩
    rw [HVX.out]
    go_wp2_with fail
    go_ret
    exact ⟨ret_bool HF.out.symm, HB.out⟩
  obtain ⟨oi, rfl⟩ := Int.eq_ofNat_of_zero_le (show 0 ≤ o by omega)
  by_cases e7 : dn ≤ oi
  · have HF := Lib.hid (HN.out fun h => by have := h.o1; have := HXL.out; dsimp only at *; omega)
    have d6 : decide ((oi : Int) < 0) = false := decide_eq_false e6
    have d7 : decide ((dn : Int) ≤ (oi : Int)) = true := decide_eq_true (by omega)
    have d8 : decide (dn ≤ oi) = true := decide_eq_true e7
    go_wp2_with fail
    refine (valid_any da dn dc ds _ (HD.out.keep HB.out)).mono ?_
    rintro e w' ⟨rfl, rfl⟩
    rw [HVD.out]
    go_wp2_with fail
    refine (valid_any aa dn ac xs _ (HX.out.keep HB.out)).mono ?_
    rintro e w' ⟨rfl, rfl⟩
    rw [HVX.out]
    go_wp2_with fail
    go_ret
    exact ⟨ret_bool HF.out.symm, HB.out⟩
  have d6 : decide ((oi : Int) < 0) = false := decide_eq_false e6
  have d7 : decide ((dn : Int) ≤ (oi : Int)) = false := decide_eq_false (by omega)
  have d8 : decide (dn ≤ oi) = false := decide_eq_false e7
  have hlt : oi < dn := by omega
  go_wp2_with fail
  refine (valid_any da dn dc ds _ (HD.out.keep HB.out)).mono ?_
  rintro e w' ⟨rfl, rfl⟩
  rw [HVD.out]
  go_wp2_with fail
  refine (valid_any aa dn ac xs _ (HX.out.keep HB.out)).mono ?_
  rintro e w' ⟨rfl, rfl⟩
  rw [HVX.out]
  obtain ⟨bx, ox, rfl, hcx⟩ := HX.out.cells oi hlt
  obtain ⟨bd, od, rfl, hcd⟩ := HD.out.cells oi hlt
  have hax := HB.out.cell (hcx oi hlt)
  have had : ∀ W', Bl W W' → W'.cell? ⟨bd, od + oi, none⟩ = some (.int .i64 (nth ds oi)) := fun W' h => (HB.out.trans h).cell (hcd oi hlt)
  have HDC := Lib.hid had
  have HAB := Lib.hid (HX.out.wf_get oi)
  have hm : ∃ m, nth xs oi = m ∧ nth ds oi = nth ds oi := ⟨_, rfl, rfl⟩
  obtain ⟨m, hm, -⟩ := hm
  rw [hm] at hax HAB
  have HM := Lib.hid hm
  clear hcx hcd had d6 d7 d8 q5 hm e6 e7
  go_upto_region 4 with fail
  clear hax
  have HAT : Hid (atT ⟨(oi : Int), num, prev, ds, xs, ws⟩ = m) := Lib.hid (by unfold atT; exact HM.out)
  have HGZ := Lib.hid (HG.out.keep ((Bl.refl W).drew))
  have HBZ := Lib.hid (HB.out.drew)
  have HDZ := Lib.hid (HDC.out W.drew ((Bl.refl W).drew))
  clear HG HDC c0 c1 c2 c3 c4 c5
  have hoi : decide ((oi : Int) < (dn : Int)) = true := decide_eq_true (by omega)
  obtain ⟨dv, hdv⟩ : ∃ dv, nth ds oi = dv := ⟨_, rfl⟩
  rw [hdv] at HDZ
  have HDV := Lib.hid hdv
  clear hdv
  by_cases e10 : num < 1
  · have HF := Lib.hid (HN.out fun h => by have := h.num; dsimp only at this; omega)
    have t0 : decide (num < 1) = true := decide_eq_true e10
    refine wp_region_allS (by kernel_rfl) (by kernel_rfl) ?_
    clear HB
    generalize W.drew = Z at *
    have k0 : ∀ q : Ext Z, _ := fun q => (HGZ.out.keep q.bl).cell 0 _ rfl
    have k1 : ∀ q : Ext Z, _ := fun q => (HGZ.out.keep q.bl).cell 1 _ rfl
    have k2 : ∀ q : Ext Z, _ := fun q => (HGZ.out.keep q.bl).cell 2 _ rfl
    have k3 : ∀ q : Ext Z, _ := fun q => (HGZ.out.keep q.bl).cell 3 _ rfl
    have k4 : ∀ q : Ext Z, _ := fun q => (HGZ.out.keep q.bl).cell 4 _ rfl
    have kd : ∀ q : Ext Z, _ := fun q => q.bl.cell HDZ.out
    repeat (refine wpS_step (fun K hK => ?_); go_simp; first | (refine hK _ ?_; clear hK K) | (apply Exists.intro; refine ⟨fun q => ?_, hK _ ?_⟩; (fail); clear hK K))
    refine wpS_nil ?_
    intro q1
    have HB := Lib.hid (HBZ.out.trans q1.bl)
    clear k0 k1 k2 k3 k4 kd
    generalize ExtC.at q1 = W7 at *
    go_wp2_with fail
    go_ret
    exact ⟨ret_bool HF.out.symm, HB.out⟩
  have t0 : decide (num < 1) = false := decide_eq_false e10
  by_cases e11 : 281474976710655 < num
  · have HF := Lib.hid (HN.out fun h => by have := h.num; dsimp only at this; omega)
    have t1 : decide (281474976710655 < num) = true := decide_eq_true e11
    refine wp_region_allS (by kernel_rfl) (by kernel_rfl) ?_
    clear HB
    generalize W.drew = Z at *
    have k0 : ∀ q : Ext Z, _ := fun q => (HGZ.out.keep q.bl).cell 0 _ rfl
    have k1 : ∀ q : Ext Z, _ := fun q => (HGZ.out.keep q.bl).cell 1 _ rfl
    have k2 : ∀ q : Ext Z, _ := fun q => (HGZ.out.keep q.bl).cell 2 _ rfl
    have k3 : ∀ q : Ext Z, _ := fun q => (HGZ.out.keep q.bl).cell 3 _ rfl
    have k4 : ∀ q : Ext Z, _ := fun q => (HGZ.out.keep q.bl).cell 4 _ rfl
    have kd : ∀ q : Ext Z, _ := fun q => q.bl.cell HDZ.out
    repeat (refine wpS_step (fun K hK => ?_); go_simp; first | (refine hK _ ?_; clear hK K) | (apply Exists.intro; refine ⟨fun q => ?_, hK _ ?_⟩; (fail); clear hK K))
    refine wpS_nil ?_
    intro q1
    have HB := Lib.hid (HBZ.out.trans q1.bl)
    clear k0 k1 k2 k3 k4 kd
    generalize ExtC.at q1 = W7 at *
    go_wp2_with fail
    go_ret
    exact ⟨ret_bool HF.out.symm, HB.out⟩
  have t1 : decide (281474976710655 < num) = false := decide_eq_false e11
  by_cases e12 : prev < 0
  · have HF := Lib.hid (HN.out fun h => by have := h.prev; dsimp only at this; omega)
    have t2 : decide (prev < 0) = true := decide_eq_true e12
    refine wp_region_allS (by kernel_rfl) (by kernel_rfl) ?_
    clear HB
    generalize W.drew = Z at *
    have k0 : ∀ q : Ext Z, _ := fun q => (HGZ.out.keep q.bl).cell 0 _ rfl
    have k1 : ∀ q : Ext Z, _ := fun q => (HGZ.out.keep q.bl).cell 1 _ rfl
    have k2 : ∀ q : Ext Z, _ := fun q => (HGZ.out.keep q.bl).cell 2 _ rfl
    have k3 : ∀ q : Ext Z, _ := fun q => (HGZ.out.keep q.bl).cell 3 _ rfl
    have k4 : ∀ q : Ext Z, _ := fun q => (HGZ.out.keep q.bl).cell 4 _ rfl
    have kd : ∀ q : Ext Z, _ := fun q => q.bl.cell HDZ.out
    repeat (refine wpS_step (fun K hK => ?_); go_simp; first | (refine hK _ ?_; clear hK K) | (apply Exists.intro; refine ⟨fun q => ?_, hK _ ?_⟩; (fail); clear hK K))
    refine wpS_nil ?_
    intro q1
    have HB := Lib.hid (HBZ.out.trans q1.bl)
    clear k0 k1 k2 k3 k4 kd
    generalize ExtC.at q1 = W7 at *
    go_wp2_with fail
    go_ret
    exact ⟨ret_bool HF.out.symm, HB.out⟩
  have t2 : decide (prev < 0) = false := decide_eq_false e12
  by_cases e13 : m ≤ prev
  · have HF := Lib.hid (HN.out fun h => by have := h.prev; have := HAT.out; dsimp only at *; omega)
    have t3 : decide (m ≤ prev) = true := decide_eq_true e13
    refine wp_region_allS (by kernel_rfl) (by kernel_rfl) ?_
    clear HB
    generalize W.drew = Z at *
    have k0 : ∀ q : Ext Z, _ := fun q => (HGZ.out.keep q.bl).cell 0 _ rfl
    have k1 : ∀ q : Ext Z, _ := fun q => (HGZ.out.keep q.bl).cell 1 _ rfl
    have k2 : ∀ q : Ext Z, _ := fun q => (HGZ.out.keep q.bl).cell 2 _ rfl
    have k3 : ∀ q : Ext Z, _ := fun q => (HGZ.out.keep q.bl).cell 3 _ rfl
    have k4 : ∀ q : Ext Z, _ := fun q => (HGZ.out.keep q.bl).cell 4 _ rfl
    have kd : ∀ q : Ext Z, _ := fun q => q.bl.cell HDZ.out
    repeat (refine wpS_step (fun K hK => ?_); go_simp; first | (refine hK _ ?_; clear hK K) | (apply Exists.intro; refine ⟨fun q => ?_, hK _ ?_⟩; (fail); clear hK K))
    refine wpS_nil ?_
    intro q1
    have HB := Lib.hid (HBZ.out.trans q1.bl)
    clear k0 k1 k2 k3 k4 kd
    generalize ExtC.at q1 = W7 at *
    go_wp2_with fail
    go_ret
    exact ⟨ret_bool HF.out.symm, HB.out⟩
  have t3 : decide (m ≤ prev) = false := decide_eq_false e13
  by_cases e14 : m ≤ dv
  · have HF := Lib.hid (HN.out fun h => by have := h.less; have := HAT.out; have := HDV.out; dsimp only at *; rw [Int.toNat_natCast] at *; omega)
    have t4 : decide (m ≤ dv) = true := decide_eq_true e14
    refine wp_region_allS (by kernel_rfl) (by kernel_rfl) ?_
    clear HB
    generalize W.drew = Z at *
    have k0 : ∀ q : Ext Z, _ := fun q => (HGZ.out.keep q.bl).cell 0 _ rfl
    have k1 : ∀ q : Ext Z, _ := fun q => (HGZ.out.keep q.bl).cell 1 _ rfl
    have k2 : ∀ q : Ext Z, _ := fun q => (HGZ.out.keep q.bl).cell 2 _ rfl
    have k3 : ∀ q : Ext Z, _ := fun q => (HGZ.out.keep q.bl).cell 3 _ rfl
    have k4 : ∀ q : Ext Z, _ := fun q => (HGZ.out.keep q.bl).cell 4 _ rfl
    have kd : ∀ q : Ext Z, _ := fun q => q.bl.cell HDZ.out
    repeat (refine wpS_step (fun K hK => ?_); go_simp; first | (refine hK _ ?_; clear hK K) | (apply Exists.intro; refine ⟨fun q => ?_, hK _ ?_⟩; (fail); clear hK K))
    refine wpS_nil ?_
    intro q1
    have HB := Lib.hid (HBZ.out.trans q1.bl)
    clear k0 k1 k2 k3 k4 kd
    generalize ExtC.at q1 = W7 at *
    go_wp2_with fail
    go_ret
    exact ⟨ret_bool HF.out.symm, HB.out⟩
  have t4 : decide (m ≤ dv) = false := decide_eq_false e14
  have HE := Lib.hid (And.intro e10 (And.intro e11 (And.intro e12 (And.intro e13 e14))))
  clear e10 e11 e12 e13 e14
  refine wp_region_idx [0, 1, 2, 3, 4, 5, 6, 7, 8, 9, 10, 11, 12, 13, 14, 15, 16, 17, 18, 19, 20, 21, 22, 23, 24, 25, 26, 27, 28, 29, 30, 31, 32, 33, 34, 36, 37] 4 (Bl W.drew) (fun _ _ h k => h.trans k) (Bl.refl _) (by kernel_rfl) rfl (by kernel_rfl) (by kernel_rfl) ?_
  clear HB
  generalize W.drew = Z at *
  haveI : Nonempty (ExtC (Bl Z)) := ⟨⟨Z, Bl.refl _⟩⟩
  have k0 : ∀ q : ExtC (Bl Z), _ := fun q => (HGZ.out.keep q.ok).cell 0 _ rfl
  have k1 : ∀ q : ExtC (Bl Z), _ := fun q => (HGZ.out.keep q.ok).cell 1 _ rfl
  have k2 : ∀ q : ExtC (Bl Z), _ := fun q => (HGZ.out.keep q.ok).cell 2 _ rfl
  have k3 : ∀ q : ExtC (Bl Z), _ := fun q => (HGZ.out.keep q.ok).cell 3 _ rfl
  have k4 : ∀ q : ExtC (Bl Z), _ := fun q => (HGZ.out.keep q.ok).cell 4 _ rfl
  have kd : ∀ q : ExtC (Bl Z), _ := fun q => q.ok.cell HDZ.out

  repeat (refine wpI_step rfl (fun K hK => ?_); go_simp; first | (refine hK _ ?_; clear hK K) | (apply Exists.intro; refine ⟨fun q => ?_, hK _ ?_⟩; (fail); clear hK K))
  refine wpI_nil ?_
  clear k0 k1 k2 k3 k4 kd this t0 t1 t2 t3 t4
  refine wpAnyE_one (i := 35) (by kernel_rfl) ?_
  intro Y1 hy1
  go_simp
  refine (with_any (some ⟨bd, od, none⟩) dn dc ds (oi : Int) m _ (HD.out.keep (HBZ.out.trans hy1)) HAB.out).mono ?_
  rintro e Y2 ⟨v, rfl, hf, hb2⟩
  obtain ⟨va, vn, vc, rfl, hI⟩ := hf.si
  have HI := Lib.hid hI
  have HB2 := Lib.hid (hy1.trans hb2)
  clear hf hI hy1 hb2
  refine ⟨_, rfl, HB2.out, ?_⟩
  refine wpAnyE_one (i := 38) (by kernel_rfl) ?_
  intro Y3 hy3
  go_simp
  refine (same_any va (some ⟨bx, ox, none⟩) vn dn vc ac _ xs _ (HI.out.keep hy3) (HX.out.keep (HBZ.out.trans (HB2.out.trans hy3)))).mono ?_
  rintro e Y4 ⟨rfl, hb4⟩
  have HB4 := Lib.hid (HB2.out.trans (hy3.trans hb4))
  clear hy3 hb4 HI HB2
  refine ⟨_, rfl, HB4.out, ?_⟩
  by_cases hs : withL ds (oi : Int) m = xs
  case neg =>
    have HF := Lib.hid (HN.out fun h => by have := h.eq; have := HAT.out; dsimp only at *; simp_all)
    rw [decide_eq_false hs]
    clear hs
    refine wpAnyE_one (i := 39) (by kernel_rfl) ?_
    intro Y5 hy5
    go_simp
    refine ⟨HB4.out.trans hy5, ?_⟩
    refine wpAnyE_one (i := 40) (by kernel_rfl) ?_
    intro Y6 hy6
    go_simp
    refine ⟨HB4.out.trans (hy5.trans hy6), ?_⟩
    refine wpAnyE_done (by kernel_rfl) ?_
    intro Y7 hy7
    have HB := Lib.hid (HBZ.out.trans (HB4.out.trans (hy5.trans (hy6.trans hy7))))
    go_wp2_with fail
    go_ret
    exact ⟨ret_bool HF.out.symm, HB.out⟩
  have HS := Lib.hid hs
  rw [decide_eq_true hs]
  clear hs
  refine wpAnyE_one (i := 39) (by kernel_rfl) ?_
  intro Y5 hy5
  go_simp
  refine ⟨HB4.out.trans hy5, ?_⟩
  refine wpAnyE_one (i := 40) (by kernel_rfl) ?_
  intro Y6 hy6
  go_simp
  refine ⟨HB4.out.trans (hy5.trans hy6), ?_⟩
  refine wpAnyE_done (by kernel_rfl) ?_
  intro Y7 hy7
  have HB := Lib.hid (HBZ.out.trans (HB4.out.trans (hy5.trans (hy6.trans hy7))))
  have HG7 := Lib.hid (HGZ.out.keep (HB4.out.trans (hy5.trans (hy6.trans hy7))))
  clear HBZ HB4 hy5 hy6 hy7 HGZ HDZ
  have HFIN : Hid ((∀ j, j < ws.length → okW ws j = true) → 1 ≤ ws.length → ws.length ≤ 200 → R = true) := Lib.hid fun h1 h2 h3 => by
    rw [← HR.out]
    obtain ⟨e1, e2, e3, e4, e5⟩ := HE.out
    have hdl := HDL.out
    have hxl := HXL.out
    have hdv := HDV.out
    refine validT_of ⟨HVD.out, HVX.out, by show ds.length = xs.length; omega, by show (0 : Int) ≤ oi; omega, by show (oi : Int) < xs.length; omega, ⟨by show 1 ≤ num; omega, by show num ≤ _; omega⟩, ⟨by show 0 ≤ prev; omega, ?_⟩, ?_, ?_, h1, h2, h3⟩
    · rw [HAT.out]; show prev < m; omega
    · rw [HAT.out]; show nth ds (oi : Int).toNat < m; rw [Int.toNat_natCast, hdv]; omega
    · rw [HAT.out]; exact HS.out
  clear HE HDL HXL HDV HS HAT HVD HVX HM HAB HR
  have c5 := (HG7.out.keep ((Bl.refl Y7).alloc (.map #[] 0))).cell 5 _ rfl
  go_wp2_with fail
  clear c5
  generalize hW7 : Y7.heap.size = gm at *
  have HGM := Lib.hid hW7
  clear hW7
  go_loopw [92] (fun i wr => ∃ k : Nat, k ≤ wn ∧ i = .int .i64 k ∧ wr.ownsMap Tryz.prog 9 (unitElem (H := Unit)) gm k (setK ws k) ∧ Bl Y7 wr ∧ ∀ j, j < k → okW ws j = true) (fun i _ => wn - (intOf i).toNat)
  case atStart => exact ⟨0, Nat.zero_le _, rfl, by rw [setK_zero, ← HGM.out]; exact World.ownsMap_made _ _ _ _, (Bl.refl _).alloc _, fun j hj => absurd hj (Nat.not_lt_zero _)⟩
  case round =>
    obtain ⟨k, hk, rfl, hown, hbl, hok⟩ := hrel
    have HOK := Lib.hid hok
    have HBL := Lib.hid hbl
    have HOW := Lib.hid hown
    clear hok hbl hown
    by_cases hlt2 : k < wn
    · have hkl : k < ws.length := by rw [HWL.out]; exact hlt2
      obtain ⟨ba, oa, rfl, _⟩ := HWW.out.cells k hlt2
      obtain ⟨w0, w1, w2, w3, w4⟩ := HWW.out.get (HB.out.trans HBL.out) hlt2
      have HWOK := Lib.hid (HWW.out.ok _ (nthW_mem hkl))
      have HST := Lib.hid (setK_succ hkl)
      have HHS := Lib.hid (has_setK ws k)
      have HWK : Hid (okW ws k = (freshAt ws k && fitsB (nthW ws k).1 (nthW ws k).2)) := Lib.hid rfl
      have HSTP : Hid (okW ws k = true → ∀ j, j < k + 1 → okW ws j = true) := Lib.hid (okW_step HOK.out)
      have HBAD : Hid (okW ws k = false → R = false) := Lib.hid fun h => HN.out fun p => by have := p.ok k hkl; dsimp only at this; rw [h] at this; cases this
      generalize okW ws k = okk at *
      generalize nthW ws k = p at *
      obtain ⟨key, ⟨ak, ax, an2, az⟩⟩ := p
      dsimp only at w0 w1 w2 w3 w4 HST HHS HWK
      have hkey := key_klit HWOK.out.1
      have hgp := AC.new wr _ rfl [.string key, .int .i64 ak, .float .f64 ax, .int .i64 an2, .string az] 63
      have hbp := (Bl.refl wr).alloc (.cells #[.string key, .int .i64 ak, .float .f64 ax, .int .i64 an2, .string az] 63)
      have hsf := store_float
      go_upto_region 10 with fail
      clear w0 w1 w2 w3 w4
      have hown2 : (wr.alloc (.cells #[.string key, .int .i64 ak, .float .f64 ax, .int .i64 an2, .string az] 63)).ownsMap Tryz.prog 9 (unitElem (H := Unit)) gm k (setK ws k) := HOW.out.alloc _
      generalize hV : wr.alloc _ = V at *
      have HGP := Lib.hid hgp
      have HBP := Lib.hid hbp
      have p0 := hgp.cell 0 _ rfl
      clear hgp hbp hV HOW
      generalize wr.heap.size = gp at *
      cases hfr : freshAt ws k
      · have HF := Lib.hid (HBAD.out (by rw [HWK.out, hfr]; rfl))
        have hh : Maps.has (setK ws k) (klit key) = true := by rw [HHS.out, hfr]; rfl
        have HH := Lib.hid hh
        clear hfr hh
        go_upto_region 11 with (at_lookup; refine wpList_lookup_own_unit _ rfl _ _ 90 rfl 9 91 str_law Tryz.underlying90 (zero_unit _) gm k _ rfl hown2 _ _ rfl hkey ?_; rw [HH.out])
        have HB2 := Lib.hid (HBP.out.alloc (.cells #[] 91))
        generalize hV : V.alloc _ = V2 at *
        go_wp2_with fail
        go_ret
        exact ⟨ret_bool HF.out.symm, HB.out.trans (HBL.out.trans HB2.out)⟩
      · have hh : Maps.has (setK ws k) (klit key) = false := by rw [HHS.out, hfr]; rfl
        have HH := Lib.hid hh
        have HFR := Lib.hid hfr
        clear hfr hh
        go_upto_region 11 with (at_lookup; refine wpList_lookup_own_unit _ rfl _ _ 90 rfl 9 91 str_law Tryz.underlying90 (zero_unit _) gm k _ rfl hown2 _ _ rfl hkey ?_; rw [HH.out])
        have hown3 : (V.alloc (.cells #[] 91)).ownsMap Tryz.prog 9 (unitElem (H := Unit)) gm k (setK ws k) := hown2.alloc _
        have HB2 := Lib.hid (HBP.out.alloc (.cells #[] 91))
        have HG2 := Lib.hid (HGP.out.keep ((Bl.refl V).alloc (.cells #[] 91)))
        clear p0 hown2 HGP
        generalize hV : V.alloc _ = V2 at *
        have HOW3 := Lib.hid hown3
        clear hV hown3
        have p0 := HG2.out.cell 0 _ rfl
        have p1 := HG2.out.cell 1 _ rfl
        have p2 := HG2.out.cell 2 _ rfl
        have p3 := HG2.out.cell 3 _ rfl
        have p4 := HG2.out.cell 4 _ rfl
        go_wp2_with fail
        refine (fitsA_any key ⟨ak, ax, an2, az⟩ _ HWOK.out.1 HWOK.out.2).mono ?_
        rintro e V3 ⟨rfl, hb3⟩
        have HG3 := Lib.hid (HG2.out.keep hb3)
        have HB3 := Lib.hid (HB2.out.trans hb3)
        have HOW4 := Lib.hid (ownsMap_bl HOW3.out hb3)
        clear p0 p1 p2 p3 p4 HG2 HOW3 hb3
        cases hft : fitsB key ⟨ak, ax, an2, az⟩
        · have HF := Lib.hid (HBAD.out (by rw [HWK.out, hft, Bool.and_false]))
          clear hft
          go_wp2_with fail
          go_ret
          exact ⟨ret_bool HF.out.symm, HB.out.trans (HBL.out.trans HB3.out)⟩
        have HOK2 := Lib.hid (HSTP.out (by rw [HWK.out, HFR.out, hft]; rfl))
        clear hft
        have p0 := HG3.out.cell 0 _ rfl
        have hown5 := HOW4.out
        have hkw : k ≤ 140737488351232 := by omega
        go_wp2_with (at_mapUpdate; refine wpList_mapUpdate_own _ rfl _ _ _ 90 rfl 9 91 str_law Tryz.underlying90 (unitElem (H := Unit)) gm k _ rfl hown5 (by unfold maxLen; omega) _ _ _ rfl rfl hkey _ [] unitElem_mk ?_)
        intro V4 hown6 hgr
        have HB4 : Hid (Bl Y7 V4) := Lib.hid (Below.grown (HBL.out.trans HB3.out) hgr (HBL.out.trans HB3.out).size (fun j hj => by cases hj; exact Nat.le_of_eq HGM.out))
        have HO6 := Lib.hid hown6
        clear p0 hown5 hown6 hgr
        go_wp2_with fail
        go_roundw
        case rel => exact ⟨k + 1, by omega, by go_num, by rw [HST.out]; exact HO6.out, HB4.out, HOK2.out⟩
        case measure => simp [intOf]; omega
    · have hkn : k = wn := by omega
      subst hkn
      have c5 := (HG7.out.keep HBL.out).cell 5 _ rfl
      have HA : Hid (∀ j, j < ws.length → okW ws j = true) := Lib.hid (fun j hj => HOK.out j (by rw [← HWL.out]; exact hj))
      by_cases h1 : 1 ≤ k
      · by_cases h2 : k ≤ 200
        · have HT := Lib.hid (HFIN.out HA.out (by rw [HWL.out]; exact h1) (by rw [HWL.out]; exact h2))
          go_wp2_with fail
          go_ret
          exact ⟨ret_bool (by rw [HT.out]; exact decide_eq_true (by omega)), HB.out.trans HBL.out⟩
        · have HF := Lib.hid (HN.out fun h => by have := h.few; have := HWL.out; dsimp only at *; omega)
          go_wp2_with fail
          go_ret
          exact ⟨ret_bool (by rw [HF.out]; exact decide_eq_false (by omega)), HB.out.trans HBL.out⟩
      · have HF := Lib.hid (HN.out fun h => by have := h.few; have := HWL.out; dsimp only at *; omega)
        go_wp2_with fail
        go_ret
        exact ⟨ret_bool HF.out.symm, HB.out.trans HBL.out⟩
theorem txValid_any (t : TxnL) (s : TxAt) (w : World) (h : TX w s t) : Calls Tryz.prog 9 #[txV t s] w fun e w' => e = .returned (.bool (validT t)) ∧ Bl w w' := by
  obtain ⟨o, num, prev, ds, xs, ws⟩ := t
  exact txValid_hid o num prev s.da s.dn s.dc ds s.aa s.an s.ac xs s.wa s.wn s.wc ws w h.deps h.at_ h.ws _ (Lib.hid rfl)
end Go.Proofs.YtfmabjoindlfeaaGreat
end
