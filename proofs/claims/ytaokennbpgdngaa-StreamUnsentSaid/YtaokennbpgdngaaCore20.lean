import Derived.Test.YtaokennbpgdngaaCore16
import Derived.Test.YtaokennbpgdngaaCore17
import Derived.Test.YtaokennbpgdngaaCore18
import Derived.Test.YtaokennbpgdngaaCore19
import Derived.Maps.OwnSet
import Derived.Deep.DeepCutAuto
import Derived.Test.YtaokennbpgdngaaCore5
import Derived.Test.YtaokennbpgdngaaCore6
import Derived.Lib.FrozenHead

/- txn.Valid (printed by wip/gen/txnvalid.py). By an AI agent. -/
section
set_option linter.unusedVariables false
set_option linter.unusedSimpArgs false
namespace Go.Proofs.Ytaokennbpgdngaa
open Go.RowKit Go.Maps
attribute [local go_sem] eOp eOper eUpon

theorem str_law : Keyed Try.prog 9 := string_keyed Try.underlying9
theorem zero_unit (w : World) : (zeroValue 95).run Try.prog w = .ok (.agg #[]) w := by kernel_rfl
/-- a key as a map's key -/
def klit (s : ByteArray) : Lit := .string s.data.toList
theorem key_klit {s : ByteArray} (h : s.size ≤ 140737488351232) : keyOf Try.prog 9 (.string s) = some (klit s) := Go.WideMaps.keyOf_string_mk Try.underlying9 (by unfold maxLen; omega)
theorem any_klit (l : List (ByteArray × ActL)) (x : ByteArray) : ((l.map (·.1)).map klit).any (fun y => y.sameKey (klit x)) = l.any (fun q => decide (q.1 = x)) := by
  rw [List.any_map, List.any_map]
  congr 1
  funext q
  rw [Bool.eq_iff_iff]
  show Lit.sameKey (klit q.1) (klit x) = true ↔ _
  rw [WideAt.sameKey_iff (show WideAt.IsKeyLit (klit x) from trivial), decide_eq_true_eq]
  constructor
  · intro h
    simp only [klit, Lit.string.injEq] at h
    exact toList_inj (by rw [ByteArray.toList_eq, ByteArray.toList_eq]; exact h)
  · intro h; rw [h]
/-- the set of the first k keys -/
def setK (ws : List (ByteArray × ActL)) (k : Nat) : DataW Unit := setOf (.agg []) (((ws.take k).map (·.1)).map klit)
theorem setK_zero (ws : List (ByteArray × ActL)) : setK ws 0 = .map [] := by simp [setK, setOf]
theorem setK_succ {ws : List (ByteArray × ActL)} {k : Nat} (h : k < ws.length) : setK ws (k + 1) = (setK ws k).put (klit (nthW ws k).1) (.agg []) := by
  unfold setK
  rw [List.take_succ_eq_append_getElem h, List.map_append, List.map_append, ← nthW_eq h]
  exact setOf_snoc _ _ _
theorem has_setK (ws : List (ByteArray × ActL)) (k : Nat) : Maps.has (setK ws k) (klit (nthW ws k).1) = !freshAt ws k := by
  unfold setK freshAt
  rw [has_setOf _ _ _ (fun y hy => by obtain ⟨_, _, rfl⟩ := List.mem_map.1 hy; trivial), any_klit, Bool.not_not]
theorem ownsMap_bl {w w' : World} {H : Type} {P : Program} {k : TypeId} {R : Value → Option (DataW H × List MemPlace)} {b n : Nat} {D : DataW H} (h : w.ownsMap P k R b n D) (hb : Bl w w') : w'.ownsMap P k R b n D := by
  obtain ⟨es, clock, h1, h2⟩ := h
  exact ⟨es, clock, hb.heap h1, h2⟩
theorem notTx {t : TxnL} (h : TxParts t → False) : validT t = false := by
  cases hv : validT t
  · rfl
  · exact absurd (h (validT_parts hv)) id
theorem okW_step {ws : List (ByteArray × ActL)} {k : Nat} (h : ∀ j, j < k → okW ws j = true) (hk : okW ws k = true) : ∀ j, j < k + 1 → okW ws j = true := fun j hj => by
  rcases Nat.lt_or_ge j k with h' | h'
  · exact h j h'
  · have : j = k := by omega
    subst this; exact hk
theorem fitsA_any (key : ByteArray) (a : ActL) (w : World) (hk : key.size ≤ 140737488351232) (oa : a.Ok) : Calls Try.prog 61 #[.string key, .agg #[.int .i64 a.k, .float .f64 a.x, .int .i64 a.n, .string a.s]] w fun e w' => e = .returned (.bool (fitsB key a)) ∧ Bl w w' :=
  fits_agg key a.k a.x a.n a.s (fitsB key a) w (Lib.hid rfl) hk (Lib.hid oa)

set_option maxHeartbeats 12800000 in
set_option maxRecDepth 100000 in
theorem txValid_hid (o num prev : Int) (da : Option Addr) (dn dc : Nat) (ds : List Int) (aa : Option Addr) (an ac : Nat) (xs : List Int) (wa : Option Addr) (wn wc : Nat) (ws : List (ByteArray × ActL)) (w : World)
    (hd : IA w da dn ds) (hx : IA w aa an xs) (hw : WW w wa wn ws) (R : Bool) (HR : Hid (validT ⟨o, num, prev, ds, xs, ws⟩ = R)) :
    Calls Try.prog 24 #[.agg #[.int .i64 o, .int .i64 num, .int .i64 prev, .slice da dn dc, .slice aa an ac, .slice wa wn wc]] w fun e w' => e = .returned (.bool R) ∧ Bl w w' := by
  have hmm := @run_makeMap Try.prog
  have hn1 := hd.cap
  have hn2 := hx.cap
  have hn3 := hw.cap
  have HD := Lib.hid hd
  have HX := Lib.hid hx
  have HWW := Lib.hid hw
  have HDL := Lib.hid hd.len
  have HXL := Lib.hid hx.len
  have HWL := Lib.hid hw.len
  have hg := AC.new w _ rfl [.int .i64 o, .int .i64 num, .int .i64 prev, .slice da dn dc, .slice aa an ac, .slice wa wn wc] 29
  have hb := (Bl.refl w).alloc (.cells [Value.int .i64 o, .int .i64 num, .int .i64 prev, .slice da dn dc, .slice aa an ac, .slice wa wn wc].toArray 29)
  have HN : Hid ((TxParts ⟨o, num, prev, ds, xs, ws⟩ → False) → R = false) := Lib.hid fun h => by rw [← HR.out]; exact notTx h
  have c0 := hg.cell 0 _ rfl
  have c1 := hg.cell 1 _ rfl
  have c2 := hg.cell 2 _ rfl
  have c3 := hg.cell 3 _ rfl
  have c4 := hg.cell 4 _ rfl
  have c5 := hg.cell 5 _ rfl
  clear hd hx hw
  go_enter Try.func24, Try.ntmps24
  go_upto_region 1 with fail
  generalize w.alloc _ = W at *
  have HG := Lib.hid hg
  have HB := Lib.hid hb
  clear hg hb
  cases hv : validL ds
  · have HF := Lib.hid (HN.out fun h => by have := h.deps; dsimp only at this; rw [hv] at this; cases this)
    have HVD := Lib.hid hv
    clear hv
    go_wp2_with fail
    refine (valid_any da dn dc ds _ (HD.out.keep HB.out)).mono ?_
    rintro e w' ⟨rfl, rfl⟩
    rw [HVD.out]
    go_wp2_with fail
    go_ret
    exact ⟨ret_bool HF.out.symm, HB.out⟩
  have HVD := Lib.hid hv
  clear hv
  cases hv : validL xs
  · have HF := Lib.hid (HN.out fun h => by have := h.at_; dsimp only at this; rw [hv] at this; cases this)
    have HVX := Lib.hid hv
    clear hv
    go_wp2_with fail
    refine (valid_any da dn dc ds _ (HD.out.keep HB.out)).mono ?_
    rintro e w' ⟨rfl, rfl⟩
    rw [HVD.out]
    go_wp2_with fail
    refine (valid_any aa an ac xs _ (HX.out.keep HB.out)).mono ?_
    rintro e w' ⟨rfl, rfl⟩
    rw [HVX.out]
    go_wp2_with fail
    go_ret
    exact ⟨ret_bool HF.out.symm, HB.out⟩
  have HVX := Lib.hid hv
  clear hv
  by_cases e5 : dn = an
  case neg =>
    have HF := Lib.hid (HN.out fun h => by have := h.len; have := HDL.out; have := HXL.out; dsimp only at *; omega)
    have q5 : ((dn : Int) != (an : Int)) = true := by rw [bne_iff_ne]; omega
    clear e5
    go_wp2_with fail
    refine (valid_any da dn dc ds _ (HD.out.keep HB.out)).mono ?_
    rintro e w' ⟨rfl, rfl⟩
    rw [HVD.out]
    go_wp2_with fail
    refine (valid_any aa an ac xs _ (HX.out.keep HB.out)).mono ?_
    rintro e w' ⟨rfl, rfl⟩
    rw [HVX.out]
    go_wp2_with fail
    go_ret
    exact ⟨ret_bool HF.out.symm, HB.out⟩
  subst e5
  have q5 : ((dn : Int) != (dn : Int)) = false := by simp
  by_cases e6 : o < 0
  · have HF := Lib.hid (HN.out fun h => by have := h.o0; dsimp only at *; omega)
    have d6 : decide (o < 0) = true := decide_eq_true e6
    go_wp2_with fail
    refine (valid_any da dn dc ds _ (HD.out.keep HB.out)).mono ?_
    rintro e w' ⟨rfl, rfl⟩
    rw [HVD.out]
    go_wp2_with fail
    refine (valid_any aa dn ac xs _ (HX.out.keep HB.out)).mono ?_
    rintro e w' ⟨rfl, rfl⟩
    rw [HVX.out]
    go_wp2_with fail
    go_ret
    exact ⟨ret_bool HF.out.symm, HB.out⟩
  obtain ⟨oi, rfl⟩ := Int.eq_ofNat_of_zero_le (show 0 ≤ o by omega)
  by_cases e7 : dn ≤ oi
  · have HF := Lib.hid (HN.out fun h => by have := h.o1; have := HXL.out; dsimp only at *; omega)
    have d6 : decide ((oi : Int) < 0) = false := decide_eq_false e6
    have d7 : decide ((dn : Int) ≤ (oi : Int)) = true := decide_eq_true (by omega)
    have d8 : decide (dn ≤ oi) = true := decide_eq_true e7
    go_wp2_with fail
    refine (valid_any da dn dc ds _ (HD.out.keep HB.out)).mono ?_
    rintro e w' ⟨rfl, rfl⟩
    rw [HVD.out]
    go_wp2_with fail
    refine (valid_any aa dn ac xs _ (HX.out.keep HB.out)).mono ?_
    rintro e w' ⟨rfl, rfl⟩
    rw [HVX.out]
    go_wp2_with fail
    go_ret
    exact ⟨ret_bool HF.out.symm, HB.out⟩
  have d6 : decide ((oi : Int) < 0) = false := decide_eq_false e6
  have d7 : decide ((dn : Int) ≤ (oi : Int)) = false := decide_eq_false (by omega)
  have d8 : decide (dn ≤ oi) = false := decide_eq_false e7
  have hlt : oi < dn := by omega
  go_wp2_with fail
  refine (valid_any da dn dc ds _ (HD.out.keep HB.out)).mono ?_
  rintro e w' ⟨rfl, rfl⟩
  rw [HVD.out]
  go_wp2_with fail
  refine (valid_any aa dn ac xs _ (HX.out.keep HB.out)).mono ?_
  rintro e w' ⟨rfl, rfl⟩
  rw [HVX.out]
  obtain ⟨bx, ox, rfl, hcx⟩ := HX.out.cells oi hlt
  obtain ⟨bd, od, rfl, hcd⟩ := HD.out.cells oi hlt
  have hax := HB.out.cell (hcx oi hlt)
  have had : ∀ W', Bl W W' → W'.cell? ⟨bd, od + oi, none⟩ = some (.int .i64 (nth ds oi)) := fun W' h => (HB.out.trans h).cell (hcd oi hlt)
  have HDC := Lib.hid had
  have HAB := Lib.hid (HX.out.wf_get oi)
  have hm : ∃ m, nth xs oi = m ∧ nth ds oi = nth ds oi := ⟨_, rfl, rfl⟩
  obtain ⟨m, hm, -⟩ := hm
  rw [hm] at hax HAB
  have HM := Lib.hid hm
  clear hcx hcd had d6 d7 d8 q5 hm e6 e7
  go_upto_region 4 with fail
  clear hax
  have HAT : Hid (atT ⟨(oi : Int), num, prev, ds, xs, ws⟩ = m) := Lib.hid (by unfold atT; exact HM.out)
  have HGZ := Lib.hid (HG.out.keep ((Bl.refl W).drew))
  have HBZ := Lib.hid (HB.out.drew)
  have HDZ := Lib.hid (HDC.out W.drew ((Bl.refl W).drew))
  clear HG HDC c0 c1 c2 c3 c4 c5
  have hoi : decide ((oi : Int) < (dn : Int)) = true := decide_eq_true (by omega)
  obtain ⟨dv, hdv⟩ : ∃ dv, nth ds oi = dv := ⟨_, rfl⟩
  rw [hdv] at HDZ
  have HDV := Lib.hid hdv
  clear hdv
  by_cases e10 : num < 1
  · have HF := Lib.hid (HN.out fun h => by have := h.num; dsimp only at this; omega)
    have t0 : decide (num < 1) = true := decide_eq_true e10
    refine wp_region_allS (by kernel_rfl) (by kernel_rfl) ?_
    clear HB
    generalize W.drew = Z at *
    have k0 : ∀ q : Ext Z, _ := fun q => (HGZ.out.keep q.bl).cell 0 _ rfl
    have k1 : ∀ q : Ext Z, _ := fun q => (HGZ.out.keep q.bl).cell 1 _ rfl
    have k2 : ∀ q : Ext Z, _ := fun q => (HGZ.out.keep q.bl).cell 2 _ rfl
    have k3 : ∀ q : Ext Z, _ := fun q => (HGZ.out.keep q.bl).cell 3 _ rfl
    have k4 : ∀ q : Ext Z, _ := fun q => (HGZ.out.keep q.bl).cell 4 _ rfl
    have kd : ∀ q : Ext Z, _ := fun q => q.bl.cell HDZ.out
    repeat (refine wpS_step (fun K hK => ?_); go_simp; first | (refine hK _ ?_; clear hK K) | (apply Exists.intro; refine ⟨fun q => ?_, hK _ ?_⟩; (fail); clear hK K))
    refine wpS_nil ?_
    intro q1
    have HB := Lib.hid (HBZ.out.trans q1.bl)
    clear k0 k1 k2 k3 k4 kd
    generalize ExtC.at q1 = W7 at *
    go_wp2_with fail
    go_ret
    exact ⟨ret_bool HF.out.symm, HB.out⟩
  have t0 : decide (num < 1) = false := decide_eq_false e10
  by_cases e11 : 281474976710655 < num
  · have HF := Lib.hid (HN.out fun h => by have := h.num; dsimp only at this; omega)
    have t1 : decide (281474976710655 < num) = true := decide_eq_true e11
    refine wp_region_allS (by kernel_rfl) (by kernel_rfl) ?_
    clear HB
    generalize W.drew = Z at *
    have k0 : ∀ q : Ext Z, _ := fun q => (HGZ.out.keep q.bl).cell 0 _ rfl
    have k1 : ∀ q : Ext Z, _ := fun q => (HGZ.out.keep q.bl).cell 1 _ rfl
    have k2 : ∀ q : Ext Z, _ := fun q => (HGZ.out.keep q.bl).cell 2 _ rfl
    have k3 : ∀ q : Ext Z, _ := fun q => (HGZ.out.keep q.bl).cell 3 _ rfl
    have k4 : ∀ q : Ext Z, _ := fun q => (HGZ.out.keep q.bl).cell 4 _ rfl
    have kd : ∀ q : Ext Z, _ := fun q => q.bl.cell HDZ.out
    repeat (refine wpS_step (fun K hK => ?_); go_simp; first | (refine hK _ ?_; clear hK K) | (apply Exists.intro; refine ⟨fun q => ?_, hK _ ?_⟩; (fail); clear hK K))
    refine wpS_nil ?_
    intro q1
    have HB := Lib.hid (HBZ.out.trans q1.bl)
    clear k0 k1 k2 k3 k4 kd
    generalize ExtC.at q1 = W7 at *
    go_wp2_with fail
    go_ret
    exact ⟨ret_bool HF.out.symm, HB.out⟩
  have t1 : decide (281474976710655 < num) = false := decide_eq_false e11
  by_cases e12 : prev < 0
  · have HF := Lib.hid (HN.out fun h => by have := h.prev; dsimp only at this; omega)
    have t2 : decide (prev < 0) = true := decide_eq_true e12
    refine wp_region_allS (by kernel_rfl) (by kernel_rfl) ?_
    clear HB
    generalize W.drew = Z at *
    have k0 : ∀ q : Ext Z, _ := fun q => (HGZ.out.keep q.bl).cell 0 _ rfl
    have k1 : ∀ q : Ext Z, _ := fun q => (HGZ.out.keep q.bl).cell 1 _ rfl
    have k2 : ∀ q : Ext Z, _ := fun q => (HGZ.out.keep q.bl).cell 2 _ rfl
    have k3 : ∀ q : Ext Z, _ := fun q => (HGZ.out.keep q.bl).cell 3 _ rfl
    have k4 : ∀ q : Ext Z, _ := fun q => (HGZ.out.keep q.bl).cell 4 _ rfl
    have kd : ∀ q : Ext Z, _ := fun q => q.bl.cell HDZ.out
    repeat (refine wpS_step (fun K hK => ?_); go_simp; first | (refine hK _ ?_; clear hK K) | (apply Exists.intro; refine ⟨fun q => ?_, hK _ ?_⟩; (fail); clear hK K))
    refine wpS_nil ?_
    intro q1
    have HB := Lib.hid (HBZ.out.trans q1.bl)
    clear k0 k1 k2 k3 k4 kd
    generalize ExtC.at q1 = W7 at *
    go_wp2_with fail
    go_ret
    exact ⟨ret_bool HF.out.symm, HB.out⟩
  have t2 : decide (prev < 0) = false := decide_eq_false e12
  by_cases e13 : m ≤ prev
  · have HF := Lib.hid (HN.out fun h => by have := h.prev; have := HAT.out; dsimp only at *; omega)
    have t3 : decide (m ≤ prev) = true := decide_eq_true e13
    refine wp_region_allS (by kernel_rfl) (by kernel_rfl) ?_
    clear HB
    generalize W.drew = Z at *
    have k0 : ∀ q : Ext Z, _ := fun q => (HGZ.out.keep q.bl).cell 0 _ rfl
    have k1 : ∀ q : Ext Z, _ := fun q => (HGZ.out.keep q.bl).cell 1 _ rfl
    have k2 : ∀ q : Ext Z, _ := fun q => (HGZ.out.keep q.bl).cell 2 _ rfl
    have k3 : ∀ q : Ext Z, _ := fun q => (HGZ.out.keep q.bl).cell 3 _ rfl
    have k4 : ∀ q : Ext Z, _ := fun q => (HGZ.out.keep q.bl).cell 4 _ rfl
    have kd : ∀ q : Ext Z, _ := fun q => q.bl.cell HDZ.out
    repeat (refine wpS_step (fun K hK => ?_); go_simp; first | (refine hK _ ?_; clear hK K) | (apply Exists.intro; refine ⟨fun q => ?_, hK _ ?_⟩; (fail); clear hK K))
    refine wpS_nil ?_
    intro q1
    have HB := Lib.hid (HBZ.out.trans q1.bl)
    clear k0 k1 k2 k3 k4 kd
    generalize ExtC.at q1 = W7 at *
    go_wp2_with fail
    go_ret
    exact ⟨ret_bool HF.out.symm, HB.out⟩
  have t3 : decide (m ≤ prev) = false := decide_eq_false e13
  by_cases e14 : m ≤ dv
  · have HF := Lib.hid (HN.out fun h => by have := h.less; have := HAT.out; have := HDV.out; dsimp only at *; rw [Int.toNat_natCast] at *; omega)
    have t4 : decide (m ≤ dv) = true := decide_eq_true e14
    refine wp_region_allS (by kernel_rfl) (by kernel_rfl) ?_
    clear HB
    generalize W.drew = Z at *
    have k0 : ∀ q : Ext Z, _ := fun q => (HGZ.out.keep q.bl).cell 0 _ rfl
    have k1 : ∀ q : Ext Z, _ := fun q => (HGZ.out.keep q.bl).cell 1 _ rfl
    have k2 : ∀ q : Ext Z, _ := fun q => (HGZ.out.keep q.bl).cell 2 _ rfl
    have k3 : ∀ q : Ext Z, _ := fun q => (HGZ.out.keep q.bl).cell 3 _ rfl
    have k4 : ∀ q : Ext Z, _ := fun q => (HGZ.out.keep q.bl).cell 4 _ rfl
    have kd : ∀ q : Ext Z, _ := fun q => q.bl.cell HDZ.out
    repeat (refine wpS_step (fun K hK => ?_); go_simp; first | (refine hK _ ?_; clear hK K) | (apply Exists.intro; refine ⟨fun q => ?_, hK _ ?_⟩; (fail); clear hK K))
    refine wpS_nil ?_
    intro q1
    have HB := Lib.hid (HBZ.out.trans q1.bl)
    clear k0 k1 k2 k3 k4 kd
    generalize ExtC.at q1 = W7 at *
    go_wp2_with fail
    go_ret
    exact ⟨ret_bool HF.out.symm, HB.out⟩
  have t4 : decide (m ≤ dv) = false := decide_eq_false e14
  have HE := Lib.hid (And.intro e10 (And.intro e11 (And.intro e12 (And.intro e13 e14))))
  clear e10 e11 e12 e13 e14
  refine wp_region_idx [0, 1, 2, 3, 4, 5, 6, 7, 8, 9, 10, 11, 12, 13, 14, 15, 16, 17, 18, 19, 20, 21, 22, 23, 24, 25, 26, 27, 28, 29, 30, 31, 32, 33, 34, 36, 37] 4 (Bl W.drew) (fun _ _ h k => h.trans k) (Bl.refl _) (by kernel_rfl) rfl (by kernel_rfl) (by kernel_rfl) ?_
  clear HB
  generalize W.drew = Z at *
  haveI : Nonempty (ExtC (Bl Z)) := ⟨⟨Z, Bl.refl _⟩⟩
  have k0 : ∀ q : ExtC (Bl Z), _ := fun q => (HGZ.out.keep q.ok).cell 0 _ rfl
  have k1 : ∀ q : ExtC (Bl Z), _ := fun q => (HGZ.out.keep q.ok).cell 1 _ rfl
  have k2 : ∀ q : ExtC (Bl Z), _ := fun q => (HGZ.out.keep q.ok).cell 2 _ rfl
  have k3 : ∀ q : ExtC (Bl Z), _ := fun q => (HGZ.out.keep q.ok).cell 3 _ rfl
  have k4 : ∀ q : ExtC (Bl Z), _ := fun q => (HGZ.out.keep q.ok).cell 4 _ rfl
  have kd : ∀ q : ExtC (Bl Z), _ := fun q => q.ok.cell HDZ.out

  repeat (refine wpI_step rfl (fun K hK => ?_); go_simp; first | (refine hK _ ?_; clear hK K) | (apply Exists.intro; refine ⟨fun q => ?_, hK _ ?_⟩; (fail); clear hK K))
  refine wpI_nil ?_
  clear k0 k1 k2 k3 k4 kd this t0 t1 t2 t3 t4
  refine wpAnyE_one (i := 35) (by kernel_rfl) ?_
  intro Y1 hy1
  go_simp
  refine (with_any (some ⟨bd, od, none⟩) dn dc ds (oi : Int) m _ (HD.out.keep (HBZ.out.trans hy1)) HAB.out).mono ?_
  rintro e Y2 ⟨v, rfl, hf, hb2⟩
  obtain ⟨va, vn, vc, rfl, hI⟩ := hf.si
  have HI := Lib.hid hI
  have HB2 := Lib.hid (hy1.trans hb2)
  clear hf hI hy1 hb2
  refine ⟨_, rfl, HB2.out, ?_⟩
  refine wpAnyE_one (i := 38) (by kernel_rfl) ?_
  intro Y3 hy3
  go_simp
  refine (same_any va (some ⟨bx, ox, none⟩) vn dn vc ac _ xs _ (HI.out.keep hy3) (HX.out.keep (HBZ.out.trans (HB2.out.trans hy3)))).mono ?_
  rintro e Y4 ⟨rfl, hb4⟩
  have HB4 := Lib.hid (HB2.out.trans (hy3.trans hb4))
  clear hy3 hb4 HI HB2
  refine ⟨_, rfl, HB4.out, ?_⟩
  by_cases hs : withL ds (oi : Int) m = xs
  case neg =>
    have HF := Lib.hid (HN.out fun h => by have := h.eq; have := HAT.out; dsimp only at *; simp_all)
    rw [decide_eq_false hs]
    clear hs
    refine wpAnyE_one (i := 39) (by kernel_rfl) ?_
    intro Y5 hy5
    go_simp
    refine ⟨HB4.out.trans hy5, ?_⟩
    refine wpAnyE_one (i := 40) (by kernel_rfl) ?_
    intro Y6 hy6
    go_simp
    refine ⟨HB4.out.trans (hy5.trans hy6), ?_⟩
    refine wpAnyE_done (by kernel_rfl) ?_
    intro Y7 hy7
    have HB := Lib.hid (HBZ.out.trans (HB4.out.trans (hy5.trans (hy6.trans hy7))))
    go_wp2_with fail
    go_ret
    exact ⟨ret_bool HF.out.symm, HB.out⟩
  have HS := Lib.hid hs
  rw [decide_eq_true hs]
  clear hs
  refine wpAnyE_one (i := 39) (by kernel_rfl) ?_
  intro Y5 hy5
  go_simp
  refine ⟨HB4.out.trans hy5, ?_⟩
  refine wpAnyE_one (i := 40) (by kernel_rfl) ?_
  intro Y6 hy6
  go_simp
  refine ⟨HB4.out.trans (hy5.trans hy6), ?_⟩
  refine wpAnyE_done (by kernel_rfl) ?_
  intro Y7 hy7
  have HB := Lib.hid (HBZ.out.trans (HB4.out.trans (hy5.trans (hy6.trans hy7))))
  have HG7 := Lib.hid (HGZ.out.keep (HB4.out.trans (hy5.trans (hy6.trans hy7))))
  clear HBZ HB4 hy5 hy6 hy7 HGZ HDZ
  have HFIN : Hid ((∀ j, j < ws.length → okW ws j = true) → 1 ≤ ws.length → ws.length ≤ 200 → R = true) := Lib.hid fun h1 h2 h3 => by
    rw [← HR.out]
    obtain ⟨e1, e2, e3, e4, e5⟩ := HE.out
    have hdl := HDL.out
    have hxl := HXL.out
    have hdv := HDV.out
    refine validT_of ⟨HVD.out, HVX.out, by show ds.length = xs.length; omega, by show (0 : Int) ≤ oi; omega, by show (oi : Int) < xs.length; omega, ⟨by show 1 ≤ num; omega, by show num ≤ _; omega⟩, ⟨by show 0 ≤ prev; omega, ?_⟩, ?_, ?_, h1, h2, h3⟩
    · rw [HAT.out]; show prev < m; omega
    · rw [HAT.out]; show nth ds (oi : Int).toNat < m; rw [Int.toNat_natCast, hdv]; omega
    · rw [HAT.out]; exact HS.out
  clear HE HDL HXL HDV HS HAT HVD HVX HM HAB HR
  have c5 := (HG7.out.keep ((Bl.refl Y7).alloc (.map #[] 0))).cell 5 _ rfl
  go_wp2_with fail
  clear c5
  generalize hW7 : Y7.heap.size = gm at *
  have HGM := Lib.hid hW7
  clear hW7
  go_loopw [92] (fun i wr => ∃ k : Nat, k ≤ wn ∧ i = .int .i64 k ∧ wr.ownsMap Try.prog 9 (unitElem (H := Unit)) gm k (setK ws k) ∧ Bl Y7 wr ∧ ∀ j, j < k → okW ws j = true) (fun i _ => wn - (intOf i).toNat)
  case atStart => exact ⟨0, Nat.zero_le _, rfl, by rw [setK_zero, ← HGM.out]; exact World.ownsMap_made _ _ _ _, (Bl.refl _).alloc _, fun j hj => absurd hj (Nat.not_lt_zero _)⟩
  case round =>
    obtain ⟨k, hk, rfl, hown, hbl, hok⟩ := hrel
    have HOK := Lib.hid hok
    have HBL := Lib.hid hbl
    have HOW := Lib.hid hown
    clear hok hbl hown
    by_cases hlt2 : k < wn
    · have hkl : k < ws.length := by rw [HWL.out]; exact hlt2
      obtain ⟨ba, oa, rfl, _⟩ := HWW.out.cells k hlt2
      obtain ⟨w0, w1, w2, w3, w4⟩ := HWW.out.get (HB.out.trans HBL.out) hlt2
      have HWOK := Lib.hid (HWW.out.ok _ (nthW_mem hkl))
      have HST := Lib.hid (setK_succ hkl)
      have HHS := Lib.hid (has_setK ws k)
      have HWK : Hid (okW ws k = (freshAt ws k && fitsB (nthW ws k).1 (nthW ws k).2)) := Lib.hid rfl
      have HSTP : Hid (okW ws k = true → ∀ j, j < k + 1 → okW ws j = true) := Lib.hid (okW_step HOK.out)
      have HBAD : Hid (okW ws k = false → R = false) := Lib.hid fun h => HN.out fun p => by have := p.ok k hkl; dsimp only at this; rw [h] at this; cases this
      generalize okW ws k = okk at *
      generalize nthW ws k = p at *
      obtain ⟨key, ⟨ak, ax, an2, az⟩⟩ := p
      dsimp only at w0 w1 w2 w3 w4 HST HHS HWK
      have hkey := key_klit HWOK.out.1
      have hgp := AC.new wr _ rfl [.string key, .int .i64 ak, .float .f64 ax, .int .i64 an2, .string az] 56
      have hbp := (Bl.refl wr).alloc (.cells #[.string key, .int .i64 ak, .float .f64 ax, .int .i64 an2, .string az] 56)
      have hsf := store_float
      go_upto_region 10 with fail
      clear w0 w1 w2 w3 w4
      have hown2 : (wr.alloc (.cells #[.string key, .int .i64 ak, .float .f64 ax, .int .i64 an2, .string az] 56)).ownsMap Try.prog 9 (unitElem (H := Unit)) gm k (setK ws k) := HOW.out.alloc _
      generalize hV : wr.alloc _ = V at *
      have HGP := Lib.hid hgp
      have HBP := Lib.hid hbp
      have p0 := hgp.cell 0 _ rfl
      clear hgp hbp hV HOW
      generalize wr.heap.size = gp at *
      cases hfr : freshAt ws k
      · have HF := Lib.hid (HBAD.out (by rw [HWK.out, hfr]; rfl))
        have hh : Maps.has (setK ws k) (klit key) = true := by rw [HHS.out, hfr]; rfl
        have HH := Lib.hid hh
        clear hfr hh
        go_upto_region 11 with (at_lookup; refine wpList_lookup_own_unit _ rfl _ _ 94 rfl 9 95 str_law Try.underlying94 (zero_unit _) gm k _ rfl hown2 _ _ rfl hkey ?_; rw [HH.out])
        have HB2 := Lib.hid (HBP.out.alloc (.cells #[] 95))
        generalize hV : V.alloc _ = V2 at *
        go_wp2_with fail
        go_ret
        exact ⟨ret_bool HF.out.symm, HB.out.trans (HBL.out.trans HB2.out)⟩
      · have hh : Maps.has (setK ws k) (klit key) = false := by rw [HHS.out, hfr]; rfl
        have HH := Lib.hid hh
        have HFR := Lib.hid hfr
        clear hfr hh
        go_upto_region 11 with (at_lookup; refine wpList_lookup_own_unit _ rfl _ _ 94 rfl 9 95 str_law Try.underlying94 (zero_unit _) gm k _ rfl hown2 _ _ rfl hkey ?_; rw [HH.out])
        have hown3 : (V.alloc (.cells #[] 95)).ownsMap Try.prog 9 (unitElem (H := Unit)) gm k (setK ws k) := hown2.alloc _
        have HB2 := Lib.hid (HBP.out.alloc (.cells #[] 95))
        have HG2 := Lib.hid (HGP.out.keep ((Bl.refl V).alloc (.cells #[] 95)))
        clear p0 hown2 HGP
        generalize hV : V.alloc _ = V2 at *
        have HOW3 := Lib.hid hown3
        clear hV hown3
        have p0 := HG2.out.cell 0 _ rfl
        have p1 := HG2.out.cell 1 _ rfl
        have p2 := HG2.out.cell 2 _ rfl
        have p3 := HG2.out.cell 3 _ rfl
        have p4 := HG2.out.cell 4 _ rfl
        go_wp2_with fail
        refine (fitsA_any key ⟨ak, ax, an2, az⟩ _ HWOK.out.1 HWOK.out.2).mono ?_
        rintro e V3 ⟨rfl, hb3⟩
        have HG3 := Lib.hid (HG2.out.keep hb3)
        have HB3 := Lib.hid (HB2.out.trans hb3)
        have HOW4 := Lib.hid (ownsMap_bl HOW3.out hb3)
        clear p0 p1 p2 p3 p4 HG2 HOW3 hb3
        cases hft : fitsB key ⟨ak, ax, an2, az⟩
        · have HF := Lib.hid (HBAD.out (by rw [HWK.out, hft, Bool.and_false]))
          clear hft
          go_wp2_with fail
          go_ret
          exact ⟨ret_bool HF.out.symm, HB.out.trans (HBL.out.trans HB3.out)⟩
        have HOK2 := Lib.hid (HSTP.out (by rw [HWK.out, HFR.out, hft]; rfl))
        clear hft
        have p0 := HG3.out.cell 0 _ rfl
        have hown5 := HOW4.out
        have hkw : k ≤ 140737488351232 := by omega
        go_wp2_with (at_mapUpdate; refine wpList_mapUpdate_own _ rfl _ _ _ 94 rfl 9 95 str_law Try.underlying94 (unitElem (H := Unit)) gm k _ rfl hown5 (by unfold maxLen; omega) _ _ _ rfl rfl hkey _ [] unitElem_mk ?_)
        intro V4 hown6 hgr
        have HB4 : Hid (Bl Y7 V4) := Lib.hid (Below.grown (HBL.out.trans HB3.out) hgr (HBL.out.trans HB3.out).size (fun j hj => by cases hj; exact Nat.le_of_eq HGM.out))
        have HO6 := Lib.hid hown6
        clear p0 hown5 hown6 hgr
        go_wp2_with fail
        go_roundw
        case rel => exact ⟨k + 1, by omega, by go_num, by rw [HST.out]; exact HO6.out, HB4.out, HOK2.out⟩
        case measure => simp [intOf]; omega
    · have hkn : k = wn := by omega
      subst hkn
      have c5 := (HG7.out.keep HBL.out).cell 5 _ rfl
      have HA : Hid (∀ j, j < ws.length → okW ws j = true) := Lib.hid (fun j hj => HOK.out j (by rw [← HWL.out]; exact hj))
      by_cases h1 : 1 ≤ k
      · by_cases h2 : k ≤ 200
        · have HT := Lib.hid (HFIN.out HA.out (by rw [HWL.out]; exact h1) (by rw [HWL.out]; exact h2))
          go_wp2_with fail
          go_ret
          exact ⟨ret_bool (by rw [HT.out]; exact decide_eq_true (by omega)), HB.out.trans HBL.out⟩
        · have HF := Lib.hid (HN.out fun h => by have := h.few; have := HWL.out; dsimp only at *; omega)
          go_wp2_with fail
          go_ret
          exact ⟨ret_bool (by rw [HF.out]; exact decide_eq_false (by omega)), HB.out.trans HBL.out⟩
      · have HF := Lib.hid (HN.out fun h => by have := h.few; have := HWL.out; dsimp only at *; omega)
        go_wp2_with fail
        go_ret
        exact ⟨ret_bool HF.out.symm, HB.out.trans HBL.out⟩
theorem txValid_any (t : TxnL) (s : TxAt) (w : World) (h : TX w s t) : Calls Try.prog 24 #[txV t s] w fun e w' => e = .returned (.bool (validT t)) ∧ Bl w w' := by
  obtain ⟨o, num, prev, ds, xs, ws⟩ := t
  exact txValid_hid o num prev s.da s.dn s.dc ds s.aa s.an s.ac xs s.wa s.wn s.wc ws w h.deps h.at_ h.ws _ (Lib.hid rfl)
end Go.Proofs.Ytaokennbpgdngaa
end

/- WriteString leaves every other block as it is. · builders that String has read and that are written on. By an AI agent. -/
section
set_option linter.unusedVariables false
set_option linter.unusedSimpArgs false
namespace Go.Proofs.Ytaokennbpgdngaa
open Go.RowKit Go.Shelf

/-- the builder's row is not this block -/
def Far (b g : Nat) (w : World) : Prop := ∀ v, w.cell? ⟨b, 1, none⟩ = some v → v.ownBlock ≠ some g
theorem BI.form {B b : Nat} {l : List UInt8} {w : World} (h : BI B b l w) : ∃ p v, AC w b [p, v] ∧ w.ownsRow B 5 1 v (Lib.byteCells l).length (Lib.byteCells l) := by
  rcases h with ⟨_, v, h2, h3, _⟩ | ⟨_, v, h2, h3, _⟩
  · exact ⟨_, v, ⟨_, h2⟩, h3⟩
  · exact ⟨_, v, ⟨_, h2⟩, h3⟩
theorem BI.lt {B b : Nat} {l : List UInt8} {w : World} (h : BI B b l w) : b < w.heap.size := by
  rcases h with h | h
  · exact h.lt
  · exact h.lt
theorem Far.new {B b : Nat} {l : List UInt8} {w : World} (h : BI B b l w) (o : Obj) : Far b w.heap.size (w.alloc o) := by
  obtain ⟨p, v, hA, hr⟩ := h.form
  intro u hu e
  have := (hA.keep ((Bl.refl w).alloc o)).cell 1 _ rfl
  rw [this] at hu
  obtain rfl := Option.some.inj hu
  exact absurd (hr.lt _ e).2 (Nat.lt_irrefl _)
theorem Far.keep {B b g : Nat} {l : List UInt8} {w w' : World} (h : Far b g w) (hB : BI B b l w) (k : Bl w w') : Far b g w' := by
  obtain ⟨p, v, hA, hr⟩ := hB.form
  intro u hu
  have h1 := hA.cell 1 _ rfl
  rw [(hA.keep k).cell 1 _ rfl] at hu
  exact h u (by rw [h1, hu])

set_option maxHeartbeats 2000000 in
set_option maxRecDepth 100000 in
theorem copyCheck_far (B b : Nat) (bs : List Value) (w : World) (h : Lib.IsBuilder 74 5 B b bs w) (g : Nat) (hgb : g ≠ b) :
    Calls Try.prog 75 #[.pointer (some ⟨b, 0, none⟩)] w fun e w' => e = .returned (.tuple #[]) ∧ (Lib.BuilderAt 74 5 B b (.pointer (some ⟨b, 0, none⟩)) bs w' ∧ Below B w w') ∧ w'.heap[g]? = w.heap[g]? ∧ w'.heap.size = w.heap.size ∧ w'.cell? ⟨b, 1, none⟩ = w.cell? ⟨b, 1, none⟩ := by
  rcases h with h | h
  · refine (copyCheck_fresh b w h.cell0 h.shape h.frozen0).mono ?_
    rintro e w' ⟨rfl, rfl⟩
    have hk := h
    obtain ⟨_, v, hb, _⟩ := hk
    have hA : AC w b [.pointer none, v] := ⟨_, hb⟩
    exact ⟨rfl, ⟨h.used _, (Below.refl B w).setCell (p := ⟨b, 0, none⟩) h.1 _⟩, Below.heap_setCell _ _ _ _ hgb, by simp, by rw [(hA.setj 0 _).cell 1 _ rfl, hA.cell 1 _ rfl]⟩
  · refine (copyCheck_used b w h.cell0).mono ?_
    rintro e w' ⟨rfl, rfl⟩
    exact ⟨rfl, ⟨h, Below.refl B _⟩, rfl, rfl, rfl⟩

set_option maxHeartbeats 2000000 in
set_option maxRecDepth 100000 in
theorem writeString_far (B b : Nat) (bs : List Value) (s : ByteArray) (w : World) (h : Lib.IsBuilder 74 5 B b bs w) (hlen : bs.length + s.size ≤ 140737488355328) (hBw : B ≤ w.heap.size) (g : Nat) (hg : g < w.heap.size) (hgb : g ≠ b) (hF : Far b g w) :
    Calls Try.prog 41 #[.pointer (some ⟨b, 0, none⟩), .string s] w fun e w' => e = .returned (.tuple #[.int .i64 s.size, .nilIface]) ∧ (Lib.BuilderAt 74 5 B b (.pointer (some ⟨b, 0, none⟩)) (bs ++ Lib.strCells s) w' ∧ Below B w w') ∧ w'.heap[g]? = w.heap[g]? := by
  obtain ⟨i0, hi, hz0, hz1, hz2⟩ := info_parts info_byte
  go_enter Try.func41, Try.ntmps41
  go_wp2_with fail
  refine (copyCheck_far B b bs _ h g hgb).mono ?_
  rintro e w1 ⟨rfl, ⟨h1, hb1⟩, hh1, hs1, hc1⟩
  obtain ⟨hB, v, hbk, hown, hne⟩ := h1
  have c0 : w1.cell? ⟨b, 0, none⟩ = some (.pointer (some ⟨b, 0, none⟩)) := by rw [Lib.cell_of_heap hbk]; rfl
  have c1 : w1.cell? ⟨b, 1, none⟩ = some v := by rw [Lib.cell_of_heap hbk]; rfl
  have hvg : some g ≠ v.ownBlock := fun e => hF v (by rw [← hc1]; exact c1) e.symm
  have HH := Lib.hid hh1
  have HS := Lib.hid hs1
  clear hh1 hs1 hc1 hF
  go_wp2_with (at_builtin; refine Lib.wpList_append_own_string _ rfl _ _ 43 9 rfl B 5 i0 Try.underlying43 Try.underlying9 hi hz0 hz1 hz2 _ _ _ rfl hown s rfl ?c3 ?c4 ?c5 ?_)
  case c3 => unfold maxLen; omega
  case c4 => omega
  case c5 => have := hb1.size; omega
  intro v' w2 hown' hgrow _
  have hlt : b < w1.heap.size := by
    rcases Nat.lt_or_ge b w1.heap.size with h' | h'
    · exact h'
    · simp [Array.getElem?_eq_none h'] at hbk
  have hb2 : w2.heap[b]? = some (.cells #[.pointer (some ⟨b, 0, none⟩), v] 74 (0, 0)) := by
    rw [hgrow.block b hlt (fun e => hne e.symm)]
    exact hbk
  have d0 : w2.cell? ⟨b, 0, none⟩ = some (.pointer (some ⟨b, 0, none⟩)) := by rw [Lib.cell_of_heap hb2]; rfl
  have d1 : w2.cell? ⟨b, 1, none⟩ = some v := by rw [Lib.cell_of_heap hb2]; rfl
  have f1 : w2.frozen? ⟨b, 1, none⟩ = false := Lib.frozen_of_heap hb2 1
  obtain ⟨ao, n', cap, rfl⟩ : ∃ ao n' cap, v' = .slice ao n' cap := by
    rcases hown'.2 with ⟨hv, _⟩ | ⟨g, cap, cur, hv, _⟩
    · exact ⟨_, _, _, hv⟩
    · exact ⟨_, _, _, hv⟩
  go_wp2_with fail
  go_ret2
  refine ⟨rfl, ⟨?_, ?_⟩, ?_⟩
  · exact Lib.BuilderAt.put (T := 74) (e := 5) hB hb2 (bs' := bs ++ Lib.strCells s) (by simpa [Lib.strCells_length] using hown') (by decide)
  · exact (hb1.grown hgrow (by have := hb1.size; omega) (fun k hk => (hown.lt k hk).1)).setCell (p := ⟨b, 1, none⟩) hB _
  · rw [Below.heap_setCell _ _ _ _ hgb, hgrow.block g (by have := HS.out; omega) hvg, HH.out]
theorem bi_writeFar (B b : Nat) (l : List UInt8) (s : ByteArray) (m : List UInt8) (hs : s.data.toList = m) (w : World) (h : BI B b l w) (hlen : l.length + m.length ≤ 140737488355328) (hBw : B ≤ w.heap.size) (g : Nat) (cs : List Value) (hA : AC w g cs) (hgb : g ≠ b) (hF : Far b g w) :
    Calls Try.prog 41 #[.pointer (some ⟨b, 0, none⟩), .string s] w fun e w' => e = .returned (.tuple #[.int .i64 s.size, .nilIface]) ∧ BI B b (l ++ m) w' ∧ Below B w w' ∧ AC w' g cs := by
  have hz : s.size = m.length := by rw [← hs]; simp
  obtain ⟨t, ht⟩ := hA
  refine (writeString_far B b _ s w h (by rw [hz]; simpa [Lib.byteCells] using hlen) hBw g (lt_of_heap ht) hgb hF).mono ?_
  rintro e w' ⟨he, ⟨h1, hb⟩, hh⟩
  refine ⟨he, .inr ?_, hb, ⟨t, by rw [hh]; exact ht⟩⟩
  have e : Lib.byteCells (l ++ m) = Lib.byteCells l ++ Lib.strCells s := by
    simp [Lib.byteCells, Lib.strCells, hs]
  rw [e]; exact h1
end Go.Proofs.Ytaokennbpgdngaa

set_option linter.unusedVariables false
set_option linter.unusedSimpArgs false
namespace Go.Proofs.Ytaokennbpgdngaa
open Go.RowKit Go.Shelf

theorem copyCheck_anyF (B b : Nat) (bs : List Value) (w : World) (h : Lib.IsBuilderF 74 5 B b bs w) :
    Calls Try.prog 75 #[.pointer (some ⟨b, 0, none⟩)] w fun e w' => e = .returned (.tuple #[]) ∧ (Lib.BuilderAtF 74 5 B b (.pointer (some ⟨b, 0, none⟩)) bs w' ∧ Below B w w') := by
  rcases h with h | h
  · refine (copyCheck_fresh b w h.cell0 h.shape h.frozen0).mono ?_
    rintro e w' ⟨rfl, rfl⟩
    exact ⟨rfl, h.used _, (Below.refl B w).setCell (p := ⟨b, 0, none⟩) h.1 _⟩
  · refine (copyCheck_used b w h.cell0).mono ?_
    rintro e w' ⟨rfl, rfl⟩
    exact ⟨rfl, h, Below.refl B _⟩
set_option maxHeartbeats 1000000 in
set_option maxRecDepth 100000 in
theorem writeString_anyF (B b : Nat) (bs : List Value) (s : ByteArray) (w : World) (h : Lib.IsBuilderF 74 5 B b bs w) (hlen : bs.length + s.size ≤ 140737488355328) (hBw : B ≤ w.heap.size) :
    Calls Try.prog 41 #[.pointer (some ⟨b, 0, none⟩), .string s] w fun e w' => e = .returned (.tuple #[.int .i64 s.size, .nilIface]) ∧ (Lib.BuilderAtF 74 5 B b (.pointer (some ⟨b, 0, none⟩)) (bs ++ Lib.strCells s) w' ∧ Below B w w') := by
  obtain ⟨i0, hi, hz0, hz1, hz2⟩ := info_parts info_byte
  go_enter Try.func41, Try.ntmps41
  go_wp2_with fail
  refine (copyCheck_anyF B b bs _ h).mono ?_
  rintro e w1 ⟨rfl, h1, hb1⟩
  obtain ⟨hB, v, hbk, hown, hne⟩ := h1
  have c0 : w1.cell? ⟨b, 0, none⟩ = some (.pointer (some ⟨b, 0, none⟩)) := by rw [Lib.cell_of_heap hbk]; rfl
  have c1 : w1.cell? ⟨b, 1, none⟩ = some v := by rw [Lib.cell_of_heap hbk]; rfl
  go_wp2_with (at_builtin; refine Lib.wpList_append_own_stringF _ rfl _ _ 43 9 rfl B 5 i0 Try.underlying43 Try.underlying9 hi hz0 hz1 hz2 _ _ _ rfl hown s rfl ?c3 ?c4 ?c5 ?_)
  case c3 => unfold maxLen; omega
  case c4 => omega
  case c5 => have := hb1.size; omega
  intro v' w2 hown' hgrow _
  have hlt : b < w1.heap.size := by
    rcases Nat.lt_or_ge b w1.heap.size with h' | h'
    · exact h'
    · simp [Array.getElem?_eq_none h'] at hbk
  have hb2 : w2.heap[b]? = some (.cells #[.pointer (some ⟨b, 0, none⟩), v] 74 (0, 0)) := by
    rw [hgrow.block b hlt (fun e => hne e.symm)]
    exact hbk
  have d0 : w2.cell? ⟨b, 0, none⟩ = some (.pointer (some ⟨b, 0, none⟩)) := by rw [Lib.cell_of_heap hb2]; rfl
  have d1 : w2.cell? ⟨b, 1, none⟩ = some v := by rw [Lib.cell_of_heap hb2]; rfl
  have f1 : w2.frozen? ⟨b, 1, none⟩ = false := Lib.frozen_of_heap hb2 1
  obtain ⟨ao, n', cap, rfl⟩ : ∃ ao n' cap, v' = .slice ao n' cap := by
    rcases hown'.2 with ⟨hv, _⟩ | ⟨g, cap, cur, fz, hv, _⟩
    · exact ⟨_, _, _, hv⟩
    · exact ⟨_, _, _, hv⟩
  go_wp2_with fail
  go_ret2
  refine ⟨rfl, ?_, ?_⟩
  · exact Lib.BuilderAtF.put (T := 74) (e := 5) hB hb2 (bs' := bs ++ Lib.strCells s) (by simpa [Lib.strCells_length] using hown') (by decide)
  · exact (hb1.grown hgrow (by have := hb1.size; omega) (fun k hk => (hown.lt k hk).1)).setCell (p := ⟨b, 1, none⟩) hB _

/-- a builder, read or not -/
def BF (B b : Nat) (l : List UInt8) (w : World) : Prop := Lib.IsBuilderF 74 5 B b (Lib.byteCells l) w
theorem BF.of {B b : Nat} {l : List UInt8} {w : World} (h : BI B b l w) : BF B b l w := Lib.IsBuilderF.of h
theorem ownsRowF_bl {w w' : World} {B : Nat} {e : TypeId} {s : Nat} {v : Value} {n : Nat} {xs : List Value} (h : World.ownsRowF w B e s v n xs) (hb : Bl w w') : World.ownsRowF w' B e s v n xs := by
  obtain ⟨h1, h2 | ⟨g, cap, cur, fz, hv, hB, hg, r⟩⟩ := h
  · exact ⟨h1, .inl h2⟩
  · exact ⟨h1, .inr ⟨g, cap, cur, fz, hv, hB, hb.heap hg, r⟩⟩
theorem BF.keep {B b : Nat} {l : List UInt8} {w w' : World} (h : BF B b l w) (hb : Bl w w') : BF B b l w' := by
  rcases h with ⟨h1, v, h2, h3, h4⟩ | ⟨h1, v, h2, h3, h4⟩
  · exact .inl ⟨h1, v, hb.heap h2, ownsRowF_bl h3 hb, h4⟩
  · exact .inr ⟨h1, v, hb.heap h2, ownsRowF_bl h3 hb, h4⟩
theorem bf_write (B b : Nat) (l : List UInt8) (s : ByteArray) (m : List UInt8) (hs : s.data.toList = m) (w : World) (h : BF B b l w) (hlen : l.length + m.length ≤ 140737488355328) (hBw : B ≤ w.heap.size) :
    Calls Try.prog 41 #[.pointer (some ⟨b, 0, none⟩), .string s] w fun e w' => e = .returned (.tuple #[.int .i64 s.size, .nilIface]) ∧ BF B b (l ++ m) w' ∧ Below B w w' := by
  have hz : s.size = m.length := by rw [← hs]; simp
  refine (writeString_anyF B b _ s w h (by rw [hz]; simpa [Lib.byteCells] using hlen) hBw).mono ?_
  rintro e w' ⟨he, h1, hb⟩
  refine ⟨he, .inr ?_, hb⟩
  have e : Lib.byteCells (l ++ m) = Lib.byteCells l ++ Lib.strCells s := by
    simp [Lib.byteCells, Lib.strCells, hs]
  rw [e]; exact h1
theorem bf_string (B b : Nat) (l : List UInt8) (w : World) (h : BF B b l w) (hBw : B ≤ w.heap.size) :
    Calls Try.prog 45 #[.pointer (some ⟨b, 0, none⟩)] w fun e w' => e = .returned (.string ⟨l.toArray⟩) ∧ BF B b l w' ∧ Below B w w' := Try.Builder_String_any_f B b l w h hBw
theorem bf_len (B b : Nat) (l : List UInt8) (w : World) (h : BF B b l w) :
    Calls Try.prog 46 #[.pointer (some ⟨b, 0, none⟩)] w fun e w' => e = .returned (.int .i64 (l.length : Int)) ∧ w' = w := by
  refine (Try.Builder_Len_f B b _ w h).mono ?_
  rintro e w' ⟨rfl, rfl⟩
  exact ⟨by simp [Lib.byteCells], rfl⟩
end Go.Proofs.Ytaokennbpgdngaa
end
