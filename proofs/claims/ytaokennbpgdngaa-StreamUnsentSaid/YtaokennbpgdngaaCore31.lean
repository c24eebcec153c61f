import Derived.Test.YtaokennbpgdngaaCore25
import Derived.Test.YtaokennbpgdngaaCore19
import Derived.Test.YtaokennbpgdngaaCore30
import Derived.Test.YtaokennbpgdngaaCore16
import Derived.Test.YtaokennbpgdngaaCore23
import Derived.Test.YtaokennbpgdngaaCore28
import Derived.Test.YtaokennbpgdngaaCore11

/- txn.Add. By an AI agent. -/
section
set_option linter.unusedVariables false
set_option linter.unusedSimpArgs false
namespace Go.Proofs.Ytaokennbpgdngaa
open Go.RowKit
attribute [local go_sem] eOp eOper eUpon

def addLs (ws : List (ByteArray × ActL)) (key : ByteArray) (x : ActL) : List (ByteArray × ActL) := if fitsB key x = true ∧ ws.length < 200 then ws ++ [(key, x)] else []
def addC (n : Nat) (key : ByteArray) (x : ActL) : Int := if fitsB key x = true then (if n < 200 then 0 else 2) else 40
set_option maxHeartbeats 3200000 in
set_option maxRecDepth 100000 in
theorem tadd_any (a : Option Addr) (n c : Nat) (ws : List (ByteArray × ActL)) (key : ByteArray) (x : ActL) (w : World) (h : WW w a n ws) (hk : key.size ≤ 140737488351232) (ox : x.Ok) :
    Calls Try.prog 30 #[.slice a n c, .string key, .agg #[.int .i64 x.k, .float .f64 x.x, .int .i64 x.n, .string x.s]] w fun e w' =>
      ∃ v, e = .returned (.tuple #[v, .int .i64 (addC n key x)]) ∧ OWR w.heap.size w' v (addLs ws key x).length (addLs ws key x) ∧ Bl w w' := by
  have hsf := store_float
  have hcap := h.cap
  have HW := Lib.hid h
  have HL := Lib.hid h.len
  have OX := Lib.hid ox
  obtain ⟨ak, ax, an, az⟩ := x
  have hb := (Bl.refl w).alloc (.cells #[.int .i64 ak, .float .f64 ax, .int .i64 an, .string az] 54)
  have hg := AC.new w _ rfl [.int .i64 ak, .float .f64 ax, .int .i64 an, .string az] 54
  obtain ⟨g0, g1, g2, g3⟩ := hg.act
  dsimp only
  clear h ox
  cases hf : fitsB key ⟨ak, ax, an, az⟩
  · have HF := Lib.hid hf
    have e1 : addLs ws key ⟨ak, ax, an, az⟩ = [] := by unfold addLs; rw [if_neg (fun q => by rw [hf] at q; exact absurd q.1 (by decide))]
    have e2 : addC n key ⟨ak, ax, an, az⟩ = 40 := by unfold addC; rw [if_neg (fun q => by rw [hf] at q; exact absurd q (by decide))]
    rw [e1, e2]
    clear hf e1 e2
    go_enter Try.func30, Try.ntmps30
    go_wp2_with fail
    refine (fits_agg key ak ax an az false _ HF hk OX).mono ?_
    rintro e w1 ⟨rfl, hb1⟩
    go_wp2_with fail
    go_ret2
    exact ⟨_, rfl, OWR.nil _ _, hb.trans hb1⟩
  have HF := Lib.hid hf
  by_cases hn : n < 200
  case neg =>
    have e1 : addLs ws key ⟨ak, ax, an, az⟩ = [] := by unfold addLs; rw [if_neg (fun q => by have := HL.out; omega)]
    have e2 : addC n key ⟨ak, ax, an, az⟩ = 2 := by unfold addC; rw [if_pos hf, if_neg hn]
    have d1 : decide ((200 : Int) ≤ (n : Int)) = true := decide_eq_true (by omega)
    have d2 : decide (200 ≤ n) = true := decide_eq_true (by omega)
    rw [e1, e2]
    clear hf e1 e2
    go_enter Try.func30, Try.ntmps30
    go_wp2_with fail
    refine (fits_agg key ak ax an az true _ HF hk OX).mono ?_
    rintro e w1 ⟨rfl, hb1⟩
    go_wp2_with fail
    go_ret2
    exact ⟨_, rfl, OWR.nil _ _, hb.trans hb1⟩
  have e1 : addLs ws key ⟨ak, ax, an, az⟩ = ws ++ [(key, ⟨ak, ax, an, az⟩)] := by unfold addLs; rw [if_pos ⟨hf, by have := HL.out; omega⟩]
  have e2 : addC n key ⟨ak, ax, an, az⟩ = 0 := by unfold addC; rw [if_pos hf, if_pos hn]
  have d1 : decide ((200 : Int) ≤ (n : Int)) = false := decide_eq_false (by omega)
  have d2 : decide (200 ≤ n) = false := decide_eq_false (by omega)
  have HLE : Hid ((ws ++ [(key, (⟨ak, ax, an, az⟩ : ActL))]).length = n + 1) := Lib.hid (by rw [List.length_append, HL.out]; rfl)
  rw [e1, e2]
  clear hf e1 e2
  go_enter Try.func30, Try.ntmps30
  go_wp2_with fail
  refine (fits_agg key ak ax an az true _ HF hk OX).mono ?_
  rintro e w1 ⟨rfl, hb1⟩
  go_upto_region 5 with fail
  have HB := Lib.hid ((hb.trans hb1).drew)
  have HG := Lib.hid ((hg.keep hb1).keep ((Bl.refl _).drew))
  clear hb hb1 hg g0 g1 g2 g3 d1 d2
  refine wp_region_idx [0, 2, 3, 4] 5 (Bl w1.drew) (fun _ _ h k => h.trans k) (Bl.refl _) (by kernel_rfl) rfl (by kernel_rfl) (by kernel_rfl) ?_
  generalize w1.drew = Z at *
  haveI : Nonempty (ExtC (Bl Z)) := ⟨⟨Z, Bl.refl _⟩⟩
  have k0 : ∀ q : ExtC (Bl Z), _ := fun q => (AC.act (HG.out.keep q.ok)).1
  have k1 : ∀ q : ExtC (Bl Z), _ := fun q => (AC.act (HG.out.keep q.ok)).2.1
  have k2 : ∀ q : ExtC (Bl Z), _ := fun q => (AC.act (HG.out.keep q.ok)).2.2.1
  have k3 : ∀ q : ExtC (Bl Z), _ := fun q => (AC.act (HG.out.keep q.ok)).2.2.2
  repeat (refine wpI_step rfl (fun K hK => ?_); go_simp; first | (refine hK _ ?_; clear hK K) | (apply Exists.intro; refine ⟨fun q => ?_, hK _ ?_⟩; (fail); clear hK K))
  refine wpI_nil ?_
  clear k0 k1 k2 k3 this
  have hlit : ∀ X : World, (X.alloc (.cells #[.string key, .int .i64 ak, .float .f64 ax, .int .i64 an, .string az] 56)).heap[X.heap.size]? = some (.cells (writeCs (key, ⟨ak, ax, an, az⟩)).toArray 56 (0, 0)) := fun X => heap_alloc_new X _
  have HLIT := Lib.hid hlit
  clear hlit
  refine wpAnyE_all (rs := [1, 5]) (by kernel_rfl) (by decide) ?_
  intro i hi Y1 hy1
  simp only [List.mem_cons, List.not_mem_nil, or_false] at hi
  rcases hi with rfl | rfl
  · go_simp
    refine (wclone_any a n c ws Y1 (HW.out.keep (HB.out.trans hy1)) (by omega)).mono ?_
    rintro e Y2 ⟨v, rfl, hv, hb2⟩
    have HY2 := Lib.hid (hy1.trans hb2)
    have HV := Lib.hid (show OWR Z.heap.size Y2 v n ws from ⟨hv.1, own_less hv.2 hy1.size⟩)
    obtain ⟨va, vc, hve⟩ := OWR.form hv
    subst hve
    clear hy1 hb2 hv
    refine ⟨_, rfl, HY2.out, ?_⟩
    refine wpAnyE_one (i := 5) (by kernel_rfl) ?_
    intro Y3 hy3
    go_simp
    have hbl := (Bl.refl Y3).alloc (.cells #[.string key, .int .i64 ak, .float .f64 ax, .int .i64 an, .string az] 56)
    have HS := Lib.hid (SG.lit (size := 5) (HLIT.out Y3) rfl (by simp [writeCs, Value.oneCell']))
    have HY4 := Lib.hid (HY2.out.trans (hy3.trans hbl))
    have HV4 := Lib.hid (HV.out.keep (hy3.trans hbl))
    clear hy3 hbl HV HY2
    generalize Y3.alloc _ = Y4 at *
    generalize Y3.heap.size = gl at *
    refine ⟨HY4.out, ?_⟩
    refine wpAnyE_one (i := 6) (by kernel_rfl) ?_
    intro Y5 hy5
    have HS5 := Lib.hid (HS.out.keep hy5)
    have HV5 := Lib.hid (HV4.out.keep hy5)
    have HY5 := Lib.hid (HB.out.trans (HY4.out.trans hy5))
    have HZ5 := Lib.hid (HY4.out.trans hy5)
    clear hy5 HS HV4 HY4
    refine eOp_appG rfl rfl _ _ _ rfl el_wr Z.heap.size (.slice va n vc) n (cellsW ws) rfl HV5.out.2 HZ5.out.size (some ⟨gl, 0, none⟩) 1 1 (writeCs (key, ⟨ak, ax, an, az⟩)) rfl HS5.out (by unfold maxLen; omega) (by omega) ?_
    intro v' Y6 ho hgr
    have HO : Hid (OWR Z.heap.size Y6 v' (n + 1) (ws ++ [(key, ⟨ak, ax, an, az⟩)])) := Lib.hid ⟨HLE.out, by rw [cellsW_snoc]; exact ho⟩
    have HY6 : Hid (Bl w Y6) := Lib.hid (Bl.ownRow HY5.out HV5.out.2 HB.out.size hgr)
    have HZ6 : Hid (Bl Z Y6) := Lib.hid (Bl.ownRow HZ5.out HV5.out.2 (Nat.le_refl _) hgr)
    clear ho hgr HS5 HV5 HY5 HZ5
    refine ⟨HZ6.out, ?_⟩
    simp only [Act.put, List.setIfInBounds_toArray]
    refine wpAnyE_one (i := 7) (by kernel_rfl) ?_
    intro Y7 hy7
    go_simp
    refine ⟨HZ6.out.trans hy7, ?_⟩
    refine wpAnyE_one (i := 8) (by kernel_rfl) ?_
    intro Y8 hy8
    go_simp
    refine ⟨HZ6.out.trans (hy7.trans hy8), ?_⟩
    refine wpAnyE_done (by kernel_rfl) ?_
    intro Y9 hy9
    have HO9 := Lib.hid (HO.out.keep (hy7.trans (hy8.trans hy9)))
    have HB9 := Lib.hid (HY6.out.trans (hy7.trans (hy8.trans hy9)))
    clear hy7 hy8 hy9 HO HY6 HZ6
    go_wp2_with fail
    go_ret2
    rw [HLE.out]
    exact ⟨_, rfl, ⟨HO9.out.1, own_less HO9.out.2 HB.out.size⟩, HB9.out⟩
  · go_simp
    have hbl := (Bl.refl Y1).alloc (.cells #[.string key, .int .i64 ak, .float .f64 ax, .int .i64 an, .string az] 56)
    have HS := Lib.hid (SG.lit (size := 5) (HLIT.out Y1) rfl (by simp [writeCs, Value.oneCell']))
    have HY2 := Lib.hid (hy1.trans hbl)
    clear hy1 hbl
    generalize Y1.alloc _ = Y2 at *
    generalize Y1.heap.size = gl at *
    refine ⟨HY2.out, ?_⟩
    refine wpAnyE_one (i := 1) (by kernel_rfl) ?_
    intro Y3 hy3
    go_simp
    refine (wclone_any a n c ws Y3 (HW.out.keep (HB.out.trans (HY2.out.trans hy3))) (by omega)).mono ?_
    rintro e Y4 ⟨v, rfl, hv, hb2⟩
    have HY4 := Lib.hid (HY2.out.trans (hy3.trans hb2))
    have HV4 := Lib.hid (show OWR Z.heap.size Y4 v n ws from ⟨hv.1, own_less hv.2 (HY2.out.trans hy3).size⟩)
    have HS2 := Lib.hid (HS.out.keep (hy3.trans hb2))
    obtain ⟨va, vc, hve⟩ := OWR.form hv
    subst hve
    clear hy3 hb2 hv HS HY2
    refine ⟨_, rfl, HY4.out, ?_⟩
    have HS := HS2
    clear HS2
    refine wpAnyE_one (i := 6) (by kernel_rfl) ?_
    intro Y5 hy5
    have HS5 := Lib.hid (HS.out.keep hy5)
    have HV5 := Lib.hid (HV4.out.keep hy5)
    have HY5 := Lib.hid (HB.out.trans (HY4.out.trans hy5))
    have HZ5 := Lib.hid (HY4.out.trans hy5)
    clear hy5 HS HV4 HY4
    refine eOp_appG rfl rfl _ _ _ rfl el_wr Z.heap.size (.slice va n vc) n (cellsW ws) rfl HV5.out.2 HZ5.out.size (some ⟨gl, 0, none⟩) 1 1 (writeCs (key, ⟨ak, ax, an, az⟩)) rfl HS5.out (by unfold maxLen; omega) (by omega) ?_
    intro v' Y6 ho hgr
    have HO : Hid (OWR Z.heap.size Y6 v' (n + 1) (ws ++ [(key, ⟨ak, ax, an, az⟩)])) := Lib.hid ⟨HLE.out, by rw [cellsW_snoc]; exact ho⟩
    have HY6 : Hid (Bl w Y6) := Lib.hid (Bl.ownRow HY5.out HV5.out.2 HB.out.size hgr)
    have HZ6 : Hid (Bl Z Y6) := Lib.hid (Bl.ownRow HZ5.out HV5.out.2 (Nat.le_refl _) hgr)
    clear ho hgr HS5 HV5 HY5 HZ5
    refine ⟨HZ6.out, ?_⟩
    simp only [Act.put, List.setIfInBounds_toArray]
    refine wpAnyE_one (i := 7) (by kernel_rfl) ?_
    intro Y7 hy7
    go_simp
    refine ⟨HZ6.out.trans hy7, ?_⟩
    refine wpAnyE_one (i := 8) (by kernel_rfl) ?_
    intro Y8 hy8
    go_simp
    refine ⟨HZ6.out.trans (hy7.trans hy8), ?_⟩
    refine wpAnyE_done (by kernel_rfl) ?_
    intro Y9 hy9
    have HO9 := Lib.hid (HO.out.keep (hy7.trans (hy8.trans hy9)))
    have HB9 := Lib.hid (HY6.out.trans (hy7.trans (hy8.trans hy9)))
    clear hy7 hy8 hy9 HO HY6 HZ6
    go_wp2_with fail
    go_ret2
    rw [HLE.out]
    exact ⟨_, rfl, ⟨HO9.out.1, own_less HO9.out.2 HB.out.size⟩, HB9.out⟩
end Go.Proofs.Ytaokennbpgdngaa
end

/- txn.Part, Read. By an AI agent. -/
section
set_option linter.unusedVariables false
set_option linter.unusedSimpArgs false
namespace Go.Proofs.Ytaokennbpgdngaa
open Go.RowKit

def partL (key : ByteArray) (parts : Int) : Int := if 1 ≤ parts ∧ parts ≤ 64 then (sumL key.data.toList : Int) % parts else 0
theorem partL_range (key : ByteArray) (parts : Int) : 0 ≤ partL key parts ∧ partL key parts < max (min parts 64) 1 := by
  unfold partL
  split
  · rename_i h
    have h1 := Int.emod_nonneg (sumL key.data.toList : Int) (show parts ≠ 0 by omega)
    have h2 := Int.emod_lt_of_pos (sumL key.data.toList : Int) (show 0 < parts by omega)
    omega
  · omega
theorem tpart_any (key : ByteArray) (parts : Int) (w : World) (hk : key.size ≤ 140737488351232) :
    Calls Try.prog 31 #[.string key, .int .i64 parts] w fun e w' => e = .returned (.int .i64 (partL key parts)) ∧ w = w' := by
  have HS := Lib.hid (fun w => sum_any key w hk)
  have hsl := sumL_lt key.data.toList
  by_cases h1 : parts < 1
  · have d1 : decide (parts < 1) = true := decide_eq_true h1
    have e : partL key parts = 0 := by unfold partL; rw [if_neg (by omega)]
    rw [e]
    go_enter Try.func31, Try.ntmps31
    go_wp2_with fail
    go_ret
    exact ⟨rfl, rfl⟩
  have d1 : decide (parts < 1) = false := decide_eq_false h1
  by_cases h2 : 64 < parts
  · have d2 : decide (64 < parts) = true := decide_eq_true h2
    have e : partL key parts = 0 := by unfold partL; rw [if_neg (by omega)]
    rw [e]
    go_enter Try.func31, Try.ntmps31
    go_wp2_with fail
    go_ret
    exact ⟨rfl, rfl⟩
  have d2 : decide (64 < parts) = false := decide_eq_false h2
  have e : partL key parts = (sumL key.data.toList : Int) % parts := by unfold partL; rw [if_pos (by omega)]
  rw [e]
  generalize sumL key.data.toList = s at *
  have hne : parts ≠ 0 := by omega
  have hne2 : (parts == 0) = false := by rw [beq_eq_false_iff_ne]; exact hne
  have h3 := Int.emod_nonneg (s : Int) hne
  have h4 := Int.emod_lt_of_pos (s : Int) (show 0 < parts by omega)
  have ht : Int.tmod (s : Int) parts = (s : Int) % parts := Int.tmod_eq_emod_of_nonneg (by omega)
  have hw : IntKind.i64.wrap ((s : Int) % parts) = (s : Int) % parts := by rw [IntKind.wrap_i64]; omega
  go_enter Try.func31, Try.ntmps31
  go_wp2_with fail
  refine (HS.out _).mono ?_
  rintro e w' ⟨rfl, rfl⟩
  go_wp2_with fail
  go_ret
  exact ⟨rfl, rfl⟩

/-- the two boxes of Read -/
structure TRB (w W : World) (b : Bool) (x : Nat) (n : Int) (s : ByteArray) : Prop where
  bl : Bl w W
  a : AC W w.heap.size [.bool b, .float .f64 x, .int .i64 n, .string s]
  r : AC W (w.heap.size + 1) [.bool false, .float .f64 0, .int .i64 0, .string ⟨#[]⟩]
theorem TRB.keep {w W W' : World} {b : Bool} {x : Nat} {n : Int} {s : ByteArray} (h : TRB w W b x n s) (k : Bl W W') : TRB w W' b x n s := ⟨h.bl.trans k, h.a.keep k, h.r.keep k⟩
theorem TRB.new (w : World) (b : Bool) (x : Nat) (n : Int) (s : ByteArray) (T U : TypeId) : TRB w ((w.alloc (.cells #[.bool b, .float .f64 x, .int .i64 n, .string s] T)).alloc (.cells #[.bool false, .float .f64 0, .int .i64 0, .string ⟨#[]⟩] U)) b x n s :=
  ⟨((Bl.refl w).alloc _).alloc _, (AC.new w _ rfl [.bool b, .float .f64 x, .int .i64 n, .string s] T).keep ((Bl.refl _).alloc _), AC.new _ (w.heap.size + 1) (by simp) [.bool false, .float .f64 0, .int .i64 0, .string ⟨#[]⟩] U⟩
theorem TRB.set {w W : World} {b : Bool} {x : Nat} {n : Int} {s : ByteArray} (h : TRB w W b x n s) (b2 : Bool) (x2 : Nat) (n2 : Int) (s2 : ByteArray) :
    TRB w ((((W.setCell ⟨w.heap.size, 0, none⟩ (.bool b2)).setCell ⟨w.heap.size, 1, none⟩ (.float .f64 x2)).setCell ⟨w.heap.size, 2, none⟩ (.int .i64 n2)).setCell ⟨w.heap.size, 3, none⟩ (.string s2)) b2 x2 n2 s2 :=
  ⟨h.bl.store4 (Nat.le_refl _) _ _ _ _, h.a.set4 _ _ _ _, h.r.other4 (by omega) _ _ _ _⟩
theorem tread_results {tmps : Array Value} {W : World} {g : Nat} {b : Bool} {x : Nat} {n : Int} {s : ByteArray} (h : tmps.getD 6 undef = .pointer (some ⟨g, 0, none⟩)) (hc : AC W g [.bool b, .float .f64 x, .int .i64 n, .string s]) :
    (results Try.f28 tmps).run Try.prog W = .ok (.agg #[.bool b, .float .f64 x, .int .i64 n, .string s]) W := by
  rw [Array.getD_eq_getD_getElem?] at h
  obtain ⟨c0, c1, c2, c3⟩ := hc.val
  simp [results, Try.results28, go_sem, h, c0, c1, c2, c3]
def TRBV (w W : World) (v : ValL) : Prop := TRB w W v.there v.x v.n v.s
theorem readW_take (key : ByteArray) (v : ValL) (ws : List (ByteArray × ActL)) {k : Nat} (hk : k < ws.length) : readW key v (ws.take (k + 1)) = if (nthW ws k).1 = key then afterL key (readW key v (ws.take k)) (nthW ws k).2 else readW key v (ws.take k) := by
  rw [List.take_succ_eq_append_getElem hk, readW_snoc, ← nthW_eq hk]
set_option maxHeartbeats 3200000 in
set_option maxRecDepth 100000 in
theorem tread_any (a : Option Addr) (n c : Nat) (ws : List (ByteArray × ActL)) (key : ByteArray) (v : ValL) (w : World) (h : WW w a n ws) (hk : key.size ≤ 140737488351232) (ov : v.Ok) :
    Calls Try.prog 28 #[.slice a n c, .string key, .agg #[.bool v.there, .float .f64 v.x, .int .i64 v.n, .string v.s]] w fun e w' =>
      e = .returned (.agg #[.bool (readW key v ws).there, .float .f64 (readW key v ws).x, .int .i64 (readW key v ws).n, .string (readW key v ws).s]) ∧ Bl w w' := by
  have hsf := store_float
  have hcap := h.cap
  have HW := Lib.hid h
  have HL := Lib.hid h.len
  have OV := Lib.hid ov
  have G := TRB.new w v.there v.x v.n v.s 51 51
  clear h ov
  obtain ⟨u, hu⟩ : ∃ u, readW key v ws = u := ⟨_, rfl⟩
  have HU := Lib.hid hu
  rw [hu]
  clear hu
  go_enter Try.func28, Try.ntmps28
  go_wp2_with fail
  generalize (w.alloc _).alloc _ = W at *
  have HG := Lib.hid G
  clear G
  go_loopw [11] (fun i wr => ∃ k : Nat, k ≤ n ∧ i = .int .i64 k ∧ TRBV w wr (readW key v (ws.take k))) (fun i _ => n - (intOf i).toNat)
  case atStart => exact ⟨0, Nat.zero_le _, rfl, HG.out⟩
  case round =>
    clear HG
    obtain ⟨k, hkn, rfl, hb⟩ := hrel
    have HB := Lib.hid hb
    clear hb
    by_cases hlt : k < n
    · have hkl : k < ws.length := by rw [HL.out]; exact hlt
      have HST := Lib.hid (readW_take key v ws hkl)
      have HVO := Lib.hid (readW_ok (key := key) OV.out (ws.take k) (fun p hp => (HW.out.ok p (List.mem_of_mem_take hp)).2))
      have HOK := Lib.hid (HW.out.ok _ (nthW_mem hkl))
      obtain ⟨ba, oa, rfl, _⟩ := HW.out.cells k hlt
      obtain ⟨c0, c1, c2, c3, c4⟩ := HW.out.get HB.out.bl hlt
      clear hkl
      generalize readW key v (ws.take k) = r at *
      generalize nthW ws k = p at *
      obtain ⟨pk, ⟨ak, ax, an, az⟩⟩ := p
      obtain ⟨rb, rx, rn, rs⟩ := r
      dsimp only at c0 c1 c2 c3 c4
      have hgp := AC.new wr _ rfl [.string pk, .int .i64 ak, .float .f64 ax, .int .i64 an, .string az] 56
      have hbp := (Bl.refl wr).alloc (.cells #[.string pk, .int .i64 ak, .float .f64 ax, .int .i64 an, .string az] 56)
      have g0 := hgp.cell 0 _ rfl
      have g1 := hgp.cell 1 _ rfl
      have g2 := hgp.cell 2 _ rfl
      have g3 := hgp.cell 3 _ rfl
      have g4 := hgp.cell 4 _ rfl
      have HB1 := Lib.hid (show TRB w _ rb rx rn rs from TRB.keep HB.out hbp)
      obtain ⟨v0, v1, v2, v3⟩ := HB1.out.a.val
      by_cases hq : pk = key
      · subst hq
        have q : (pk.toList == pk.toList) = true := by simp
        obtain ⟨⟨nb, nx, nn, ns⟩, hN⟩ : ∃ N : ValL, afterL pk ⟨rb, rx, rn, rs⟩ ⟨ak, ax, an, az⟩ = N := ⟨_, rfl⟩
        have HN := Lib.hid hN
        have HST2 : Hid (readW pk v (ws.take (k + 1)) = ⟨nb, nx, nn, ns⟩) := Lib.hid (by rw [HST.out, if_pos rfl]; exact hN)
        have HAO := Lib.hid HOK.out.2
        clear hN hgp HST HB
        go_wp2_with fail
        clear g0 g1 g2 g3 g4 v0 v1 v2 v3 c0 c1 c2 c3 c4
        refine (after_agg pk rb rx rn rs ak ax an az nb nx nn ns _ HN hk HVO HAO).mono ?_
        rintro e w1 ⟨rfl, hb1⟩
        have HB2 := Lib.hid (HB1.out.keep hb1)
        clear hb1 hbp HB1
        have fr := HB2.out.a.frozen
        obtain ⟨v0, v1, v2, v3⟩ := HB2.out.a.val
        go_wp2_with fail
        go_roundw
        case rel => exact ⟨k + 1, by omega, by go_num, by rw [HST2.out]; exact HB2.out.set nb nx nn ns⟩
        case measure => simp [intOf]; omega
      · have q : (pk.toList == key.toList) = false := by
          rw [beq_eq_false_iff_ne]
          exact fun e => hq (toList_inj e)
        have HST2 : Hid (readW key v (ws.take (k + 1)) = ⟨rb, rx, rn, rs⟩) := Lib.hid (by rw [HST.out, if_neg hq])
        clear hgp HST HB hq
        go_wp2_with fail
        go_roundw
        case rel => exact ⟨k + 1, by omega, by go_num, by rw [HST2.out]; exact HB1.out⟩
        case measure => simp [intOf]; omega
    · have hkn2 : k = n := by omega
      subst hkn2
      have e : readW key v (ws.take k) = u := by rw [List.take_of_length_le (by rw [HL.out]; exact Nat.le_refl _)]; exact HU.out
      rw [e] at HB
      clear e
      obtain ⟨ub, ux, un, us⟩ := u
      have HB2 : Hid (TRB w wr ub ux un us) := Lib.hid HB.out
      clear HB
      have fr := HB2.out.r.frozen
      obtain ⟨v0, v1, v2, v3⟩ := HB2.out.a.val
      obtain ⟨r0, r1, r2, r3⟩ := HB2.out.r.val
      go_wp2_with fail
      refine bodyPost_ret (tread_results rfl (HB2.out.r.fill [.bool ub, .float .f64 ux, .int .i64 un, .string us] rfl)) rfl ⟨rfl, Bl.fill (Nat.le_succ _) [.bool ub, .float .f64 ux, .int .i64 un, .string us] _ 0 HB2.out.bl⟩
end Go.Proofs.Ytaokennbpgdngaa
end
