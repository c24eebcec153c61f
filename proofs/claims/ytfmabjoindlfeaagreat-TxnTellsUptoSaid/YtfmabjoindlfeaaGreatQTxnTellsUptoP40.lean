import Derived.Test.YtfmabjoindlfeaaGreatQTxnTellsUptoP32
import Derived.Test.YtfmabjoindlfeaaGreatQTxnTellsUptoP11
import Derived.Test.YtfmabjoindlfeaaGreatQTxnTellsUptoP23
import Derived.Test.YtfmabjoindlfeaaGreatQTxnTellsUptoP22
import Derived.Test.YtfmabjoindlfeaaGreatQTxnTellsUptoP1
import Derived.Test.YtfmabjoindlfeaaGreatQTxnTellsUptoP34
import Derived.Test.YtfmabjoindlfeaaGreatQTxnTellsUptoP39
import Derived.Test.YtfmabjoindlfeaaGreatQTxnTellsUptoP36

/- txn.Add. By an AI agent. -/
section
set_option linter.unusedVariables false
set_option linter.unusedSimpArgs false
namespace Go.Proofs.YtfmabjoindlfeaaGreat
open Go.RowKit
attribute [local go_sem] eOp eOper eUpon

def addLs (ws : List (ByteArray × ActL)) (key : ByteArray) (x : ActL) : List (ByteArray × ActL) := if fitsB key x = true ∧ ws.length < 200 then ws ++ [(key, x)] else []
def addC (n : Nat) (key : ByteArray) (x : ActL) : Int := if fitsB key x = true then (if n < 200 then 0 else 2) else 40
set_option maxHeartbeats 3200000 in
set_option maxRecDepth 100000 in
theorem tadd_any (a : Option Addr) (n c : Nat) (ws : List (ByteArray × ActL)) (key : ByteArray) (x : ActL) (w : World) (h : WW w a n ws) (hk : key.size ≤ 140737488351232) (ox : x.Ok) :
    Calls Tryz.prog 20 #[.slice a n c, .string key, .agg #[.int .i64 x.k, .float .f64 x.x, .int .i64 x.n, .string x.s]] w fun e w' =>
      ∃ v, e = .returned (.tuple #[v, .int .i64 (addC n key x)]) ∧ OWR w.heap.size w' v (addLs ws key x).length (addLs ws key x) ∧ Bl w w' := by
  have hsf := store_float
  have hcap := h.cap
  have HW := Lib.hid h
  have HL := Lib.hid h.len
  have OX := Lib.hid ox
  obtain ⟨ak, ax, an, az⟩ := x
  have hb := (Bl.refl w).alloc (.cells #[.int .i64 ak, .float .f64 ax, .int .i64 an, .string az] 61)
  have hg := AC.new w _ rfl [.int .i64 ak, .float .f64 ax, .int .i64 an, .string az] 61
  obtain ⟨g0, g1, g2, g3⟩ := hg.act
  dsimp only
  clear h ox
  cases hf : fitsB key ⟨ak, ax, an, az⟩
  · have HF := Lib.hid hf
    have e1 : addLs ws key ⟨ak, ax, an, az⟩ = [] := by unfold addLs; rw [if_neg (fun q => by rw [hf] at q; exact absurd q.1 (by decide))]
    have e2 : addC n key ⟨ak, ax, an, az⟩ = 40 := by unfold addC; rw [if_neg (fun q => by rw [hf] at q; exact absurd q (by decide))]
    rw [e1, e2]
    clear hf e1 e2
    go_enter Tryz.func20, Tryz.ntmps20
    go_wp2_with fail
    refine (fits_agg key ak ax an az false _ HF hk OX).mono ?_
    rintro e w1 ⟨rfl, hb1⟩
    go_wp2_with fail
    go_ret2
    exact ⟨_, rfl, OWR.nil _ _, hb.trans hb1⟩
  have HF := Lib.hid hf
  by_cases hn : n < 200
  case neg =>
    have e1 : addLs ws key ⟨ak, ax, an, az⟩ = [] := by unfold addLs; rw [if_neg (fun q => by have := HL.out; omega)]
    have e2 : addC n key ⟨ak, ax, an, az⟩ = 2 := by unfold addC; rw [if_pos hf, if_neg hn]
    have d1 : decide ((200 : Int) ≤ (n : Int)) = true := decide_eq_true (by omega)
    have d2 : decide (200 ≤ n) = true := decide_eq_true (by omega)
    rw [e1, e2]
    clear hf e1 e2
    go_enter Tryz.func20, Tryz.ntmps20
    go_wp2_with fail
    refine (fits_agg key ak ax an az true _ HF hk OX).mono ?_
    rintro e w1 ⟨rfl, hb1⟩
    go_wp2_with fail
    go_ret2
    exact ⟨_, rfl, OWR.nil _ _, hb.trans hb1⟩
  have e1 : addLs ws key ⟨ak, ax, an, az⟩ = ws ++ [(key, ⟨ak, ax, an, az⟩)] := by unfold addLs; rw [if_pos ⟨hf, by have := HL.out; omega⟩]
  have e2 : addC n key ⟨ak, ax, an, az⟩ = 0 := by unfold addC; rw [if_pos hf, if_pos hn]
  have d1 : decide ((200 : Int) ≤ (n : Int)) = false := decide_eq_false (by omega)
  have d2 : decide (200 ≤ n) = false := decide_eq_false (by omega)
  have HLE : Hid ((ws ++ [(key, (⟨ak, ax, an, az⟩ : ActL))]).length = n + 1) := Lib.hid (by rw [List.length_append, HL.out]; rfl)
  rw [e1, e2]
  clear hf e1 e2
  go_enter Tryz.func20, Tryz.ntmps20
  go_wp2_with fail
  refine (fits_agg key ak ax an az true _ HF hk OX).mono ?_
  rintro e w1 ⟨rfl, hb1⟩
  go_upto_region 5 with fail
  have HB := Lib.hid ((hb.trans hb1).drew)
  have HG := Lib.hid ((hg.keep hb1).keep ((Bl.refl _).drew))
  clear hb hb1 hg g0 g1 g2 g3 d1 d2
  refine wp_region_idx [0, 2, 3, 4] 5 (Bl w1.drew) (fun _ _ h k => h.trans k) (Bl.refl _) (by kernel_rfl) rfl (by kernel_rfl) (by kernel_rfl) ?_
  generalize w1.drew = Z at *
  haveI : Nonempty (ExtC (Bl Z)) := ⟨⟨Z, Bl.refl _⟩⟩
  have k0 : ∀ q : ExtC (Bl Z), _ := fun q => (AC.act (HG.out.keep q.ok)).1
  have k1 : ∀ q : ExtC (Bl Z), _ := fun q => (AC.act (HG.out.keep q.ok)).2.1
  have k2 : ∀ q : ExtC (Bl Z), _ := fun q => (AC.act (HG.out.keep q.ok)).2.2.1
  have k3 : ∀ q : ExtC (Bl Z), _ := fun q => (AC.act (HG.out.keep q.ok)).2.2.2
  repeat (refine wpI_step rfl (fun K hK => ?_); go_simp; first | (refine hK _ ?_; clear hK K) | (apply Exists.intro; refine ⟨fun q => ?_, hK _ ?_⟩; (fail); clear hK K))
  refine wpI_nil ?_
  clear k0 k1 k2 k3 this
  have hlit : ∀ X : World, (X.alloc (.cells #[.string key, .int .i64 ak, .float .f64 ax, .int .i64 an, .string az] 63)).heap[X.heap.size]? = some (.cells (writeCs (key, ⟨ak, ax, an, az⟩)).toArray 63 (0, 0)) := fun X => heap_alloc_new X _
  have HLIT := Lib.hid hlit
  clear hlit
  refine wpAnyE_all (rs := [1, 5]) (by kernel_rfl) (by decide) ?_
  intro i hi Y1 hy1
  simp only [List.mem_cons, List.not_mem_nil, or_false] at hi
  rcases hi with rfl | rfl
  · go_simp
    refine (wclone_any a n c ws Y1 (HW.out.keep (HB.out.trans hy1)) (by omega)).mono ?_
    rintro e Y2 ⟨v, rfl, hv, hb2⟩
    have HY2 := Lib.hid (hy1.trans hb2)
    have HV := Lib.hid (show OWR Z.heap.size Y2 v n ws from ⟨hv.1, own_less hv.2 hy1.size⟩)
    obtain ⟨va, vc, hve⟩ := OWR.form hv
    subst hve
    clear hy1 hb2 hv
    refine ⟨_, rfl, HY2.out, ?_⟩
    refine wpAnyE_one (i := 5) (by kernel_rfl) ?_
    intro Y3 hy3
    go_simp
    have hbl := (Bl.refl Y3).alloc (.cells #[.string key, .int .i64 ak, .float .f64 ax, .int .i64 an, .string az] 63)
    have HS := Lib.hid (SG.lit (size := 5) (HLIT.out Y3) rfl (by simp [writeCs, Value.oneCell']))
    have HY4 := Lib.hid (HY2.out.trans (hy3.trans hbl))
    have HV4 := Lib.hid (HV.out.keep (hy3.trans hbl))
    clear hy3 hbl HV HY2
    generalize Y3.alloc _ = Y4 at *
    generalize Y3.heap.size = gl at *
    refine ⟨HY4.out, ?_⟩
    refine wpAnyE_one (i := 6) (by kernel_rfl) ?_
    intro Y5 hy5
    have HS5 := Lib.hid (HS.out.keep hy5)
    have HV5 := Lib.hid (HV4.out.keep hy5)
    have HY5 := Lib.hid (HB.out.trans (HY4.out.trans hy5))
    have HZ5 := Lib.hid (HY4.out.trans hy5)
    clear hy5 HS HV4 HY4
    refine eOp_appG rfl rfl _ _ _ rfl el_wr Z.heap.size (.slice va n vc) n (cellsW ws) rfl HV5.out.2 HZ5.out.size (some ⟨gl, 0, none⟩) 1 1 (writeCs (key, ⟨ak, ax, an, az⟩)) rfl HS5.out (by unfold maxLen; omega) (by omega) ?_
    intro v' Y6 ho hgr
    have HO : Hid (OWR Z.heap.size Y6 v' (n + 1) (ws ++ [(key, ⟨ak, ax, an, az⟩)])) := Lib.hid ⟨HLE.out, by rw [cellsW_snoc]; exact ho⟩
    have HY6 : Hid (Bl w Y6) := Lib.hid (Bl.ownRow HY5.out HV5.out.2 HB.out.size hgr)
    have HZ6 : Hid (Bl Z Y6) := Lib.hid (Bl.ownRow HZ5.out HV5.out.2 (Nat.le_refl _) hgr)
    clear ho hgr HS5 HV5 HY5 HZ5
    refine ⟨HZ6.out, ?_⟩
    simp only [Act.put, List.setIfInBounds_toArray]
    refine wpAnyE_one (i := 7) (by kernel_rfl) ?_
    intro Y7 hy7
    go_simp
    refine ⟨HZ6.out.trans hy7, ?_⟩
    refine wpAnyE_one (i := 8) (by kernel_rfl) ?_
    intro Y8 hy8
    go_simp
    refine ⟨HZ6.out.trans (hy7.trans hy8), ?_⟩
    refine wpAnyE_done (by kernel_rfl) ?_
    intro Y9 hy9
    have HO9 := Lib.hid (HO.out.keep (hy7.trans (hy8.trans hy9)))
    have HB9 := Lib.hid (HY6.out.trans (hy7.trans (hy8.trans hy9)))
    clear hy7 hy8 hy9 HO HY6 HZ6
    go_wp2_with fail
    go_ret2
    rw [HLE.out]
    exact ⟨_, rfl, ⟨HO9.out.1, own_less HO9.out.2 HB.out.size⟩, HB9.out⟩
  · go_simp
    have hbl := (Bl.refl Y1).alloc (.cells #[.string key, .int .i64 ak, .float .f64 ax, .int .i64 an, .string az] 63)
    have HS := Lib.hid (SG.lit (size := 5) (HLIT.out Y1) rfl (by simp [writeCs, Value.oneCell']))
    have HY2 := Lib.hid (hy1.trans hbl)
    clear hy1 hbl
    generalize Y1.alloc _ = Y2 at *
    generalize Y1.heap.size = gl at *
    refine ⟨HY2.out, ?_⟩
    refine wpAnyE_one (i := 1) (by kernel_rfl) ?_
    intro Y3 hy3
    go_simp
    refine (wclone_any a n c ws Y3 (HW.out.keep (HB.out.trans (HY2.out.trans hy3))) (by omega)).mono ?_
    rintro e Y4 ⟨v, rfl, hv, hb2⟩
    have HY4 := Lib.hid (HY2.out.trans (hy3.trans hb2))
    have HV4 := Lib.hid (show OWR Z.heap.size Y4 v n ws from ⟨hv.1, own_less hv.2 (HY2.out.trans hy3).size⟩)
    have HS2 := Lib.hid (HS.out.keep (hy3.trans hb2))
    obtain ⟨va, vc, hve⟩ := OWR.form hv
    subst hve
    clear hy3 hb2 hv HS HY2
    refine ⟨_, rfl, HY4.out, ?_⟩
    have HS := HS2
    clear HS2
    refine wpAnyE_one (i := 6) (by kernel_rfl) ?_
    intro Y5 hy5
    have HS5 := Lib.hid (HS.out.keep hy5)
    have HV5 := Lib.hid (HV4.out.keep hy5)
    have HY5 := Lib.hid (HB.out.trans (HY4.out.trans hy5))
    have HZ5 := Lib.hid (HY4.out.trans hy5)
    clear hy5 HS HV4 HY4
    refine eOp_appG rfl rfl _ _ _ rfl el_wr Z.heap.size (.slice va n vc) n (cellsW ws) rfl HV5.out.2 HZ5.out.size (some ⟨gl, 0, none⟩) 1 1 (writeCs (key, ⟨ak, ax, an, az⟩)) rfl HS5.out (by unfold maxLen; omega) (by omega) ?_
    intro v' Y6 ho hgr
    have HO : Hid (OWR Z.heap.size Y6 v' (n + 1) (ws ++ [(key, ⟨ak, ax, an, az⟩)])) := Lib.hid ⟨HLE.out, by rw [cellsW_snoc]; exact ho⟩
    have HY6 : Hid (Bl w Y6) := Lib.hid (Bl.ownRow HY5.out HV5.out.2 HB.out.size hgr)
    have HZ6 : Hid (Bl Z Y6) := Lib.hid (Bl.ownRow HZ5.out HV5.out.2 (Nat.le_refl _) hgr)
    clear ho hgr HS5 HV5 HY5 HZ5
    refine ⟨HZ6.out, ?_⟩
    simp only [Act.put, List.setIfInBounds_toArray]
    refine wpAnyE_one (i := 7) (by kernel_rfl) ?_
    intro Y7 hy7
    go_simp
    refine ⟨HZ6.out.trans hy7, ?_⟩
    refine wpAnyE_one (i := 8) (by kernel_rfl) ?_
    intro Y8 hy8
    go_simp
    refine ⟨HZ6.out.trans (hy7.trans hy8), ?_⟩
    refine wpAnyE_done (by kernel_rfl) ?_
    intro Y9 hy9
    have HO9 := Lib.hid (HO.out.keep (hy7.trans (hy8.trans hy9)))
    have HB9 := Lib.hid (HY6.out.trans (hy7.trans (hy8.trans hy9)))
    clear hy7 hy8 hy9 HO HY6 HZ6
    go_wp2_with fail
    go_ret2
    rw [HLE.out]
    exact ⟨_, rfl, ⟨HO9.out.1, own_less HO9.out.2 HB.out.size⟩, HB9.out⟩
end Go.Proofs.YtfmabjoindlfeaaGreat
end

/- txn.Part, Read. By an AI agent. -/
section
set_option linter.unusedVariables false
set_option linter.unusedSimpArgs false
namespace Go.Proofs.YtfmabjoindlfeaaGreat
open Go.RowKit


/-- the two boxes of Read -/
structure TRB (w W : World) (b : Bool) (x : Nat) (n : Int) (s : ByteArray) : Prop where
  bl : Bl w W
  a : AC W w.heap.size [.bool b, .float .f64 x, .int .i64 n, .string s]
  r : AC W (w.heap.size + 1) [.bool false, .float .f64 0, .int .i64 0, .string ⟨#[]⟩]
theorem TRB.keep {w W W' : World} {b : Bool} {x : Nat} {n : Int} {s : ByteArray} (h : TRB w W b x n s) (k : Bl W W') : TRB w W' b x n s := ⟨h.bl.trans k, h.a.keep k, h.r.keep k⟩
theorem TRB.new (w : World) (b : Bool) (x : Nat) (n : Int) (s : ByteArray) (T U : TypeId) : TRB w ((w.alloc (.cells #[.bool b, .float .f64 x, .int .i64 n, .string s] T)).alloc (.cells #[.bool false, .float .f64 0, .int .i64 0, .string ⟨#[]⟩] U)) b x n s :=
  ⟨((Bl.refl w).alloc _).alloc _, (AC.new w _ rfl [.bool b, .float .f64 x, .int .i64 n, .string s] T).keep ((Bl.refl _).alloc _), AC.new _ (w.heap.size + 1) (by simp) [.bool false, .float .f64 0, .int .i64 0, .string ⟨#[]⟩] U⟩
theorem TRB.set {w W : World} {b : Bool} {x : Nat} {n : Int} {s : ByteArray} (h : TRB w W b x n s) (b2 : Bool) (x2 : Nat) (n2 : Int) (s2 : ByteArray) :
    TRB w ((((W.setCell ⟨w.heap.size, 0, none⟩ (.bool b2)).setCell ⟨w.heap.size, 1, none⟩ (.float .f64 x2)).setCell ⟨w.heap.size, 2, none⟩ (.int .i64 n2)).setCell ⟨w.heap.size, 3, none⟩ (.string s2)) b2 x2 n2 s2 :=
  ⟨h.bl.store4 (Nat.le_refl _) _ _ _ _, h.a.set4 _ _ _ _, h.r.other4 (by omega) _ _ _ _⟩
theorem tread_results {tmps : Array Value} {W : World} {g : Nat} {b : Bool} {x : Nat} {n : Int} {s : ByteArray} (h : tmps.getD 6 undef = .pointer (some ⟨g, 0, none⟩)) (hc : AC W g [.bool b, .float .f64 x, .int .i64 n, .string s]) :
    (results Tryz.f21 tmps).run Tryz.prog W = .ok (.agg #[.bool b, .float .f64 x, .int .i64 n, .string s]) W := by
  rw [Array.getD_eq_getD_getElem?] at h
  obtain ⟨c0, c1, c2, c3⟩ := hc.val
  simp [results, Tryz.results21, go_sem, h, c0, c1, c2, c3]
def TRBV (w W : World) (v : ValL) : Prop := TRB w W v.there v.x v.n v.s
theorem readW_take (key : ByteArray) (v : ValL) (ws : List (ByteArray × ActL)) {k : Nat} (hk : k < ws.length) : readW key v (ws.take (k + 1)) = if (nthW ws k).1 = key then afterL key (readW key v (ws.take k)) (nthW ws k).2 else readW key v (ws.take k) := by
  rw [List.take_succ_eq_append_getElem hk, readW_snoc, ← nthW_eq hk]
set_option maxHeartbeats 3200000 in
set_option maxRecDepth 100000 in
theorem tread_any (a : Option Addr) (n c : Nat) (ws : List (ByteArray × ActL)) (key : ByteArray) (v : ValL) (w : World) (h : WW w a n ws) (hk : key.size ≤ 140737488351232) (ov : v.Ok) :
    Calls Tryz.prog 21 #[.slice a n c, .string key, .agg #[.bool v.there, .float .f64 v.x, .int .i64 v.n, .string v.s]] w fun e w' =>
      e = .returned (.agg #[.bool (readW key v ws).there, .float .f64 (readW key v ws).x, .int .i64 (readW key v ws).n, .string (readW key v ws).s]) ∧ Bl w w' := by
  have hsf := store_float
  have hcap := h.cap
  have HW := Lib.hid h
  have HL := Lib.hid h.len
  have OV := Lib.hid ov
  have G := TRB.new w v.there v.x v.n v.s 67 67
  clear h ov
  obtain ⟨u, hu⟩ : ∃ u, readW key v ws = u := ⟨_, rfl⟩
  have HU := Lib.hid hu
  rw [hu]
  clear hu
  go_enter Tryz.func21, Tryz.ntmps21
  go_wp2_with fail
  generalize (w.alloc _).alloc _ = W at *
  have HG := Lib.hid G
  clear G
  go_loopw [11] (fun i wr => ∃ k : Nat, k ≤ n ∧ i = .int .i64 k ∧ TRBV w wr (readW key v (ws.take k))) (fun i _ => n - (intOf i).toNat)
  case atStart => exact ⟨0, Nat.zero_le _, rfl, HG.out⟩
  case round =>
    clear HG
    obtain ⟨k, hkn, rfl, hb⟩ := hrel
    have HB := Lib.hid hb
    clear hb
    by_cases hlt : k < n
    · have hkl : k < ws.length := by rw [HL.out]; exact hlt
      have HST := Lib.hid (readW_take key v ws hkl)
      have HVO := Lib.hid (readW_ok (key := key) OV.out (ws.take k) (fun p hp => (HW.out.ok p (List.mem_of_mem_take hp)).2))
      have HOK := Lib.hid (HW.out.ok _ (nthW_mem hkl))
      obtain ⟨ba, oa, rfl, _⟩ := HW.out.cells k hlt
      obtain ⟨c0, c1, c2, c3, c4⟩ := HW.out.get HB.out.bl hlt
      clear hkl
      generalize readW key v (ws.take k) = r at *
      generalize nthW ws k = p at *
      obtain ⟨pk, ⟨ak, ax, an, az⟩⟩ := p
      obtain ⟨rb, rx, rn, rs⟩ := r
      dsimp only at c0 c1 c2 c3 c4
      have hgp := AC.new wr _ rfl [.string pk, .int .i64 ak, .float .f64 ax, .int .i64 an, .string az] 63
      have hbp := (Bl.refl wr).alloc (.cells #[.string pk, .int .i64 ak, .float .f64 ax, .int .i64 an, .string az] 63)
      have g0 := hgp.cell 0 _ rfl
      have g1 := hgp.cell 1 _ rfl
      have g2 := hgp.cell 2 _ rfl
      have g3 := hgp.cell 3 _ rfl
      have g4 := hgp.cell 4 _ rfl
      have HB1 := Lib.hid (show TRB w _ rb rx rn rs from TRB.keep HB.out hbp)
      obtain ⟨v0, v1, v2, v3⟩ := HB1.out.a.val
      by_cases hq : pk = key
      · subst hq
        have q : (pk.toList == pk.toList) = true := by simp
        obtain ⟨⟨nb, nx, nn, ns⟩, hN⟩ : ∃ N : ValL, afterL pk ⟨rb, rx, rn, rs⟩ ⟨ak, ax, an, az⟩ = N := ⟨_, rfl⟩
        have HN := Lib.hid hN
        have HST2 : Hid (readW pk v (ws.take (k + 1)) = ⟨nb, nx, nn, ns⟩) := Lib.hid (by rw [HST.out, if_pos rfl]; exact hN)
        have HAO := Lib.hid HOK.out.2
        clear hN hgp HST HB
        go_wp2_with fail
        clear g0 g1 g2 g3 g4 v0 v1 v2 v3 c0 c1 c2 c3 c4
        refine (after_agg pk rb rx rn rs ak ax an az nb nx nn ns _ HN hk HVO HAO).mono ?_
        rintro e w1 ⟨rfl, hb1⟩
        have HB2 := Lib.hid (HB1.out.keep hb1)
        clear hb1 hbp HB1
        have fr := HB2.out.a.frozen
        obtain ⟨v0, v1, v2, v3⟩ := HB2.out.a.val
        go_wp2_with fail
        go_roundw
        case rel => exact ⟨k + 1, by omega, by go_num, by rw [HST2.out]; exact HB2.out.set nb nx nn ns⟩
        case measure => simp [intOf]; omega
      · have q : (pk.toList == key.toList) = false := by
          rw [beq_eq_false_iff_ne]
          exact fun e => hq (toList_inj e)
        have HST2 : Hid (readW key v (ws.take (k + 1)) = ⟨rb, rx, rn, rs⟩) := Lib.hid (by rw [HST.out, if_neg hq])
        clear hgp HST HB hq
        go_wp2_with fail
        go_roundw
        case rel => exact ⟨k + 1, by omega, by go_num, by rw [HST2.out]; exact HB1.out⟩
        case measure => simp [intOf]; omega
    · have hkn2 : k = n := by omega
      subst hkn2
      have e : readW key v (ws.take k) = u := by rw [List.take_of_length_le (by rw [HL.out]; exact Nat.le_refl _)]; exact HU.out
      rw [e] at HB
      clear e
      obtain ⟨ub, ux, un, us⟩ := u
      have HB2 : Hid (TRB w wr ub ux un us) := Lib.hid HB.out
      clear HB
      have fr := HB2.out.r.frozen
      obtain ⟨v0, v1, v2, v3⟩ := HB2.out.a.val
      obtain ⟨r0, r1, r2, r3⟩ := HB2.out.r.val
      go_wp2_with fail
      refine bodyPost_ret (tread_results rfl (HB2.out.r.fill [.bool ub, .float .f64 ux, .int .i64 un, .string us] rfl)) rfl ⟨rfl, Bl.fill (Nat.le_succ _) [.bool ub, .float .f64 ux, .int .i64 un, .string us] _ 0 HB2.out.bl⟩
end Go.Proofs.YtfmabjoindlfeaaGreat
end

/- slices of ints that are written out; a string of known bytes. By an AI agent. -/
section
namespace Go.Proofs.YtfmabjoindlfeaaGreat
open Go.RowKit

theorem IA.lit (w : World) (xs : List Int) (t : TypeId) (hc : xs.length ≤ 1000) (hw : ∀ x ∈ xs, -9223372036854775808 ≤ x ∧ x ≤ 9223372036854775807) :
    IA (w.alloc (.cells (xs.map (Value.int .i64)).toArray t)) (some ⟨w.heap.size, 0, none⟩) xs.length xs :=
  ⟨rfl, by omega, fun j hj => ⟨w.heap.size, 0, rfl, fun j hj => by
    rw [Nat.zero_add, cell_of_row _ w.heap.size j _ t (0, 0) (heap_alloc_new w _)]
    simp [nth_eq hj, hj]⟩, hw⟩

theorem IA.lit_at (w : World) (g : Nat) (xs : List Int) (t : TypeId) (hg : g = w.heap.size) (hc : xs.length ≤ 1000) (hw : ∀ x ∈ xs, -9223372036854775808 ≤ x ∧ x ≤ 9223372036854775807) :
    IA (w.alloc (.cells (xs.map (Value.int .i64)).toArray t)) (some ⟨g, 0, none⟩) xs.length xs := by subst hg; exact IA.lit w xs t hc hw


end Go.Proofs.YtfmabjoindlfeaaGreat
end

/- the law's own first call, of chapter 21. By an AI agent. -/
section
set_option linter.unusedVariables false
set_option linter.unusedSimpArgs false
namespace Go.Proofs.YtfmabjoindlfeaaGreat
open Go.RowKit

def k21 : ByteArray := ⟨#[99, 49]⟩
def a21 (n : Int) : ActL := ⟨1, 0, n, ⟨#[]⟩⟩
def t21 : TxnL := ⟨0, 1, 0, [0], [5], [(k21, a21 12)]⟩
theorem t21_valid : validT t21 = true := by decide +kernel
theorem t21_add1 : addLs [] k21 (a21 5) = [(k21, a21 5)] ∧ addC 0 k21 (a21 5) = 0 := by
  have h : fitsB k21 (a21 5) = true := by decide +kernel
  unfold addLs addC
  rw [if_pos ⟨h, by decide⟩, if_pos h, if_pos (by decide)]
  exact ⟨rfl, rfl⟩
theorem t21_add2 : addLs [(k21, a21 5)] k21 (a21 7) = [(k21, a21 5), (k21, a21 7)] ∧ addC 1 k21 (a21 7) = 0 := by
  have h : fitsB k21 (a21 7) = true := by decide +kernel
  unfold addLs addC
  rw [if_pos ⟨h, by decide⟩, if_pos h, if_pos (by decide)]
  exact ⟨rfl, rfl⟩
theorem t21_both : bothL k21 (a21 5) (a21 7) = a21 12 := by
  have h1 : regB k21 = false := by decide +kernel
  have h2 : fitsB k21 (a21 5) = true := by decide +kernel
  have h3 : fitsB k21 (a21 7) = true := by decide +kernel
  unfold bothL
  rw [h1, h2, h3, if_neg (by decide)]
  show (⟨1, 0, wrap64 (5 + 7), nilS⟩ : ActL) = _
  rw [show wrap64 (5 + 7) = 12 by decide +kernel]
  rfl
theorem t21_fold : foldW [(k21, a21 5), (k21, a21 7)] = [(k21, a21 12)] := by
  have e1 : addW [] (k21, a21 5) = [(k21, a21 5)] := addW_fresh rfl
  show addW (addW [] (k21, a21 5)) (k21, a21 7) = _
  have e2 := addW_set (out := [(k21, a21 5)]) (p := (k21, a21 7)) (i := 0) (by decide) rfl (by simp)
  rw [e1, e2]
  show [(k21, bothL k21 (a21 5) (a21 7))] = _
  rw [t21_both]
theorem t21_read : (readW k21 ⟨true, 0, 2, ⟨#[]⟩⟩ [(k21, a21 5), (k21, a21 7)]).n = 14 := by decide +kernel
theorem t21_ok : TxOk t21 := by
  refine ⟨by decide, by decide, by decide, fun p hp => ?_⟩
  obtain rfl : p = (k21, a21 12) := by simpa [t21] using hp
  exact ⟨by decide, by decide, by decide, by decide, by decide⟩
theorem t21_put : ptC t21 = 0 ∧ ptL t21 = putTx t21 := ptC_put t21_valid (by decide +kernel)
theorem t21_rd : rdTx (putTx t21) = some (canonT t21) := rdTx_put t21_valid t21_ok (by decide +kernel)
theorem sameA_symm {a b : ActL} (h : sameA a b = true) : sameA b a = true := by
  rw [sameA_iff] at h ⊢
  exact ⟨h.1.symm, h.2.1.symm, h.2.2.1.symm, h.2.2.2.symm⟩
theorem sameWs_symm {a b : List (ByteArray × ActL)} (h : sameWs a b = true) : sameWs b a = true := by
  obtain ⟨h1, h2⟩ := sameWs_iff.1 h
  exact sameWs_iff.2 ⟨h1.symm, fun i hi => ⟨((h2 i (by omega)).1).symm, sameA_symm (h2 i (by omega)).2⟩⟩
theorem sameT_symm {a b : TxnL} (h : sameT a b = true) : sameT b a = true := by
  obtain ⟨h1, h2, h3, h4, h5, h6⟩ := sameT_iff.1 h
  exact sameT_iff.2 ⟨h1.symm, h2.symm, h3.symm, h4.symm, h5.symm, sameWs_symm h6⟩
theorem t21_same : sameT t21 (canonT t21) = true := sameT_symm (canonT_same (validT_parts t21_valid) t21_ok)
theorem OWR.ww {B : Nat} {w : World} {a : Option Addr} {k k' ca : Nat} {ps : List (ByteArray × ActL)} (h : OWR B w (.slice a k' ca) k ps) (hk : k ≤ 1000000) (ok : ∀ p ∈ ps, WrOk p) : WW w a k ps := (h.far hk).1.ww ok
theorem a21_ok (n : Int) (h : -9223372036854775808 ≤ n ∧ n ≤ 9223372036854775807) : WrOk (k21, a21 n) := ⟨by show (2 : Nat) ≤ _; decide, by show (-9223372036854775808 : Int) ≤ 1 ∧ (1 : Int) ≤ 9223372036854775807; decide, by show (0 : Nat) < two64; decide, h, by show (0 : Nat) ≤ _; decide⟩
theorem canon_ok21 : TxOk (canonT t21) := canonT_ok (validT_parts t21_valid) t21_ok
set_option maxHeartbeats 6400000 in
set_option maxRecDepth 100000 in
theorem alive21_any (w : World) : Calls Tryz.prog 5 #[] w fun e w' => e = .returned (.bool true) ∧ Bl w w' := by
  have hsf := store_float
  have HA1 := Lib.hid (tadd_any none 0 0 [] k21 (a21 5) w (WW.nil w none) (by decide) (a21_ok 5 (by decide)).2)
  rw [t21_add1.1, t21_add1.2] at HA1
  go_enter Tryz.func5, Tryz.ntmps5
  go_wp2_with fail
  refine HA1.out.mono ?_
  rintro e w1 ⟨v1, rfl, ho1, hb1⟩
  obtain ⟨a1, c1, rfl⟩ := ho1.form
  have hok1 : ∀ p ∈ [(k21, a21 5)], WrOk p := fun p hp => by obtain rfl := List.mem_singleton.1 hp; exact a21_ok 5 (by decide)
  have HA2 := Lib.hid (tadd_any a1 1 c1 [(k21, a21 5)] k21 (a21 7) w1 (ho1.ww (by decide) hok1) (by decide) (a21_ok 7 (by decide)).2)
  rw [t21_add2.1, t21_add2.2] at HA2
  have HB1 := Lib.hid hb1
  clear ho1 hb1 hok1 HA1
  go_wp2_with fail
  refine HA2.out.mono ?_
  rintro e w2 ⟨v2, rfl, ho2, hb2⟩
  obtain ⟨a2, c2, rfl⟩ := ho2.form
  have hok2 : ∀ p ∈ [(k21, a21 5), (k21, a21 7)], WrOk p := fun p hp => by
    simp only [List.mem_cons, List.not_mem_nil, or_false] at hp
    rcases hp with rfl | rfl
    · exact a21_ok 5 (by decide)
    · exact a21_ok 7 (by decide)
  have HW2 := Lib.hid (ho2.ww (by decide) hok2)
  have HB2 := Lib.hid (HB1.out.trans hb2)
  have HRD := Lib.hid (tread_any a2 2 c2 [(k21, a21 5), (k21, a21 7)] k21 ⟨true, 0, 2, ⟨#[]⟩⟩ w2 HW2.out (by decide) ⟨by show (0 : Nat) < two64; decide, by decide, by decide⟩)
  obtain ⟨⟨rb, rx, rn, rs⟩, hr⟩ : ∃ r, readW k21 ⟨true, 0, 2, ⟨#[]⟩⟩ [(k21, a21 5), (k21, a21 7)] = r := ⟨_, rfl⟩
  have hr14 := t21_read
  rw [hr] at HRD hr14
  dsimp only at HRD hr14
  subst hr14
  clear ho2 hb2 hok2 HB1 HA2 hr
  go_wp2_with fail
  refine HRD.out.mono ?_
  rintro e w3 ⟨rfl, hb3⟩
  have hgv := AC.new w3 _ rfl [.bool rb, .float .f64 rx, .int .i64 14, .string rs] 67
  have hbv := (Bl.refl w3).alloc (.cells #[.bool rb, .float .f64 rx, .int .i64 14, .string rs] 67)
  have HW3 := Lib.hid (HW2.out.keep (hb3.trans hbv))
  have HB3 := Lib.hid (HB2.out.trans (hb3.trans hbv))
  clear HW2 HB2 hb3 hbv HRD
  go_upto_region 4 with fail
  have HGV := Lib.hid hgv
  generalize w3.alloc _ = X3 at *
  generalize w3.heap.size = gv at *
  clear hgv
  have I0 := (IA.lit X3 [0] 3 (by decide) (by decide)).keep ((Bl.refl _).alloc (.cells #[.int .i64 5] 3))
  have I5 := IA.lit_at (X3.alloc (.cells #[.int .i64 0] 3)) (X3.heap.size + 1) [5] 3 (by simp) (by decide) (by decide)
  have hbx := ((Bl.refl X3).alloc (.cells #[.int .i64 0] 3)).alloc (.cells #[.int .i64 5] 3)
  have HI := Lib.hid (show IA ((X3.alloc (.cells #[.int .i64 0] 3)).alloc (.cells #[.int .i64 5] 3)) (some ⟨X3.heap.size, 0, none⟩) 1 [0] ∧ IA ((X3.alloc (.cells #[.int .i64 0] 3)).alloc (.cells #[.int .i64 5] 3)) (some ⟨X3.heap.size + 1, 0, none⟩) 1 [5] from ⟨I0, I5⟩)
  have HF := Lib.hid (tfold_any a2 2 c2 [(k21, a21 5), (k21, a21 7)] ((X3.alloc (.cells #[.int .i64 0] 3)).alloc (.cells #[.int .i64 5] 3)) (HW3.out.keep hbx))
  rw [t21_fold] at HF
  have HB4 := Lib.hid (HB3.out.trans hbx)
  have HGV4 := Lib.hid (HGV.out.keep hbx)
  clear I0 I5 hbx HB3 HGV HW3
  go_wp2_with fail
  refine HF.out.mono ?_
  clear HF
  generalize hX4 : (X3.alloc (.cells #[.int .i64 0] 3)).alloc _ = X4 at *
  clear hX4
  generalize X3.heap.size = gi at *
  rintro e w5 ⟨v5, rfl, ho5, hb5⟩
  obtain ⟨a5, c5, rfl⟩ := ho5.form
  have hT : TX w5 ⟨some ⟨gi, 0, none⟩, 1, 1, some ⟨gi + 1, 0, none⟩, 1, 1, a5, 1, c5⟩ t21 := ⟨HI.out.1.keep hb5, HI.out.2.keep hb5, ho5.ww (by decide) (fun p hp => by obtain rfl := List.mem_singleton.1 hp; exact a21_ok 12 (by decide)), by decide, by decide, by decide⟩
  have hgt := AC.new w5 _ rfl [.int .i64 0, .int .i64 1, .int .i64 0, .slice (some ⟨gi, 0, none⟩) 1 1, .slice (some ⟨gi + 1, 0, none⟩) 1 1, .slice a5 1 c5] 26
  have hbt := (Bl.refl w5).alloc (.cells #[.int .i64 0, .int .i64 1, .int .i64 0, .slice (some ⟨gi, 0, none⟩) 1 1, .slice (some ⟨gi + 1, 0, none⟩) 1 1, .slice a5 1 c5] 26)
  have HT := Lib.hid (hT.keep hbt)
  have HB5 := Lib.hid (HB4.out.trans (hb5.trans hbt))
  have HGV5 := Lib.hid (HGV4.out.keep (hb5.trans hbt))
  clear hT hbt hb5 HB4 HGV4 HI ho5
  go_upto_region 5 with fail
  have HGT := Lib.hid hgt
  generalize w5.alloc _ = X5 at *
  generalize w5.heap.size = gt at *
  clear hgt
  have b0 := HGT.out.cell 0 _ rfl
  have b1 := HGT.out.cell 1 _ rfl
  have b2 := HGT.out.cell 2 _ rfl
  have b3 := HGT.out.cell 3 _ rfl
  have b4 := HGT.out.cell 4 _ rfl
  have b5 := HGT.out.cell 5 _ rfl
  have HPUT := Lib.hid (txPut_any t21 _ X5 HT.out)
  rw [t21_put.1, t21_put.2] at HPUT
  unfold txV t21 at HPUT
  dsimp only at HPUT
  go_wp2_with fail
  clear b0 b1 b2 b3 b4 b5
  refine HPUT.out.mono ?_
  rintro e w6 ⟨rfl, hb6⟩
  clear HPUT
  have HB6 := Lib.hid (HB5.out.trans hb6)
  have HGV6 := Lib.hid (HGV5.out.keep hb6)
  have HGT6 := Lib.hid (HGT.out.keep hb6)
  have HT6 := Lib.hid (HT.out.keep hb6)
  have HGET := Lib.hid (fun w => txGet_any (putTx t21) w)
  unfold t21 at HGET
  clear hb6 HB5 HGV5 HGT HT
  go_wp2_with fail
  refine (HGET.out _).mono ?_
  rintro e w7 (⟨u, s7, hu, rfl, hx7, hb7⟩ | ⟨hu, _⟩)
  case inr => have := t21_rd; unfold t21 at this; rw [this] at hu; cases hu
  have hu2 : u = canonT t21 := by have := t21_rd; unfold t21 at this; rw [this] at hu; exact (Option.some.inj hu).symm
  have hTU : TX w7 s7 u := hx7.tx (by rw [hu2]; exact canon_ok21)
  have hSM : sameT t21 u = true := by rw [hu2]; exact t21_same
  have HSM := Lib.hid hSM
  clear hu hu2 hSM hx7 HGET
  obtain ⟨uo, unum, uprev, uds, uxs, uws⟩ := u
  obtain ⟨da, dn, dc, aa, an, ac, wa, wn, wc⟩ := s7
  unfold txV
  dsimp only
  have hgu := AC.new w7 _ rfl [.int .i64 uo, .int .i64 unum, .int .i64 uprev, .slice da dn dc, .slice aa an ac, .slice wa wn wc] 26
  have hbu := (Bl.refl w7).alloc (.cells #[.int .i64 uo, .int .i64 unum, .int .i64 uprev, .slice da dn dc, .slice aa an ac, .slice wa wn wc] 26)
  have HU := Lib.hid (hTU.keep hbu)
  have HB8 := Lib.hid (HB6.out.trans (hb7.trans hbu))
  have HGV8 := Lib.hid (HGV6.out.keep (hb7.trans hbu))
  have HGT8 := Lib.hid (HGT6.out.keep (hb7.trans hbu))
  have HT8 := Lib.hid (HT6.out.keep (hb7.trans hbu))
  clear hTU hb7 hbu HB6 HGV6 HGT6 HT6
  go_upto_region 7 with fail
  have HGU := Lib.hid hgu
  generalize w7.alloc _ = X8 at *
  generalize w7.heap.size = gu at *
  clear hgu
  have v2 := HGV8.out.cell 2 _ rfl
  have b0 := HGT8.out.cell 0 _ rfl
  have b1 := HGT8.out.cell 1 _ rfl
  have b2 := HGT8.out.cell 2 _ rfl
  have b3 := HGT8.out.cell 3 _ rfl
  have b4 := HGT8.out.cell 4 _ rfl
  have b5 := HGT8.out.cell 5 _ rfl
  have HVA := Lib.hid (txValid_any t21 _ X8 HT8.out)
  rw [t21_valid] at HVA
  unfold txV t21 at HVA
  dsimp only at HVA
  go_wp2_with fail
  clear b0 b1 b2 b3 b4 b5 v2
  refine HVA.out.mono ?_
  rintro e X9 ⟨rfl, hb9⟩
  have HB9 := Lib.hid (HB8.out.trans hb9)
  have HGT9 := Lib.hid (HGT8.out.keep hb9)
  have HGU9 := Lib.hid (HGU.out.keep hb9)
  have HT9 := Lib.hid (HT8.out.keep hb9)
  have HU9 := Lib.hid (HU.out.keep hb9)
  clear hb9 HB8 HGT8 HGU HT8 HU HGV8 HVA
  have b0 := HGT9.out.cell 0 _ rfl
  have b1 := HGT9.out.cell 1 _ rfl
  have b2 := HGT9.out.cell 2 _ rfl
  have b3 := HGT9.out.cell 3 _ rfl
  have b4 := HGT9.out.cell 4 _ rfl
  have b5 := HGT9.out.cell 5 _ rfl
  have e0 := HGU9.out.cell 0 _ rfl
  have e1 := HGU9.out.cell 1 _ rfl
  have e2 := HGU9.out.cell 2 _ rfl
  have e3 := HGU9.out.cell 3 _ rfl
  have e4 := HGU9.out.cell 4 _ rfl
  have e5 := HGU9.out.cell 5 _ rfl
  have HSA := Lib.hid (txSame_any t21 _ _ _ X9 HT9.out HU9.out)
  rw [HSM.out] at HSA
  unfold txV t21 at HSA
  dsimp only at HSA
  go_wp2_with fail
  clear e0 e1 e2 e3 e4 e5 b0 b1 b2 b3 b4 b5
  refine HSA.out.mono ?_
  rintro e X10 ⟨rfl, hb10⟩
  have HB10 := Lib.hid (HB9.out.trans hb10)
  have HGT10 := Lib.hid (HGT9.out.keep hb10)
  have HT10 := Lib.hid (HT9.out.keep hb10)
  clear hb10 HB9 HGT9 HGU9 HT9 HU9 HSA
  have b0 := HGT10.out.cell 0 _ rfl
  have b1 := HGT10.out.cell 1 _ rfl
  have b2 := HGT10.out.cell 2 _ rfl
  have b3 := HGT10.out.cell 3 _ rfl
  have b4 := HGT10.out.cell 4 _ rfl
  have b5 := HGT10.out.cell 5 _ rfl
  have HVE := Lib.hid (txVers_any t21 _ X10 HT10.out (by show (1 : Nat) ≤ 1000000; decide))
  rw [t21_valid] at HVE
  unfold txV t21 at HVE
  dsimp only at HVE
  rw [if_pos rfl] at HVE
  go_wp2_with fail
  clear b0 b1 b2 b3 b4 b5
  refine HVE.out.mono ?_
  rintro e X11 ⟨ra, rc, rfl, hb11⟩
  go_wp2_with fail
  go_ret
  exact ⟨rfl, HB10.out.trans hb11⟩
end Go.Proofs.YtfmabjoindlfeaaGreat
end
