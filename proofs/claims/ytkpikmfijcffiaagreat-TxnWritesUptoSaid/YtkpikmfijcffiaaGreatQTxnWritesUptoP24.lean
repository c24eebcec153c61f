import Derived.Test.YtkpikmfijcffiaaGreatQOp4
import Derived.Test.YtkpikmfijcffiaaGreatQTxnWritesUptoP23
import Derived.Test.YtkpikmfijcffiaaGreatQTxnWritesUptoP4

/- op.Both. By an AI agent. -/
section
namespace Go.Proofs.YtkpikmfijcffiaaGreat
open Go.RowKit

/-- the three boxes of op.Both -/
structure B3 (w W : World) (k : Int) (x : Nat) (n : Int) (s : ByteArray) (l : Int) (y : Nat) (m : Int) (t : ByteArray) : Prop where
  bl : Bl w W
  a : AC W w.heap.size [.int .i64 k, .float .f64 x, .int .i64 n, .string s]
  b : AC W (w.heap.size + 1) [.int .i64 l, .float .f64 y, .int .i64 m, .string t]
  r : AC W (w.heap.size + 1 + 1) [.int .i64 0, .float .f64 0, .int .i64 0, .string ⟨#[]⟩]
theorem B3.keep {w W W' : World} {k : Int} {x : Nat} {n : Int} {s : ByteArray} {l : Int} {y : Nat} {m : Int} {t : ByteArray} (h : B3 w W k x n s l y m t) (hb : Bl W W') : B3 w W' k x n s l y m t :=
  ⟨h.bl.trans hb, h.a.keep hb, h.b.keep hb, h.r.keep hb⟩
theorem B3.new (w : World) (k : Int) (x : Nat) (n : Int) (s : ByteArray) (l : Int) (y : Nat) (m : Int) (t : ByteArray) (T U V : TypeId) :
    B3 w (((w.alloc (.cells #[.int .i64 k, .float .f64 x, .int .i64 n, .string s] T)).alloc (.cells #[.int .i64 l, .float .f64 y, .int .i64 m, .string t] U)).alloc (.cells #[.int .i64 0, .float .f64 0, .int .i64 0, .string ⟨#[]⟩] V)) k x n s l y m t := by
  refine ⟨(((Bl.refl w).alloc _).alloc _).alloc _, ?_, ?_, ?_⟩
  · exact ((AC.new w _ rfl [_, _, _, _] _).keep ((Bl.refl _).alloc _)).keep ((Bl.refl _).alloc _)
  · exact (AC.new _ (w.heap.size + 1) (by simp) [_, _, _, _] _).keep ((Bl.refl _).alloc _)
  · exact AC.new _ (w.heap.size + 1 + 1) (by simp) [_, _, _, _] _

set_option maxHeartbeats 1600000 in
set_option maxRecDepth 100000 in
theorem both_any (key : ByteArray) (a b : ActL) (w : World) (hkey : key.size ≤ 140737488351232) (oa : a.Ok) (ob : b.Ok) :
    Calls Tryz.prog 28 #[.string key, a.v, b.v] w fun e w' => e = .returned (bothL key a b).v ∧ Bl w w' := by
  obtain ⟨k, x, n, s⟩ := a
  obtain ⟨l, y, m, t⟩ := b
  have hsf := store_float
  have OA := Lib.hid oa
  have OB := Lib.hid ob
  clear oa ob
  show Calls Tryz.prog 28 #[.string key, .agg #[.int .i64 k, .float .f64 x, .int .i64 n, .string s], .agg #[.int .i64 l, .float .f64 y, .int .i64 m, .string t]] w _
  cases hr : regB key
  · have HR := Lib.hid hr
    go_enter Tryz.func28, Tryz.ntmps28
    go_wp2_with fail
    refine (registers_any key _ hkey).mono ?_
    rintro e w' ⟨rfl, rfl⟩
    rw [hr]
    clear hr
    go_wp2_with fail
    refine (fits_any key ⟨k, x, n, s⟩ _ hkey OA.out).mono ?_
    rintro e w1 ⟨rfl, hb1⟩
    have G := (B3.new w k x n s l y m t _ _ _).keep hb1
    clear hb1
    obtain ⟨a0, a1, a2, a3⟩ := G.a.act
    obtain ⟨b0, b1, b2, b3⟩ := G.b.act
    obtain ⟨r0, r1, r2, r3⟩ := G.r.act
    have f0 := G.r.frozen 0
    have f1 := G.r.frozen 1
    have f2 := G.r.frozen 2
    have f3 := G.r.frozen 3
    cases hf : fitsB key ⟨k, x, n, s⟩
    · have HF := Lib.hid (show bothL key ⟨k, x, n, s⟩ ⟨l, y, m, t⟩ = ⟨l, y, m, t⟩ by simp [bothL, hf])
      clear hf
      go_wp2_with fail
      rw [HF.out]
      refine bodyPost_ret (v := ActL.v ⟨l, y, m, t⟩) (by simp [results, Tryz.results28, go_sem, ActL.v, r0, r1, r2, r3]) rfl ⟨rfl, ?_⟩
      exact G.bl.store4 (by omega) _ _ _ _
    · have HFA := Lib.hid hf
      clear hf
      go_wp2_with fail
      refine (fits_any key ⟨l, y, m, t⟩ _ hkey OB.out).mono ?_
      rintro e w2 ⟨rfl, hb2⟩
      have G := G.keep hb2
      clear hb2 a0 a1 a2 a3 b0 b1 b2 b3 r0 r1 r2 r3 f0 f1 f2 f3
      obtain ⟨a0, a1, a2, a3⟩ := G.a.act
      obtain ⟨b0, b1, b2, b3⟩ := G.b.act
      obtain ⟨r0, r1, r2, r3⟩ := G.r.act
      have f0 := G.r.frozen 0
      have f1 := G.r.frozen 1
      have f2 := G.r.frozen 2
      have f3 := G.r.frozen 3
      cases hf : fitsB key ⟨l, y, m, t⟩
      · have HF := Lib.hid (show bothL key ⟨k, x, n, s⟩ ⟨l, y, m, t⟩ = ⟨l, y, m, t⟩ by simp [bothL, hf])
        clear hf
        go_wp2_with fail
        rw [HF.out]
        refine bodyPost_ret (v := ActL.v ⟨l, y, m, t⟩) (by simp [results, Tryz.results28, go_sem, ActL.v, r0, r1, r2, r3]) rfl ⟨rfl, ?_⟩
        exact G.bl.store4 (by omega) _ _ _ _
      · have HF := Lib.hid (show bothL key ⟨k, x, n, s⟩ ⟨l, y, m, t⟩ = joined ⟨k, x, n, s⟩ ⟨l, y, m, t⟩ by simp [bothL, hf, HFA.out, HR.out])
        clear hf
        go_wp2_with fail
        refine (joined_any ⟨k, x, n, s⟩ ⟨l, y, m, t⟩ _ OA.out OB.out).mono ?_
        rintro e w3 ⟨rfl, hb3⟩
        have G := G.keep hb3
        clear hb3 a0 a1 a2 a3 b0 b1 b2 b3 r0 r1 r2 r3 f0 f1 f2 f3
        obtain ⟨r0, r1, r2, r3⟩ := G.r.act
        have f0 := G.r.frozen 0
        have f1 := G.r.frozen 1
        have f2 := G.r.frozen 2
        have f3 := G.r.frozen 3
        generalize joined ⟨k, x, n, s⟩ ⟨l, y, m, t⟩ = J at *
        obtain ⟨jk, jx, jn, js⟩ := J
        rw [show ActL.v ⟨jk, jx, jn, js⟩ = .agg #[.int .i64 jk, .float .f64 jx, .int .i64 jn, .string js] from rfl]
        go_wp2_with fail
        rw [HF.out]
        refine bodyPost_ret (v := ActL.v ⟨jk, jx, jn, js⟩) (by simp [results, Tryz.results28, go_sem, ActL.v, r0, r1, r2, r3]) rfl ⟨rfl, ?_⟩
        exact G.bl.store4 (by omega) _ _ _ _
  · have HF := Lib.hid (show bothL key ⟨k, x, n, s⟩ ⟨l, y, m, t⟩ = ⟨l, y, m, t⟩ by simp [bothL, hr])
    go_enter Tryz.func28, Tryz.ntmps28
    go_wp2_with fail
    refine (registers_any key _ hkey).mono ?_
    rintro e w' ⟨rfl, rfl⟩
    rw [hr]
    clear hr
    go_wp2_with fail
    rw [HF.out]
    refine bodyPost_ret (v := ActL.v ⟨l, y, m, t⟩) (by simp [results, Tryz.results28, go_sem, ActL.v]) rfl ⟨rfl, ?_⟩
    exact (((Bl.refl w).alloc _).alloc _).alloc _

end Go.Proofs.YtkpikmfijcffiaaGreat
end

/- op.Both, with structs taken apart. By an AI agent. -/
section
set_option linter.unusedVariables false
set_option linter.unusedSimpArgs false
namespace Go.Proofs.YtkpikmfijcffiaaGreat
open Go.RowKit

theorem both_agg (key : ByteArray) (l : Int) (y : Nat) (m : Int) (t : ByteArray) (k : Int) (x : Nat) (n : Int) (s : ByteArray) (rk : Int) (rx : Nat) (rn : Int) (rs : ByteArray) (w : World)
    (h : Hid (bothL key ⟨l, y, m, t⟩ ⟨k, x, n, s⟩ = ⟨rk, rx, rn, rs⟩)) (hkey : key.size ≤ 140737488351232) (ob : Hid (ActL.Ok ⟨l, y, m, t⟩)) (oa : Hid (ActL.Ok ⟨k, x, n, s⟩)) :
    Calls Tryz.prog 28 #[.string key, .agg #[.int .i64 l, .float .f64 y, .int .i64 m, .string t], .agg #[.int .i64 k, .float .f64 x, .int .i64 n, .string s]] w fun e w' => e = .returned (.agg #[.int .i64 rk, .float .f64 rx, .int .i64 rn, .string rs]) ∧ Bl w w' := by
  refine (both_any key ⟨l, y, m, t⟩ ⟨k, x, n, s⟩ w hkey ob.out oa.out).mono ?_
  rintro e w' ⟨rfl, hb⟩
  rw [h.out]
  exact ⟨rfl, hb⟩
end Go.Proofs.YtkpikmfijcffiaaGreat
end

/- txn.Add. By an AI agent. -/
section
set_option linter.unusedVariables false
set_option linter.unusedSimpArgs false
namespace Go.Proofs.YtkpikmfijcffiaaGreat
open Go.RowKit
attribute [local go_sem] eOp eOper eUpon

def addLs (ws : List (ByteArray × ActL)) (key : ByteArray) (x : ActL) : List (ByteArray × ActL) := if fitsB key x = true ∧ ws.length < 200 then ws ++ [(key, x)] else []
def addC (n : Nat) (key : ByteArray) (x : ActL) : Int := if fitsB key x = true then (if n < 200 then 0 else 2) else 40
set_option maxHeartbeats 3200000 in
set_option maxRecDepth 100000 in
theorem tadd_any (a : Option Addr) (n c : Nat) (ws : List (ByteArray × ActL)) (key : ByteArray) (x : ActL) (w : World) (h : WW w a n ws) (hk : key.size ≤ 140737488351232) (ox : x.Ok) :
    Calls Tryz.prog 7 #[.slice a n c, .string key, .agg #[.int .i64 x.k, .float .f64 x.x, .int .i64 x.n, .string x.s]] w fun e w' =>
      ∃ v, e = .returned (.tuple #[v, .int .i64 (addC n key x)]) ∧ OWR w.heap.size w' v (addLs ws key x).length (addLs ws key x) ∧ Bl w w' := by
  have hsf := store_float
  have hcap := h.cap
  have HW := Lib.hid h
  have HL := Lib.hid h.len
  have OX := Lib.hid ox
  obtain ⟨ak, ax, an, az⟩ := x
  have hb := (Bl.refl w).alloc (.cells #[.int .i64 ak, .float .f64 ax, .int .i64 an, .string az] 25)
  have hg := AC.new w _ rfl [.int .i64 ak, .float .f64 ax, .int .i64 an, .string az] 25
  obtain ⟨g0, g1, g2, g3⟩ := hg.act
  dsimp only
  clear h ox
  cases hf : fitsB key ⟨ak, ax, an, az⟩
  · have HF := Lib.hid hf
    have e1 : addLs ws key ⟨ak, ax, an, az⟩ = [] := by unfold addLs; rw [if_neg (fun q => by rw [hf] at q; exact absurd q.1 (by decide))]
    have e2 : addC n key ⟨ak, ax, an, az⟩ = 40 := by unfold addC; rw [if_neg (fun q => by rw [hf] at q; exact absurd q (by decide))]
    rw [e1, e2]
    clear hf e1 e2
    go_enter Tryz.func7, Tryz.ntmps7
    go_wp2_with fail
    refine (fits_agg key ak ax an az false _ HF hk OX).mono ?_
    rintro e w1 ⟨rfl, hb1⟩
    go_wp2_with fail
    go_ret2
    exact ⟨_, rfl, OWR.nil _ _, hb.trans hb1⟩
  have HF := Lib.hid hf
  by_cases hn : n < 200
  case neg =>
    have e1 : addLs ws key ⟨ak, ax, an, az⟩ = [] := by unfold addLs; rw [if_neg (fun q => by have := HL.out; omega)]
    have e2 : addC n key ⟨ak, ax, an, az⟩ = 2 := by unfold addC; rw [if_pos hf, if_neg hn]
    have d1 : decide ((200 : Int) ≤ (n : Int)) = true := decide_eq_true (by omega)
    have d2 : decide (200 ≤ n) = true := decide_eq_true (by omega)
    rw [e1, e2]
    clear hf e1 e2
    go_enter Tryz.func7, Tryz.ntmps7
    go_wp2_with fail
    refine (fits_agg key ak ax an az true _ HF hk OX).mono ?_
    rintro e w1 ⟨rfl, hb1⟩
    go_wp2_with fail
    go_ret2
    exact ⟨_, rfl, OWR.nil _ _, hb.trans hb1⟩
  have e1 : addLs ws key ⟨ak, ax, an, az⟩ = ws ++ [(key, ⟨ak, ax, an, az⟩)] := by unfold addLs; rw [if_pos ⟨hf, by have := HL.out; omega⟩]
  have e2 : addC n key ⟨ak, ax, an, az⟩ = 0 := by unfold addC; rw [if_pos hf, if_pos hn]
  have d1 : decide ((200 : Int) ≤ (n : Int)) = false := decide_eq_false (by omega)
  have d2 : decide (200 ≤ n) = false := decide_eq_false (by omega)
  have HLE : Hid ((ws ++ [(key, (⟨ak, ax, an, az⟩ : ActL))]).length = n + 1) := Lib.hid (by rw [List.length_append, HL.out]; rfl)
  rw [e1, e2]
  clear hf e1 e2
  go_enter Tryz.func7, Tryz.ntmps7
  go_wp2_with fail
  refine (fits_agg key ak ax an az true _ HF hk OX).mono ?_
  rintro e w1 ⟨rfl, hb1⟩
  go_upto_region 5 with fail
  have HB := Lib.hid ((hb.trans hb1).drew)
  have HG := Lib.hid ((hg.keep hb1).keep ((Bl.refl _).drew))
  clear hb hb1 hg g0 g1 g2 g3 d1 d2
  refine wp_region_idx [0, 2, 3, 4] 5 (Bl w1.drew) (fun _ _ h k => h.trans k) (Bl.refl _) (by kernel_rfl) rfl (by kernel_rfl) (by kernel_rfl) ?_
  generalize w1.drew = Z at *
  haveI : Nonempty (ExtC (Bl Z)) := ⟨⟨Z, Bl.refl _⟩⟩
  have k0 : ∀ q : ExtC (Bl Z), _ := fun q => (AC.act (HG.out.keep q.ok)).1
  have k1 : ∀ q : ExtC (Bl Z), _ := fun q => (AC.act (HG.out.keep q.ok)).2.1
  have k2 : ∀ q : ExtC (Bl Z), _ := fun q => (AC.act (HG.out.keep q.ok)).2.2.1
  have k3 : ∀ q : ExtC (Bl Z), _ := fun q => (AC.act (HG.out.keep q.ok)).2.2.2
  repeat (refine wpI_step rfl (fun K hK => ?_); go_simp; first | (refine hK _ ?_; clear hK K) | (apply Exists.intro; refine ⟨fun q => ?_, hK _ ?_⟩; (fail); clear hK K))
  refine wpI_nil ?_
  clear k0 k1 k2 k3 this
  have hlit : ∀ X : World, (X.alloc (.cells #[.string key, .int .i64 ak, .float .f64 ax, .int .i64 an, .string az] 58)).heap[X.heap.size]? = some (.cells (writeCs (key, ⟨ak, ax, an, az⟩)).toArray 58 (0, 0)) := fun X => heap_alloc_new X _
  have HLIT := Lib.hid hlit
  clear hlit
  refine wpAnyE_all (rs := [1, 5]) (by kernel_rfl) (by decide) ?_
  intro i hi Y1 hy1
  simp only [List.mem_cons, List.not_mem_nil, or_false] at hi
  rcases hi with rfl | rfl
  · go_simp
    refine (wclone_any a n c ws Y1 (HW.out.keep (HB.out.trans hy1)) (by omega)).mono ?_
    rintro e Y2 ⟨v, rfl, hv, hb2⟩
    have HY2 := Lib.hid (hy1.trans hb2)
    have HV := Lib.hid (show OWR Z.heap.size Y2 v n ws from ⟨hv.1, own_less hv.2 hy1.size⟩)
    obtain ⟨va, vc, hve⟩ := OWR.form hv
    subst hve
    clear hy1 hb2 hv
    refine ⟨_, rfl, HY2.out, ?_⟩
    refine wpAnyE_one (i := 5) (by kernel_rfl) ?_
    intro Y3 hy3
    go_simp
    have hbl := (Bl.refl Y3).alloc (.cells #[.string key, .int .i64 ak, .float .f64 ax, .int .i64 an, .string az] 58)
    have HS := Lib.hid (SG.lit (size := 5) (HLIT.out Y3) rfl (by simp [writeCs, Value.oneCell']))
    have HY4 := Lib.hid (HY2.out.trans (hy3.trans hbl))
    have HV4 := Lib.hid (HV.out.keep (hy3.trans hbl))
    clear hy3 hbl HV HY2
    generalize Y3.alloc _ = Y4 at *
    generalize Y3.heap.size = gl at *
    refine ⟨HY4.out, ?_⟩
    refine wpAnyE_one (i := 6) (by kernel_rfl) ?_
    intro Y5 hy5
    have HS5 := Lib.hid (HS.out.keep hy5)
    have HV5 := Lib.hid (HV4.out.keep hy5)
    have HY5 := Lib.hid (HB.out.trans (HY4.out.trans hy5))
    have HZ5 := Lib.hid (HY4.out.trans hy5)
    clear hy5 HS HV4 HY4
    refine eOp_appG rfl rfl _ _ _ rfl el_wr Z.heap.size (.slice va n vc) n (cellsW ws) rfl HV5.out.2 HZ5.out.size (some ⟨gl, 0, none⟩) 1 1 (writeCs (key, ⟨ak, ax, an, az⟩)) rfl HS5.out (by unfold maxLen; omega) (by omega) ?_
    intro v' Y6 ho hgr
    have HO : Hid (OWR Z.heap.size Y6 v' (n + 1) (ws ++ [(key, ⟨ak, ax, an, az⟩)])) := Lib.hid ⟨HLE.out, by rw [cellsW_snoc]; exact ho⟩
    have HY6 : Hid (Bl w Y6) := Lib.hid (Bl.ownRow HY5.out HV5.out.2 HB.out.size hgr)
    have HZ6 : Hid (Bl Z Y6) := Lib.hid (Bl.ownRow HZ5.out HV5.out.2 (Nat.le_refl _) hgr)
    clear ho hgr HS5 HV5 HY5 HZ5
    refine ⟨HZ6.out, ?_⟩
    simp only [Act.put, List.setIfInBounds_toArray]
    refine wpAnyE_one (i := 7) (by kernel_rfl) ?_
    intro Y7 hy7
    go_simp
    refine ⟨HZ6.out.trans hy7, ?_⟩
    refine wpAnyE_one (i := 8) (by kernel_rfl) ?_
    intro Y8 hy8
    go_simp
    refine ⟨HZ6.out.trans (hy7.trans hy8), ?_⟩
    refine wpAnyE_done (by kernel_rfl) ?_
    intro Y9 hy9
    have HO9 := Lib.hid (HO.out.keep (hy7.trans (hy8.trans hy9)))
    have HB9 := Lib.hid (HY6.out.trans (hy7.trans (hy8.trans hy9)))
    clear hy7 hy8 hy9 HO HY6 HZ6
    go_wp2_with fail
    go_ret2
    rw [HLE.out]
    exact ⟨_, rfl, ⟨HO9.out.1, own_less HO9.out.2 HB.out.size⟩, HB9.out⟩
  · go_simp
    have hbl := (Bl.refl Y1).alloc (.cells #[.string key, .int .i64 ak, .float .f64 ax, .int .i64 an, .string az] 58)
    have HS := Lib.hid (SG.lit (size := 5) (HLIT.out Y1) rfl (by simp [writeCs, Value.oneCell']))
    have HY2 := Lib.hid (hy1.trans hbl)
    clear hy1 hbl
    generalize Y1.alloc _ = Y2 at *
    generalize Y1.heap.size = gl at *
    refine ⟨HY2.out, ?_⟩
    refine wpAnyE_one (i := 1) (by kernel_rfl) ?_
    intro Y3 hy3
    go_simp
    refine (wclone_any a n c ws Y3 (HW.out.keep (HB.out.trans (HY2.out.trans hy3))) (by omega)).mono ?_
    rintro e Y4 ⟨v, rfl, hv, hb2⟩
    have HY4 := Lib.hid (HY2.out.trans (hy3.trans hb2))
    have HV4 := Lib.hid (show OWR Z.heap.size Y4 v n ws from ⟨hv.1, own_less hv.2 (HY2.out.trans hy3).size⟩)
    have HS2 := Lib.hid (HS.out.keep (hy3.trans hb2))
    obtain ⟨va, vc, hve⟩ := OWR.form hv
    subst hve
    clear hy3 hb2 hv HS HY2
    refine ⟨_, rfl, HY4.out, ?_⟩
    have HS := HS2
    clear HS2
    refine wpAnyE_one (i := 6) (by kernel_rfl) ?_
    intro Y5 hy5
    have HS5 := Lib.hid (HS.out.keep hy5)
    have HV5 := Lib.hid (HV4.out.keep hy5)
    have HY5 := Lib.hid (HB.out.trans (HY4.out.trans hy5))
    have HZ5 := Lib.hid (HY4.out.trans hy5)
    clear hy5 HS HV4 HY4
    refine eOp_appG rfl rfl _ _ _ rfl el_wr Z.heap.size (.slice va n vc) n (cellsW ws) rfl HV5.out.2 HZ5.out.size (some ⟨gl, 0, none⟩) 1 1 (writeCs (key, ⟨ak, ax, an, az⟩)) rfl HS5.out (by unfold maxLen; omega) (by omega) ?_
    intro v' Y6 ho hgr
    have HO : Hid (OWR Z.heap.size Y6 v' (n + 1) (ws ++ [(key, ⟨ak, ax, an, az⟩)])) := Lib.hid ⟨HLE.out, by rw [cellsW_snoc]; exact ho⟩
    have HY6 : Hid (Bl w Y6) := Lib.hid (Bl.ownRow HY5.out HV5.out.2 HB.out.size hgr)
    have HZ6 : Hid (Bl Z Y6) := Lib.hid (Bl.ownRow HZ5.out HV5.out.2 (Nat.le_refl _) hgr)
    clear ho hgr HS5 HV5 HY5 HZ5
    refine ⟨HZ6.out, ?_⟩
    simp only [Act.put, List.setIfInBounds_toArray]
    refine wpAnyE_one (i := 7) (by kernel_rfl) ?_
    intro Y7 hy7
    go_simp
    refine ⟨HZ6.out.trans hy7, ?_⟩
    refine wpAnyE_one (i := 8) (by kernel_rfl) ?_
    intro Y8 hy8
    go_simp
    refine ⟨HZ6.out.trans (hy7.trans hy8), ?_⟩
    refine wpAnyE_done (by kernel_rfl) ?_
    intro Y9 hy9
    have HO9 := Lib.hid (HO.out.keep (hy7.trans (hy8.trans hy9)))
    have HB9 := Lib.hid (HY6.out.trans (hy7.trans (hy8.trans hy9)))
    clear hy7 hy8 hy9 HO HY6 HZ6
    go_wp2_with fail
    go_ret2
    rw [HLE.out]
    exact ⟨_, rfl, ⟨HO9.out.1, own_less HO9.out.2 HB.out.size⟩, HB9.out⟩
end Go.Proofs.YtkpikmfijcffiaaGreat
end

/- math.Float64frombits. By an AI agent. -/
section
set_option linter.unusedVariables false
namespace Go.Proofs.YtkpikmfijcffiaaGreat
open Go.RowKit

theorem run_frombits (n : Int) (w : World) : (callFunc 199 #[.int .u64 n]).run Tryz.prog w = .ok (.value (.float .f64 n.toNat)) w := by
  rw [run_callFunc_extern Tryz.func199 (by kernel_rfl) (by kernel_rfl) (by kernel_rfl) (e := Extern.MathFloatBits.float64frombits) (by kernel_rfl)]
  rfl
end Go.Proofs.YtkpikmfijcffiaaGreat
end
