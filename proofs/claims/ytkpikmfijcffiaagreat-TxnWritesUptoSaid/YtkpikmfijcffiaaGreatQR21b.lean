import Derived.Test.YtkpikmfijcffiaaGreatQR21a
import Derived.Test.YtkpikmfijcffiaaGreatQTxF
import Derived.Test.YtkpikmfijcffiaaGreatQTxnWritesUptoP16

/- bedrockref21.Read, Fold. By an AI agent. -/
section
set_option linter.unusedVariables false
set_option linter.unusedSimpArgs false
namespace Go.Proofs.YtkpikmfijcffiaaGreat
open Go.RowKit
attribute [local go_sem] eOp eOper eUpon pOp pOper pUpon

theorem rread_results {tmps : Array Value} {W : World} {g : Nat} {b : Bool} {x : Nat} {n : Int} {s : ByteArray} (h : tmps.getD 6 undef = .pointer (some ⟨g, 0, none⟩)) (hc : AC W g [.bool b, .float .f64 x, .int .i64 n, .string s]) :
    (results Tryz.f14 tmps).run Tryz.prog W = .ok (.agg #[.bool b, .float .f64 x, .int .i64 n, .string s]) W := by
  rw [Array.getD_eq_getD_getElem?] at h
  obtain ⟨c0, c1, c2, c3⟩ := hc.val
  simp [results, Tryz.results14, go_sem, h, c0, c1, c2, c3]
set_option maxHeartbeats 3200000 in
set_option maxRecDepth 100000 in
theorem rread_any (a : Option Addr) (n c : Nat) (ws : List (ByteArray × ActL)) (key : ByteArray) (v : ValL) (w : World) (h : WW w a n ws) (hk : key.size ≤ 140737488351232) (ov : v.Ok) :
    Calls Tryz.prog 14 #[.slice a n c, .string key, .agg #[.bool v.there, .float .f64 v.x, .int .i64 v.n, .string v.s]] w fun e w' =>
      e = .returned (.agg #[.bool (readW key v ws).there, .float .f64 (readW key v ws).x, .int .i64 (readW key v ws).n, .string (readW key v ws).s]) ∧ Bl w w' := by
  have hsf := store_float
  have hcap := h.cap
  have HW := Lib.hid h
  have HL := Lib.hid h.len
  have OV := Lib.hid ov
  have G := TRB.new w v.there v.x v.n v.s 27 27
  clear h ov
  obtain ⟨u, hu⟩ : ∃ u, readW key v ws = u := ⟨_, rfl⟩
  have HU := Lib.hid hu
  rw [hu]
  clear hu
  go_enter Tryz.func14, Tryz.ntmps14
  go_wp2_with fail
  generalize (w.alloc _).alloc _ = W at *
  have HG := Lib.hid G
  clear G
  go_loopw [7] (fun i wr => ∃ k : Nat, k ≤ n ∧ i = .int .i64 k ∧ TRBV w wr (readW key v (ws.take k))) (fun i _ => n - (intOf i).toNat)
  case atStart => exact ⟨0, Nat.zero_le _, rfl, HG.out⟩
  case round =>
    clear HG
    obtain ⟨k, hkn, rfl, hb⟩ := hrel
    have HB := Lib.hid hb
    clear hb
    by_cases hlt : k < n
    · have hkl : k < ws.length := by rw [HL.out]; exact hlt
      have HST := Lib.hid (readW_take key v ws hkl)
      have HVO := Lib.hid (readW_ok (key := key) OV.out (ws.take k) (fun p hp => (HW.out.ok p (List.mem_of_mem_take hp)).2))
      have HOK := Lib.hid (HW.out.ok _ (nthW_mem hkl))
      obtain ⟨ba, oa, rfl, _⟩ := HW.out.cells k hlt
      have HWC := Lib.hid (HW.out.get HB.out.bl hlt)
      have c0 := HWC.out.c0
      clear hkl
      generalize readW key v (ws.take k) = r at *
      generalize nthW ws k = p at *
      obtain ⟨pk, ⟨ak, ax, an, az⟩⟩ := p
      obtain ⟨rb, rx, rn, rs⟩ := r
      dsimp only at c0
      have HB1 : Hid (TRB w wr rb rx rn rs) := Lib.hid HB.out
      by_cases hq : pk = key
      · subst hq
        have q : (pk.toList == pk.toList) = true := by simp
        obtain ⟨⟨nb, nx, nn, ns⟩, hN⟩ : ∃ N : ValL, afterL pk ⟨rb, rx, rn, rs⟩ ⟨ak, ax, an, az⟩ = N := ⟨_, rfl⟩
        have HN := Lib.hid hN
        have HST2 : Hid (readW pk v (ws.take (k + 1)) = ⟨nb, nx, nn, ns⟩) := Lib.hid (by rw [HST.out, if_pos rfl]; exact hN)
        have HAO := Lib.hid HOK.out.2
        clear hN HST HB
        go_upto_region 5 with fail
        clear c0
        refine wp_region_panicsT [0, 1, 2, 3, 4, 5, 6] 2 (Bl wr.drew) (fun _ _ h k => h.trans k) (Bl.refl _) [8] (fun c W' => False) ?hR (by kernel_rfl) rfl (by kernel_rfl) (by kernel_rfl) (by kernel_rfl) ?_
        case hR => intro c tt W' h; exact h.elim
        have HBZ := Lib.hid (HB1.out.keep (Bl.refl wr).drew)
        have HCZ := Lib.hid (HWC.out.keep (Bl.refl wr).drew)
        clear HB1 HWC
        generalize wr.drew = Z at *
        haveI : Nonempty (ExtC (Bl Z)) := ⟨⟨Z, Bl.refl _⟩⟩
        have v0 : ∀ q : ExtC (Bl Z), _ := fun q => (AC.val (HBZ.out.keep q.ok).a).1
        have v1 : ∀ q : ExtC (Bl Z), _ := fun q => (AC.val (HBZ.out.keep q.ok).a).2.1
        have v2 : ∀ q : ExtC (Bl Z), _ := fun q => (AC.val (HBZ.out.keep q.ok).a).2.2.1
        have v3 : ∀ q : ExtC (Bl Z), _ := fun q => (AC.val (HBZ.out.keep q.ok).a).2.2.2
        have c1 : ∀ q : ExtC (Bl Z), _ := fun q => (HCZ.out.keep q.ok).c1
        have c2 : ∀ q : ExtC (Bl Z), _ := fun q => (HCZ.out.keep q.ok).c2
        have c3 : ∀ q : ExtC (Bl Z), _ := fun q => (HCZ.out.keep q.ok).c3
        have c4 : ∀ q : ExtC (Bl Z), _ := fun q => (HCZ.out.keep q.ok).c4
        dsimp only at c1 c2 c3 c4
        repeat (refine wpI_step rfl (fun K hK => ?_); go_simp; first | (refine hK _ ?_; clear hK K) | (apply Exists.intro; refine ⟨fun q => ?_, hK _ ?_⟩; fail; clear hK K))
        refine wpI_nil ?_
        clear v0 v1 v2 v3 c1 c2 c3 c4 this
        refine wpAnyP_one (i := 7) (by kernel_rfl) ?_
        intro W1 hb1
        go_simp
        refine (refAfter_agg pk rb rx rn rs ak ax an az nb nx nn ns _ HN hk HVO HAO).mono ?_
        rintro e W2 ⟨rfl, hb2⟩
        go_simp
        refine ⟨hb1.trans hb2, ?_⟩
        refine wpAnyP_one (i := 8) (by kernel_rfl) ?_
        intro W3 hb3
        have HB2 := Lib.hid (HBZ.out.keep ((hb1.trans hb2).trans hb3))
        clear hb1 hb2 hb3 HBZ HCZ
        have fr := HB2.out.a.frozen
        obtain ⟨v0, v1, v2, v3⟩ := HB2.out.a.val
        go_simp
        clear v0 v1 v2 v3 fr
        have HB3 := Lib.hid (HB2.out.set nb nx nn ns)
        obtain ⟨X, hX⟩ : ∃ x, ((((W3.setCell ⟨w.heap.size, 0, none⟩ (.bool nb)).setCell ⟨w.heap.size, 1, none⟩ (.float .f64 nx)).setCell ⟨w.heap.size, 2, none⟩ (.int .i64 nn)).setCell ⟨w.heap.size, 3, none⟩ (.string ns)) = x := ⟨_, rfl⟩
        rw [hX] at HB3 ⊢
        clear hX HB2
        refine wpAnyP_done (by kernel_rfl) ?_
        intro W5 hb5
        have HB5 := Lib.hid (HB3.out.keep hb5)
        clear HB3 hb5
        go_wp2_with fail
        go_roundw
        case rel => exact ⟨k + 1, by omega, by go_num, by rw [HST2.out]; exact HB5.out⟩
        case measure => simp [intOf]; omega
      · have q : (pk.toList == key.toList) = false := by
          rw [beq_eq_false_iff_ne]
          exact fun e => hq (toList_inj e)
        have HST2 : Hid (readW key v (ws.take (k + 1)) = ⟨rb, rx, rn, rs⟩) := Lib.hid (by rw [HST.out, if_neg hq])
        clear HST HB hq
        go_wp2_with fail
        go_roundw
        case rel => exact ⟨k + 1, by omega, by go_num, by rw [HST2.out]; exact HB1.out⟩
        case measure => simp [intOf]; omega
    · have hkn2 : k = n := by omega
      subst hkn2
      have e : readW key v (ws.take k) = u := by rw [List.take_of_length_le (by rw [HL.out]; exact Nat.le_refl _)]; exact HU.out
      rw [e] at HB
      clear e
      obtain ⟨ub, ux, un, us⟩ := u
      have HB2 : Hid (TRB w wr ub ux un us) := Lib.hid HB.out
      clear HB
      have fr := HB2.out.r.frozen
      obtain ⟨v0, v1, v2, v3⟩ := HB2.out.a.val
      obtain ⟨r0, r1, r2, r3⟩ := HB2.out.r.val
      go_wp2_with fail
      refine bodyPost_ret (rread_results rfl (HB2.out.r.fill [.bool ub, .float .f64 ux, .int .i64 un, .string us] rfl)) rfl ⟨rfl, Bl.fill (Nat.le_succ _) [.bool ub, .float .f64 ux, .int .i64 un, .string us] _ 0 HB2.out.bl⟩
set_option maxHeartbeats 6400000 in
set_option maxRecDepth 100000 in
theorem rfold_any (a : Option Addr) (n c : Nat) (ws : List (ByteArray × ActL)) (w : World) (h : WW w a n ws) (hn : n ≤ 100000) :
    Calls Tryz.prog 11 #[.slice a n c] w fun e w' => ∃ v, e = .returned v ∧ OWR w.heap.size w' v (foldW ws).length (foldW ws) ∧ Bl w w' := by
  have hsf := store_float
  have HW := Lib.hid h
  have HL := Lib.hid h.len
  have HOF := Lib.hid (foldW_okW h.ok)
  clear h
  go_enter Tryz.func11, Tryz.ntmps11
  go_wp2_with fail
  go_loopw [3, 4] (fun ov iv wr => ∃ i : Nat, i ≤ n ∧ iv = .int .i64 i ∧ Bl w wr ∧ OWR w.heap.size wr ov (foldW (ws.take i)).length (foldW (ws.take i))) (fun _ iv _ => n - (intOf iv).toNat)
  case atStart => exact ⟨0, Nat.zero_le _, rfl, Bl.refl _, OWR.nil _ _⟩
  case round =>
    obtain ⟨i, hi, rfl, hbl, how⟩ := hrel
    have HBL := Lib.hid hbl
    have HOW := Lib.hid how
    clear hbl how
    by_cases hlt : i < n
    · have hil : i < ws.length := by rw [HL.out]; exact hlt
      obtain ⟨ba, oa, rfl, _⟩ := HW.out.cells i hlt
      have HST := Lib.hid (foldW_take ws hil)
      have HND := Lib.hid (foldW_nodup (ws.take i))
      have HOK := Lib.hid (foldW_okW (ws := ws.take i) (fun p hp => HW.out.ok p (List.mem_of_mem_take hp)))
      have HPO := Lib.hid (HW.out.ok _ (nthW_mem hil))
      have HWC := Lib.hid (HW.out.get HBL.out hlt)
      have hml : (foldW (ws.take i)).length ≤ i := Nat.le_trans (foldW_len _) (by rw [List.length_take]; omega)
      obtain ⟨va, vc, hve⟩ := OWR.form HOW.out
      subst hve
      obtain ⟨O, hO⟩ : ∃ O, foldW (ws.take i) = O := ⟨_, rfl⟩
      rw [hO] at HST HND HOK HOW hml ⊢
      obtain ⟨p, hp⟩ : ∃ p, nthW ws i = p := ⟨_, rfl⟩
      rw [hp] at HST HPO HWC
      obtain ⟨pk, ⟨pa, px, pn, ps⟩⟩ := p
      obtain ⟨m, hm⟩ : ∃ m, O.length = m := ⟨_, rfl⟩
      rw [hm] at HOW hml ⊢
      have HM := Lib.hid hm
      clear hO hp hil hm
      obtain ⟨W2, hW2⟩ : ∃ x, x = wr := ⟨_, rfl⟩
      subst hW2
      go_wp2_with fail
      go_loopw [5] (fun kv wz => ∃ q : Nat, q ≤ m ∧ kv = .int .i64 q ∧ Bl W2 wz ∧ ∀ j, j < q → (nthW O j).1 ≠ pk) (fun kv _ => m - (intOf kv).toNat)
      case atStart => exact ⟨0, Nat.zero_le _, rfl, Bl.refl _, fun j hj => by omega⟩
      case round =>
        obtain ⟨q, hq, rfl, hbz, hno⟩ := hrel
        have HBZ := Lib.hid hbz
        have HNO := Lib.hid hno
        clear hbz hno
        by_cases hql : q < m
        · have hqO : q < O.length := by rw [HM.out]; exact hql
          obtain ⟨g, ca, e, hgB, -⟩ := OWR.shape HOW.out (by omega)
          simp only [Value.slice.injEq, true_and] at e
          obtain ⟨rfl, rfl⟩ := e
          have hcell : ∀ r, r < 5 → ∀ X, Bl W2 X → X.cell? ⟨g, q * 5 + r, none⟩ = (writeCs (nthW O q))[r]? := fun r hr X hX => by
            rw [((HOW.out.keep hX).2).cellAt (q * 5 + r) (by omega)]
            exact cellsW_get O q hqO r hr
          have HCELL := Lib.hid hcell
          have HQO := Lib.hid (HOK.out _ (nthW_mem hqO))
          have d1 : decide ((q : Int) < (m : Int)) = true := decide_eq_true (by omega)
          have d2 : decide (q < m) = true := decide_eq_true hql
          have hqm : ((q : Int) == (m : Int)) = false := by rw [beq_eq_false_iff_ne]; omega
          obtain ⟨OQ, hok⟩ : ∃ x, nthW O q = x := ⟨_, rfl⟩
          have HOQ := Lib.hid hok
          rw [hok] at HCELL HQO
          clear hcell hok
          obtain ⟨qk, ⟨qa, qx, qn, qs⟩⟩ := OQ
          have HBD := Lib.hid HBZ.out.drew
          have x0 : ∀ X : Ext wr.drew, X.at.cell? ⟨g, q * 5, none⟩ = some (.string qk) := fun X => HCELL.out 0 (by omega) X.at (HBD.out.trans X.bl)
          have y0 : ∀ X : Ext wr.drew, _ := fun X => (HWC.out.keep (HBD.out.trans X.bl)).c0
          dsimp only at y0
          by_cases hk : qk = pk
          case neg =>
            have qk1 : (qk.toList == pk.toList) = false := by
              rw [beq_eq_false_iff_ne]
              exact fun e => hk (toList_inj e)
            have HK := Lib.hid hk
            clear hk
            go_upto_region 6 with fail
            refine wp_region_allS (by kernel_rfl) (by kernel_rfl) ?_
            repeat (refine wpS_step (fun K hK => ?_); go_simp; refine hK _ ?_; clear hK K)
            refine wpS_nil ?_
            intro q1
            have HBN := Lib.hid (HBD.out.trans q1.bl)
            clear x0 y0
            generalize ExtC.at q1 = Y at *
            go_wp2_with fail
            go_roundw
            case rel =>
              refine ⟨q + 1, by omega, by go_num, HBN.out, fun j hj => ?_⟩
              by_cases e : j = q
              · subst e; rw [HOQ.out]; exact HK.out
              · exact HNO.out j (by omega)
            case measure => simp [intOf]; omega
          case pos =>
            subst hk
            have qk1 : (qk.toList == qk.toList) = true := by simp
            obtain ⟨⟨ra, rx, rn, rs⟩, hN⟩ : ∃ N : ActL, bothL qk ⟨qa, qx, qn, qs⟩ ⟨pa, px, pn, ps⟩ = N := ⟨_, rfl⟩
            have HN := Lib.hid hN
            have HADD : Hid (foldW (ws.take (i + 1)) = O.set q (qk, ⟨ra, rx, rn, rs⟩)) := Lib.hid (by
              rw [HST.out, addW_set hqO (by rw [HOQ.out]) HND.out, HOQ.out, ← hN])
            have HKZ := Lib.hid HQO.out.1
            have HA1 := Lib.hid HQO.out.2
            have HA2 := Lib.hid HPO.out.2
            clear hN
            go_upto_region 6 with fail
            refine wp_region_allS (by kernel_rfl) (by kernel_rfl) ?_
            repeat (refine wpS_step (fun K hK => ?_); go_simp; refine hK _ ?_; clear hK K)
            refine wpS_nil ?_
            intro q1
            have HBN := Lib.hid (HBD.out.trans q1.bl)
            clear x0 y0 HBD HBZ
            generalize ExtC.at q1 = Y at *
            go_upto_region 10 with fail
            refine wp_region_panicsT [0, 1, 2, 3, 4, 5, 6, 7, 8, 9, 10, 11, 12, 13, 14, 15, 16] 4 (Bl Y.drew) (fun _ _ h k => h.trans k) (Bl.refl _) [20] (fun c W' => False) ?hR (by kernel_rfl) rfl (by kernel_rfl) (by kernel_rfl) (by kernel_rfl) ?_
            case hR => intro c tt W' h; exact h.elim
            have HBZ := Lib.hid HBN.out.drew
            clear HBN
            generalize Y.drew = Z at *
            haveI : Nonempty (ExtC (Bl Z)) := ⟨⟨Z, Bl.refl _⟩⟩
            have p0 : ∀ X : ExtC (Bl Z), _ := fun X => (HWC.out.keep (HBZ.out.trans X.ok)).c0
            have p1 : ∀ X : ExtC (Bl Z), _ := fun X => (HWC.out.keep (HBZ.out.trans X.ok)).c1
            have p2 : ∀ X : ExtC (Bl Z), _ := fun X => (HWC.out.keep (HBZ.out.trans X.ok)).c2
            have p3 : ∀ X : ExtC (Bl Z), _ := fun X => (HWC.out.keep (HBZ.out.trans X.ok)).c3
            have p4 : ∀ X : ExtC (Bl Z), _ := fun X => (HWC.out.keep (HBZ.out.trans X.ok)).c4
            have q1 : ∀ X : ExtC (Bl Z), X.at.cell? ⟨g, q * 5 + 1, none⟩ = some (.int .i64 qa) := fun X => HCELL.out 1 (by omega) X.at (HBZ.out.trans X.ok)
            have q2 : ∀ X : ExtC (Bl Z), X.at.cell? ⟨g, q * 5 + 2, none⟩ = some (.float .f64 qx) := fun X => HCELL.out 2 (by omega) X.at (HBZ.out.trans X.ok)
            have q3 : ∀ X : ExtC (Bl Z), X.at.cell? ⟨g, q * 5 + 3, none⟩ = some (.int .i64 qn) := fun X => HCELL.out 3 (by omega) X.at (HBZ.out.trans X.ok)
            have q4 : ∀ X : ExtC (Bl Z), X.at.cell? ⟨g, q * 5 + 4, none⟩ = some (.string qs) := fun X => HCELL.out 4 (by omega) X.at (HBZ.out.trans X.ok)
            dsimp only at p0 p1 p2 p3 p4
            repeat (refine wpI_step rfl (fun K hK => ?_); go_simp; first | (refine hK _ ?_; clear hK K) | (apply Exists.intro; refine ⟨fun q => ?_, hK _ ?_⟩; fail; clear hK K))
            refine wpI_nil ?_
            clear p0 p1 p2 p3 p4 q1 q2 q3 q4 this
            refine wpAnyP_one (i := 17) (by kernel_rfl) ?_
            intro W1 hb1
            go_simp
            refine (refBoth_agg qk qa qx qn qs pa px pn ps ra rx rn rs _ HN HKZ.out HA1 HA2).mono ?_
            rintro e W3 ⟨rfl, hb2⟩
            go_simp
            refine ⟨hb1.trans hb2, ?_⟩
            have hb4 := hb1.trans hb2
            clear hb1 hb2
            refine wpAnyP_one (i := 18) (by kernel_rfl) ?_
            intro W5 hb5
            go_simp
            refine ⟨hb4.trans hb5, ?_⟩
            refine wpAnyP_one (i := 19) (by kernel_rfl) ?_
            intro W6 hb6
            go_simp
            refine ⟨(hb4.trans hb5).trans hb6, ?_⟩
            refine wpAnyP_one (i := 20) (by kernel_rfl) ?_
            intro W4 hb3
            have HB4 := Lib.hid (HBZ.out.trans (((hb4.trans hb5).trans hb6).trans hb3))
            clear hb4 hb5 hb6 hb3 HBZ
            have HO4 := Lib.hid (HOW.out.keep HB4.out)
            have x1 : W4.cell? ⟨g, q * 5 + 1, none⟩ = some (.int .i64 qa) := HCELL.out 1 (by omega) W4 HB4.out
            have x2 : W4.cell? ⟨g, q * 5 + 2, none⟩ = some (.float .f64 qx) := HCELL.out 2 (by omega) W4 HB4.out
            have x3 : W4.cell? ⟨g, q * 5 + 3, none⟩ = some (.int .i64 qn) := HCELL.out 3 (by omega) W4 HB4.out
            have x4 : W4.cell? ⟨g, q * 5 + 4, none⟩ = some (.string qs) := HCELL.out 4 (by omega) W4 HB4.out
            have f1 := HO4.out.2.frozenAt (q * 5 + 1)
            have f2 := HO4.out.2.frozenAt (q * 5 + 2)
            have f3 := HO4.out.2.frozenAt (q * 5 + 3)
            have f4 := HO4.out.2.frozenAt (q * 5 + 4)
            go_simp
            clear x1 x2 x3 x4 f1 f2 f3 f4
            have hset := HO4.out.setAct hql (⟨ra, rx, rn, rs⟩ : ActL)
            rw [HOQ.out] at hset
            have hbl5 : Bl w ((((W4.setCell ⟨g, q * 5 + 1, none⟩ (.int .i64 ra)).setCell ⟨g, q * 5 + 2, none⟩ (.float .f64 rx)).setCell ⟨g, q * 5 + 3, none⟩ (.int .i64 rn)).setCell ⟨g, q * 5 + 4, none⟩ (.string rs)) := by
              have h0 := HBL.out.trans HB4.out
              exact Below.setCell (p := ⟨g, q * 5 + 4, none⟩) (Below.setCell (p := ⟨g, q * 5 + 3, none⟩) (Below.setCell (p := ⟨g, q * 5 + 2, none⟩) (Below.setCell (p := ⟨g, q * 5 + 1, none⟩) h0 hgB _) hgB _) hgB _) hgB _
            obtain ⟨X, hX⟩ : ∃ x, ((((W4.setCell ⟨g, q * 5 + 1, none⟩ (.int .i64 ra)).setCell ⟨g, q * 5 + 2, none⟩ (.float .f64 rx)).setCell ⟨g, q * 5 + 3, none⟩ (.int .i64 rn)).setCell ⟨g, q * 5 + 4, none⟩ (.string rs)) = x := ⟨_, rfl⟩
            rw [hX]
            have HSET := Lib.hid (show OWR w.heap.size X (.slice (some ⟨g, 0, none⟩) m vc) m (O.set q (qk, ⟨ra, rx, rn, rs⟩)) by rw [← hX]; exact hset)
            have HBX := Lib.hid (show Bl w X by rw [← hX]; exact hbl5)
            clear hX hset hbl5 HO4 HB4
            refine wpAnyP_done (by kernel_rfl) ?_
            intro X5 hx5
            have HS5 := Lib.hid (HSET.out.keep hx5)
            have HB5 := Lib.hid (HBX.out.trans hx5)
            clear HSET HBX hx5
            go_wp2_with fail
            go_roundw
            case rel =>
              refine ⟨i + 1, by omega, by go_num, HB5.out, ?_⟩
              rw [HADD.out, List.length_set, HM.out]
              exact HS5.out
            case measure => simp [intOf]; omega
        · have hqe : q = m := by omega
          subst hqe
          have d1 : decide ((q : Int) < (q : Int)) = false := decide_eq_false (by omega)
          have d2 : decide (q < q) = false := decide_eq_false (by omega)
          have hqm : ((q : Int) == (q : Int)) = true := by simp
          have HADD : Hid (foldW (ws.take (i + 1)) = O ++ [(pk, ⟨pa, px, pn, ps⟩)]) := Lib.hid (by
            rw [HST.out, addW_fresh ?_]
            rw [List.any_eq_false]
            intro x hx
            obtain ⟨j, hj, rfl⟩ := List.getElem_of_mem hx
            have h1 := HNO.out j (by rw [HM.out] at hj; exact hj)
            rw [nthW_eq hj] at h1
            simpa using h1)
          go_upto_region 6 with fail
          refine wp_region_allS (by kernel_rfl) (by kernel_rfl) ?_
          repeat (refine wpS_step (fun K hK => ?_); go_simp; refine hK _ ?_; clear hK K)
          refine wpS_nil ?_
          intro q1
          have HBN := Lib.hid (HBZ.out.drew.trans q1.bl)
          clear HBZ
          generalize ExtC.at q1 = Y at *
          obtain ⟨c0, c1, c2, c3, c4⟩ := HWC.out.keep HBN.out
          dsimp only at c0 c1 c2 c3 c4
          have hbA := (Bl.refl Y).alloc (.cells #[.string pk, .int .i64 pa, .float .f64 px, .int .i64 pn, .string ps] 58)
          have HBA := Lib.hid (HBN.out.trans hbA)
          have HOA := Lib.hid (HOW.out.keep HBA.out)
          have hsz := HBA.out.size
          have hsz2 := HBL.out.size
          clear hbA
          go_wp2_with (at_builtin; refine wpList_appG rfl _ _ _ rfl el_wr w.heap.size _ _ _ rfl HOA.out.2 ?c1 _ 1 1 [.string pk, .int .i64 pa, .float .f64 px, .int .i64 pn, .string ps] rfl (SG.lit (heap_alloc_new _ _) rfl (by simp [Value.oneCell'])) ?c2 ?c3 ?_)
          case c1 => omega
          case c2 => unfold maxLen; omega
          case c3 => omega
          intro v' w1 hown' hgrow
          have HB1 := Lib.hid ((HBL.out.trans HBA.out).ownRow HOA.out.2 (Nat.le_refl _) hgrow)
          have HO1 : Hid (OWR w.heap.size w1 v' (q + 1) (O ++ [(pk, ⟨pa, px, pn, ps⟩)])) := Lib.hid ⟨by rw [List.length_append, HM.out]; rfl, by rw [cellsW_snoc]; exact hown'⟩
          clear hown' hgrow HBA HOA c0 c1 c2 c3 c4
          go_wp2_with fail
          go_roundw
          case rel =>
            refine ⟨i + 1, by omega, by go_num, HB1.out, ?_⟩
            rw [HADD.out, List.length_append, HM.out]
            exact HO1.out
          case measure => simp [intOf]; omega
    · have hin : i = n := by omega
      subst hin
      have e : ws.take i = ws := List.take_of_length_le (by rw [HL.out]; exact Nat.le_refl _)
      rw [e] at HOW
      go_wp2_with fail
      go_ret
      exact ⟨_, rfl, HOW.out, HBL.out⟩
end Go.Proofs.YtkpikmfijcffiaaGreat
end
