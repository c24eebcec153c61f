import Derived.Test.YtginbjcpcgphgaaCore26
import Derived.Test.YtginbjcpcgphgaaCore27
import Derived.Test.YtginbjcpcgphgaaCore28
import Derived.Test.YtginbjcpcgphgaaCore8
import Derived.Test.YtginbjcpcgphgaaCore22

/- fold.Drop: its loop. By an AI agent. -/
section
set_option linter.unusedVariables false
set_option linter.unusedSimpArgs false
namespace Go.Proofs.Ytginbjcpcgphgaa
open Go.RowKit
attribute [local go_sem] eOp eOper eUpon

/-- two rows that grow side by side -/
structure DR (W0 W : World) (sv ev : Value) (xs ys : List VC) : Prop where
  st : SV W0 W sv xs
  se : SV W0 W ev ys
  ap : APt sv ev
  bl : Bl W0 W
theorem DR.nil {W0 W : World} (h : Bl W0 W) : DR W0 W (.slice none 0 0) (.slice none 0 0) [] [] := ⟨SV.nil _ _, SV.nil _ _, fun b e => (by cases e), h⟩
theorem DR.keep {W0 W W' : World} {sv ev : Value} {xs ys : List VC} (h : DR W0 W sv ev xs ys) (hb : Bl W W') : DR W0 W' sv ev xs ys := ⟨h.st.keep hb, h.se.keep hb, h.ap, h.bl.trans hb⟩
theorem DR.push1 {W0 W W' : World} {sv ev sv' : Value} {xs ys : List VC} {y : VC} (h : DR W0 W sv ev xs ys) (hy : IA W0 y.ad y.n y.at_) (hok : y.act.Ok) (ho : OVS W0.heap.size W' sv' (xs.length + 1) (flat xs ++ y.cs)) (hg : W.grownBy W' sv.ownBlock) (hf : ∀ b, sv'.ownBlock = some b → sv.ownBlock = some b ∨ W.heap.size ≤ b) : DR W0 W' sv' ev (xs ++ [y]) ys :=
  ⟨h.st.push hy hok ho, h.se.other hg h.ap.symm, (h.se.apart h.ap.symm hf).symm, h.st.grown h.bl hg⟩
theorem DR.push2 {W0 W W' : World} {sv ev ev' : Value} {xs ys : List VC} {y : VC} (h : DR W0 W sv ev xs ys) (hy : IA W0 y.ad y.n y.at_) (hok : y.act.Ok) (ho : OVS W0.heap.size W' ev' (ys.length + 1) (flat ys ++ y.cs)) (hg : W.grownBy W' ev.ownBlock) (hf : ∀ b, ev'.ownBlock = some b → ev.ownBlock = some b ∨ W.heap.size ≤ b) : DR W0 W' sv ev' xs (ys ++ [y]) :=
  ⟨h.st.other hg h.ap, h.se.push hy hok ho, h.st.apart h.ap hf, h.se.grown h.bl hg⟩
theorem parts_len (key : ByteArray) (floor : List Int) : ∀ os : List VerL, (stayL floor os).length + (seenL key floor os).length ≤ os.length
  | [] => Nat.le_refl _
  | v :: os => by
    have ih := parts_len key floor os
    unfold stayL seenL at *
    rw [List.filter_cons, List.filter_cons, List.length_cons]
    cases h : leqV floor v
    · rw [if_pos (by rfl), if_neg (by rw [Bool.false_and]; decide), List.length_cons]; omega
    · rw [if_neg (by decide)]
      split
      · rw [List.length_cons]; omega
      · omega
theorem kept_reg {key : ByteArray} {stay rest : List VerL} {first : VerL} {floor : List Int} {all : Bool} (h : regB key = true) : keptL key stay floor all (first :: rest) = orderOf (stay ++ (if goneL stay first floor all then [] else [first])) := if_pos h
theorem kept_one {key : ByteArray} {stay rest : List VerL} {first : VerL} {floor : List Int} (h : regB key = false) (hr : rest ≠ []) : keptL key stay floor true (first :: rest) = stay ++ [oneL key (first :: rest).reverse] := by
  show (if regB key = true then _ else if (true && decide (rest ≠ [])) = true then _ else _) = _
  rw [if_neg (by rw [h]; decide), if_pos (by rw [Bool.true_and]; exact decide_eq_true hr)]
theorem kept_all {key : ByteArray} {stay rest : List VerL} {first : VerL} {floor : List Int} {all : Bool} (h : regB key = false) (hr : all = false ∨ rest = []) : keptL key stay floor all (first :: rest) = orderOf (stay ++ (first :: rest)) := by
  show (if regB key = true then _ else if (all && decide (rest ≠ [])) = true then _ else _) = _
  rw [if_neg (by rw [h]; decide), if_neg]
  rcases hr with rfl | rfl
  · rw [Bool.false_and]; decide
  · simp
theorem SV.cap {W0 W : World} {a : Option Addr} {n c : Nat} {xs : List VC} (h : SV W0 W (.slice a n c) xs) : n ≤ c := by
  obtain ⟨h1, ⟨hv, h2⟩ | ⟨g, cap, cur, hv, hB, hg, hc1, r⟩⟩ := h.own
  · simp only [Value.slice.injEq] at hv; omega
  · simp only [Value.slice.injEq] at hv; omega
theorem VA.first {w : World} {a : Option Addr} {n : Nat} {first : VerL} {rest : List VerL} (h : VA w a n (first :: rest)) : VA w a 1 [first] := by
  have hn : 0 < n := by have := h.len; simp at this; omega
  obtain ⟨b, off, rfl, hc⟩ := h.cells 0 hn
  refine ⟨rfl, by omega, fun j _ => ⟨b, off, rfl, fun j hj => ?_⟩⟩
  obtain rfl : j = 0 := by omega
  exact hc 0 hn
theorem OVS.va {B : Nat} {W : World} {v : Value} {n : Nat} {zs : List VC} (h : OVS B W v n (flat zs)) (hl : zs.length = n) (h0 : 0 < n) (hc : n ≤ 140737488351232) (hz : ∀ z ∈ zs, IA W z.ad z.n z.at_ ∧ z.act.Ok) : ∃ a ca, v = .slice a n ca ∧ VA W a n (zs.map VC.ver) := by
  obtain ⟨g, ca, rfl, _, _, hcell⟩ := h.cells h0
  refine ⟨_, ca, rfl, ⟨by rw [List.length_map]; exact hl, hc, fun j0 _ => ⟨g, 0, rfl, fun j hj => ?_⟩⟩⟩
  have hjl : j < zs.length := by omega
  have e : nthR (zs.map VC.ver) j = (el zs j).ver := by
    rw [nthR_eq (by rw [List.length_map]; exact hjl), List.getElem_map, el_eq hjl]
  obtain ⟨i1, i2⟩ := hz _ (el_mem hjl)
  rw [e, Nat.zero_add]
  have key : ∀ r u, r < 8 → (el zs j).cs[r]? = some u → W.cell? ⟨g, j * 8 + r, none⟩ = some u := fun r u h8 hu => hcell _ u (by rw [flat_get zs j r hjl h8]; exact hu)
  exact ⟨key 0 _ (by decide) rfl, ⟨_, _, _, key 1 _ (by decide) rfl, i1⟩, key 2 _ (by decide) rfl, key 3 _ (by decide) rfl, key 4 _ (by decide) rfl, key 5 _ (by decide) rfl, key 6 _ (by decide) rfl, key 7 _ (by decide) rfl, i2⟩
set_option maxHeartbeats 3200000 in
set_option maxRecDepth 100000 in
theorem fdrop_any (key : ByteArray) (a : Option Addr) (n ca : Nat) (vs : List VerL) (fa : Option Addr) (fn fc : Nat) (floor : List Int) (all : Bool) (w : World) (hkey : key.size ≤ 140737488351232) (hv : VA w a n vs) (hn1 : n ≤ 900) (hf : IA w fa fn floor) :
    Calls Try.prog 12 #[.string key, .slice a n ca, .slice fa fn fc, .bool all] w fun e w' => ∃ a' m ca', e = .returned (.slice a' m ca') ∧ VA w' a' m (dropL key vs floor all) ∧ Bl w w' := by
  have hsf := store_fl
  go_enter Try.func12, Try.ntmps12
  go_wp2_with fail
  refine (fOrder_any a n ca vs _ hv (by omega)).mono ?_
  rintro e W0 ⟨a0, m, c0, rfl, hv0, hb0⟩
  have HW := Lib.hid hb0
  have HF := Lib.hid (hf.keep hb0)
  have hmn : m ≤ 900 := by rw [← hv0.len]; exact Nat.le_trans (order_len _) (by rw [hv.len]; exact hn1)
  obtain ⟨os, hos⟩ : ∃ os, orderOf vs = os := ⟨_, rfl⟩
  rw [hos] at hv0
  have HD := Lib.hid (show dropL key vs floor all = dropO key os floor all by unfold dropL; rw [hos])
  have HL := Lib.hid hv0.len
  clear hb0 hf hos hv
  obtain ⟨kb, hkb⟩ : ∃ kb, isKeyB key = kb := ⟨_, rfl⟩
  obtain ⟨fb, hfb⟩ : ∃ fb, validL floor = fb := ⟨_, rfl⟩
  have HKB := Lib.hid hkb
  have HFB := Lib.hid hfb
  clear hkb hfb
  go_wp2_with fail
  refine (isKey_any key _ hkey).mono ?_
  rintro e w1 ⟨rfl, rfl⟩
  rw [HKB.out]
  cases kb
  case false =>
    have HO := Lib.hid (show dropL key vs floor all = os by rw [HD.out]; unfold dropO; rw [HKB.out]; rfl)
    go_wp2_with fail
    go_ret
    exact ⟨a0, m, c0, rfl, by rw [HO.out]; exact hv0, HW.out⟩
  case true =>
  go_wp2_with fail
  refine (valid_any fa fn fc floor _ HF.out).mono ?_
  rintro e w1 ⟨rfl, rfl⟩
  rw [HFB.out]
  cases fb
  case false =>
    have HO := Lib.hid (show dropL key vs floor all = os by rw [HD.out]; unfold dropO; rw [HKB.out, HFB.out]; rfl)
    go_wp2_with fail
    go_ret
    exact ⟨a0, m, c0, rfl, by rw [HO.out]; exact hv0, HW.out⟩
  case true =>
  have HO := Lib.hid (show dropL key vs floor all = keptL key (stayL floor os) floor all (seenL key floor os) by rw [HD.out]; unfold dropO; rw [HKB.out, HFB.out]; rfl)
  go_wp2_with fail
  go_loopw [9, 10, 27] (fun sv ev iv wr => ∃ (k : Nat) (xs ys : List VC), k ≤ m ∧ xs.map VC.ver = stayL floor (os.take k) ∧ ys.map VC.ver = seenL key floor (os.take k) ∧ DR W0 wr sv ev xs ys ∧ iv = .int .i64 (k : Int)) (fun _ _ iv _ => m - (intOf iv).toNat)
  case atStart => exact ⟨0, [], [], Nat.zero_le _, by rw [List.take_zero]; rfl, by rw [List.take_zero]; rfl, DR.nil (Bl.refl _), by go_num⟩
  case round =>
    obtain ⟨k, xs, ys, hk, hm1, hm2, hdr, rfl⟩ := hrel
    have HM1 := Lib.hid hm1
    have HM2 := Lib.hid hm2
    have HR := Lib.hid hdr
    have hxl : xs.length ≤ k := by
      have h1 := congrArg List.length HM1.out
      rw [List.length_map] at h1
      have h2 := List.length_filter_le (fun v => !leqV floor v) (os.take k)
      rw [List.length_take] at h2
      unfold stayL at h1
      omega
    have hyl : ys.length ≤ k := by
      have h1 := congrArg List.length HM2.out
      rw [List.length_map] at h1
      have h2 := List.length_filter_le (fun v => leqV floor v && fitsB key v.act) (os.take k)
      rw [List.length_take] at h2
      unfold seenL at h1
      omega
    clear hm1 hm2 hdr
    by_cases hlt : k < m
    · obtain ⟨b, off, rfl, hc⟩ := hv0.cells k hlt
      have E0 := hc k hlt
      have E := E0.keep HR.out.bl
      have HT1 := Lib.hid (take_filter (fun v => !leqV floor v) os _ k (take_nthR (vs := os) (k := k) (by rw [HL.out]; exact hlt)))
      have HT2 := Lib.hid (take_filter (fun v => leqV floor v && fitsB key v.act) os _ k (take_nthR (vs := os) (k := k) (by rw [HL.out]; exact hlt)))
      obtain ⟨V, hV⟩ : ∃ V, nthR os k = V := ⟨_, rfl⟩
      rw [hV] at E E0 HT1 HT2
      clear hV hc
      have HA := Lib.hid E.ok
      obtain ⟨va, vn, vc, e1', hI⟩ := E0.at_
      have e1 := HR.out.bl.cell e1'
      have HI := Lib.hid hI
      have ba : Bl wr (wr.alloc (.cells #[.string V.key, .slice va vn vc, .int .i64 V.origin, .int .i64 V.tx, .int .i64 V.act.k, .float .f64 V.act.x, .int .i64 V.act.n, .string V.act.s] 35)) := (Bl.refl wr).alloc _
      have hx := AC.new wr wr.heap.size rfl [.string V.key, .slice va vn vc, .int .i64 V.origin, .int .i64 V.tx, .int .i64 V.act.k, .float .f64 V.act.x, .int .i64 V.act.n, .string V.act.s] 35
      have HVB := Lib.hid hx
      obtain ⟨v0, v1, v2, v3, v4, v5, v6, v7⟩ := AC.ver (key := V.key) (a := va) (n := vn) (ca := vc) (o := V.origin) (t := V.tx) (k := V.act.k) (x := V.act.x) (m := V.act.n) (s := V.act.s) hx
      have HIA := Lib.hid (hI.keep (HR.out.bl.trans ba))
      have HFA := Lib.hid (HF.out.keep (HR.out.bl.trans ba))
      have HDA := Lib.hid (HR.out.keep ba)
      clear hx ba
      have e0 := E.c0
      have e2 := E.c2
      have e3 := E.c3
      have e4 := E.c4
      have e5 := E.c5
      have e6 := E.c6
      have e7 := E.c7
      clear hI E E0 e1' HR
      obtain ⟨r, hr⟩ : ∃ r, leqL V.at_ floor = r := ⟨_, rfl⟩
      have HRR := Lib.hid hr
      clear hr
      go_wp2_with fail
      clear e0 e1 e2 e3 e4 e5 e6 e7
      refine (leq_any va fa vn fn vc fc V.at_ floor _ HIA.out HFA.out).mono ?_
      rintro e w2 ⟨rfl, rfl⟩
      rw [HRR.out]
      clear HIA HFA
      generalize wr.heap.size = gv at *
      generalize wr.alloc _ = wa at *
      cases r
      case false =>
        have HN1 := Lib.hid (show stayL floor (os.take (k + 1)) = stayL floor (os.take k) ++ [V] by unfold stayL; rw [HT1.out]; exact if_pos (by show (!leqL V.at_ floor) = true; rw [HRR.out]; rfl))
        have HN2 := Lib.hid (show seenL key floor (os.take (k + 1)) = seenL key floor (os.take k) by unfold seenL; rw [HT2.out]; exact if_neg (by show ¬ (leqL V.at_ floor && fitsB key V.act) = true; rw [HRR.out, Bool.false_and]; decide))
        clear HT1 HT2 HRR
        have HSB := Lib.hid (HDA.out.keep ((Bl.refl wa).alloc (.cells #[.string V.key, .slice va vn vc, .int .i64 V.origin, .int .i64 V.tx, .int .i64 V.act.k, .float .f64 V.act.x, .int .i64 V.act.n, .string V.act.s] 35)))
        have HLT := Lib.hid (SG.lit (heap_alloc_new wa (.cells #[.string V.key, .slice va vn vc, .int .i64 V.origin, .int .i64 V.tx, .int .i64 V.act.k, .float .f64 V.act.x, .int .i64 V.act.n, .string V.act.s] 35)) (show [.string V.key, .slice va vn vc, .int .i64 V.origin, .int .i64 V.tx, .int .i64 V.act.k, .float .f64 V.act.x, .int .i64 V.act.n, .string V.act.s].length = 1 * 8 from rfl) (by simp [Value.oneCell']))
        go_wp2_with (at_builtin; refine wpList_appK rfl _ _ _ rfl el_vr W0.heap.size _ _ _ rfl HSB.out.st.own HSB.out.bl.size _ 1 1 _ rfl HLT.out ?cM ?cN ?_)
        case cM => unfold maxLen; omega
        case cN => omega
        intro vq w3 ho3 hg3 hz1 hz2
        have HS3 := Lib.hid (HSB.out.push1 (y := ⟨V.key, va, vn, vc, V.at_, V.origin, V.tx, V.act⟩) HI.out HA.out ho3 hg3 (by intro b e; have := hz2 b e; simpa using this))
        clear hz1 hz2 ho3 hg3 HSB HLT HDA v0 v1 v2 v3 v4 v5 v6 v7
        go_wp2_with fail
        go_roundw
        case rel => exact ⟨k + 1, xs ++ [⟨V.key, va, vn, vc, V.at_, V.origin, V.tx, V.act⟩], ys, by omega, by rw [List.map_append, HM1.out, HN1.out]; rfl, by rw [HM2.out, HN2.out], HS3.out, by go_num⟩
        case measure => simp [intOf]; omega
      case true =>
        have HN1 := Lib.hid (show stayL floor (os.take (k + 1)) = stayL floor (os.take k) by unfold stayL; rw [HT1.out]; exact if_neg (by show ¬ (!leqL V.at_ floor) = true; rw [HRR.out]; decide))
        obtain ⟨ff, hff⟩ : ∃ ff, fitsB key ⟨V.act.k, V.act.x, V.act.n, V.act.s⟩ = ff := ⟨_, rfl⟩
        have HFF := Lib.hid hff
        clear hff
        go_wp2_with fail
        refine (fits_agg key V.act.k V.act.x V.act.n V.act.s ff _ HFF hkey HA).mono ?_
        rintro e w2 ⟨rfl, hb2⟩
        have HDB := Lib.hid (HDA.out.keep hb2)
        have HVB2 := Lib.hid (HVB.out.keep hb2)
        clear hb2 HDA HVB v0 v1 v2 v3 v4 v5 v6 v7
        obtain ⟨v0, v1, v2, v3, v4, v5, v6, v7⟩ := AC.ver (key := V.key) (a := va) (n := vn) (ca := vc) (o := V.origin) (t := V.tx) (k := V.act.k) (x := V.act.x) (m := V.act.n) (s := V.act.s) HVB2.out
        cases ff
        case false =>
          have HN2 := Lib.hid (show seenL key floor (os.take (k + 1)) = seenL key floor (os.take k) by unfold seenL; rw [HT2.out]; exact if_neg (by show ¬ (leqL V.at_ floor && fitsB key V.act) = true; rw [HRR.out, show fitsB key V.act = false from HFF.out]; decide))
          go_wp2_with fail
          go_roundw
          case rel => exact ⟨k + 1, xs, ys, by omega, by rw [HM1.out, HN1.out], by rw [HM2.out, HN2.out], HDB.out, by go_num⟩
          case measure => simp [intOf]; omega
        case true =>
          have HN2 := Lib.hid (show seenL key floor (os.take (k + 1)) = seenL key floor (os.take k) ++ [V] by unfold seenL; rw [HT2.out]; exact if_pos (by show (leqL V.at_ floor && fitsB key V.act) = true; rw [HRR.out, show fitsB key V.act = true from HFF.out]; rfl))
          clear HT1 HT2 HRR HFF
          have HSB := Lib.hid (HDB.out.keep ((Bl.refl w2).alloc (.cells #[.string V.key, .slice va vn vc, .int .i64 V.origin, .int .i64 V.tx, .int .i64 V.act.k, .float .f64 V.act.x, .int .i64 V.act.n, .string V.act.s] 35)))
          have HLT := Lib.hid (SG.lit (heap_alloc_new w2 (.cells #[.string V.key, .slice va vn vc, .int .i64 V.origin, .int .i64 V.tx, .int .i64 V.act.k, .float .f64 V.act.x, .int .i64 V.act.n, .string V.act.s] 35)) (show [.string V.key, .slice va vn vc, .int .i64 V.origin, .int .i64 V.tx, .int .i64 V.act.k, .float .f64 V.act.x, .int .i64 V.act.n, .string V.act.s].length = 1 * 8 from rfl) (by simp [Value.oneCell']))
          go_wp2_with (at_builtin; refine wpList_appK rfl _ _ _ rfl el_vr W0.heap.size _ _ _ rfl HSB.out.se.own HSB.out.bl.size _ 1 1 _ rfl HLT.out ?cM ?cN ?_)
          case cM => unfold maxLen; omega
          case cN => omega
          intro vq w3 ho3 hg3 hz1 hz2
          have HS3 := Lib.hid (HSB.out.push2 (y := ⟨V.key, va, vn, vc, V.at_, V.origin, V.tx, V.act⟩) HI.out HA.out ho3 hg3 (by intro b e; have := hz2 b e; simpa using this))
          clear hz1 hz2 ho3 hg3 HSB HLT HDB v0 v1 v2 v3 v4 v5 v6 v7
          go_wp2_with fail
          go_roundw
          case rel => exact ⟨k + 1, xs, ys ++ [⟨V.key, va, vn, vc, V.at_, V.origin, V.tx, V.act⟩], by omega, by rw [HM1.out, HN1.out], by rw [List.map_append, HM2.out, HN2.out]; rfl, HS3.out, by go_num⟩
          case measure => simp [intOf]; omega
    · have HX := Lib.hid (show xs.map VC.ver = stayL floor os by rw [HM1.out, List.take_of_length_le (by rw [HL.out]; omega)])
      have HY := Lib.hid (show ys.map VC.ver = seenL key floor os by rw [HM2.out, List.take_of_length_le (by rw [HL.out]; omega)])
      obtain ⟨xn, hxn⟩ : ∃ xn, xs.length = xn := ⟨_, rfl⟩
      obtain ⟨yn, hyn⟩ : ∃ yn, ys.length = yn := ⟨_, rfl⟩
      have hxb : xn ≤ 900 := by omega
      have hyb : yn ≤ 900 := by omega
      obtain ⟨sa, sc, rfl, hva⟩ := HR.out.st.va HR.out.bl hxn (by omega)
      obtain ⟨ea, ec, rfl, hvb⟩ := HR.out.se.va HR.out.bl hyn (by omega)
      have HVA := Lib.hid (show VA wr sa xn (stayL floor os) from HX.out ▸ hva)
      have HVB := Lib.hid (show VA wr ea yn (seenL key floor os) from HY.out ▸ hvb)
      have HXN := Lib.hid hxn
      have HYN := Lib.hid hyn
      have HWR := Lib.hid (HW.out.trans HR.out.bl)
      have HFR := Lib.hid (HF.out.keep HR.out.bl)
      clear hva hvb hxn hyn HM1 HM2 hxl hyl
      have HSUM := Lib.hid (show (stayL floor os).length + (seenL key floor os).length ≤ 1000 by have := parts_len key floor os; have := HL.out; omega)
      obtain ⟨stay, hst⟩ : ∃ stay, stayL floor os = stay := ⟨_, rfl⟩
      obtain ⟨seen, hse⟩ : ∃ seen, seenL key floor os = seen := ⟨_, rfl⟩
      rw [hst] at HVA HX
      rw [hse] at HVB HY
      rw [hst, hse] at HO HSUM
      clear hst hse
      by_cases hy0 : yn = 0
      · subst hy0
        have HE := Lib.hid (show dropL key vs floor all = stay by rw [HO.out, List.eq_nil_of_length_eq_zero HVB.out.len]; rfl)
        go_wp2_with fail
        go_ret
        exact ⟨sa, xn, sc, rfl, by rw [HE.out]; exact HVA.out, HWR.out⟩
      · have q0 : ((yn : Int) == 0) = false := by rw [beq_eq_false_iff_ne]; omega
        obtain ⟨first, rest, hfr⟩ : ∃ first rest, seen = first :: rest := by
          cases hs : seen with
          | nil => have := HVB.out.len; rw [hs] at this; simp at this; omega
          | cons f r => exact ⟨f, r, rfl⟩
        have HFIRST := Lib.hid hfr
        clear hfr
        obtain ⟨rb, hrb⟩ : ∃ rb, regB key = rb := ⟨_, rfl⟩
        have HRB := Lib.hid hrb
        clear hrb
        go_wp2_with fail
        refine (fregs_any key _ (key_pos HKB.out)).mono ?_
        rintro e w1 ⟨rfl, rfl⟩
        rw [HRB.out]
        cases rb
        case true =>
          have hfn : 0 < fn := by
            have h1 := HFB.out
            have h2 := HFR.out.len
            cases hq : floor with
            | nil => rw [hq] at h1; exact absurd h1 (by decide)
            | cons x l => rw [hq] at h2; simp at h2; omega
          have hcap := HR.out.se.cap
          go_wp2_with fail
          refine (flast_any sa xn sc stay ea yn ec seen fa fn fc floor all first rest _ HVA.out HVB.out HFR.out hfn HFIRST.out hcap).mono ?_
          rintro e w2 ⟨rfl, hb2⟩
          obtain ⟨ka, kn, kc, kl, hk1, hk2, hk3, hk4⟩ : ∃ (ka : Option Addr) (kn kc : Nat) (kl : List VerL), (if goneL stay first floor all then Value.slice none 0 0 else .slice ea 1 ec) = .slice ka kn kc ∧ VA wr ka kn kl ∧ kl = (if goneL stay first floor all then [] else [first]) ∧ kn ≤ 1 := by
            by_cases hg : goneL stay first floor all = true
            · exact ⟨none, 0, 0, [], by rw [if_pos hg], ⟨rfl, by omega, fun j hj => absurd hj (Nat.not_lt_zero _)⟩, by rw [if_pos hg], by omega⟩
            · exact ⟨ea, 1, ec, [first], by rw [if_neg hg], (HFIRST.out ▸ HVB.out).first, by rw [if_neg hg], by omega⟩
          rw [hk1]
          have HE := Lib.hid (show dropL key vs floor all = orderOf (stay ++ kl) by rw [HO.out, HFIRST.out, kept_reg HRB.out, hk3])
          have ba : Bl w2 (w2.alloc (.cells #[.slice sa xn sc, .slice ka kn kc] 22)) := (Bl.refl w2).alloc _
          have HK := Lib.hid (hk2.keep (hb2.trans ba))
          have HS := Lib.hid (HVA.out.keep (hb2.trans ba))
          have HH := Lib.hid (AC.new w2 w2.heap.size rfl [.slice sa xn sc, .slice ka kn kc] 22)
          have HB2 := Lib.hid (HWR.out.trans (hb2.trans ba))
          clear hk1 hk2 hk3 hb2 ba
          go_wp2_with fail
          refine (concat_any w2.heap.size sa ka xn sc kn kc stay kl _ HH.out HS.out HK.out (by omega) (by omega)).mono ?_
          rintro e w3 ⟨x3, c3, rfl, hv3, hb3⟩
          have HV3 := Lib.hid hv3
          have HB3 := Lib.hid (HB2.out.trans hb3)
          obtain ⟨n3, hn3⟩ : ∃ n3, xn + kn = n3 := ⟨_, rfl⟩
          rw [hn3] at HV3
          rw [hn3]
          have hn3b : n3 ≤ 1000 := by omega
          clear hv3 hb3 hn3
          go_wp2_with fail
          refine (fOrder_any x3 n3 c3 (stay ++ kl) _ HV3.out hn3b).mono ?_
          rintro e w4 ⟨x4, n4, c4, rfl, hv4, hb4⟩
          have HV4 := Lib.hid hv4
          have HB4 := Lib.hid (HB3.out.trans hb4)
          clear hv4 hb4
          go_wp2_with fail
          go_ret
          exact ⟨x4, n4, c4, rfl, by rw [HE.out]; exact HV4.out, HB4.out⟩
        case false =>
          cases all
          case false =>
            have HE := Lib.hid (show dropL key vs floor false = orderOf (stay ++ seen) by rw [HO.out, HFIRST.out, kept_all HRB.out (.inl rfl)])
            have ba : Bl wr (wr.alloc (.cells #[.slice sa xn sc, .slice ea yn ec] 22)) := (Bl.refl wr).alloc _
            have HK := Lib.hid (HVB.out.keep ba)
            have HS := Lib.hid (HVA.out.keep ba)
            have HH := Lib.hid (AC.new wr wr.heap.size rfl [.slice sa xn sc, .slice ea yn ec] 22)
            have HB2 := Lib.hid (HWR.out.trans ba)
            clear ba
            go_wp2_with fail
            refine (concat_any wr.heap.size sa ea xn sc yn ec stay seen _ HH.out HS.out HK.out (by omega) (by omega)).mono ?_
            rintro e w3 ⟨x3, c3, rfl, hv3, hb3⟩
            have HV3 := Lib.hid hv3
            have HB3 := Lib.hid (HB2.out.trans hb3)
            have hsum : xn + yn ≤ 1000 := by
              have h1 := HXN.out
              have h2 := HYN.out
              have h3 := congrArg List.length HX.out
              have h4 := congrArg List.length HY.out
              rw [List.length_map] at h3 h4
              have h5 := HSUM.out
              omega
            obtain ⟨n3, hn3⟩ : ∃ n3, xn + yn = n3 := ⟨_, rfl⟩
            rw [hn3] at HV3
            rw [hn3]
            have hn3b : n3 ≤ 1000 := by omega
            clear hv3 hb3 hn3
            go_wp2_with fail
            refine (fOrder_any x3 n3 c3 (stay ++ seen) _ HV3.out hn3b).mono ?_
            rintro e w4 ⟨x4, n4, c4, rfl, hv4, hb4⟩
            have HV4 := Lib.hid hv4
            have HB4 := Lib.hid (HB3.out.trans hb4)
            clear hv4 hb4
            go_wp2_with fail
            go_ret
            exact ⟨x4, n4, c4, rfl, by rw [HE.out]; exact HV4.out, HB4.out⟩
          case true =>
            by_cases h2 : 2 ≤ yn
            · have q1 : decide ((1 : Int) < (yn : Int)) = true := decide_eq_true (by omega)
              have q1n : decide (1 < yn) = true := decide_eq_true (by omega)
              have HE := Lib.hid (show dropL key vs floor true = stay ++ [oneL key seen.reverse] by
                rw [HO.out, HFIRST.out]
                exact kept_one HRB.out (fun q => by have := HVB.out.len; rw [HFIRST.out, q] at this; simp at this; omega))
              go_wp2_with fail
              refine (fone_any key ea yn ec seen _ hkey HVB.out (by omega) h2).mono ?_
              rintro e w2 ⟨y, rfl, hy1, hy2, hy3, hb2⟩
              have HY1 := Lib.hid hy1
              have HY2 := Lib.hid hy2
              have HSA := Lib.hid (HR.out.st.keep hb2)
              have HBA := Lib.hid (HR.out.bl.trans hb2)
              have HW2 := Lib.hid (HWR.out.trans hb2)
              have HYF := Lib.hid hy3
              clear hy1 hy2 hy3 hb2
              have HSB := Lib.hid (HSA.out.keep ((Bl.refl w2).alloc (.cells #[.string y.key, .slice y.ad y.n y.ca, .int .i64 y.origin, .int .i64 y.tx, .int .i64 y.act.k, .float .f64 y.act.x, .int .i64 y.act.n, .string y.act.s] 35)))
              have HYG := Lib.hid (HYF.out.keep ((Bl.refl w2).alloc (.cells #[.string y.key, .slice y.ad y.n y.ca, .int .i64 y.origin, .int .i64 y.tx, .int .i64 y.act.k, .float .f64 y.act.x, .int .i64 y.act.n, .string y.act.s] 35)))
              have HBB := Lib.hid (HBA.out.alloc (.cells #[.string y.key, .slice y.ad y.n y.ca, .int .i64 y.origin, .int .i64 y.tx, .int .i64 y.act.k, .float .f64 y.act.x, .int .i64 y.act.n, .string y.act.s] 35))
              have HLT := Lib.hid (SG.lit (heap_alloc_new w2 (.cells #[.string y.key, .slice y.ad y.n y.ca, .int .i64 y.origin, .int .i64 y.tx, .int .i64 y.act.k, .float .f64 y.act.x, .int .i64 y.act.n, .string y.act.s] 35)) (show [.string y.key, .slice y.ad y.n y.ca, .int .i64 y.origin, .int .i64 y.tx, .int .i64 y.act.k, .float .f64 y.act.x, .int .i64 y.act.n, .string y.act.s].length = 1 * 8 from rfl) (by simp [Value.oneCell']))
              go_wp2_with (at_builtin; refine wpList_appK rfl _ _ _ rfl el_vr W0.heap.size _ _ _ rfl HSB.out.own HBB.out.size _ 1 1 _ rfl HLT.out ?cM ?cN ?_)
              case cM => have := HXN.out; unfold maxLen; omega
              case cN => have := HXN.out; omega
              intro vq w3 ho3 hg3 hz1 hz2
              have HY3 := FI.fr HYG.out ((Fr.refl (fun b => (Value.slice sa xn sc).ownBlock = some b) _).grown hg3 (fun i e => e)) (fun b q e => apart_typ HSB.out.own HYG.out e q)
              have HB3 := HSB.out.grown HBB.out hg3
              have ho4 : OVS W0.heap.size w3 vq (xn + 1) (flat (xs ++ [y])) := by rw [flat_append, flat_one, ← HXN.out]; exact ho3
              obtain ⟨x4, c4, rfl, hv4⟩ := ho4.va (by rw [List.length_append, HXN.out]; rfl) (by omega) (by omega) (fun z hz => by
                rcases List.mem_append.1 hz with q | q
                · exact ⟨(HSB.out.els z q).1.keep HB3, (HSB.out.els z q).2⟩
                · rw [List.mem_singleton] at q; subst q; exact ⟨HY3.iaE, HY2.out⟩)
              have HV4 := Lib.hid (show VA w3 x4 (xn + 1) (stay ++ [oneL key seen.reverse]) by rw [List.map_append, HX.out] at hv4; rw [← HY1.out]; exact hv4)
              have HB4 := Lib.hid (HW.out.trans HB3)
              clear hz1 hz2 ho3 ho4 hg3 hv4 HY3 HB3 HLT HSB HSA
              go_wp2_with fail
              go_ret
              exact ⟨x4, xn + 1, c4, rfl, by rw [HE.out]; exact HV4.out, HB4.out⟩
            · have q1 : decide ((1 : Int) < (yn : Int)) = false := decide_eq_false (by omega)
              have q1n : decide (1 < yn) = false := decide_eq_false (by omega)
              have HE := Lib.hid (show dropL key vs floor true = orderOf (stay ++ seen) by rw [HO.out, HFIRST.out, kept_all HRB.out (.inr (by have := HVB.out.len; rw [HFIRST.out] at this; simp at this; exact List.eq_nil_of_length_eq_zero (by omega)))])
              have ba : Bl wr (wr.alloc (.cells #[.slice sa xn sc, .slice ea yn ec] 22)) := (Bl.refl wr).alloc _
              have HK := Lib.hid (HVB.out.keep ba)
              have HS := Lib.hid (HVA.out.keep ba)
              have HH := Lib.hid (AC.new wr wr.heap.size rfl [.slice sa xn sc, .slice ea yn ec] 22)
              have HB2 := Lib.hid (HWR.out.trans ba)
              clear ba
              go_wp2_with fail
              refine (concat_any wr.heap.size sa ea xn sc yn ec stay seen _ HH.out HS.out HK.out (by omega) (by omega)).mono ?_
              rintro e w3 ⟨x3, c3, rfl, hv3, hb3⟩
              have HV3 := Lib.hid hv3
              have HB3 := Lib.hid (HB2.out.trans hb3)
              have hsum : xn + yn ≤ 1000 := by
                have h1 := HXN.out
                have h2 := HYN.out
                have h3 := congrArg List.length HX.out
                have h4 := congrArg List.length HY.out
                rw [List.length_map] at h3 h4
                have h5 := HSUM.out
                omega
              obtain ⟨n3, hn3⟩ : ∃ n3, xn + yn = n3 := ⟨_, rfl⟩
              rw [hn3] at HV3
              rw [hn3]
              have hn3b : n3 ≤ 1000 := by omega
              clear hv3 hb3 hn3
              go_wp2_with fail
              refine (fOrder_any x3 n3 c3 (stay ++ seen) _ HV3.out hn3b).mono ?_
              rintro e w4 ⟨x4, n4, c4, rfl, hv4, hb4⟩
              have HV4 := Lib.hid hv4
              have HB4 := Lib.hid (HB3.out.trans hb4)
              clear hv4 hb4
              go_wp2_with fail
              go_ret
              exact ⟨x4, n4, c4, rfl, by rw [HE.out]; exact HV4.out, HB4.out⟩
end Go.Proofs.Ytginbjcpcgphgaa
end

/- bedrocklaw17: Light, right. By an AI agent. -/
section
set_option linter.unusedVariables false
set_option linter.unusedSimpArgs false
namespace Go.Proofs.Ytginbjcpcgphgaa
open Go.RowKit
attribute [local go_sem] eOp eOper eUpon

set_option maxHeartbeats 1600000 in
set_option maxRecDepth 100000 in
theorem light17_any (a : Option Addr) (n ca : Nat) (vs : List VerL) (w : World) (hv : VA w a n vs) :
    Calls Try.prog 8 #[.slice a n ca] w fun e w' => ∃ b : Bool, e = .returned (.bool b) ∧ (b = true → n ≤ 60) ∧ w = w' := by
  have hcap := hv.cap
  go_enter Try.func8, Try.ntmps8
  by_cases h60 : n ≤ 60
  · have q0 : decide ((60 : Int) < (n : Int)) = false := decide_eq_false (by omega)
    have q0n : decide (60 < n) = false := decide_eq_false (by omega)
    go_wp2_with fail
    go_loopw [3] (fun iv wr => ∃ k : Nat, k ≤ n ∧ iv = .int .i64 (k : Int) ∧ w = wr) (fun iv _ => n - (intOf iv).toNat)
    case atStart => exact ⟨0, Nat.zero_le _, by go_num, rfl⟩
    case round =>
      obtain ⟨k, hk, rfl, rfl⟩ := hrel
      by_cases hlt : k < n
      · obtain ⟨b, off, rfl, hc⟩ := hv.cells k hlt
        have E := hc k hlt
        obtain ⟨V, hV⟩ : ∃ V, nthR vs k = V := ⟨_, rfl⟩
        rw [hV] at E
        clear hV hc
        obtain ⟨va, vn, vc, e1, hI⟩ := E.at_
        have hvc := hI.cap
        have e0 := E.c0
        have e2 := E.c2
        have e3 := E.c3
        have e4 := E.c4
        have e5 := E.c5
        have e6 := E.c6
        have e7 := E.c7
        clear hI E
        go_wp2_with fail
        all_goals first
          | (go_ret; first | exact ⟨false, rfl, fun h => (by cases h), rfl⟩ | exact ⟨.inl rfl, rfl⟩)
          | (refine ⟨⟨k + 1, by omega, by go_num, trivial⟩, ?_⟩; simp [intOf]; omega)
      · go_wp2_with fail
        go_ret
        exact ⟨true, rfl, fun _ => h60, rfl⟩
  · have q0 : decide ((60 : Int) < (n : Int)) = true := decide_eq_true (by omega)
    have q0n : decide (60 < n) = true := decide_eq_true (by omega)
    go_wp2_with fail
    go_ret
    exact ⟨false, rfl, fun h => (by cases h), rfl⟩
set_option maxHeartbeats 3200000 in
set_option maxRecDepth 100000 in
theorem right17_any (key : ByteArray) (a : Option Addr) (n ca : Nat) (vs : List VerL) (nn : Nat) (w : World) (hkey : key.size ≤ 140737488351232) (hv : VA w a n vs) :
    Calls Try.prog 10 #[.string key, .slice a n ca, .int .i64 (nn : Int)] w fun e w' => ∃ b : Bool, e = .returned (.bool b) ∧ (b = true → RightL key nn vs) ∧ Bl w w' := by
  have hsf := store_fl
  have hcap := hv.cap
  have HL := Lib.hid hv.len
  go_enter Try.func10, Try.ntmps10
  go_wp2_with fail
  go_loopw [7] (fun iv wr => ∃ k : Nat, k ≤ n ∧ iv = .int .i64 (k : Int) ∧ (∀ j, j < k → RightV key nn (nthR vs j)) ∧ Bl w wr) (fun iv _ => n - (intOf iv).toNat)
  case atStart => exact ⟨0, Nat.zero_le _, by go_num, fun j hj => absurd hj (Nat.not_lt_zero _), Bl.refl _⟩
  case round =>
    obtain ⟨k, hk, rfl, hr, hb⟩ := hrel
    have HR := Lib.hid hr
    have HB := Lib.hid hb
    clear hr hb
    by_cases hlt : k < n
    · obtain ⟨b, off, rfl, hc⟩ := hv.cells k hlt
      have E := (hc k hlt).keep HB.out
      obtain ⟨V, hV⟩ : ∃ V, nthR vs k = V := ⟨_, rfl⟩
      rw [hV] at E
      have HV := Lib.hid hV
      clear hV hc
      obtain ⟨va, vn, vc, e1, hI⟩ := E.at_
      have e0 := E.c0
      have e2 := E.c2
      have e3 := E.c3
      have e4 := E.c4
      have e5 := E.c5
      have e6 := E.c6
      have e7 := E.c7
      have HA := Lib.hid E.ok
      have HVL := Lib.hid hI.len
      have ba : Bl wr (wr.alloc (.cells #[.string V.key, .slice va vn vc, .int .i64 V.origin, .int .i64 V.tx, .int .i64 V.act.k, .float .f64 V.act.x, .int .i64 V.act.n, .string V.act.s] 35)) := (Bl.refl wr).alloc _
      have HX := Lib.hid (AC.new wr wr.heap.size rfl [.string V.key, .slice va vn vc, .int .i64 V.origin, .int .i64 V.tx, .int .i64 V.act.k, .float .f64 V.act.x, .int .i64 V.act.n, .string V.act.s] 35)
      have HI := Lib.hid (hI.keep ba)
      have HBA := Lib.hid (HB.out.trans ba)
      obtain ⟨v0, v1, v2, v3, v4, v5, v6, v7⟩ := AC.ver (key := V.key) (a := va) (n := vn) (ca := vc) (o := V.origin) (t := V.tx) (k := V.act.k) (x := V.act.x) (m := V.act.n) (s := V.act.s) HX.out
      clear hI E ba HB
      obtain ⟨vb, hvb⟩ : ∃ vb, validL V.at_ = vb := ⟨_, rfl⟩
      have HVB := Lib.hid hvb
      clear hvb
      go_wp2_with fail
      clear e0 e1 e2 e3 e4 e5 e6 e7
      refine (valid_any va vn vc V.at_ _ HI.out).mono ?_
      rintro e w2 ⟨rfl, rfl⟩
      rw [HVB.out]
      generalize wr.heap.size = gv at *
      generalize wr.alloc _ = wa at *
      cases vb
      case false =>
        go_wp2_with fail
        go_ret
        exact ⟨false, rfl, fun h => (by cases h), HBA.out⟩
      case true =>
      by_cases hn : vn = nn
      case neg =>
        have q1 : ((vn : Int) != (nn : Int)) = true := by simp; omega
        go_wp2_with fail
        go_ret
        exact ⟨false, rfl, fun h => (by cases h), HBA.out⟩
      case pos =>
      have q1 : ((vn : Int) != (nn : Int)) = false := by simp; omega
      have HN := Lib.hid hn
      clear hn
      obtain ⟨ff, hff⟩ : ∃ ff, fitsB key ⟨V.act.k, V.act.x, V.act.n, V.act.s⟩ = ff := ⟨_, rfl⟩
      have HFF := Lib.hid hff
      clear hff
      by_cases h1 : V.origin < 0
      · have p1 : decide (V.origin < 0) = true := decide_eq_true h1
        have p3 : (V.origin != 254) = true := by simp; omega
        go_wp2_with fail
        go_ret
        exact ⟨false, rfl, fun h => (by cases h), HBA.out⟩
      · have p1 : decide (V.origin < 0) = false := decide_eq_false h1
        by_cases h2 : (nn : Int) ≤ V.origin
        · have p2 : decide ((nn : Int) ≤ V.origin) = true := decide_eq_true h2
          by_cases h3 : V.origin = 254
          · have p3 : (V.origin != 254) = false := by simp; omega
            have H3 := Lib.hid h3
            clear h3
            by_cases ht : V.tx < 0
            · have q4 : decide (V.tx < 0) = true := decide_eq_true ht
              go_wp2_with fail
              go_ret
              exact ⟨false, rfl, fun h => (by cases h), HBA.out⟩
            · have q4 : decide (V.tx < 0) = false := decide_eq_false ht
              go_wp2_with fail
              refine (fits_agg key V.act.k V.act.x V.act.n V.act.s ff _ HFF hkey HA).mono ?_
              rintro e w2 ⟨rfl, hb2⟩
              have HB2 := Lib.hid (HBA.out.trans hb2)
              clear hb2
              cases ff
              case false =>
                go_wp2_with fail
                go_ret
                exact ⟨false, rfl, fun h => (by cases h), HB2.out⟩
              case true =>
                go_wp2_with fail
                go_roundw
                case rel =>
                  refine ⟨k + 1, by omega, by go_num, fun j hj => ?_, HB2.out⟩
                  by_cases e : j = k
                  · subst e
                    rw [HV.out]
                    exact ⟨HVB.out, by rw [HVL.out]; exact HN.out, .inr H3.out, by omega, HFF.out, HA.out⟩
                  · exact HR.out j (by omega)
                case measure => simp [intOf]; omega
          · have p3 : (V.origin != 254) = true := by simp; omega
            go_wp2_with fail
            go_ret
            exact ⟨false, rfl, fun h => (by cases h), HBA.out⟩
        · have p2 : decide ((nn : Int) ≤ V.origin) = false := decide_eq_false h2
          by_cases ht : V.tx < 0
          · have q4 : decide (V.tx < 0) = true := decide_eq_true ht
            go_wp2_with fail
            go_ret
            exact ⟨false, rfl, fun h => (by cases h), HBA.out⟩
          · have q4 : decide (V.tx < 0) = false := decide_eq_false ht
            go_wp2_with fail
            refine (fits_agg key V.act.k V.act.x V.act.n V.act.s ff _ HFF hkey HA).mono ?_
            rintro e w2 ⟨rfl, hb2⟩
            have HB2 := Lib.hid (HBA.out.trans hb2)
            clear hb2
            cases ff
            case false =>
              go_wp2_with fail
              go_ret
              exact ⟨false, rfl, fun h => (by cases h), HB2.out⟩
            case true =>
              go_wp2_with fail
              go_roundw
              case rel =>
                refine ⟨k + 1, by omega, by go_num, fun j hj => ?_, HB2.out⟩
                by_cases e : j = k
                · subst e
                  rw [HV.out]
                  exact ⟨HVB.out, by rw [HVL.out]; exact HN.out, .inl ⟨by omega, by omega⟩, by omega, HFF.out, HA.out⟩
                · exact HR.out j (by omega)
              case measure => simp [intOf]; omega
    · have HE := Lib.hid (show RightL key nn vs from fun v hvm => by
        obtain ⟨j, hj, rfl⟩ := List.getElem_of_mem hvm
        have := HR.out j (by have := HL.out; omega)
        rwa [nthR_eq hj] at this)
      go_wp2_with fail
      go_ret
      exact ⟨true, rfl, fun _ => HE.out, HB.out⟩
end Go.Proofs.Ytginbjcpcgphgaa
end
