import Derived.Test.YtfjjnffifnohkaaGreatQFoldTellsUptoP25
import Derived.Test.YtfjjnffifnohkaaGreatQFoldTellsUptoP26
import Derived.Test.YtfjjnffifnohkaaGreatQFoldTellsUptoP10
import Derived.Test.YtfjjnffifnohkaaGreatQFoldTellsUptoP14
import Derived.Test.YtfjjnffifnohkaaGreatQFoldTellsUptoP15
import Derived.Test.YtfjjnffifnohkaaGreatQFoldTellsUptoP13
import Derived.Test.YtfjjnffifnohkaaGreatQFoldTellsUptoP1
import Derived.Test.YtfjjnffifnohkaaGreatShelf
import Derived.Lib.Strings
import Derived.Lib.Slices
import Derived.Lib.Builder
import Derived.Lib.AppendStr
import Derived.Lib.UnsafeStr
import Derived.Lib.MakeNoZero
import Derived.Laws.Externs
import Derived.Deep.QuietTactic
import Derived.BigQuiet

/- fold.Drop: its loop. By an AI agent. -/
section
set_option linter.unusedVariables false
set_option linter.unusedSimpArgs false
namespace Go.Proofs.YtfjjnffifnohkaaGreat
open Go.RowKit
attribute [local go_sem] eOp eOper eUpon

/-- two rows that grow side by side -/
structure DR (W0 W : World) (sv ev : Value) (xs ys : List VC) : Prop where
  st : SV W0 W sv xs
  se : SV W0 W ev ys
  ap : APt sv ev
  bl : Bl W0 W
theorem DR.nil {W0 W : World} (h : Bl W0 W) : DR W0 W (.slice none 0 0) (.slice none 0 0) [] [] := ⟨SV.nil _ _, SV.nil _ _, fun b e => (by cases e), h⟩
theorem DR.keep {W0 W W' : World} {sv ev : Value} {xs ys : List VC} (h : DR W0 W sv ev xs ys) (hb : Bl W W') : DR W0 W' sv ev xs ys := ⟨h.st.keep hb, h.se.keep hb, h.ap, h.bl.trans hb⟩
theorem DR.push1 {W0 W W' : World} {sv ev sv' : Value} {xs ys : List VC} {y : VC} (h : DR W0 W sv ev xs ys) (hy : IA W0 y.ad y.n y.at_) (hok : y.act.Ok) (ho : OVS W0.heap.size W' sv' (xs.length + 1) (flat xs ++ y.cs)) (hg : W.grownBy W' sv.ownBlock) (hf : ∀ b, sv'.ownBlock = some b → sv.ownBlock = some b ∨ W.heap.size ≤ b) : DR W0 W' sv' ev (xs ++ [y]) ys :=
  ⟨h.st.push hy hok ho, h.se.other hg h.ap.symm, (h.se.apart h.ap.symm hf).symm, h.st.grown h.bl hg⟩
theorem DR.push2 {W0 W W' : World} {sv ev ev' : Value} {xs ys : List VC} {y : VC} (h : DR W0 W sv ev xs ys) (hy : IA W0 y.ad y.n y.at_) (hok : y.act.Ok) (ho : OVS W0.heap.size W' ev' (ys.length + 1) (flat ys ++ y.cs)) (hg : W.grownBy W' ev.ownBlock) (hf : ∀ b, ev'.ownBlock = some b → ev.ownBlock = some b ∨ W.heap.size ≤ b) : DR W0 W' sv ev' xs (ys ++ [y]) :=
  ⟨h.st.other hg h.ap, h.se.push hy hok ho, h.st.apart h.ap hf, h.se.grown h.bl hg⟩
theorem parts_len (key : ByteArray) (floor : List Int) : ∀ os : List VerL, (stayL floor os).length + (seenL key floor os).length ≤ os.length
  | [] => Nat.le_refl _
  | v :: os => by
    have ih := parts_len key floor os
    unfold stayL seenL at *
    rw [List.filter_cons, List.filter_cons, List.length_cons]
    cases h : leqV floor v
    · rw [if_pos (by rfl), if_neg (by rw [Bool.false_and]; decide), List.length_cons]; omega
    · rw [if_neg (by decide)]
      split
      · rw [List.length_cons]; omega
      · omega
theorem kept_reg {key : ByteArray} {stay rest : List VerL} {first : VerL} {floor : List Int} {all : Bool} (h : regB key = true) : keptL key stay floor all (first :: rest) = orderOf (stay ++ (if goneL stay first floor all then [] else [first])) := if_pos h
theorem kept_one {key : ByteArray} {stay rest : List VerL} {first : VerL} {floor : List Int} (h : regB key = false) (hr : rest ≠ []) : keptL key stay floor true (first :: rest) = stay ++ [oneL key (first :: rest).reverse] := by
  show (if regB key = true then _ else if (true && decide (rest ≠ [])) = true then _ else _) = _
  rw [if_neg (by rw [h]; decide), if_pos (by rw [Bool.true_and]; exact decide_eq_true hr)]
theorem kept_all {key : ByteArray} {stay rest : List VerL} {first : VerL} {floor : List Int} {all : Bool} (h : regB key = false) (hr : all = false ∨ rest = []) : keptL key stay floor all (first :: rest) = orderOf (stay ++ (first :: rest)) := by
  show (if regB key = true then _ else if (all && decide (rest ≠ [])) = true then _ else _) = _
  rw [if_neg (by rw [h]; decide), if_neg]
  rcases hr with rfl | rfl
  · rw [Bool.false_and]; decide
  · simp
theorem SV.cap {W0 W : World} {a : Option Addr} {n c : Nat} {xs : List VC} (h : SV W0 W (.slice a n c) xs) : n ≤ c := by
  obtain ⟨h1, ⟨hv, h2⟩ | ⟨g, cap, cur, hv, hB, hg, hc1, r⟩⟩ := h.own
  · simp only [Value.slice.injEq] at hv; omega
  · simp only [Value.slice.injEq] at hv; omega
theorem VA.first {w : World} {a : Option Addr} {n : Nat} {first : VerL} {rest : List VerL} (h : VA w a n (first :: rest)) : VA w a 1 [first] := by
  have hn : 0 < n := by have := h.len; simp at this; omega
  obtain ⟨b, off, rfl, hc⟩ := h.cells 0 hn
  refine ⟨rfl, by omega, fun j _ => ⟨b, off, rfl, fun j hj => ?_⟩⟩
  obtain rfl : j = 0 := by omega
  exact hc 0 hn
theorem OVS.va {B : Nat} {W : World} {v : Value} {n : Nat} {zs : List VC} (h : OVS B W v n (flat zs)) (hl : zs.length = n) (h0 : 0 < n) (hc : n ≤ 140737488351232) (hz : ∀ z ∈ zs, IA W z.ad z.n z.at_ ∧ z.act.Ok) : ∃ a ca, v = .slice a n ca ∧ VA W a n (zs.map VC.ver) := by
  obtain ⟨g, ca, rfl, _, _, hcell⟩ := h.cells h0
  refine ⟨_, ca, rfl, ⟨by rw [List.length_map]; exact hl, hc, fun j0 _ => ⟨g, 0, rfl, fun j hj => ?_⟩⟩⟩
  have hjl : j < zs.length := by omega
  have e : nthR (zs.map VC.ver) j = (el zs j).ver := by
    rw [nthR_eq (by rw [List.length_map]; exact hjl), List.getElem_map, el_eq hjl]
  obtain ⟨i1, i2⟩ := hz _ (el_mem hjl)
  rw [e, Nat.zero_add]
  have key : ∀ r u, r < 8 → (el zs j).cs[r]? = some u → W.cell? ⟨g, j * 8 + r, none⟩ = some u := fun r u h8 hu => hcell _ u (by rw [flat_get zs j r hjl h8]; exact hu)
  exact ⟨key 0 _ (by decide) rfl, ⟨_, _, _, key 1 _ (by decide) rfl, i1⟩, key 2 _ (by decide) rfl, key 3 _ (by decide) rfl, key 4 _ (by decide) rfl, key 5 _ (by decide) rfl, key 6 _ (by decide) rfl, key 7 _ (by decide) rfl, i2⟩
set_option maxHeartbeats 3200000 in
set_option maxRecDepth 100000 in
theorem fdrop_any (key : ByteArray) (a : Option Addr) (n ca : Nat) (vs : List VerL) (fa : Option Addr) (fn fc : Nat) (floor : List Int) (all : Bool) (w : World) (hkey : key.size ≤ 140737488351232) (hv : VA w a n vs) (hn1 : n ≤ 900) (hf : IA w fa fn floor) :
    Calls Tryz.prog 9 #[.string key, .slice a n ca, .slice fa fn fc, .bool all] w fun e w' => ∃ a' m ca', e = .returned (.slice a' m ca') ∧ VA w' a' m (dropL key vs floor all) ∧ Bl w w' := by
  have hsf := store_fl
  go_enter Tryz.func9, Tryz.ntmps9
  go_wp2_with fail
  refine (fOrder_any a n ca vs _ hv (by omega)).mono ?_
  rintro e W0 ⟨a0, m, c0, rfl, hv0, hb0⟩
  have HW := Lib.hid hb0
  have HF := Lib.hid (hf.keep hb0)
  have hmn : m ≤ 900 := by rw [← hv0.len]; exact Nat.le_trans (order_len _) (by rw [hv.len]; exact hn1)
  obtain ⟨os, hos⟩ : ∃ os, orderOf vs = os := ⟨_, rfl⟩
  rw [hos] at hv0
  have HD := Lib.hid (show dropL key vs floor all = dropO key os floor all by unfold dropL; rw [hos])
  have HL := Lib.hid hv0.len
  clear hb0 hf hos hv
  obtain ⟨kb, hkb⟩ : ∃ kb, isKeyB key = kb := ⟨_, rfl⟩
  obtain ⟨fb, hfb⟩ : ∃ fb, validL floor = fb := ⟨_, rfl⟩
  have HKB := Lib.hid hkb
  have HFB := Lib.hid hfb
  clear hkb hfb
  go_wp2_with fail
  refine (isKey_any key _ hkey).mono ?_
  rintro e w1 ⟨rfl, rfl⟩
  rw [HKB.out]
  cases kb
  case false =>
    have HO := Lib.hid (show dropL key vs floor all = os by rw [HD.out]; unfold dropO; rw [HKB.out]; rfl)
    go_wp2_with fail
    go_ret
    exact ⟨a0, m, c0, rfl, by rw [HO.out]; exact hv0, HW.out⟩
  case true =>
  go_wp2_with fail
  refine (valid_any fa fn fc floor _ HF.out).mono ?_
  rintro e w1 ⟨rfl, rfl⟩
  rw [HFB.out]
  cases fb
  case false =>
    have HO := Lib.hid (show dropL key vs floor all = os by rw [HD.out]; unfold dropO; rw [HKB.out, HFB.out]; rfl)
    go_wp2_with fail
    go_ret
    exact ⟨a0, m, c0, rfl, by rw [HO.out]; exact hv0, HW.out⟩
  case true =>
  have HO := Lib.hid (show dropL key vs floor all = keptL key (stayL floor os) floor all (seenL key floor os) by rw [HD.out]; unfold dropO; rw [HKB.out, HFB.out]; rfl)
  go_wp2_with fail
  go_loopw [9, 10, 27] (fun sv ev iv wr => ∃ (k : Nat) (xs ys : List VC), k ≤ m ∧ xs.map VC.ver = stayL floor (os.take k) ∧ ys.map VC.ver = seenL key floor (os.take k) ∧ DR W0 wr sv ev xs ys ∧ iv = .int .i64 (k : Int)) (fun _ _ iv _ => m - (intOf iv).toNat)
  case atStart => exact ⟨0, [], [], Nat.zero_le _, by rw [List.take_zero]; rfl, by rw [List.take_zero]; rfl, DR.nil (Bl.refl _), by go_num⟩
  case round =>
    obtain ⟨k, xs, ys, hk, hm1, hm2, hdr, rfl⟩ := hrel
    have HM1 := Lib.hid hm1
    have HM2 := Lib.hid hm2
    have HR := Lib.hid hdr
    have hxl : xs.length ≤ k := by
      have h1 := congrArg List.length HM1.out
      rw [List.length_map] at h1
      have h2 := List.length_filter_le (fun v => !leqV floor v) (os.take k)
      rw [List.length_take] at h2
      unfold stayL at h1
      omega
    have hyl : ys.length ≤ k := by
      have h1 := congrArg List.length HM2.out
      rw [List.length_map] at h1
      have h2 := List.length_filter_le (fun v => leqV floor v && fitsB key v.act) (os.take k)
      rw [List.length_take] at h2
      unfold seenL at h1
      omega
    clear hm1 hm2 hdr
    by_cases hlt : k < m
    · obtain ⟨b, off, rfl, hc⟩ := hv0.cells k hlt
      have E0 := hc k hlt
      have E := E0.keep HR.out.bl
      have HT1 := Lib.hid (take_filter (fun v => !leqV floor v) os _ k (take_nthR (vs := os) (k := k) (by rw [HL.out]; exact hlt)))
      have HT2 := Lib.hid (take_filter (fun v => leqV floor v && fitsB key v.act) os _ k (take_nthR (vs := os) (k := k) (by rw [HL.out]; exact hlt)))
      obtain ⟨V, hV⟩ : ∃ V, nthR os k = V := ⟨_, rfl⟩
      rw [hV] at E E0 HT1 HT2
      clear hV hc
      have HA := Lib.hid E.ok
      obtain ⟨va, vn, vc, e1', hI⟩ := E0.at_
      have e1 := HR.out.bl.cell e1'
      have HI := Lib.hid hI
      have ba : Bl wr (wr.alloc (.cells #[.string V.key, .slice va vn vc, .int .i64 V.origin, .int .i64 V.tx, .int .i64 V.act.k, .float .f64 V.act.x, .int .i64 V.act.n, .string V.act.s] 59)) := (Bl.refl wr).alloc _
      have hx := AC.new wr wr.heap.size rfl [.string V.key, .slice va vn vc, .int .i64 V.origin, .int .i64 V.tx, .int .i64 V.act.k, .float .f64 V.act.x, .int .i64 V.act.n, .string V.act.s] 59
      have HVB := Lib.hid hx
      obtain ⟨v0, v1, v2, v3, v4, v5, v6, v7⟩ := AC.ver (key := V.key) (a := va) (n := vn) (ca := vc) (o := V.origin) (t := V.tx) (k := V.act.k) (x := V.act.x) (m := V.act.n) (s := V.act.s) hx
      have HIA := Lib.hid (hI.keep (HR.out.bl.trans ba))
      have HFA := Lib.hid (HF.out.keep (HR.out.bl.trans ba))
      have HDA := Lib.hid (HR.out.keep ba)
      clear hx ba
      have e0 := E.c0
      have e2 := E.c2
      have e3 := E.c3
      have e4 := E.c4
      have e5 := E.c5
      have e6 := E.c6
      have e7 := E.c7
      clear hI E E0 e1' HR
      obtain ⟨r, hr⟩ : ∃ r, leqL V.at_ floor = r := ⟨_, rfl⟩
      have HRR := Lib.hid hr
      clear hr
      go_wp2_with fail
      clear e0 e1 e2 e3 e4 e5 e6 e7
      refine (leq_any va fa vn fn vc fc V.at_ floor _ HIA.out HFA.out).mono ?_
      rintro e w2 ⟨rfl, rfl⟩
      rw [HRR.out]
      clear HIA HFA
      generalize wr.heap.size = gv at *
      generalize wr.alloc _ = wa at *
      cases r
      case false =>
        have HN1 := Lib.hid (show stayL floor (os.take (k + 1)) = stayL floor (os.take k) ++ [V] by unfold stayL; rw [HT1.out]; exact if_pos (by show (!leqL V.at_ floor) = true; rw [HRR.out]; rfl))
        have HN2 := Lib.hid (show seenL key floor (os.take (k + 1)) = seenL key floor (os.take k) by unfold seenL; rw [HT2.out]; exact if_neg (by show ¬ (leqL V.at_ floor && fitsB key V.act) = true; rw [HRR.out, Bool.false_and]; decide))
        clear HT1 HT2 HRR
        have HSB := Lib.hid (HDA.out.keep ((Bl.refl wa).alloc (.cells #[.string V.key, .slice va vn vc, .int .i64 V.origin, .int .i64 V.tx, .int .i64 V.act.k, .float .f64 V.act.x, .int .i64 V.act.n, .string V.act.s] 59)))
        have HLT := Lib.hid (SG.lit (heap_alloc_new wa (.cells #[.string V.key, .slice va vn vc, .int .i64 V.origin, .int .i64 V.tx, .int .i64 V.act.k, .float .f64 V.act.x, .int .i64 V.act.n, .string V.act.s] 59)) (show [.string V.key, .slice va vn vc, .int .i64 V.origin, .int .i64 V.tx, .int .i64 V.act.k, .float .f64 V.act.x, .int .i64 V.act.n, .string V.act.s].length = 1 * 8 from rfl) (by simp [Value.oneCell']))
        go_wp2_with (at_builtin; refine wpList_appK rfl _ _ _ rfl el_vr W0.heap.size _ _ _ rfl HSB.out.st.own HSB.out.bl.size _ 1 1 _ rfl HLT.out ?cM ?cN ?_)
        case cM => unfold maxLen; omega
        case cN => omega
        intro vq w3 ho3 hg3 hz1 hz2
        have HS3 := Lib.hid (HSB.out.push1 (y := ⟨V.key, va, vn, vc, V.at_, V.origin, V.tx, V.act⟩) HI.out HA.out ho3 hg3 (by intro b e; have := hz2 b e; simpa using this))
        clear hz1 hz2 ho3 hg3 HSB HLT HDA v0 v1 v2 v3 v4 v5 v6 v7
        go_wp2_with fail
        go_roundw
        case rel => exact ⟨k + 1, xs ++ [⟨V.key, va, vn, vc, V.at_, V.origin, V.tx, V.act⟩], ys, by omega, by rw [List.map_append, HM1.out, HN1.out]; rfl, by rw [HM2.out, HN2.out], HS3.out, by go_num⟩
        case measure => simp [intOf]; omega
      case true =>
        have HN1 := Lib.hid (show stayL floor (os.take (k + 1)) = stayL floor (os.take k) by unfold stayL; rw [HT1.out]; exact if_neg (by show ¬ (!leqL V.at_ floor) = true; rw [HRR.out]; decide))
        obtain ⟨ff, hff⟩ : ∃ ff, fitsB key ⟨V.act.k, V.act.x, V.act.n, V.act.s⟩ = ff := ⟨_, rfl⟩
        have HFF := Lib.hid hff
        clear hff
        go_wp2_with fail
        refine (fits_agg key V.act.k V.act.x V.act.n V.act.s ff _ HFF hkey HA).mono ?_
        rintro e w2 ⟨rfl, hb2⟩
        have HDB := Lib.hid (HDA.out.keep hb2)
        have HVB2 := Lib.hid (HVB.out.keep hb2)
        clear hb2 HDA HVB v0 v1 v2 v3 v4 v5 v6 v7
        obtain ⟨v0, v1, v2, v3, v4, v5, v6, v7⟩ := AC.ver (key := V.key) (a := va) (n := vn) (ca := vc) (o := V.origin) (t := V.tx) (k := V.act.k) (x := V.act.x) (m := V.act.n) (s := V.act.s) HVB2.out
        cases ff
        case false =>
          have HN2 := Lib.hid (show seenL key floor (os.take (k + 1)) = seenL key floor (os.take k) by unfold seenL; rw [HT2.out]; exact if_neg (by show ¬ (leqL V.at_ floor && fitsB key V.act) = true; rw [HRR.out, show fitsB key V.act = false from HFF.out]; decide))
          go_wp2_with fail
          go_roundw
          case rel => exact ⟨k + 1, xs, ys, by omega, by rw [HM1.out, HN1.out], by rw [HM2.out, HN2.out], HDB.out, by go_num⟩
          case measure => simp [intOf]; omega
        case true =>
          have HN2 := Lib.hid (show seenL key floor (os.take (k + 1)) = seenL key floor (os.take k) ++ [V] by unfold seenL; rw [HT2.out]; exact if_pos (by show (leqL V.at_ floor && fitsB key V.act) = true; rw [HRR.out, show fitsB key V.act = true from HFF.out]; rfl))
          clear HT1 HT2 HRR HFF
          have HSB := Lib.hid (HDB.out.keep ((Bl.refl w2).alloc (.cells #[.string V.key, .slice va vn vc, .int .i64 V.origin, .int .i64 V.tx, .int .i64 V.act.k, .float .f64 V.act.x, .int .i64 V.act.n, .string V.act.s] 59)))
          have HLT := Lib.hid (SG.lit (heap_alloc_new w2 (.cells #[.string V.key, .slice va vn vc, .int .i64 V.origin, .int .i64 V.tx, .int .i64 V.act.k, .float .f64 V.act.x, .int .i64 V.act.n, .string V.act.s] 59)) (show [.string V.key, .slice va vn vc, .int .i64 V.origin, .int .i64 V.tx, .int .i64 V.act.k, .float .f64 V.act.x, .int .i64 V.act.n, .string V.act.s].length = 1 * 8 from rfl) (by simp [Value.oneCell']))
          go_wp2_with (at_builtin; refine wpList_appK rfl _ _ _ rfl el_vr W0.heap.size _ _ _ rfl HSB.out.se.own HSB.out.bl.size _ 1 1 _ rfl HLT.out ?cM ?cN ?_)
          case cM => unfold maxLen; omega
          case cN => omega
          intro vq w3 ho3 hg3 hz1 hz2
          have HS3 := Lib.hid (HSB.out.push2 (y := ⟨V.key, va, vn, vc, V.at_, V.origin, V.tx, V.act⟩) HI.out HA.out ho3 hg3 (by intro b e; have := hz2 b e; simpa using this))
          clear hz1 hz2 ho3 hg3 HSB HLT HDB v0 v1 v2 v3 v4 v5 v6 v7
          go_wp2_with fail
          go_roundw
          case rel => exact ⟨k + 1, xs, ys ++ [⟨V.key, va, vn, vc, V.at_, V.origin, V.tx, V.act⟩], by omega, by rw [HM1.out, HN1.out], by rw [List.map_append, HM2.out, HN2.out]; rfl, HS3.out, by go_num⟩
          case measure => simp [intOf]; omega
    · have HX := Lib.hid (show xs.map VC.ver = stayL floor os by rw [HM1.out, List.take_of_length_le (by rw [HL.out]; omega)])
      have HY := Lib.hid (show ys.map VC.ver = seenL key floor os by rw [HM2.out, List.take_of_length_le (by rw [HL.out]; omega)])
      obtain ⟨xn, hxn⟩ : ∃ xn, xs.length = xn := ⟨_, rfl⟩
      obtain ⟨yn, hyn⟩ : ∃ yn, ys.length = yn := ⟨_, rfl⟩
      have hxb : xn ≤ 900 := by omega
      have hyb : yn ≤ 900 := by omega
      obtain ⟨sa, sc, rfl, hva⟩ := HR.out.st.va HR.out.bl hxn (by omega)
      obtain ⟨ea, ec, rfl, hvb⟩ := HR.out.se.va HR.out.bl hyn (by omega)
      have HVA := Lib.hid (show VA wr sa xn (stayL floor os) from HX.out ▸ hva)
      have HVB := Lib.hid (show VA wr ea yn (seenL key floor os) from HY.out ▸ hvb)
      have HXN := Lib.hid hxn
      have HYN := Lib.hid hyn
      have HWR := Lib.hid (HW.out.trans HR.out.bl)
      have HFR := Lib.hid (HF.out.keep HR.out.bl)
      clear hva hvb hxn hyn HM1 HM2 hxl hyl
      have HSUM := Lib.hid (show (stayL floor os).length + (seenL key floor os).length ≤ 1000 by have := parts_len key floor os; have := HL.out; omega)
      obtain ⟨stay, hst⟩ : ∃ stay, stayL floor os = stay := ⟨_, rfl⟩
      obtain ⟨seen, hse⟩ : ∃ seen, seenL key floor os = seen := ⟨_, rfl⟩
      rw [hst] at HVA HX
      rw [hse] at HVB HY
      rw [hst, hse] at HO HSUM
      clear hst hse
      by_cases hy0 : yn = 0
      · subst hy0
        have HE := Lib.hid (show dropL key vs floor all = stay by rw [HO.out, List.eq_nil_of_length_eq_zero HVB.out.len]; rfl)
        go_wp2_with fail
        go_ret
        exact ⟨sa, xn, sc, rfl, by rw [HE.out]; exact HVA.out, HWR.out⟩
      · have q0 : ((yn : Int) == 0) = false := by rw [beq_eq_false_iff_ne]; omega
        obtain ⟨first, rest, hfr⟩ : ∃ first rest, seen = first :: rest := by
          cases hs : seen with
          | nil => have := HVB.out.len; rw [hs] at this; simp at this; omega
          | cons f r => exact ⟨f, r, rfl⟩
        have HFIRST := Lib.hid hfr
        clear hfr
        obtain ⟨rb, hrb⟩ : ∃ rb, regB key = rb := ⟨_, rfl⟩
        have HRB := Lib.hid hrb
        clear hrb
        go_wp2_with fail
        refine (fregs_any key _ (key_pos HKB.out)).mono ?_
        rintro e w1 ⟨rfl, rfl⟩
        rw [HRB.out]
        cases rb
        case true =>
          have hfn : 0 < fn := by
            have h1 := HFB.out
            have h2 := HFR.out.len
            cases hq : floor with
            | nil => rw [hq] at h1; exact absurd h1 (by decide)
            | cons x l => rw [hq] at h2; simp at h2; omega
          have hcap := HR.out.se.cap
          go_wp2_with fail
          refine (flast_any sa xn sc stay ea yn ec seen fa fn fc floor all first rest _ HVA.out HVB.out HFR.out hfn HFIRST.out hcap).mono ?_
          rintro e w2 ⟨rfl, hb2⟩
          obtain ⟨ka, kn, kc, kl, hk1, hk2, hk3, hk4⟩ : ∃ (ka : Option Addr) (kn kc : Nat) (kl : List VerL), (if goneL stay first floor all then Value.slice none 0 0 else .slice ea 1 ec) = .slice ka kn kc ∧ VA wr ka kn kl ∧ kl = (if goneL stay first floor all then [] else [first]) ∧ kn ≤ 1 := by
            by_cases hg : goneL stay first floor all = true
            · exact ⟨none, 0, 0, [], by rw [if_pos hg], ⟨rfl, by omega, fun j hj => absurd hj (Nat.not_lt_zero _)⟩, by rw [if_pos hg], by omega⟩
            · exact ⟨ea, 1, ec, [first], by rw [if_neg hg], (HFIRST.out ▸ HVB.out).first, by rw [if_neg hg], by omega⟩
          rw [hk1]
          have HE := Lib.hid (show dropL key vs floor all = orderOf (stay ++ kl) by rw [HO.out, HFIRST.out, kept_reg HRB.out, hk3])
          have ba : Bl w2 (w2.alloc (.cells #[.slice sa xn sc, .slice ka kn kc] 22)) := (Bl.refl w2).alloc _
          have HK := Lib.hid (hk2.keep (hb2.trans ba))
          have HS := Lib.hid (HVA.out.keep (hb2.trans ba))
          have HH := Lib.hid (AC.new w2 w2.heap.size rfl [.slice sa xn sc, .slice ka kn kc] 22)
          have HB2 := Lib.hid (HWR.out.trans (hb2.trans ba))
          clear hk1 hk2 hk3 hb2 ba
          go_wp2_with fail
          refine (concat_any w2.heap.size sa ka xn sc kn kc stay kl _ HH.out HS.out HK.out (by omega) (by omega)).mono ?_
          rintro e w3 ⟨x3, c3, rfl, hv3, hb3⟩
          have HV3 := Lib.hid hv3
          have HB3 := Lib.hid (HB2.out.trans hb3)
          obtain ⟨n3, hn3⟩ : ∃ n3, xn + kn = n3 := ⟨_, rfl⟩
          rw [hn3] at HV3
          rw [hn3]
          have hn3b : n3 ≤ 1000 := by omega
          clear hv3 hb3 hn3
          go_wp2_with fail
          refine (fOrder_any x3 n3 c3 (stay ++ kl) _ HV3.out hn3b).mono ?_
          rintro e w4 ⟨x4, n4, c4, rfl, hv4, hb4⟩
          have HV4 := Lib.hid hv4
          have HB4 := Lib.hid (HB3.out.trans hb4)
          clear hv4 hb4
          go_wp2_with fail
          go_ret
          exact ⟨x4, n4, c4, rfl, by rw [HE.out]; exact HV4.out, HB4.out⟩
        case false =>
          cases all
          case false =>
            have HE := Lib.hid (show dropL key vs floor false = orderOf (stay ++ seen) by rw [HO.out, HFIRST.out, kept_all HRB.out (.inl rfl)])
            have ba : Bl wr (wr.alloc (.cells #[.slice sa xn sc, .slice ea yn ec] 22)) := (Bl.refl wr).alloc _
            have HK := Lib.hid (HVB.out.keep ba)
            have HS := Lib.hid (HVA.out.keep ba)
            have HH := Lib.hid (AC.new wr wr.heap.size rfl [.slice sa xn sc, .slice ea yn ec] 22)
            have HB2 := Lib.hid (HWR.out.trans ba)
            clear ba
            go_wp2_with fail
            refine (concat_any wr.heap.size sa ea xn sc yn ec stay seen _ HH.out HS.out HK.out (by omega) (by omega)).mono ?_
            rintro e w3 ⟨x3, c3, rfl, hv3, hb3⟩
            have HV3 := Lib.hid hv3
            have HB3 := Lib.hid (HB2.out.trans hb3)
            have hsum : xn + yn ≤ 1000 := by
              have h1 := HXN.out
              have h2 := HYN.out
              have h3 := congrArg List.length HX.out
              have h4 := congrArg List.length HY.out
              rw [List.length_map] at h3 h4
              have h5 := HSUM.out
              omega
            obtain ⟨n3, hn3⟩ : ∃ n3, xn + yn = n3 := ⟨_, rfl⟩
            rw [hn3] at HV3
            rw [hn3]
            have hn3b : n3 ≤ 1000 := by omega
            clear hv3 hb3 hn3
            go_wp2_with fail
            refine (fOrder_any x3 n3 c3 (stay ++ seen) _ HV3.out hn3b).mono ?_
            rintro e w4 ⟨x4, n4, c4, rfl, hv4, hb4⟩
            have HV4 := Lib.hid hv4
            have HB4 := Lib.hid (HB3.out.trans hb4)
            clear hv4 hb4
            go_wp2_with fail
            go_ret
            exact ⟨x4, n4, c4, rfl, by rw [HE.out]; exact HV4.out, HB4.out⟩
          case true =>
            by_cases h2 : 2 ≤ yn
            · have q1 : decide ((1 : Int) < (yn : Int)) = true := decide_eq_true (by omega)
              have q1n : decide (1 < yn) = true := decide_eq_true (by omega)
              have HE := Lib.hid (show dropL key vs floor true = stay ++ [oneL key seen.reverse] by
                rw [HO.out, HFIRST.out]
                exact kept_one HRB.out (fun q => by have := HVB.out.len; rw [HFIRST.out, q] at this; simp at this; omega))
              go_wp2_with fail
              refine (fone_any key ea yn ec seen _ hkey HVB.out (by omega) h2).mono ?_
              rintro e w2 ⟨y, rfl, hy1, hy2, hy3, hb2⟩
              have HY1 := Lib.hid hy1
              have HY2 := Lib.hid hy2
              have HSA := Lib.hid (HR.out.st.keep hb2)
              have HBA := Lib.hid (HR.out.bl.trans hb2)
              have HW2 := Lib.hid (HWR.out.trans hb2)
              have HYF := Lib.hid hy3
              clear hy1 hy2 hy3 hb2
              have HSB := Lib.hid (HSA.out.keep ((Bl.refl w2).alloc (.cells #[.string y.key, .slice y.ad y.n y.ca, .int .i64 y.origin, .int .i64 y.tx, .int .i64 y.act.k, .float .f64 y.act.x, .int .i64 y.act.n, .string y.act.s] 59)))
              have HYG := Lib.hid (HYF.out.keep ((Bl.refl w2).alloc (.cells #[.string y.key, .slice y.ad y.n y.ca, .int .i64 y.origin, .int .i64 y.tx, .int .i64 y.act.k, .float .f64 y.act.x, .int .i64 y.act.n, .string y.act.s] 59)))
              have HBB := Lib.hid (HBA.out.alloc (.cells #[.string y.key, .slice y.ad y.n y.ca, .int .i64 y.origin, .int .i64 y.tx, .int .i64 y.act.k, .float .f64 y.act.x, .int .i64 y.act.n, .string y.act.s] 59))
              have HLT := Lib.hid (SG.lit (heap_alloc_new w2 (.cells #[.string y.key, .slice y.ad y.n y.ca, .int .i64 y.origin, .int .i64 y.tx, .int .i64 y.act.k, .float .f64 y.act.x, .int .i64 y.act.n, .string y.act.s] 59)) (show [.string y.key, .slice y.ad y.n y.ca, .int .i64 y.origin, .int .i64 y.tx, .int .i64 y.act.k, .float .f64 y.act.x, .int .i64 y.act.n, .string y.act.s].length = 1 * 8 from rfl) (by simp [Value.oneCell']))
              go_wp2_with (at_builtin; refine wpList_appK rfl _ _ _ rfl el_vr W0.heap.size _ _ _ rfl HSB.out.own HBB.out.size _ 1 1 _ rfl HLT.out ?cM ?cN ?_)
              case cM => have := HXN.out; unfold maxLen; omega
              case cN => have := HXN.out; omega
              intro vq w3 ho3 hg3 hz1 hz2
              have HY3 := FI.fr HYG.out ((Fr.refl (fun b => (Value.slice sa xn sc).ownBlock = some b) _).grown hg3 (fun i e => e)) (fun b q e => apart_typ HSB.out.own HYG.out e q)
              have HB3 := HSB.out.grown HBB.out hg3
              have ho4 : OVS W0.heap.size w3 vq (xn + 1) (flat (xs ++ [y])) := by rw [flat_append, flat_one, ← HXN.out]; exact ho3
              obtain ⟨x4, c4, rfl, hv4⟩ := ho4.va (by rw [List.length_append, HXN.out]; rfl) (by omega) (by omega) (fun z hz => by
                rcases List.mem_append.1 hz with q | q
                · exact ⟨(HSB.out.els z q).1.keep HB3, (HSB.out.els z q).2⟩
                · rw [List.mem_singleton] at q; subst q; exact ⟨HY3.iaE, HY2.out⟩)
              have HV4 := Lib.hid (show VA w3 x4 (xn + 1) (stay ++ [oneL key seen.reverse]) by rw [List.map_append, HX.out] at hv4; rw [← HY1.out]; exact hv4)
              have HB4 := Lib.hid (HW.out.trans HB3)
              clear hz1 hz2 ho3 ho4 hg3 hv4 HY3 HB3 HLT HSB HSA
              go_wp2_with fail
              go_ret
              exact ⟨x4, xn + 1, c4, rfl, by rw [HE.out]; exact HV4.out, HB4.out⟩
            · have q1 : decide ((1 : Int) < (yn : Int)) = false := decide_eq_false (by omega)
              have q1n : decide (1 < yn) = false := decide_eq_false (by omega)
              have HE := Lib.hid (show dropL key vs floor true = orderOf (stay ++ seen) by rw [HO.out, HFIRST.out, kept_all HRB.out (.inr (by have := HVB.out.len; rw [HFIRST.out] at this; simp at this; exact List.eq_nil_of_length_eq_zero (by omega)))])
              have ba : Bl wr (wr.alloc (.cells #[.slice sa xn sc, .slice ea yn ec] 22)) := (Bl.refl wr).alloc _
              have HK := Lib.hid (HVB.out.keep ba)
              have HS := Lib.hid (HVA.out.keep ba)
              have HH := Lib.hid (AC.new wr wr.heap.size rfl [.slice sa xn sc, .slice ea yn ec] 22)
              have HB2 := Lib.hid (HWR.out.trans ba)
              clear ba
              go_wp2_with fail
              refine (concat_any wr.heap.size sa ea xn sc yn ec stay seen _ HH.out HS.out HK.out (by omega) (by omega)).mono ?_
              rintro e w3 ⟨x3, c3, rfl, hv3, hb3⟩
              have HV3 := Lib.hid hv3
              have HB3 := Lib.hid (HB2.out.trans hb3)
              have hsum : xn + yn ≤ 1000 := by
                have h1 := HXN.out
                have h2 := HYN.out
                have h3 := congrArg List.length HX.out
                have h4 := congrArg List.length HY.out
                rw [List.length_map] at h3 h4
                have h5 := HSUM.out
                omega
              obtain ⟨n3, hn3⟩ : ∃ n3, xn + yn = n3 := ⟨_, rfl⟩
              rw [hn3] at HV3
              rw [hn3]
              have hn3b : n3 ≤ 1000 := by omega
              clear hv3 hb3 hn3
              go_wp2_with fail
              refine (fOrder_any x3 n3 c3 (stay ++ seen) _ HV3.out hn3b).mono ?_
              rintro e w4 ⟨x4, n4, c4, rfl, hv4, hb4⟩
              have HV4 := Lib.hid hv4
              have HB4 := Lib.hid (HB3.out.trans hb4)
              clear hv4 hb4
              go_wp2_with fail
              go_ret
              exact ⟨x4, n4, c4, rfl, by rw [HE.out]; exact HV4.out, HB4.out⟩
end Go.Proofs.YtfjjnffifnohkaaGreat
end

/- a vector's elements, as append asks of them. By an AI agent. -/
section
namespace Go.Proofs.YtfjjnffifnohkaaGreat
open Go.RowKit

theorem el_vc : EL 24 3 1 8 := el_of Tryz.underlying24 (by kernel_rfl) (by decide)
end Go.Proofs.YtfjjnffifnohkaaGreat
end

/- bedrockref3.Copy. By an AI agent. -/
section
set_option linter.unusedVariables false
set_option linter.unusedSimpArgs false
namespace Go.Proofs.YtfjjnffifnohkaaGreat
open Go.RowKit

set_option maxRecDepth 100000 in
theorem rcopy3_any (a : Option Addr) (n ca : Nat) (xs : List Int) (w : World) (hx : IA w a n xs) :
    Calls Tryz.prog 43 #[.slice a n ca] w fun e w' => ∃ v, e = .returned v ∧ FI w.heap.size w' v xs ∧ Bl w w' := by
  have HX := Lib.hid hx
  have hcap := hx.cap
  have HS := Lib.hid (sg_ints hx)
  clear hx
  go_enter Tryz.func43, Tryz.ntmps43
  go_wp2_with (at_builtin; refine wpList_appG rfl _ _ _ rfl el_vc w.heap.size _ 0 [] rfl (World.ownsRow_nil _ _ _ _) (Nat.le_refl _) _ _ _ _ rfl HS.out ?c1 ?c2 ?_)
  case c1 => unfold maxLen; omega
  case c2 => omega
  intro v1 w1 ho1 hg1
  have HB := Lib.hid ((Bl.refl w).ownRow (World.ownsRow_nil w w.heap.size 3 1) (Nat.le_refl _) hg1)
  have HO : Hid (FI w.heap.size w1 v1 xs) := Lib.hid ⟨by
    have hl := HX.out.len
    unfold OI
    rw [hl]
    exact ho1, by have hl := HX.out.len; omega, HX.out.wf⟩
  clear ho1 hg1
  go_wp2_with fail
  go_ret
  exact ⟨_, rfl, HO.out, HB.out⟩
end Go.Proofs.YtfjjnffifnohkaaGreat
end

/- bedrockref3.Join. By an AI agent. -/
section
set_option linter.unusedVariables false
set_option linter.unusedSimpArgs false
namespace Go.Proofs.YtfjjnffifnohkaaGreat
open Go.RowKit

theorem eachmax_step {xs ys : List Int} (h : xs.length = ys.length) {k : Nat} (hk : k < xs.length) {x : Int} (hx : x = max (nth xs k) (nth ys k)) :
    (List.zipWith max xs ys).take (k + 1) = (List.zipWith max xs ys).take k ++ [x] := by
  rw [zip_take h hk, hx]
set_option maxHeartbeats 1600000 in
set_option maxRecDepth 100000 in
theorem rjoin3_any (a b : Option Addr) (n m ca cb : Nat) (xs ys : List Int) (w : World) (hx : IA w a n xs) (hy : IA w b m ys) :
    Calls Tryz.prog 44 #[.slice a n ca, .slice b m cb] w fun e w' => ∃ v, e = .returned v ∧ FI w.heap.size w' v (eachL max xs ys) ∧ Bl w w' := by
  have hx1 := hx.cap
  have hy1 := hy.cap
  by_cases hl : n = m
  · subst hl
    have HLL := Lib.hid (hx.len.trans hy.len.symm)
    have HX := Lib.hid hx.len
    have h2 : ((n : Int) != (n : Int)) = false := by simp
    have HZL : ∀ k, k ≤ n → ((List.zipWith max xs ys).take k).length = k := fun k hk => by
      have h1 := HLL.out; have h2 := HX.out
      simp; omega
    have HZ := Lib.hid HZL; clear HZL
    go_enter Tryz.func44, Tryz.ntmps44
    go_wp2_with fail
    go_loopw [5, 6] (fun v i wr => ∃ (k : Nat) (acc : List Int), k ≤ n ∧ i = .int .i64 k ∧ Bl w wr ∧ OI w.heap.size wr v acc ∧ acc = (List.zipWith max xs ys).take k) (fun _ i _ => n - (intOf i).toNat)
    case atStart => exact ⟨0, [], Nat.zero_le _, rfl, Bl.refl _, OI.nil _ _, rfl⟩
    case round =>
      obtain ⟨k, acc, hk, rfl, hbl, hown, hacc⟩ := hrel
      have hal : acc.length = k := by rw [hacc, HZ.out k hk]
      have HACC := Lib.hid hacc; clear hacc
      have HO := Lib.hid hown
      have HB := Lib.hid hbl
      by_cases hlt : k < n
      · obtain ⟨ba, oa, rfl, hca⟩ := hx.cells k hlt
        obtain ⟨bb, ob, rfl, hcb⟩ := hy.cells k hlt
        have ha := fun W (h : Bl wr W) => h.cell (hbl.cell (hca k hlt))
        have hb := fun W (h : Bl wr W) => h.cell (hbl.cell (hcb k hlt))
        have HA := Lib.hid ha
        have HBB := Lib.hid hb
        clear hca hcb ha hb hown hbl
        have hsz2 := HB.out.size
        have hlt2 : k < xs.length := by rw [HX.out]; exact hlt
        by_cases hgt : nth ys k < nth xs k
        · have HS := Lib.hid (eachmax_step (ys := ys) HLL.out hlt2 (x := nth xs k) (by omega))
          have ha2 := fun j => HA.out (wr.drewN j) ((Bl.refl wr).drewN j)
          have hb2 := fun j => HBB.out (wr.drewN j) ((Bl.refl wr).drewN j)
          have ha3 := fun j o => HA.out ((wr.drewN j).alloc o) (((Bl.refl wr).drewN j).alloc o)
          have ha0 := HA.out wr (Bl.refl wr)
          have hb0 := HBB.out wr (Bl.refl wr)
          go_wp2
          go_quiet (fail)
          go_wp2_with (at_builtin; refine wpList_appG rfl _ _ _ rfl el_vc w.heap.size _ acc.length _ rfl (ownsRow_bl HO.out (((Bl.refl wr).drewN _).alloc _)) ?c1 _ 1 1 [.int .i64 (nth xs k)] rfl (SG.lit (heap_alloc_new _ _) rfl (by simp [Value.oneCell'])) ?c2 ?c3 ?_)
          case c1 => simp; omega
          case c2 => unfold maxLen; omega
          case c3 => omega
          intro v' w2 ho2 hg2
          have hb2 := Lib.hid (Bl.ownRow ((HB.out.drewN _).alloc (.cells #[.int .i64 (nth xs k)] 3)) (ownsRow_bl HO.out (((Bl.refl wr).drewN _).alloc _)) (Nat.le_refl _) hg2)
          have HO2 : Hid (OI w.heap.size w2 v' (acc ++ [nth xs k])) := Lib.hid (by
            unfold OI
            rw [List.length_append, List.map_append, hal]
            exact ho2)
          clear ho2 hg2
          go_wp2_with fail
          go_roundw
          case rel => exact ⟨k + 1, acc ++ [nth xs k], by omega, by go_num, hb2.out, HO2.out, by rw [HS.out, HACC.out]⟩
          case measure => simp [intOf]; omega
        · have HS := Lib.hid (eachmax_step (ys := ys) HLL.out hlt2 (x := nth ys k) (by omega))
          have ha2 := fun j => HA.out (wr.drewN j) ((Bl.refl wr).drewN j)
          have hb2 := fun j => HBB.out (wr.drewN j) ((Bl.refl wr).drewN j)
          have ha3 := fun j o => HA.out ((wr.drewN j).alloc o) (((Bl.refl wr).drewN j).alloc o)
          have ha0 := HA.out wr (Bl.refl wr)
          have hb0 := HBB.out wr (Bl.refl wr)
          go_wp2
          go_quiet (fail)
          go_wp2_with (at_builtin; refine wpList_appG rfl _ _ _ rfl el_vc w.heap.size _ acc.length _ rfl (ownsRow_bl HO.out (((Bl.refl wr).drewN _).alloc _)) ?c1 _ 1 1 [.int .i64 (nth ys k)] rfl (SG.lit (heap_alloc_new _ _) rfl (by simp [Value.oneCell'])) ?c2 ?c3 ?_)
          case c1 => simp; omega
          case c2 => unfold maxLen; omega
          case c3 => omega
          intro v' w2 ho2 hg2
          have hb2 := Lib.hid (Bl.ownRow ((HB.out.drewN _).alloc (.cells #[.int .i64 (nth ys k)] 3)) (ownsRow_bl HO.out (((Bl.refl wr).drewN _).alloc _)) (Nat.le_refl _) hg2)
          have HO2 : Hid (OI w.heap.size w2 v' (acc ++ [nth ys k])) := Lib.hid (by
            unfold OI
            rw [List.length_append, List.map_append, hal]
            exact ho2)
          clear ho2 hg2
          go_wp2_with fail
          go_roundw
          case rel => exact ⟨k + 1, acc ++ [nth ys k], by omega, by go_num, hb2.out, HO2.out, by rw [HS.out, HACC.out]⟩
          case measure => simp [intOf]; omega
      · go_wp2_with fail
        go_ret
        have e1 : k = n := by omega
        subst e1
        refine ⟨_, rfl, ?_, hbl⟩
        have e2 : (List.zipWith max xs ys).take k = eachL max xs ys := by
          rw [eachL, if_pos HLL.out, List.take_of_length_le]
          have h1 := HLL.out; have h2 := HX.out
          simp; omega
        rw [HACC.out, e2] at hown
        refine ⟨hown, ?_, ?_⟩
        · rw [eachL, if_pos HLL.out]
          have h1 := HLL.out; have h2 := HX.out
          simp; omega
        · rw [eachL, if_pos HLL.out]
          exact zip_wf (fun x y => by omega) hx.wf hy.wf
  · have h2 : ((n : Int) != (m : Int)) = true := by simp; omega
    go_enter Tryz.func44, Tryz.ntmps44
    go_wp2_with fail
    go_ret
    refine ⟨_, rfl, ?_, Bl.refl _⟩
    rw [eachL, if_neg (by rw [hx.len, hy.len]; exact hl)]
    exact FI.nil _ _
end Go.Proofs.YtfjjnffifnohkaaGreat
end

/- bedrockref3.Valid. By an AI agent. -/
section
namespace Go.Proofs.YtfjjnffifnohkaaGreat
open Go.RowKit

theorem valid_bad {xs : List Int} {k : Nat} (hk : k < xs.length) (h : badT (nth xs k) = true) : validL xs = false := by
  have : xs.any badT = true := List.any_eq_true.2 ⟨nth xs k, by rw [nth_eq hk]; exact List.getElem_mem hk, h⟩
  simp [validL, this]
theorem valid_good {xs : List Int} (h : ∀ j, j < xs.length → badT (nth xs j) = false) : validL xs = (decide (1 ≤ xs.length) && decide (xs.length ≤ 8)) := by
  have : xs.any badT = false := by
    rw [List.any_eq_false]
    intro x hx
    obtain ⟨j, hj, rfl⟩ := List.getElem_of_mem hx
    have := h j hj
    rw [nth_eq hj] at this
    simp [this]
  simp [validL, this]

set_option maxHeartbeats 800000 in
theorem rvalid_any (a : Option Addr) (n ca : Nat) (xs : List Int) (w : World) (hx : IA w a n xs) :
    Calls Tryz.prog 37 #[.slice a n ca] w fun e w' => e = .returned (.bool (validL xs)) ∧ w = w' := by
  have hx1 := hx.cap
  have HX := Lib.hid hx.len
  go_enter Tryz.func37, Tryz.ntmps37
  go_wp2
  go_loop [3] (fun i => ∃ k : Nat, k ≤ n ∧ i = .int .i64 k ∧ ∀ j, j < k → badT (nth xs j) = false) (fun i => n - (intOf i).toNat)
  case atStart => exact ⟨0, Nat.zero_le _, rfl, fun j h => by omega⟩
  case round =>
    obtain ⟨k, hk, rfl, hle⟩ := hrel
    have HLE := Lib.hid hle; clear hle
    by_cases hlt : k < n
    · obtain ⟨ba, oa, rfl, hca⟩ := hx.cells k hlt
      have ha := hca k hlt
      clear hca
      have hkx : k < xs.length := by rw [HX.out]; exact hlt
      by_cases h0 : nth xs k < 0
      · have HB := Lib.hid (valid_bad hkx (show badT (nth xs k) = true by simp [badT, h0]))
        go_wp2
        go_ret
        exact ⟨ret_bool HB.out.symm, rfl⟩
      · by_cases h1 : 281474976710656 ≤ nth xs k
        · have HB := Lib.hid (valid_bad hkx (show badT (nth xs k) = true by simp [badT, h1]))
          go_wp2
          go_ret
          exact ⟨ret_bool HB.out.symm, rfl⟩
        · have HB := Lib.hid (show badT (nth xs k) = false by simp [badT]; omega)
          go_wp2
          go_round
          case rel => exact ⟨k + 1, by omega, by go_num, fun j hj => by
            by_cases e : j = k
            · subst e; exact HB.out
            · exact HLE.out j (by omega)⟩
          case measure => simp [intOf]; omega
    · have HV := Lib.hid (valid_good (xs := xs) (fun j hj => HLE.out j (by rw [HX.out] at hj; omega)))
      by_cases h1 : (1 : Int) ≤ n
      · by_cases h8 : (n : Int) ≤ 8
        · go_wp2
          go_ret
          exact ⟨ret_bool (by rw [HV.out, HX.out]; simp; omega), rfl⟩
        · go_wp2
          go_ret
          exact ⟨ret_bool (by rw [HV.out, HX.out]; simp; omega), rfl⟩
      · go_wp2
        go_ret
        exact ⟨ret_bool (by rw [HV.out, HX.out]; simp; omega), rfl⟩
end Go.Proofs.YtfjjnffifnohkaaGreat
end
