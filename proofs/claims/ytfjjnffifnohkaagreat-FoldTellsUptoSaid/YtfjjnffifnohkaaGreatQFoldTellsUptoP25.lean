import Derived.Test.YtfjjnffifnohkaaGreatQR17Order
import Derived.Test.YtfjjnffifnohkaaGreatQFoldTellsUptoP24
import Derived.Test.YtfjjnffifnohkaaGreatQFoldTellsUptoP3

/- bedrockref17.least, merged (printed by gen/r17merged.py). By an AI agent. -/
section
set_option linter.unusedVariables false
set_option linter.unusedSimpArgs false
namespace Go.Proofs.YtfjjnffifnohkaaGreat
open Go.RowKit
attribute [local go_sem] eOp eOper eUpon

set_option maxHeartbeats 800000 in
theorem least17_any (a : Option Addr) (n ca : Nat) (xs : List Int) (w : World) (hx : IA w a n xs) (h0 : 0 < n) :
    Calls Tryz.prog 41 #[.slice a n ca] w fun e w' => e = .returned (.int .i64 (minV xs)) ∧ w = w' := by
  have HX := Lib.hid hx.len
  have hnb := hx.cap
  obtain ⟨ba, oa, rfl, hc0⟩ := hx.at_k 0 h0
  have hn2 : (0 : Int) < (n : Int) := by omega
  have hc1 : w.cell? ⟨ba, oa, none⟩ = some (.int .i64 (nth xs 0)) := hc0
  go_enter Tryz.func41, Tryz.ntmps41
  go_wp2_with fail
  go_loop [3, 4] (fun v i => ∃ k : Nat, 1 ≤ k ∧ k ≤ n ∧ i = .int .i64 k ∧ v = .int .i64 (minV (xs.take k))) (fun _ i => n - (intOf i).toNat)
  case atStart =>
    refine ⟨1, Nat.le_refl _, h0, rfl, ?_⟩
    have hl := HX.out
    cases xs with
    | nil => simp at hl; omega
    | cons x xs => rfl
  case round =>
    clear hc0 hc1
    obtain ⟨k, h1, hk, rfl, rfl⟩ := hrel
    by_cases hlt : k < n
    · obtain ⟨b2, o2, e2, hck⟩ := hx.at_k k hlt
      simp only [Option.some.injEq, Addr.mk.injEq] at e2
      obtain ⟨rfl, rfl, _⟩ := e2
      have HM := Lib.hid (minV_take h1 (xs := xs) (k := k) (by rw [HX.out]; exact hlt))
      obtain ⟨y, hy⟩ : ∃ y, nth xs k = y := ⟨_, rfl⟩
      obtain ⟨z, hz⟩ : ∃ z, minV (xs.take k) = z := ⟨_, rfl⟩
      rw [hy] at hck HM
      rw [hz] at HM
      rw [hz]
      clear hy hz
      by_cases hyz : y < z
      · have HE := Lib.hid (show minV (xs.take (k + 1)) = y by rw [HM.out]; omega)
        have q1 : decide (y < z) = true := decide_eq_true hyz
        clear hyz
        go_wp2_with fail
        go_round
        case rel => exact ⟨k + 1, by omega, by omega, by go_num, by rw [HE.out]⟩
        case measure => simp [intOf]; omega
      · have HE := Lib.hid (show minV (xs.take (k + 1)) = z by rw [HM.out]; omega)
        have q1 : decide (y < z) = false := decide_eq_false hyz
        clear hyz
        go_wp2_with fail
        go_round
        case rel => exact ⟨k + 1, by omega, by omega, by go_num, by rw [HE.out]⟩
        case measure => simp [intOf]; omega
    · have HE : Hid (xs.take k = xs) := Lib.hid (List.take_of_length_le (by have := HX.out; omega))
      go_wp2_with fail
      go_ret
      exact ⟨ret_int (by rw [HE.out]), rfl⟩
set_option maxHeartbeats 6400000 in
set_option maxRecDepth 100000 in
theorem merged17_any (sa : Option Addr) (xn sc : Nat) (st : List VerL) (V : VerL) (va : Option Addr) (vn vc : Nat) (la : Option Addr) (m lc : Nat) (os : List VerL) (w : World) (hs : VA w sa xn st) (hiv : IA w va vn V.at_) (hl : VA w la m os) (hm : m ≤ 1000) :
    Calls Tryz.prog 42 #[.slice sa xn sc, .agg #[.string V.key, .slice va vn vc, .int .i64 V.origin, .int .i64 V.tx, .int .i64 V.act.k, .float .f64 V.act.x, .int .i64 V.act.n, .string V.act.s], .slice la m lc] w fun e w' => ∃ a' m' c', e = .returned (.slice a' m' c') ∧ VA w' a' m' (mergedL V os st) ∧ m' ≤ m ∧ Bl w w' := by
  have hsf := store_fl
  have hcap := hl.cap
  have hcap2 := hs.cap
  have hbx : Bl w (w.alloc (.cells #[.string V.key, .slice va vn vc, .int .i64 V.origin, .int .i64 V.tx, .int .i64 V.act.k, .float .f64 V.act.x, .int .i64 V.act.n, .string V.act.s] 59)) := (Bl.refl w).alloc _
  have HBX : Hid (AC (w.alloc (.cells #[.string V.key, .slice va vn vc, .int .i64 V.origin, .int .i64 V.tx, .int .i64 V.act.k, .float .f64 V.act.x, .int .i64 V.act.n, .string V.act.s] 59)) w.heap.size (verC V.key va vn vc V.origin V.tx V.act.k V.act.x V.act.n V.act.s)) := Lib.hid (AC.new w w.heap.size rfl [.string V.key, .slice va vn vc, .int .i64 V.origin, .int .i64 V.tx, .int .i64 V.act.k, .float .f64 V.act.x, .int .i64 V.act.n, .string V.act.s] 59)
  have HST := Lib.hid (hs.keep hbx)
  have HIV := Lib.hid (hiv.keep hbx)
  have HL := Lib.hid (hl.keep hbx)
  have HSL := Lib.hid hs.len
  have HLL := Lib.hid hl.len
  have HW0 := Lib.hid hbx
  clear hs hiv hl hbx
  go_enter Tryz.func42, Tryz.ntmps42
  go_wp2_with fail
  generalize w.alloc _ = W0 at *
  generalize w.heap.size = g at *
  go_loopw [7, 8, 9] (fun ov kv iv wr => ∃ (i k : Nat) (xs : List VC), i ≤ m ∧ iv = .int .i64 (i : Int) ∧ kv = .int .i64 (k : Int) ∧ SV W0 wr ov xs ∧ Bl W0 wr ∧ mergedL V os st = xs.map VC.ver ++ mergedL V (os.drop i) (st.drop k) ∧ xs.length ≤ i ∧ k ≤ i) (fun _ _ iv _ => m - (intOf iv).toNat)
  case atStart => exact ⟨0, 0, [], Nat.zero_le _, by go_num, by go_num, SV.nil _ _, Bl.refl _, by rw [List.drop_zero, List.drop_zero]; rfl, Nat.le_refl _, Nat.le_refl _⟩
  case round =>
    obtain ⟨i, k, xs, hi, rfl, rfl, hsv, hbw, hmm, hxl, hki⟩ := hrel
    have HS := Lib.hid hsv
    have HB := Lib.hid hbw
    have HM := Lib.hid hmm
    clear hsv hbw hmm
    by_cases hlt : i < m
    case neg =>
      have HE := Lib.hid (show xs.map VC.ver = mergedL V os st by rw [HM.out, List.drop_eq_nil_of_le (by rw [HLL.out]; omega)]; simp [mergedL])
      obtain ⟨xn', hxn⟩ : ∃ xn', xs.length = xn' := ⟨_, rfl⟩
      obtain ⟨ra, rc, rfl, hva⟩ := HS.out.va HB.out hxn (by omega)
      have HV := Lib.hid (HE.out ▸ hva)
      clear hva
      go_wp2_with fail
      go_ret
      exact ⟨ra, xn', rc, rfl, HV.out, by omega, HW0.out.trans HB.out⟩
    obtain ⟨b, off, rfl, hc⟩ := HL.out.cells i hlt
    have EU0 := hc i hlt
    clear hc
    have hstep := mergedL_step V os st i k (by rw [HLL.out]; exact hlt)
    obtain ⟨U, hU⟩ : ∃ U, nthR os i = U := ⟨_, rfl⟩
    rw [hU] at EU0 hstep
    have HSTEP := Lib.hid hstep
    clear hU hstep
    obtain ⟨ua, un, uc, eu1, eui⟩ := EU0.at_
    have HU1 := Lib.hid eu1
    have HIU := Lib.hid eui
    have HEU := Lib.hid EU0
    have HAU := Lib.hid EU0.ok
    clear eu1 eui EU0
    obtain ⟨r, hr⟩ : ∃ r, eqV U V = r := ⟨_, rfl⟩
    have HRR := Lib.hid hr
    clear hr
    go_upto_region 6 with fail
    refine wp_region_allS (by kernel_rfl) (by kernel_rfl) ?_
    have HDR := Lib.hid ((Bl.refl wr).drew)
    have HWZ := Lib.hid (HB.out.trans HDR.out)
    generalize World.drew wr = Z at *
    obtain ⟨p0, p1, p2, p3, p4, p5, p6, p7⟩ := (HEU.out.keep HWZ.out).all (HWZ.out.cell HU1.out)
    obtain ⟨t0, t1, t2, t3, t4, t5, t6, t7⟩ : (∀ n : Ext Z, _) ∧ (∀ n : Ext Z, _) ∧ (∀ n : Ext Z, _) ∧ (∀ n : Ext Z, _) ∧ (∀ n : Ext Z, _) ∧ (∀ n : Ext Z, _) ∧ (∀ n : Ext Z, _) ∧ (∀ n : Ext Z, _) :=
      ⟨fun n => (AC.ver (HBX.out.keep (HWZ.out.trans n.bl))).1, fun n => (AC.ver (HBX.out.keep (HWZ.out.trans n.bl))).2.1, fun n => (AC.ver (HBX.out.keep (HWZ.out.trans n.bl))).2.2.1, fun n => (AC.ver (HBX.out.keep (HWZ.out.trans n.bl))).2.2.2.1, fun n => (AC.ver (HBX.out.keep (HWZ.out.trans n.bl))).2.2.2.2.1, fun n => (AC.ver (HBX.out.keep (HWZ.out.trans n.bl))).2.2.2.2.2.1, fun n => (AC.ver (HBX.out.keep (HWZ.out.trans n.bl))).2.2.2.2.2.2.1, fun n => (AC.ver (HBX.out.keep (HWZ.out.trans n.bl))).2.2.2.2.2.2.2⟩
    have H1 := Lib.hid (fun q : Ext Z => alike_any U V ua va un vn uc vc r q.at (HIU.out.keep (HWZ.out.trans q.bl)) (HIV.out.keep (HWZ.out.trans q.bl)) HRR)
    repeat (refine wpS_step (fun K hK => ?_); go_simp; first | (refine hK _ ?_; clear hK K) | (apply Exists.intro; refine ⟨fun q => ?_, hK _ ?_⟩; (first | with_reducible exact H1.out q); clear hK K))
    refine wpS_nil ?_
    intro q1
    have HW8 := Lib.hid (HWZ.out.trans q1.bl)
    have HWA := Lib.hid (HDR.out.trans q1.bl)
    clear HWZ HDR p0 p1 p2 p3 p4 p5 p6 p7 t0 t1 t2 t3 t4 t5 t6 t7 H1
    generalize ExtC.at q1 = W8 at *
    cases r
    case true =>
      have HST1 := Lib.hid (show mergedL V (os.drop i) (st.drop k) = U :: mergedL V (os.drop (i + 1)) (st.drop k) by rw [HSTEP.out, HRR.out]; rfl)
      clear HSTEP HRR
      have e_ := HEU.out.keep HW8.out
      have e0 := e_.c0
      have e2 := e_.c2
      have e3 := e_.c3
      have e4 := e_.c4
      have e5 := e_.c5
      have e6 := e_.c6
      have e7 := e_.c7
      have e1 := HW8.out.cell HU1.out
      clear e_
      have HSW := Lib.hid (HS.out.keep (HWA.out))
      have HSB := Lib.hid (HSW.out.keep ((Bl.refl W8).alloc (.cells #[.string U.key, .slice ua un uc, .int .i64 U.origin, .int .i64 U.tx, .int .i64 U.act.k, .float .f64 U.act.x, .int .i64 U.act.n, .string U.act.s] 59)))
      have HBB := Lib.hid (HW8.out.alloc (.cells #[.string U.key, .slice ua un uc, .int .i64 U.origin, .int .i64 U.tx, .int .i64 U.act.k, .float .f64 U.act.x, .int .i64 U.act.n, .string U.act.s] 59))
      have HLT := Lib.hid (SG.lit (heap_alloc_new W8 (.cells #[.string U.key, .slice ua un uc, .int .i64 U.origin, .int .i64 U.tx, .int .i64 U.act.k, .float .f64 U.act.x, .int .i64 U.act.n, .string U.act.s] 59)) (show [.string U.key, .slice ua un uc, .int .i64 U.origin, .int .i64 U.tx, .int .i64 U.act.k, .float .f64 U.act.x, .int .i64 U.act.n, .string U.act.s].length = 1 * 8 from rfl) (by simp [Value.oneCell']))
      go_wp2_with (at_builtin; refine wpList_appK rfl _ _ _ rfl el_vr W0.heap.size _ _ _ rfl HSB.out.own ?cB _ 1 1 _ rfl HLT.out ?cM ?cN ?_)
      case cB => exact HBB.out.size
      case cM => have := hxl; unfold maxLen; omega
      case cN => have := hxl; omega
      intro vq w3 ho3 hg3 hz1 hz2
      clear hz1 hz2
      have HS3 := Lib.hid (HSB.out.push (y := ⟨U.key, ua, un, uc, U.at_, U.origin, U.tx, U.act⟩) HIU.out HAU.out ho3)
      have HB3 := Lib.hid (HSB.out.grown HBB.out hg3)
      clear ho3 hg3 HSB HBB HLT
      clear e0 e1 e2 e3 e4 e5 e6 e7 HSW
      go_wp2_with fail
      go_roundw
      case rel => exact ⟨i + 1, k, xs ++ [⟨U.key, ua, un, uc, U.at_, U.origin, U.tx, U.act⟩], by omega, by go_num, by go_num, HS3.out, HB3.out, by rw [HM.out, HST1.out, List.map_append, List.append_assoc]; rfl, by rw [List.length_append]; simp; omega, by omega⟩
      case measure => simp [intOf]; omega
    case false =>
    by_cases hk : k < xn
    case neg =>
      have HST1 := Lib.hid (show mergedL V (os.drop i) (st.drop k) = mergedL V (os.drop (i + 1)) (st.drop k) by rw [HSTEP.out, HRR.out, if_neg (by decide), if_neg (fun h => hk (by rw [← HSL.out]; exact h.1))])
      clear HSTEP HRR
      go_upto_region 8 with fail
      refine wp_region_allS (by kernel_rfl) (by kernel_rfl) ?_
      have HDR := Lib.hid ((Bl.refl W8).drew)
      have HWZ := Lib.hid (HW8.out.trans HDR.out)
      generalize World.drew W8 = Z at *
      repeat (refine wpS_step (fun K hK => ?_); go_simp; refine hK _ ?_; clear hK K)
      refine wpS_nil ?_
      intro q1
      have HW9 := Lib.hid (HWZ.out.trans q1.bl)
      have HWB := Lib.hid (HDR.out.trans q1.bl)
      clear HWZ HDR  
      generalize ExtC.at q1 = W9 at *
      go_wp2_with fail
      go_roundw
      case rel => exact ⟨i + 1, k, xs, by omega, by go_num, by go_num, HS.out.keep (HWA.out.trans HWB.out), HW9.out, by rw [HM.out, HST1.out], by omega, by omega⟩
      case measure => simp [intOf]; omega
    obtain ⟨b2, off2, rfl, hc⟩ := HST.out.cells k hk
    have ET0 := hc k hk
    clear hc
    obtain ⟨T, hT⟩ : ∃ T, nthR st k = T := ⟨_, rfl⟩
    have hkl : k < st.length := by rw [HSL.out]; exact hk
    have HSTEP2 := Lib.hid (show mergedL V (os.drop i) (st.drop k) = if eqV T U = true then U :: mergedL V (os.drop (i + 1)) (st.drop (k + 1)) else mergedL V (os.drop (i + 1)) (st.drop k) by
      rw [HSTEP.out, HRR.out, if_neg (by decide), hT]
      cases hq : eqV T U with
      | true => rw [if_pos ⟨hkl, rfl⟩, if_pos rfl]
      | false => rw [if_neg (fun h => by cases h.2), if_neg (by decide)])
    rw [hT] at ET0
    clear hT HSTEP HRR hkl
    obtain ⟨ta, tn, tc, et1, eti⟩ := ET0.at_
    have HT1 := Lib.hid et1
    have HIT := Lib.hid eti
    have HET := Lib.hid ET0
    clear et1 eti ET0
    obtain ⟨r2, hr⟩ : ∃ r, eqV T U = r := ⟨_, rfl⟩
    have HR2 := Lib.hid hr
    clear hr
    go_upto_region 8 with fail
    refine wp_region_allS (by kernel_rfl) (by kernel_rfl) ?_
    have HDR := Lib.hid ((Bl.refl W8).drew)
    have HWZ := Lib.hid (HW8.out.trans HDR.out)
    generalize World.drew W8 = Z at *
    obtain ⟨p0, p1, p2, p3, p4, p5, p6, p7⟩ := (HET.out.keep HWZ.out).all (HWZ.out.cell HT1.out)
    obtain ⟨t0, t1, t2, t3, t4, t5, t6, t7⟩ := (HEU.out.keep HWZ.out).all (HWZ.out.cell HU1.out)
    have H1 := Lib.hid (fun q : Ext Z => alike_any T U ta ua tn un tc uc r2 q.at (HIT.out.keep (HWZ.out.trans q.bl)) (HIU.out.keep (HWZ.out.trans q.bl)) HR2)
    repeat (refine wpS_step (fun K hK => ?_); go_simp; first | (refine hK _ ?_; clear hK K) | (apply Exists.intro; refine ⟨fun q => ?_, hK _ ?_⟩; (first | with_reducible exact H1.out q); clear hK K))
    refine wpS_nil ?_
    intro q1
    have HW9 := Lib.hid (HWZ.out.trans q1.bl)
    have HWB := Lib.hid (HDR.out.trans q1.bl)
    clear HWZ HDR p0 p1 p2 p3 p4 p5 p6 p7 t0 t1 t2 t3 t4 t5 t6 t7 H1
    generalize ExtC.at q1 = W9 at *
    cases r2
    case true =>
      have HST1 := Lib.hid (show mergedL V (os.drop i) (st.drop k) = U :: mergedL V (os.drop (i + 1)) (st.drop (k + 1)) by rw [HSTEP2.out, HR2.out]; rfl)
      clear HSTEP2 HR2
      have e_ := HEU.out.keep HW9.out
      have e0 := e_.c0
      have e2 := e_.c2
      have e3 := e_.c3
      have e4 := e_.c4
      have e5 := e_.c5
      have e6 := e_.c6
      have e7 := e_.c7
      have e1 := HW9.out.cell HU1.out
      clear e_
      have HSW := Lib.hid (HS.out.keep (HWA.out.trans HWB.out))
      have HSB := Lib.hid (HSW.out.keep ((Bl.refl W9).alloc (.cells #[.string U.key, .slice ua un uc, .int .i64 U.origin, .int .i64 U.tx, .int .i64 U.act.k, .float .f64 U.act.x, .int .i64 U.act.n, .string U.act.s] 59)))
      have HBB := Lib.hid (HW9.out.alloc (.cells #[.string U.key, .slice ua un uc, .int .i64 U.origin, .int .i64 U.tx, .int .i64 U.act.k, .float .f64 U.act.x, .int .i64 U.act.n, .string U.act.s] 59))
      have HLT := Lib.hid (SG.lit (heap_alloc_new W9 (.cells #[.string U.key, .slice ua un uc, .int .i64 U.origin, .int .i64 U.tx, .int .i64 U.act.k, .float .f64 U.act.x, .int .i64 U.act.n, .string U.act.s] 59)) (show [.string U.key, .slice ua un uc, .int .i64 U.origin, .int .i64 U.tx, .int .i64 U.act.k, .float .f64 U.act.x, .int .i64 U.act.n, .string U.act.s].length = 1 * 8 from rfl) (by simp [Value.oneCell']))
      go_wp2_with (at_builtin; refine wpList_appK rfl _ _ _ rfl el_vr W0.heap.size _ _ _ rfl HSB.out.own ?cB _ 1 1 _ rfl HLT.out ?cM ?cN ?_)
      case cB => exact HBB.out.size
      case cM => have := hxl; unfold maxLen; omega
      case cN => have := hxl; omega
      intro vq w3 ho3 hg3 hz1 hz2
      clear hz1 hz2
      have HS3 := Lib.hid (HSB.out.push (y := ⟨U.key, ua, un, uc, U.at_, U.origin, U.tx, U.act⟩) HIU.out HAU.out ho3)
      have HB3 := Lib.hid (HSB.out.grown HBB.out hg3)
      clear ho3 hg3 HSB HBB HLT
      clear e0 e1 e2 e3 e4 e5 e6 e7 HSW
      go_wp2_with fail
      go_roundw
      case rel => exact ⟨i + 1, k + 1, xs ++ [⟨U.key, ua, un, uc, U.at_, U.origin, U.tx, U.act⟩], by omega, by go_num, by go_num, HS3.out, HB3.out, by rw [HM.out, HST1.out, List.map_append, List.append_assoc]; rfl, by rw [List.length_append]; simp; omega, by omega⟩
      case measure => simp [intOf]; omega
    case false =>
      have HST1 := Lib.hid (show mergedL V (os.drop i) (st.drop k) = mergedL V (os.drop (i + 1)) (st.drop k) by rw [HSTEP2.out, HR2.out]; rfl)
      go_wp2_with fail
      go_roundw
      case rel => exact ⟨i + 1, k, xs, by omega, by go_num, by go_num, HS.out.keep (HWA.out.trans HWB.out), HW9.out, by rw [HM.out, HST1.out], by omega, by omega⟩
      case measure => simp [intOf]; omega
end Go.Proofs.YtfjjnffifnohkaaGreat
end

/- fold.lastOf. By an AI agent. -/
section
set_option linter.unusedVariables false
set_option linter.unusedSimpArgs false
namespace Go.Proofs.YtfjjnffifnohkaaGreat
open Go.RowKit
attribute [local go_sem] eOp eOper eUpon

set_option maxHeartbeats 3200000 in
set_option maxRecDepth 100000 in
theorem flast_any (sa : Option Addr) (sn sc : Nat) (stay : List VerL) (ea : Option Addr) (en ec : Nat) (seen : List VerL) (fa : Option Addr) (fn fc : Nat) (floor : List Int) (all : Bool) (first : VerL) (rest : List VerL) (w : World)
    (hs : VA w sa sn stay) (he : VA w ea en seen) (hf : IA w fa fn floor) (h0 : 0 < fn) (hse : seen = first :: rest) (hec : en ≤ ec) :
    Calls Tryz.prog 30 #[.slice sa sn sc, .slice ea en ec, .slice fa fn fc, .bool all] w fun e w' => e = .returned (if goneL stay first floor all then .slice none 0 0 else .slice ea 1 ec) ∧ Bl w w' := by
  have hsf := store_fl
  have hen : 0 < en := by have := he.len; rw [hse] at this; simp at this; omega
  obtain ⟨b, off, rfl, hc⟩ := he.cells 0 hen
  have E := hc 0 hen
  have hV : nthR seen 0 = first := by rw [hse]; rfl
  rw [hV] at E
  obtain ⟨va, vn, vc, e1, hI⟩ := E.at_
  rw [Nat.zero_mul, Nat.add_zero] at *
  have e0 := E.c0
  have e2 := E.c2
  have e3 := E.c3
  have e4 := E.c4
  have e5 := E.c5
  have e6 := E.c6
  have e7 := E.c7
  have hb := (Bl.refl w).alloc (.cells #[.string first.key, .slice va vn vc, .int .i64 first.origin, .int .i64 first.tx, .int .i64 first.act.k, .float .f64 first.act.x, .int .i64 first.act.n, .string first.act.s] 59)
  have hg := AC.new w w.heap.size rfl [.string first.key, .slice va vn vc, .int .i64 first.origin, .int .i64 first.tx, .int .i64 first.act.k, .float .f64 first.act.x, .int .i64 first.act.n, .string first.act.s] 59
  have HX := Lib.hid hg
  have HI := Lib.hid (hI.keep hb)
  have HS := Lib.hid (hs.keep hb)
  have HF := Lib.hid (hf.keep hb)
  have HB := Lib.hid hb
  have HO := Lib.hid E.ok
  have HSL := Lib.hid hs.len
  obtain ⟨u0, u1, u2, u3, u4, u5, u6, u7⟩ := AC.ver (key := first.key) (a := va) (n := vn) (ca := vc) (o := first.origin) (t := first.tx) (k := first.act.k) (x := first.act.x) (m := first.act.n) (s := first.act.s) hg
  clear hg hI hs hf hb E hV hc he
  obtain ⟨r, hr⟩ : ∃ r, stay.any (lateB first) = r := ⟨_, rfl⟩
  obtain ⟨T, hT⟩ : ∃ T, timeL first = T := ⟨_, rfl⟩
  obtain ⟨M, hM⟩ : ∃ M, minV floor = M := ⟨_, rfl⟩
  have HG := Lib.hid (show goneL stay first floor all = (all && (decide (first.act.k = 4) && (decide (T ≤ M) && !r))) by unfold goneL; rw [hT, hM, ← hr]; rfl)
  have HT := Lib.hid (show timeL ⟨first.key, first.at_, first.origin, first.tx, ⟨first.act.k, first.act.x, first.act.n, first.act.s⟩⟩ = T from hT)
  have HR := Lib.hid hr
  have HM := Lib.hid hM
  clear hr hT hM hse
  obtain ⟨res, hres⟩ : ∃ res, (if goneL stay first floor all then Value.slice none 0 0 else .slice (some ⟨b, off, none⟩) 1 ec) = res := ⟨_, rfl⟩
  rw [hres]
  rw [HG.out] at hres
  have HRES := Lib.hid hres
  clear hres HG
  obtain ⟨kb, hkb⟩ : ∃ kb, (first.act.k == 4) = kb := ⟨_, rfl⟩
  obtain ⟨tb, htb⟩ : ∃ tb, decide (T ≤ M) = tb := ⟨_, rfl⟩
  have HKB := Lib.hid (show decide (first.act.k = 4) = kb by rw [← hkb]; rfl)
  go_enter Tryz.func30, Tryz.ntmps30
  by_cases hs0 : sn = 0
  · subst hs0
    have HR0 := Lib.hid (show r = false by rw [← HR.out, List.eq_nil_of_length_eq_zero HSL.out]; rfl)
    have HB2 := HB
    have HI2 := HI
    have HF2 := HF
    cases all
    case false =>
      have HE := Lib.hid (show res = .slice (some ⟨b, off, none⟩) 1 ec from HRES.out.symm)
      go_wp2_with fail
      go_ret
      exact ⟨by rw [HE.out]; rfl, HB2.out⟩
    case true =>
      cases kb
      case false =>
        have HE := Lib.hid (show res = .slice (some ⟨b, off, none⟩) 1 ec by rw [← HRES.out, HKB.out]; rfl)
        go_wp2_with fail
        go_ret
        exact ⟨by rw [HE.out]; rfl, HB2.out⟩
      case true =>
        go_wp2_with fail
        refine (ftime_any first.key va vn vc first.at_ first.origin first.tx first.act.k first.act.x first.act.n first.act.s T _ HI2.out HT).mono ?_
        rintro e w3 ⟨rfl, hb3⟩
        have HB3 := Lib.hid (HB2.out.trans hb3)
        have HF3 := Lib.hid (HF2.out.keep hb3)
        clear hb3
        go_wp2_with fail
        refine (minS_any fa fn fc floor _ HF3.out h0).mono ?_
        rintro e w4 ⟨rfl, rfl⟩
        rw [HM.out]
        cases tb
        case false =>
          have HE := Lib.hid (show res = .slice (some ⟨b, off, none⟩) 1 ec by rw [← HRES.out, HKB.out, htb]; rfl)
          go_wp2_with fail
          go_ret
          exact ⟨by rw [HE.out]; rfl, HB3.out⟩
        case true =>
          obtain rfl : r = false := HR0.out
          have HE := Lib.hid (show res = .slice none 0 0 by rw [← HRES.out, HKB.out, htb]; rfl)
          go_wp2_with fail
          go_ret
          exact ⟨by rw [HE.out]; rfl, HB3.out⟩
  · have q0 : ((sn : Int) == 0) = false := by rw [beq_eq_false_iff_ne]; omega
    go_wp2_with fail
    refine (containsL_any ⟨first.key, va, vn, vc, first.at_, first.origin, first.tx, first.act⟩ w.heap.size sa sn sc stay _ HX.out HI.out HO.out HS.out).mono ?_
    rintro e w2 ⟨rfl, hb2⟩
    have hr2 : stay.any (lateB (VC.ver ⟨first.key, va, vn, vc, first.at_, first.origin, first.tx, first.act⟩)) = r := HR.out
    rw [hr2]
    clear hr2
    have HB2 := Lib.hid (HB.out.trans hb2)
    have HI2 := Lib.hid (HI.out.keep hb2)
    have HF2 := Lib.hid (HF.out.keep hb2)
    obtain ⟨z0, z1, z2, z3, z4, z5, z6, z7⟩ := AC.ver (key := first.key) (a := va) (n := vn) (ca := vc) (o := first.origin) (t := first.tx) (k := first.act.k) (x := first.act.x) (m := first.act.n) (s := first.act.s) (HX.out.keep hb2)
    clear hb2
    cases all
    case false =>
      have HE := Lib.hid (show res = .slice (some ⟨b, off, none⟩) 1 ec from HRES.out.symm)
      go_wp2_with fail
      go_ret
      exact ⟨by rw [HE.out]; rfl, HB2.out⟩
    case true =>
      cases kb
      case false =>
        have HE := Lib.hid (show res = .slice (some ⟨b, off, none⟩) 1 ec by rw [← HRES.out, HKB.out]; rfl)
        go_wp2_with fail
        go_ret
        exact ⟨by rw [HE.out]; rfl, HB2.out⟩
      case true =>
        go_wp2_with fail
        refine (ftime_any first.key va vn vc first.at_ first.origin first.tx first.act.k first.act.x first.act.n first.act.s T _ HI2.out HT).mono ?_
        rintro e w3 ⟨rfl, hb3⟩
        have HB3 := Lib.hid (HB2.out.trans hb3)
        have HF3 := Lib.hid (HF2.out.keep hb3)
        clear hb3
        go_wp2_with fail
        refine (minS_any fa fn fc floor _ HF3.out h0).mono ?_
        rintro e w4 ⟨rfl, rfl⟩
        rw [HM.out]
        cases tb
        case false =>
          have HE := Lib.hid (show res = .slice (some ⟨b, off, none⟩) 1 ec by rw [← HRES.out, HKB.out, htb]; rfl)
          go_wp2_with fail
          go_ret
          exact ⟨by rw [HE.out]; rfl, HB3.out⟩
        case true =>
          cases r
          case false =>
            have HE := Lib.hid (show res = .slice none 0 0 by rw [← HRES.out, HKB.out, htb]; rfl)
            go_wp2_with fail
            go_ret
            exact ⟨by rw [HE.out]; rfl, HB3.out⟩
          case true =>
            have HE := Lib.hid (show res = .slice (some ⟨b, off, none⟩) 1 ec by rw [← HRES.out, HKB.out, htb]; rfl)
            go_wp2_with fail
            go_ret
            exact ⟨by rw [HE.out]; rfl, HB3.out⟩
end Go.Proofs.YtfjjnffifnohkaaGreat
end

/- fold.registers. By an AI agent. -/
section
set_option linter.unusedVariables false
set_option linter.unusedSimpArgs false
namespace Go.Proofs.YtfjjnffifnohkaaGreat
open Go.RowKit

set_option maxRecDepth 100000 in
theorem fregs_any (key : ByteArray) (w : World) (hp : 0 < key.size) : Calls Tryz.prog 29 #[.string key] w fun e w' => e = .returned (.bool (regB key)) ∧ w = w' := by
  have HH := Lib.hid (hd_get hp)
  go_enter Tryz.func29, Tryz.ntmps29
  go_wp2_with fail
  · rename_i h
    go_ret
    refine ⟨ret_bool ?_, rfl⟩
    have h2 : hd key = 114 := by rw [← HH.out]; omega
    unfold regB
    rw [h2]; rfl
  · rename_i h
    go_ret
    refine ⟨ret_bool ?_, rfl⟩
    unfold regB
    rw [← HH.out]
    rw [Bool.eq_iff_iff]
    simp only [Bool.or_eq_true, beq_iff_eq, decide_eq_true_eq]
    omega
end Go.Proofs.YtfjjnffifnohkaaGreat
end
