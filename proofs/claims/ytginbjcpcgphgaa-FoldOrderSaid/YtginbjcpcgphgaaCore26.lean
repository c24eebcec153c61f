import Derived.Test.YtginbjcpcgphgaaCore25

/- slices.Min; what lastOf asks of what stays. By an AI agent. -/
section
set_option linter.unusedVariables false
set_option linter.unusedSimpArgs false
namespace Go.Proofs.Ytginbjcpcgphgaa
open Go.RowKit
attribute [local go_sem] eOp eOper eUpon

theorem minV_take {xs : List Int} {k : Nat} (h1 : 1 ≤ k) (h : k < xs.length) : minV (xs.take (k + 1)) = min (minV (xs.take k)) (nth xs k) := by
  cases xs with
  | nil => simp at h
  | cons x xs =>
    obtain ⟨j, rfl⟩ : ∃ j, k = j + 1 := ⟨k - 1, by omega⟩
    simp only [List.take_succ_cons, minV]
    have hj : j < xs.length := by simpa using h
    rw [List.take_succ_eq_append_getElem hj, List.foldl_append]
    simp [nth, List.getD, hj]
set_option maxHeartbeats 800000 in
theorem minS_any (a : Option Addr) (n ca : Nat) (xs : List Int) (w : World) (hx : IA w a n xs) (h0 : 0 < n) :
    Calls Try.prog 44 #[.slice a n ca] w fun e w' => e = .returned (.int .i64 (minV xs)) ∧ w = w' := by
  have HX := Lib.hid hx.len
  have hnb := hx.cap
  obtain ⟨ba, oa, rfl, hc0⟩ := hx.at_k 0 h0
  have hn1 : ¬ ((n : Int) < 1) := by omega
  have hn2 : (0 : Int) < (n : Int) := by omega
  have hc1 : w.cell? ⟨ba, oa, none⟩ = some (.int .i64 (nth xs 0)) := hc0
  go_enter Try.func44, Try.ntmps44
  go_wp2_with fail
  go_loop [3, 4] (fun v i => ∃ k : Nat, 1 ≤ k ∧ k ≤ n ∧ i = .int .i64 k ∧ v = .int .i64 (minV (xs.take k))) (fun _ i => n - (intOf i).toNat)
  case atStart =>
    refine ⟨1, Nat.le_refl _, h0, rfl, ?_⟩
    have hl := HX.out
    cases xs with
    | nil => simp at hl; omega
    | cons x xs => rfl
  case round =>
    clear hc0 hc1
    obtain ⟨k, h1, hk, rfl, rfl⟩ := hrel
    by_cases hlt : k < n
    · obtain ⟨b2, o2, e2, hck⟩ := hx.at_k k hlt
      simp only [Option.some.injEq, Addr.mk.injEq] at e2
      obtain ⟨rfl, rfl, _⟩ := e2
      have HM := Lib.hid (minV_take h1 (xs := xs) (k := k) (by rw [HX.out]; exact hlt))
      go_wp2_with fail
      go_round
      case rel => exact ⟨k + 1, by omega, by omega, by go_num, by rw [HM.out]⟩
      case measure => simp [intOf]; omega
    · have HE : Hid (xs.take k = xs) := Lib.hid (List.take_of_length_le (by have := HX.out; omega))
      go_wp2_with fail
      go_ret
      exact ⟨ret_int (by rw [HE.out]), rfl⟩
theorem VOk.of {W : World} {v : VC} (h : IA W v.ad v.n v.at_) (k : v.act.Ok) : VOk W W.heap.size v := by
  refine ⟨h, k, ?_⟩
  by_cases h0 : v.n = 0
  · exact .inl h0
  · refine .inr fun b off e q => ?_
    obtain ⟨b2, off2, e2, hcell⟩ := h.cells 0 (by omega)
    rw [e] at e2
    simp only [Option.some.injEq, Addr.mk.injEq] at e2
    have hlt := World.block_lt_of_cell? _ _ (hcell 0 (by omega))
    simp at hlt
    omega
/-- does v come later than x -/
def lateB (x v : VerL) : Bool := decide (orderL x v < 0)
set_option maxHeartbeats 1600000 in
set_option maxRecDepth 100000 in
theorem late_any (x y : VC) (g : Nat) (w : World) (hx : AC w g x.cs) (hxi : IA w x.ad x.n x.at_) (hyi : IA w y.ad y.n y.at_) (hxo : x.act.Ok) (hyo : y.act.Ok) :
    Calls Try.prog 42 #[.agg #[.string y.key, .slice y.ad y.n y.ca, .int .i64 y.origin, .int .i64 y.tx, .int .i64 y.act.k, .float .f64 y.act.x, .int .i64 y.act.n, .string y.act.s], .pointer (some ⟨g, 0, none⟩)] w fun e w' => e = .returned (.bool (lateB x.ver y.ver)) ∧ Bl w w' := by
  have hb := (Bl.refl w).alloc (.cells y.cs.toArray 35)
  have hg := AC.new w w.heap.size rfl y.cs 35
  have HXA := Lib.hid (hx.keep hb)
  have HXI := Lib.hid (hxi.keep hb)
  have HYI := Lib.hid (hyi.keep hb)
  obtain ⟨R, hR⟩ : ∃ R, orderL x.ver y.ver = R := ⟨_, rfl⟩
  have HR := Lib.hid hR
  unfold VC.cs at *
  obtain ⟨x0, x1, x2, x3, x4, x5, x6, x7⟩ := AC.ver HXA.out
  obtain ⟨y0, y1, y2, y3, y4, y5, y6, y7⟩ := AC.ver hg
  unfold verC at *
  have HB := Lib.hid hb
  clear hx hxi hyi hg hb hR
  go_enter Try.func42, Try.ntmps42
  go_wp2_with fail
  refine (forder_w x y R _ (VOk.of HXI.out hxo) ⟨HYI.out, hyo, (VOk.of HYI.out hyo).far⟩ HR).mono ?_
  rintro e w2 ⟨rfl, hb2⟩
  go_wp2_with fail
  go_ret
  exact ⟨ret_bool (by unfold lateB; rw [HR.out]), HB.out.trans hb2⟩
set_option maxHeartbeats 1600000 in
set_option maxRecDepth 100000 in
theorem indexL_any (x : VC) (g : Nat) (a : Option Addr) (n ca : Nat) (vs : List VerL) (w : World) (hx : AC w g x.cs) (hxi : IA w x.ad x.n x.at_) (hxo : x.act.Ok) (hv : VA w a n vs) :
    Calls Try.prog 57 #[.slice a n ca, .func (.func 42) #[] #[.pointer (some ⟨g, 0, none⟩)]] w fun e w' => ∃ k : Int, e = .returned (.int .i64 k) ∧ (k ≥ 0 ↔ vs.any (lateB x.ver) = true) ∧ Bl w w' := by
  have hcap := hv.cap
  have HL := Lib.hid hv.len
  have HX := Lib.hid hx
  have HXI := Lib.hid hxi
  clear hx hxi
  go_enter Try.func57, Try.ntmps57
  go_wp2_with fail
  go_loopw [8] (fun i wr => ∃ k : Nat, k ≤ n ∧ i = .int .i64 k ∧ Bl w wr ∧ ∀ j, j < k → lateB x.ver (nthR vs j) = false) (fun i _ => n - (intOf i).toNat)
  case atStart => exact ⟨0, Nat.zero_le _, by go_num, Bl.refl _, fun j hj => absurd hj (Nat.not_lt_zero _)⟩
  case round =>
    obtain ⟨k, hk, rfl, hbl, hok⟩ := hrel
    have HBL := Lib.hid hbl
    have HOK := Lib.hid hok
    clear hbl hok
    by_cases hlt : k < n
    · obtain ⟨b, off, rfl, hc⟩ := hv.cells k hlt
      have E := (hc k hlt).keep HBL.out
      obtain ⟨V, hV⟩ : ∃ V, nthR vs k = V := ⟨_, rfl⟩
      rw [hV] at E
      have HV := Lib.hid hV
      clear hV hc
      obtain ⟨va, vn, vc, e1, hI⟩ := E.at_
      have e0 := E.c0
      have e2 := E.c2
      have e3 := E.c3
      have e4 := E.c4
      have e5 := E.c5
      have e6 := E.c6
      have e7 := E.c7
      have HA := Lib.hid E.ok
      have HI := Lib.hid hI
      clear hI E
      go_wp2_with fail
      refine (late_any x ⟨V.key, va, vn, vc, V.at_, V.origin, V.tx, V.act⟩ g _ (HX.out.keep HBL.out) (HXI.out.keep HBL.out) HI.out hxo HA.out).mono ?_
      rintro e w1 ⟨rfl, hb1⟩
      have HB1 := Lib.hid (HBL.out.trans hb1)
      clear e0 e1 e2 e3 e4 e5 e6 e7 hb1
      obtain ⟨r, hr⟩ : ∃ r, lateB x.ver V = r := ⟨_, rfl⟩
      have hr2 : lateB x.ver (VC.ver ⟨V.key, va, vn, vc, V.at_, V.origin, V.tx, V.act⟩) = r := hr
      rw [hr2]
      clear hr2
      have HF := Lib.hid hr
      clear hr
      cases r
      · go_wp2_with fail
        go_roundw
        case rel => exact ⟨k + 1, by omega, by go_num, HB1.out, fun j hj => by
            by_cases e : j = k
            · subst e; rw [HV.out]; exact HF.out
            · exact HOK.out j (by omega)⟩
        case measure => simp [intOf]; omega
      · go_wp2_with fail
        go_ret
        refine ⟨(k : Int), rfl, ⟨fun _ => ?_, fun _ => by omega⟩, HB1.out⟩
        rw [List.any_eq_true]
        exact ⟨V, by rw [← HV.out, nthR_eq (by rw [HL.out]; exact hlt)]; exact List.getElem_mem _, HF.out⟩
    · have hkn : k = n := by omega
      subst hkn
      go_wp2_with fail
      go_ret
      refine ⟨-1, rfl, ⟨fun h => by omega, fun h => ?_⟩, HBL.out⟩
      obtain ⟨t, ht, hof⟩ := List.any_eq_true.1 h
      obtain ⟨j, hj, rfl⟩ := List.getElem_of_mem ht
      have := HOK.out j (by rw [← HL.out]; exact hj)
      rw [nthR_eq hj, hof] at this
      cases this
theorem containsL_any (x : VC) (g : Nat) (a : Option Addr) (n ca : Nat) (vs : List VerL) (w : World) (hx : AC w g x.cs) (hxi : IA w x.ad x.n x.at_) (hxo : x.act.Ok) (hv : VA w a n vs) :
    Calls Try.prog 41 #[.slice a n ca, .func (.func 42) #[] #[.pointer (some ⟨g, 0, none⟩)]] w fun e w' => e = .returned (.bool (vs.any (lateB x.ver))) ∧ Bl w w' := by
  go_enter Try.func41, Try.ntmps41
  go_wp2_with fail
  refine (indexL_any x g a n ca vs _ hx hxi hxo hv).mono ?_
  rintro e w' ⟨k, rfl, hk, hb⟩
  have HK := Lib.hid hk
  clear hk
  go_wp2_with fail
  go_ret
  refine ⟨ret_bool ?_, hb⟩
  have := HK.out
  cases hq : vs.any (lateB x.ver)
  · rw [hq] at this; simp at this ⊢; omega
  · rw [hq] at this; simp at this ⊢; omega
end Go.Proofs.Ytginbjcpcgphgaa
end

/- fold.lastOf. By an AI agent. -/
section
set_option linter.unusedVariables false
set_option linter.unusedSimpArgs false
namespace Go.Proofs.Ytginbjcpcgphgaa
open Go.RowKit
attribute [local go_sem] eOp eOper eUpon

set_option maxHeartbeats 3200000 in
set_option maxRecDepth 100000 in
theorem flast_any (sa : Option Addr) (sn sc : Nat) (stay : List VerL) (ea : Option Addr) (en ec : Nat) (seen : List VerL) (fa : Option Addr) (fn fc : Nat) (floor : List Int) (all : Bool) (first : VerL) (rest : List VerL) (w : World)
    (hs : VA w sa sn stay) (he : VA w ea en seen) (hf : IA w fa fn floor) (h0 : 0 < fn) (hse : seen = first :: rest) (hec : en ≤ ec) :
    Calls Try.prog 24 #[.slice sa sn sc, .slice ea en ec, .slice fa fn fc, .bool all] w fun e w' => e = .returned (if goneL stay first floor all then .slice none 0 0 else .slice ea 1 ec) ∧ Bl w w' := by
  have hsf := store_fl
  have hen : 0 < en := by have := he.len; rw [hse] at this; simp at this; omega
  obtain ⟨b, off, rfl, hc⟩ := he.cells 0 hen
  have E := hc 0 hen
  have hV : nthR seen 0 = first := by rw [hse]; rfl
  rw [hV] at E
  obtain ⟨va, vn, vc, e1, hI⟩ := E.at_
  rw [Nat.zero_mul, Nat.add_zero] at *
  have e0 := E.c0
  have e2 := E.c2
  have e3 := E.c3
  have e4 := E.c4
  have e5 := E.c5
  have e6 := E.c6
  have e7 := E.c7
  have hb := (Bl.refl w).alloc (.cells #[.string first.key, .slice va vn vc, .int .i64 first.origin, .int .i64 first.tx, .int .i64 first.act.k, .float .f64 first.act.x, .int .i64 first.act.n, .string first.act.s] 35)
  have hg := AC.new w w.heap.size rfl [.string first.key, .slice va vn vc, .int .i64 first.origin, .int .i64 first.tx, .int .i64 first.act.k, .float .f64 first.act.x, .int .i64 first.act.n, .string first.act.s] 35
  have HX := Lib.hid hg
  have HI := Lib.hid (hI.keep hb)
  have HS := Lib.hid (hs.keep hb)
  have HF := Lib.hid (hf.keep hb)
  have HB := Lib.hid hb
  have HO := Lib.hid E.ok
  have HSL := Lib.hid hs.len
  obtain ⟨u0, u1, u2, u3, u4, u5, u6, u7⟩ := AC.ver (key := first.key) (a := va) (n := vn) (ca := vc) (o := first.origin) (t := first.tx) (k := first.act.k) (x := first.act.x) (m := first.act.n) (s := first.act.s) hg
  clear hg hI hs hf hb E hV hc he
  obtain ⟨r, hr⟩ : ∃ r, stay.any (lateB first) = r := ⟨_, rfl⟩
  obtain ⟨T, hT⟩ : ∃ T, timeL first = T := ⟨_, rfl⟩
  obtain ⟨M, hM⟩ : ∃ M, minV floor = M := ⟨_, rfl⟩
  have HG := Lib.hid (show goneL stay first floor all = (all && (decide (first.act.k = 4) && (decide (T ≤ M) && !r))) by unfold goneL; rw [hT, hM, ← hr]; rfl)
  have HT := Lib.hid (show timeL ⟨first.key, first.at_, first.origin, first.tx, ⟨first.act.k, first.act.x, first.act.n, first.act.s⟩⟩ = T from hT)
  have HR := Lib.hid hr
  have HM := Lib.hid hM
  clear hr hT hM hse
  obtain ⟨res, hres⟩ : ∃ res, (if goneL stay first floor all then Value.slice none 0 0 else .slice (some ⟨b, off, none⟩) 1 ec) = res := ⟨_, rfl⟩
  rw [hres]
  rw [HG.out] at hres
  have HRES := Lib.hid hres
  clear hres HG
  obtain ⟨kb, hkb⟩ : ∃ kb, (first.act.k == 4) = kb := ⟨_, rfl⟩
  obtain ⟨tb, htb⟩ : ∃ tb, decide (T ≤ M) = tb := ⟨_, rfl⟩
  have HKB := Lib.hid (show decide (first.act.k = 4) = kb by rw [← hkb]; rfl)
  go_enter Try.func24, Try.ntmps24
  by_cases hs0 : sn = 0
  · subst hs0
    have HR0 := Lib.hid (show r = false by rw [← HR.out, List.eq_nil_of_length_eq_zero HSL.out]; rfl)
    have HB2 := HB
    have HI2 := HI
    have HF2 := HF
    cases all
    case false =>
      have HE := Lib.hid (show res = .slice (some ⟨b, off, none⟩) 1 ec from HRES.out.symm)
      go_wp2_with fail
      go_ret
      exact ⟨by rw [HE.out]; rfl, HB2.out⟩
    case true =>
      cases kb
      case false =>
        have HE := Lib.hid (show res = .slice (some ⟨b, off, none⟩) 1 ec by rw [← HRES.out, HKB.out]; rfl)
        go_wp2_with fail
        go_ret
        exact ⟨by rw [HE.out]; rfl, HB2.out⟩
      case true =>
        go_wp2_with fail
        refine (ftime_any first.key va vn vc first.at_ first.origin first.tx first.act.k first.act.x first.act.n first.act.s T _ HI2.out HT).mono ?_
        rintro e w3 ⟨rfl, hb3⟩
        have HB3 := Lib.hid (HB2.out.trans hb3)
        have HF3 := Lib.hid (HF2.out.keep hb3)
        clear hb3
        go_wp2_with fail
        refine (minS_any fa fn fc floor _ HF3.out h0).mono ?_
        rintro e w4 ⟨rfl, rfl⟩
        rw [HM.out]
        cases tb
        case false =>
          have HE := Lib.hid (show res = .slice (some ⟨b, off, none⟩) 1 ec by rw [← HRES.out, HKB.out, htb]; rfl)
          go_wp2_with fail
          go_ret
          exact ⟨by rw [HE.out]; rfl, HB3.out⟩
        case true =>
          obtain rfl : r = false := HR0.out
          have HE := Lib.hid (show res = .slice none 0 0 by rw [← HRES.out, HKB.out, htb]; rfl)
          go_wp2_with fail
          go_ret
          exact ⟨by rw [HE.out]; rfl, HB3.out⟩
  · have q0 : ((sn : Int) == 0) = false := by rw [beq_eq_false_iff_ne]; omega
    go_wp2_with fail
    refine (containsL_any ⟨first.key, va, vn, vc, first.at_, first.origin, first.tx, first.act⟩ w.heap.size sa sn sc stay _ HX.out HI.out HO.out HS.out).mono ?_
    rintro e w2 ⟨rfl, hb2⟩
    have hr2 : stay.any (lateB (VC.ver ⟨first.key, va, vn, vc, first.at_, first.origin, first.tx, first.act⟩)) = r := HR.out
    rw [hr2]
    clear hr2
    have HB2 := Lib.hid (HB.out.trans hb2)
    have HI2 := Lib.hid (HI.out.keep hb2)
    have HF2 := Lib.hid (HF.out.keep hb2)
    obtain ⟨z0, z1, z2, z3, z4, z5, z6, z7⟩ := AC.ver (key := first.key) (a := va) (n := vn) (ca := vc) (o := first.origin) (t := first.tx) (k := first.act.k) (x := first.act.x) (m := first.act.n) (s := first.act.s) (HX.out.keep hb2)
    clear hb2
    cases all
    case false =>
      have HE := Lib.hid (show res = .slice (some ⟨b, off, none⟩) 1 ec from HRES.out.symm)
      go_wp2_with fail
      go_ret
      exact ⟨by rw [HE.out]; rfl, HB2.out⟩
    case true =>
      cases kb
      case false =>
        have HE := Lib.hid (show res = .slice (some ⟨b, off, none⟩) 1 ec by rw [← HRES.out, HKB.out]; rfl)
        go_wp2_with fail
        go_ret
        exact ⟨by rw [HE.out]; rfl, HB2.out⟩
      case true =>
        go_wp2_with fail
        refine (ftime_any first.key va vn vc first.at_ first.origin first.tx first.act.k first.act.x first.act.n first.act.s T _ HI2.out HT).mono ?_
        rintro e w3 ⟨rfl, hb3⟩
        have HB3 := Lib.hid (HB2.out.trans hb3)
        have HF3 := Lib.hid (HF2.out.keep hb3)
        clear hb3
        go_wp2_with fail
        refine (minS_any fa fn fc floor _ HF3.out h0).mono ?_
        rintro e w4 ⟨rfl, rfl⟩
        rw [HM.out]
        cases tb
        case false =>
          have HE := Lib.hid (show res = .slice (some ⟨b, off, none⟩) 1 ec by rw [← HRES.out, HKB.out, htb]; rfl)
          go_wp2_with fail
          go_ret
          exact ⟨by rw [HE.out]; rfl, HB3.out⟩
        case true =>
          cases r
          case false =>
            have HE := Lib.hid (show res = .slice none 0 0 by rw [← HRES.out, HKB.out, htb]; rfl)
            go_wp2_with fail
            go_ret
            exact ⟨by rw [HE.out]; rfl, HB3.out⟩
          case true =>
            have HE := Lib.hid (show res = .slice (some ⟨b, off, none⟩) 1 ec by rw [← HRES.out, HKB.out, htb]; rfl)
            go_wp2_with fail
            go_ret
            exact ⟨by rw [HE.out]; rfl, HB3.out⟩
end Go.Proofs.Ytginbjcpcgphgaa
end
