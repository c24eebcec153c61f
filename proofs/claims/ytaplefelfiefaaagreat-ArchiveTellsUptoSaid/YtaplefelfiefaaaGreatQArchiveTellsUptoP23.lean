import Derived.Test.YtaplefelfiefaaaGreatQArchiveTellsUptoP20
import Derived.Test.YtaplefelfiefaaaGreatQArchiveTellsUptoP16
import Derived.Test.YtaplefelfiefaaaGreatQArchiveTellsUptoP21
import Derived.Test.YtaplefelfiefaaaGreatQArchiveTellsUptoP22

/- bedrockref5.SameValue, of values whose parts are named. By an AI agent. -/
section
set_option linter.unusedVariables false
namespace Go.Proofs.YtaplefelfiefaaaGreat
open Go.RowKit

theorem refSameV_agg (vb : Bool) (vx : Nat) (vn : Int) (vs : ByteArray) (rb : Bool) (rx : Nat) (rn : Int) (rs : ByteArray) (r : Bool) (w : World)
    (h : Hid (sameV ⟨vb, vx, vn, vs⟩ ⟨rb, rx, rn, rs⟩ = r)) (ov : Hid (ValL.Ok ⟨vb, vx, vn, vs⟩)) (oa : Hid (ValL.Ok ⟨rb, rx, rn, rs⟩)) :
    Calls Tryz.prog 55 #[.agg #[.bool vb, .float .f64 vx, .int .i64 vn, .string vs], .agg #[.bool rb, .float .f64 rx, .int .i64 rn, .string rs]] w fun e w' => e = .returned (.bool r) ∧ Bl w w' := by
  refine (refSameV_any ⟨vb, vx, vn, vs⟩ ⟨rb, rx, rn, rs⟩ w ov.out oa.out).mono ?_
  rintro e w' ⟨rfl, hb⟩
  rw [h.out]
  exact ⟨rfl, hb⟩
end Go.Proofs.YtaplefelfiefaaaGreat
end

/- bedrockref24.Valid (printed by gen/r24valid.py). By an AI agent. -/
section
set_option linter.unusedVariables false
set_option linter.unusedSimpArgs false
namespace Go.Proofs.YtaplefelfiefaaaGreat
open Go.RowKit
attribute [local go_sem] eOp eOper eUpon

theorem actOf_four (key : ByteArray) (v : ValL) : (actOf key v).k ≠ 4 := by
  unfold actOf
  repeat' split
  all_goals (dsimp only; decide)
theorem after_there {key : ByteArray} {a : ActL} {rb : Bool} {rx : Nat} {rn : Int} {rs : ByteArray} (h : fitsB key a = true) (h4 : a.k ≠ 4) (hV : afterL key noVal a = ⟨rb, rx, rn, rs⟩) : rb = true := by
  have h5 : afterL key noVal a = ⟨true, a.x, a.n, a.s⟩ := by
    unfold afterL
    rw [if_pos h]
    unfold valOf
    simp [noVal, h4]
  rw [h5] at hV
  simp only [ValL.mk.injEq] at hV
  exact hV.1.symm
set_option maxHeartbeats 12800000 in
set_option maxRecDepth 100000 in
theorem r24Valid_hid (n parts : Int) (ad : Option Addr) (an ac : Nat) (xs : List Int) (pd : Option Addr) (pn pc : Nat) (ps : List (ByteArray × ValL)) (w : World) (hx : IA w ad an xs) (hp : PA w pd pn ps) (R : Bool) (HR : Hid (validArc ⟨n, parts, xs, ps⟩ = R))
    (hok : Hid (∀ p ∈ ps, p.1.size ≤ 140737488351232 ∧ p.2.Ok)) :
    Calls Tryz.prog 14 #[.agg #[.int .i64 n, .int .i64 parts, .slice ad an ac, .slice pd pn pc]] w fun e w' => e = .returned (.bool R) ∧ Bl w w' := by
  have hsf := store_float
  have hn1 := hx.cap
  have hpn := hp.cap
  have HX := Lib.hid hx
  have HP := Lib.hid hp
  have hxl := hx.len
  have hpl := hp.len
  have hg := AC.new w _ rfl (arcCs n parts ad an ac pd pn pc) 52
  have hb := (Bl.refl w).alloc (.cells (arcCs n parts ad an ac pd pn pc).toArray 52)
  have HN : Hid ((ArcParts ⟨n, parts, xs, ps⟩ → False) → R = false) := Lib.hid fun h => by rw [← HR.out]; exact notArc h
  obtain ⟨c0, c1, c2, c3⟩ := AC.arc hg
  unfold arcCs at hg hb c0 c1 c2 c3
  clear hx hp
  go_enter Tryz.func14, Tryz.ntmps14
  go_upto_region 1 with fail
  generalize w.alloc _ = W at *
  have HG := Lib.hid hg
  have HB := Lib.hid hb
  clear hg hb
  by_cases e1 : n < 1
  · have HF := Lib.hid (HN.out fun h => by have := h.n; dsimp only at this; omega)
    go_wp2_with fail
    go_ret
    exact ⟨ret_bool HF.out.symm, HB.out⟩
  have d0 : decide (n < 1) = false := decide_eq_false e1
  replace e1 := Lib.hid e1
  have E0 := e1
  clear e1
  by_cases e1 : 8 < n
  · have HF := Lib.hid (HN.out fun h => by have := h.n; dsimp only at this; omega)
    go_wp2_with fail
    go_ret
    exact ⟨ret_bool HF.out.symm, HB.out⟩
  have d1 : decide (8 < n) = false := decide_eq_false e1
  replace e1 := Lib.hid e1
  have E1 := e1
  clear e1
  by_cases e1 : parts < 1
  · have HF := Lib.hid (HN.out fun h => by have := h.parts; dsimp only at this; omega)
    go_wp2_with fail
    go_ret
    exact ⟨ret_bool HF.out.symm, HB.out⟩
  have d2 : decide (parts < 1) = false := decide_eq_false e1
  replace e1 := Lib.hid e1
  have E2 := e1
  clear e1
  by_cases e1 : 64 < parts
  · have HF := Lib.hid (HN.out fun h => by have := h.parts; dsimp only at this; omega)
    go_wp2_with fail
    go_ret
    exact ⟨ret_bool HF.out.symm, HB.out⟩
  have d3 : decide (64 < parts) = false := decide_eq_false e1
  replace e1 := Lib.hid e1
  have E3 := e1
  clear e1
  cases hv : validL xs
  · have HF := Lib.hid (HN.out fun h => by have := h.at_; dsimp only at this; rw [hv] at this; cases this)
    have HV := Lib.hid hv
    clear hv
    go_wp2_with fail
    refine (rvalid_any ad an ac xs _ (HX.out.keep HB.out)).mono ?_
    rintro e w' ⟨rfl, rfl⟩
    rw [HV.out]
    go_wp2_with fail
    go_ret
    exact ⟨ret_bool HF.out.symm, HB.out⟩
  have HV := Lib.hid hv
  clear hv
  by_cases e5 : (an : Int) = n
  case neg =>
    have HF := Lib.hid (HN.out fun h => by have := h.len; dsimp only at this; omega)
    have q5 : ((an : Int) != n) = true := by rw [bne_iff_ne]; exact e5
    clear e5
    go_wp2_with fail
    refine (rvalid_any ad an ac xs _ (HX.out.keep HB.out)).mono ?_
    rintro e w' ⟨rfl, rfl⟩
    rw [HV.out]
    go_wp2_with fail
    go_ret
    exact ⟨ret_bool HF.out.symm, HB.out⟩
  subst e5
  by_cases e6 : 10000 < pn
  · have HF := Lib.hid (HN.out fun h => by have := h.few; dsimp only at this; omega)
    have q5 : ((an : Int) != (an : Int)) = false := by simp
    go_wp2_with fail
    refine (rvalid_any ad an ac xs _ (HX.out.keep HB.out)).mono ?_
    rintro e w' ⟨rfl, rfl⟩
    rw [HV.out]
    go_wp2_with fail
    go_ret
    exact ⟨ret_bool HF.out.symm, HB.out⟩
  have q5 : ((an : Int) != (an : Int)) = false := by simp
  have han1 : 1 ≤ an := by have := E0.out; omega
  have han8 : an ≤ 8 := by have := E1.out; omega
  go_wp2_with fail
  refine (rvalid_any ad an ac xs _ (HX.out.keep HB.out)).mono ?_
  rintro e w' ⟨rfl, rfl⟩
  rw [HV.out]
  go_upto_region 3 with fail
  clear c0 c1 c2 c3 d0 d1 d2 d3 q5
  refine wp_region_ext 4 8 (by kernel_rfl) rfl (by kernel_rfl) (by kernel_rfl) ?_
  simp only [List.take_succ_cons, List.take_zero]
  have HGZ := Lib.hid (HG.out.keep ((Bl.refl W).drew))
  have HBZ := Lib.hid (HB.out.drew)
  clear HG HB
  generalize W.drew = Z at *
  have c0 : ∀ q : Ext Z, _ := fun q => (HGZ.out.keep q.bl).cell 0 _ rfl
  have c2 : ∀ q : Ext Z, _ := fun q => (HGZ.out.keep q.bl).cell 2 _ rfl
  repeat (refine wpE_step (fun K hK => ?_); go_simp; first | (refine hK _ ?_; clear hK K) | (apply Exists.intro; refine ⟨fun q => ?_, hK _ ?_⟩; (fail); clear hK K))
  refine wpE_nil ?_
  clear c0 c2
  refine wpAnyE_one (i := 4) (by kernel_rfl) ?_
  intro W2 hb2
  go_simp
  refine (rzero3_yes an W2 han1 han8).mono ?_
  rintro e W3 ⟨zv, rfl, hzf, hb3⟩
  obtain ⟨za, zn, zc, rfl, hz0⟩ := hzf.si
  obtain rfl : an = zn := by rw [← hz0.len]; simp [zeroL]
  refine ⟨_, rfl, hb2.trans hb3, ?_⟩
  refine wpAnyE_one (i := 5) (by kernel_rfl) ?_
  intro W4 hb4
  go_simp
  refine (rsame_any ad za an an ac zc xs (zeroL an) W4 (HX.out.keep (HBZ.out.trans ((hb2.trans hb3).trans hb4))) (hz0.keep hb4)).mono ?_
  rintro e W5 ⟨rfl, hb5⟩
  have HB5 := Lib.hid (((hb2.trans hb3).trans hb4).trans hb5)
  refine ⟨_, rfl, HB5.out, ?_⟩
  clear hb2 hb3 hb4 hb5 hz0 hzf
  have HF : Hid ((pn ≠ 0 → xs ≠ zeroL an) → ArcParts ⟨(an : Int), parts, xs, ps⟩ ∨ ¬ ∀ j, j < pn → okAt ps j = true) := Lib.hid (fun hz => by
      by_cases hj : ∀ j, j < pn → okAt ps j = true
      · left
        refine ⟨⟨by show (1 : Int) ≤ an; omega, by show (an : Int) ≤ 8; omega⟩, ⟨by have := E2.out; show (1 : Int) ≤ parts; omega, by have := E3.out; show parts ≤ 64; omega⟩, by show (xs.length : Int) = an; omega, by show ps.length ≤ 10000; omega, HV.out, ?_, fun j hj2 => hj j (by rw [← hpl]; exact hj2)⟩
        by_cases h0 : pn = 0
        · left; show ps.length = 0; omega
        · right; show xs ≠ zeroL xs.length; rw [hxl]; exact hz h0
      · exact .inr hj)
  have HNZ : Hid (pn ≠ 0 → xs = zeroL an → R = false) := Lib.hid (fun h0 hz => HN.out fun h => by
        have h1 := h.zero
        dsimp only at h1
        rw [hxl] at h1
        rcases h1 with h1 | h1
        · have h2 := hpl; rw [h1] at h2; exact h0 h2.symm
        · exact h1 hz)
  have key : Hid (∀ W7, Bl w W7 → AC W7 w.heap.size (arcCs (an : Int) parts ad an ac pd pn pc) → (ArcParts ⟨(an : Int), parts, xs, ps⟩ ∨ ¬ ∀ j, j < pn → okAt ps j = true) → True) := Lib.hid (fun _ _ _ _ => trivial)
  clear key
  by_cases hz : xs = zeroL an
  · rw [decide_eq_true hz]
    by_cases h0 : pn = 0
    · have dp : decide ((0 : Int) < (pn : Int)) = false := decide_eq_false (by omega)
      have dp2 : decide (0 < pn) = false := decide_eq_false (by omega)
      replace HF := Lib.hid (HF.out (fun h => absurd h0 h))
      clear hz HNZ
      refine wpAnyE_one (i := 6) (by kernel_rfl) ?_
      intro W6 hb6
      go_simp
      refine ⟨HB5.out.trans hb6, ?_⟩
      replace HB5 := Lib.hid (HB5.out.trans hb6)
      clear hb6
      refine wpAnyE_one (i := 7) (by kernel_rfl) ?_
      intro W6 hb6
      go_simp
      refine ⟨HB5.out.trans hb6, ?_⟩
      replace HB5 := Lib.hid (HB5.out.trans hb6)
      clear hb6
      refine wpAnyE_one (i := 8) (by kernel_rfl) ?_
      intro W6 hb6
      have c3 := (AC.arc (HGZ.out.keep (HB5.out.trans hb6))).2.2.2
      go_simp
      refine ⟨HB5.out.trans hb6, ?_⟩
      clear c3
      replace HB5 := Lib.hid (HB5.out.trans hb6)
      clear hb6
      refine wpAnyE_one (i := 9) (by kernel_rfl) ?_
      intro W6 hb6
      go_simp
      refine ⟨HB5.out.trans hb6, ?_⟩
      replace HB5 := Lib.hid (HB5.out.trans hb6)
      clear hb6
      refine wpAnyE_one (i := 10) (by kernel_rfl) ?_
      intro W6 hb6
      go_simp
      refine ⟨HB5.out.trans hb6, ?_⟩
      replace HB5 := Lib.hid (HB5.out.trans hb6)
      clear hb6
      refine wpAnyE_one (i := 11) (by kernel_rfl) ?_
      intro W6 hb6
      go_simp
      refine ⟨HB5.out.trans hb6, ?_⟩
      replace HB5 := Lib.hid (HB5.out.trans hb6)
      clear hb6
      refine wpAnyE_done (by kernel_rfl) ?_
      intro W7 hb7
      have HB7 := Lib.hid (HBZ.out.trans (HB5.out.trans hb7))
      have HG7 := Lib.hid (HGZ.out.keep (HB5.out.trans hb7))
      clear hb7 HBZ HGZ HB5
      skip
      clear dp dp2
      have c3 := (AC.arc HG7.out).2.2.2
      go_wp2_with fail
      clear c3
      go_loopw [3] (fun i wr => ∃ k : Nat, k ≤ pn ∧ i = .int .i64 k ∧ Bl W7 wr ∧ ∀ j, j < k → okAt ps j = true) (fun i _ => pn - (intOf i).toNat)
      case atStart => exact ⟨0, Nat.zero_le _, rfl, Bl.refl _, fun j hj => absurd hj (Nat.not_lt_zero _)⟩
      case round =>
        obtain ⟨k, hk, rfl, hbl, hall⟩ := hrel
        have HALL := Lib.hid hall
        have HBL := Lib.hid hbl
        have c3 := (AC.arc (HG7.out.keep hbl)).2.2.2
        clear hall hbl
        by_cases hlt : k < pn
        · omega
        · obtain rfl : k = pn := by omega
          have HR1 : Hid (R = true) := Lib.hid (by
            rcases HF.out with h | h
            · rw [← HR.out]; exact validArc_of h
            · exact absurd HALL.out h)
          go_wp2_with fail
          go_ret
          exact ⟨ret_bool HR1.out.symm, HB7.out.trans HBL.out⟩
    · have dp : decide ((0 : Int) < (pn : Int)) = true := decide_eq_true (by omega)
      have dp2 : decide (0 < pn) = true := decide_eq_true (by omega)
      replace HF := Lib.hid (HNZ.out h0 hz)
      clear hz HNZ
      refine wpAnyE_one (i := 6) (by kernel_rfl) ?_
      intro W6 hb6
      go_simp
      refine ⟨HB5.out.trans hb6, ?_⟩
      replace HB5 := Lib.hid (HB5.out.trans hb6)
      clear hb6
      refine wpAnyE_one (i := 7) (by kernel_rfl) ?_
      intro W6 hb6
      go_simp
      refine ⟨HB5.out.trans hb6, ?_⟩
      replace HB5 := Lib.hid (HB5.out.trans hb6)
      clear hb6
      refine wpAnyE_one (i := 8) (by kernel_rfl) ?_
      intro W6 hb6
      have c3 := (AC.arc (HGZ.out.keep (HB5.out.trans hb6))).2.2.2
      go_simp
      refine ⟨HB5.out.trans hb6, ?_⟩
      clear c3
      replace HB5 := Lib.hid (HB5.out.trans hb6)
      clear hb6
      refine wpAnyE_one (i := 9) (by kernel_rfl) ?_
      intro W6 hb6
      go_simp
      refine ⟨HB5.out.trans hb6, ?_⟩
      replace HB5 := Lib.hid (HB5.out.trans hb6)
      clear hb6
      refine wpAnyE_one (i := 10) (by kernel_rfl) ?_
      intro W6 hb6
      go_simp
      refine ⟨HB5.out.trans hb6, ?_⟩
      replace HB5 := Lib.hid (HB5.out.trans hb6)
      clear hb6
      refine wpAnyE_one (i := 11) (by kernel_rfl) ?_
      intro W6 hb6
      go_simp
      refine ⟨HB5.out.trans hb6, ?_⟩
      replace HB5 := Lib.hid (HB5.out.trans hb6)
      clear hb6
      refine wpAnyE_done (by kernel_rfl) ?_
      intro W7 hb7
      have HB7 := Lib.hid (HBZ.out.trans (HB5.out.trans hb7))
      have HG7 := Lib.hid (HGZ.out.keep (HB5.out.trans hb7))
      clear hb7 HBZ HGZ HB5
      go_wp2_with fail
      go_ret
      exact ⟨ret_bool HF.out.symm, HB7.out⟩
  · rw [decide_eq_false hz]
    replace HF := Lib.hid (HF.out (fun _ => hz))
    clear hz HNZ
    refine wpAnyE_one (i := 6) (by kernel_rfl) ?_
    intro W6 hb6
    go_simp
    refine ⟨HB5.out.trans hb6, ?_⟩
    replace HB5 := Lib.hid (HB5.out.trans hb6)
    clear hb6
    refine wpAnyE_one (i := 7) (by kernel_rfl) ?_
    intro W6 hb6
    go_simp
    refine ⟨HB5.out.trans hb6, ?_⟩
    replace HB5 := Lib.hid (HB5.out.trans hb6)
    clear hb6
    refine wpAnyE_one (i := 8) (by kernel_rfl) ?_
    intro W6 hb6
    go_simp
    refine ⟨HB5.out.trans hb6, ?_⟩
    replace HB5 := Lib.hid (HB5.out.trans hb6)
    clear hb6
    refine wpAnyE_one (i := 9) (by kernel_rfl) ?_
    intro W6 hb6
    go_simp
    refine ⟨HB5.out.trans hb6, ?_⟩
    replace HB5 := Lib.hid (HB5.out.trans hb6)
    clear hb6
    refine wpAnyE_one (i := 10) (by kernel_rfl) ?_
    intro W6 hb6
    go_simp
    refine ⟨HB5.out.trans hb6, ?_⟩
    replace HB5 := Lib.hid (HB5.out.trans hb6)
    clear hb6
    refine wpAnyE_one (i := 11) (by kernel_rfl) ?_
    intro W6 hb6
    go_simp
    refine ⟨HB5.out.trans hb6, ?_⟩
    replace HB5 := Lib.hid (HB5.out.trans hb6)
    clear hb6
    refine wpAnyE_done (by kernel_rfl) ?_
    intro W7 hb7
    have HB7 := Lib.hid (HBZ.out.trans (HB5.out.trans hb7))
    have HG7 := Lib.hid (HGZ.out.keep (HB5.out.trans hb7))
    clear hb7 HBZ HGZ HB5
    skip
    have c3 := (AC.arc HG7.out).2.2.2
    go_wp2_with fail
    clear c3
    go_loopw [3] (fun i wr => ∃ k : Nat, k ≤ pn ∧ i = .int .i64 k ∧ Bl W7 wr ∧ ∀ j, j < k → okAt ps j = true) (fun i _ => pn - (intOf i).toNat)
    case atStart => exact ⟨0, Nat.zero_le _, rfl, Bl.refl _, fun j hj => absurd hj (Nat.not_lt_zero _)⟩
    case round =>
      obtain ⟨k, hk, rfl, hbl, hall⟩ := hrel
      have HALL := Lib.hid hall
      have HBL := Lib.hid hbl
      have c3 := (AC.arc (HG7.out.keep hbl)).2.2.2
      clear hall hbl
      by_cases hlt : k < pn
      · have hkl : k < ps.length := by rw [hpl]; exact hlt
        obtain ⟨ba, oa, rfl, _⟩ := HP.out.cells k hlt
        have HPK := Lib.hid (fun (W : World) (hb : Bl w W) => HP.out.get hb hlt)
        have HOK := Lib.hid (hok.out _ (nthQ_mem hkl))
        have HPREV := Lib.hid (fun (j : Nat) (hj : j < pn) (W : World) (hb : Bl w W) => (HP.out.get hb hj).c0)
        obtain ⟨q, hq⟩ : ∃ q, nthQ ps (k - 1) = q := ⟨_, rfl⟩
        have HQ := Lib.hid hq
        clear hq hkl
        have done_no : okAt ps k = false → R = false := fun h => HN.out fun hp => by
          have := hp.ok k (by show k < ps.length; rw [hpl]; exact hlt)
          rw [show okAt ps k = true from this] at h
          cases h
        generalize hpe : nthQ ps k = p at *
        have HPE := Lib.hid hpe
        clear hpe
        obtain ⟨key, ⟨pt, px, pm, pz⟩⟩ := p
        obtain ⟨qkey, qv⟩ := q
        obtain ⟨⟨ak, ax, an2, az⟩, hA⟩ : ∃ A : ActL, actOf key ⟨pt, px, pm, pz⟩ = A := ⟨_, rfl⟩
        obtain ⟨⟨rb, rx, rn, rs⟩, hV⟩ : ∃ V : ValL, afterL key noVal ⟨ak, ax, an2, az⟩ = V := ⟨_, rfl⟩
        have HA := Lib.hid hA
        have HV2 := Lib.hid hV
        obtain ⟨c, hc⟩ : ∃ c, Lib.compareBytes qkey.data.toList key.data.toList = c := ⟨_, rfl⟩
        obtain ⟨ki, hi⟩ : ∃ ki, isKeyB key = ki := ⟨_, rfl⟩
        obtain ⟨kf, hf⟩ : ∃ kf, fitsB key ⟨ak, ax, an2, az⟩ = kf := ⟨_, rfl⟩
        obtain ⟨ks, hs⟩ : ∃ ks, sameV ⟨rb, rx, rn, rs⟩ ⟨pt, px, pm, pz⟩ = ks := ⟨_, rfl⟩
        have HOKAT := Lib.hid (okAt_eq HPE.out HQ.out hc hi hA hf hV hs)
        have HTH : Hid (pt = false → kf = true → ks = false) := Lib.hid (fun h1 h2 => by
          rw [← hs]
          have h3 : rb = true := after_there (key := key) (a := ⟨ak, ax, an2, az⟩) (by rw [hf]; exact h2) (by have h5 := actOf_four key ⟨pt, px, pm, pz⟩; rw [hA] at h5; exact h5) hV
          unfold sameV
          rw [h1, h3]
          rfl)
        have HC := Lib.hid hc
        have HI := Lib.hid hi
        have HFI := Lib.hid hf
        have HS := Lib.hid hs
        have HAO := Lib.hid (show (⟨ak, ax, an2, az⟩ : ActL).Ok from hA ▸ actOf_ok key HOK.out.2)
        have HVO := Lib.hid (show (⟨rb, rx, rn, rs⟩ : ValL).Ok from hV ▸ after_ok noVal_ok HAO.out)
        have HKZ := Lib.hid HOK.out.1
        have HPO := Lib.hid HOK.out.2
        clear hA hV hc hi hf hs
        go_wp2_with fail
        clear c3
        have HGZ := Lib.hid (HG7.out.keep HBL.out.drew)
        have HBZ := Lib.hid (HB7.out.trans HBL.out.drew)
        have HB7Z := Lib.hid HBL.out.drew
        refine wp_region_idx [0, 1, 2, 3, 4, 5, 6, 7, 8, 9, 10, 11] 3 (Bl wr.drew) (fun _ _ h k => h.trans k) (Bl.refl _) (by kernel_rfl) rfl (by kernel_rfl) (by kernel_rfl) ?_
        generalize wr.drew = Z at *
        haveI : Nonempty (ExtC (Bl Z)) := ⟨⟨Z, Bl.refl _⟩⟩
        have c3 : ∀ q : ExtC (Bl Z), _ := fun q => (AC.arc (HGZ.out.keep q.ok)).2.2.2
        have p0 : ∀ q : ExtC (Bl Z), _ := fun q => (HPK.out q.at (HBZ.out.trans q.ok)).c0
        have p1 : ∀ q : ExtC (Bl Z), _ := fun q => (HPK.out q.at (HBZ.out.trans q.ok)).c1
        have p2 : ∀ q : ExtC (Bl Z), _ := fun q => (HPK.out q.at (HBZ.out.trans q.ok)).c2
        have p3 : ∀ q : ExtC (Bl Z), _ := fun q => (HPK.out q.at (HBZ.out.trans q.ok)).c3
        have p4 : ∀ q : ExtC (Bl Z), _ := fun q => (HPK.out q.at (HBZ.out.trans q.ok)).c4
        dsimp only at p0 p1 p2 p3 p4
        repeat (refine wpI_step rfl (fun K hK => ?_); go_simp; first | (refine hK _ ?_; clear hK K) | (apply Exists.intro; refine ⟨fun q => ?_, hK _ ?_⟩; (fail); clear hK K))
        refine wpI_nil ?_
        clear p0 p1 p2 p3 p4 c3 this
        refine wpAnyE_one (i := 12) (by kernel_rfl) ?_
        intro Y1 hy1
        go_simp
        have G8 := AC.new Y1 _ rfl [.bool false, .float .f64 0, .int .i64 0, .string ⟨#[]⟩] 29
        have hb8 := hy1.trans ((Bl.refl Y1).alloc (.cells #[.bool false, .float .f64 0, .int .i64 0, .string ⟨#[]⟩] 29))
        refine ⟨hb8, ?_⟩
        refine wpAnyE_one (i := 13) (by kernel_rfl) ?_
        intro Y2 hy2
        go_simp
        refine ⟨hb8.trans hy2, ?_⟩
        refine wpAnyE_one (i := 14) (by kernel_rfl) ?_
        intro Y3 hy3
        have G9 := G8.keep (hy2.trans hy3)
        have HB9 := Lib.hid (hb8.trans (hy2.trans hy3))
        have fr := G9.frozen
        obtain ⟨g0, g1, g2, g3⟩ := G9.val
        have HZ9 := Lib.hid hy1.size
        clear hy1 hb8 hy2 hy3 G8
        go_simp
        have GV := Lib.hid (G9.set4 (.bool pt) (.float .f64 px) (.int .i64 pm) (.string pz))
        have HBV := Lib.hid (HB9.out.store4 HZ9.out (.bool pt) (.float .f64 px) (.int .i64 pm) (.string pz))
        clear fr g0 g1 g2 g3 G9 HB9
        generalize World.setCell _ _ _ = Y4 at *
        refine ⟨HBV.out, ?_⟩
        refine wpAnyE_done (by kernel_rfl) ?_
        intro Y5 hy5
        have HGV := Lib.hid (GV.out.keep hy5)
        have HB8 := Lib.hid (HBZ.out.trans (HBV.out.trans hy5))
        have HBW := Lib.hid (HB7Z.out.trans (HBV.out.trans hy5))
        clear GV HBV HZ9 hy5 HBZ HB7Z HGZ
        generalize Y1.heap.size = gv at *
        have HG8 := Lib.hid (HG7.out.keep HBW.out)
        obtain ⟨v0, v1, v2, v3⟩ := HGV.out.val
        cases ki
        case false =>
          have HNO := Lib.hid (done_no (by cases kf; (rw [HOKAT.out.1]; simp); exact absurd (HOKAT.out.2 rfl) (by decide)))
          clear done_no
          go_wp2_with fail
          refine (refIsKey_any key _ HKZ.out).mono ?_
          rintro e X ⟨rfl, rfl⟩
          rw [HI.out]
          go_wp2_with fail
          go_ret
          exact ⟨ret_bool HNO.out.symm, HB8.out⟩
        cases pt
        case false =>
          have HNO := Lib.hid (done_no (by cases kf; (rw [HOKAT.out.1]; simp); rw [HOKAT.out.1, HTH.out rfl rfl]; simp))
          clear done_no
          go_wp2_with fail
          refine (refIsKey_any key _ HKZ.out).mono ?_
          rintro e X ⟨rfl, rfl⟩
          rw [HI.out]
          go_wp2_with fail
          go_ret
          exact ⟨ret_bool HNO.out.symm, HB8.out⟩
        go_wp2_with fail
        refine (refIsKey_any key _ HKZ.out).mono ?_
        rintro e X ⟨rfl, rfl⟩
        rw [HI.out]
        go_wp2_with fail
        refine (r24Act_agg key true px pm pz ak ax an2 az _ HKZ.out HA).mono ?_
        rintro e X ⟨rfl, hx⟩
        go_wp2_with fail
        refine (refFits_agg key ak ax an2 az kf _ HFI HKZ.out HAO).mono ?_
        rintro e X2 ⟨rfl, hx2⟩
        have HX := Lib.hid (hx.trans hx2)
        clear hx hx2 v0 v1 v2 v3
        cases kf
        case false =>
          have HNO := Lib.hid (done_no (by rw [HOKAT.out.1]; simp))
          clear done_no
          go_wp2_with fail
          go_ret
          exact ⟨ret_bool HNO.out.symm, HB8.out.trans HX.out⟩
        replace HB8 := Lib.hid (HB8.out.trans HX.out)
        replace HBW := Lib.hid (HBW.out.trans HX.out)
        replace HGV := Lib.hid (HGV.out.keep HX.out)
        replace HG8 := Lib.hid (HG8.out.keep HX.out)
        clear HX
        rcases Nat.eq_zero_or_pos k with hk0 | hk0
        · subst hk0
          go_upto_region 11 with fail
          refine wp_region_allS (by kernel_rfl) (by kernel_rfl) ?_
          have HGVZ := Lib.hid (HGV.out.keep (Bl.refl _).drew)
          replace HB8 := Lib.hid HB8.out.drew
          replace HBW := Lib.hid HBW.out.drew
          generalize World.drew _ = Z2 at *
          have H1 := Lib.hid (fun m : Ext Z2 => r24Act_agg key true px pm pz ak ax an2 az m.at HKZ.out HA)
          have H4 := Lib.hid (fun m : Ext Z2 => refAfter_agg key false 0 0 ⟨#[]⟩ ak ax an2 az rb rx rn rs m.at HV2 HKZ.out (Lib.hid noVal_ok) HAO)
          have H5 := Lib.hid (fun m : Ext Z2 => refSameV_agg rb rx rn rs true px pm pz ks m.at HS HVO HPO)
          have v0 : ∀ m : Ext Z2, _ := fun m => (HGVZ.out.keep m.bl).cell 0 _ rfl
          have v1 : ∀ m : Ext Z2, _ := fun m => (HGVZ.out.keep m.bl).cell 1 _ rfl
          have v2 : ∀ m : Ext Z2, _ := fun m => (HGVZ.out.keep m.bl).cell 2 _ rfl
          have v3 : ∀ m : Ext Z2, _ := fun m => (HGVZ.out.keep m.bl).cell 3 _ rfl
          repeat (refine wpS_step (fun K hK => ?_); go_simp; first | (refine hK _ ?_; clear hK K) | (apply Exists.intro; refine ⟨fun m => ?_, hK _ ?_⟩; (first | with_reducible exact H1.out m | with_reducible exact H4.out m | with_reducible exact H5.out m); clear hK K))
          refine wpS_nil ?_
          intro q1
          replace HB8 := Lib.hid (HB8.out.trans q1.bl)
          replace HBW := Lib.hid (HBW.out.trans q1.bl)
          clear v0 v1 v2 v3 H1 H4 H5 HGVZ
          generalize ExtC.at q1 = Y9 at *
          cases ks
          case false =>
            have HNO := Lib.hid (done_no (by rw [HOKAT.out.1]; simp))
            clear done_no
            go_wp2_with fail
            go_ret
            exact ⟨ret_bool HNO.out.symm, HB8.out⟩
          have HY : Hid (okAt ps 0 = true) := Lib.hid (by rw [HOKAT.out.1]; simp)
          clear done_no
          go_wp2_with fail
          go_roundw
          case rel => exact ⟨0 + 1, by omega, by go_num, HBW.out, step_ok (a := ⟨(an : Int), parts, xs, ps⟩) HALL.out HY.out⟩
          case measure => simp [intOf]; omega
        · obtain ⟨j, hj⟩ : ∃ j, k = j + 1 := ⟨k - 1, by omega⟩
          have hjp : j < pn := by omega
          have hkm : IntKind.i64.wrap ((k : Int) - 1) = (j : Int) := by rw [IntKind.wrap_i64]; omega
          have hkp : decide ((0 : Int) < (k : Int)) = true := decide_eq_true (by omega)
          have hkp2 : decide (0 < k) = true := decide_eq_true hk0
          have hkn : decide (k = 0) = false := decide_eq_false (by omega)
          rw [hkn] at HOKAT
          have HQJ : Hid (nthQ ps j = (qkey, qv)) := Lib.hid (by rw [← HQ.out]; congr 1; omega)
          have HQZ : Hid (qkey.size ≤ 140737488351232) := Lib.hid (by
            have h1 := (hok.out _ (nthQ_mem (show j < ps.length by omega))).1
            rw [HQJ.out] at h1
            exact h1)
          clear hkn hj hk0
          have c3 := (AC.arc HG8.out).2.2.2
          have hv := HPREV.out j hjp _ HB8.out
          rw [HQJ.out] at hv
          dsimp only at hv
          go_wp2_with fail
          refine (refCmp_any qkey key c _ HQZ.out HKZ.out HC).mono ?_
          rintro e X ⟨rfl, hx⟩
          replace HB8 := Lib.hid (HB8.out.trans hx)
          replace HBW := Lib.hid (HBW.out.trans hx)
          replace HGV := Lib.hid (HGV.out.keep hx)
          clear c3 hv hx HG8
          by_cases hcz : c < 0
          case neg =>
            have hcd : decide ((0 : Int) ≤ c) = true := decide_eq_true (by omega)
            have hcd2 : decide (c < 0) = false := decide_eq_false hcz
            have HNO := Lib.hid (done_no (by rw [HOKAT.out.1, hcd2]; rfl))
            clear hcz done_no hcd2
            go_wp2_with fail
            go_ret
            exact ⟨ret_bool HNO.out.symm, HB8.out⟩
          have hcd : decide ((0 : Int) ≤ c) = false := decide_eq_false (by omega)
          rw [decide_eq_true hcz] at HOKAT
          clear hcz
          go_upto_region 11 with fail
          refine wp_region_allS (by kernel_rfl) (by kernel_rfl) ?_
          have HGVZ := Lib.hid (HGV.out.keep (Bl.refl _).drew)
          replace HB8 := Lib.hid HB8.out.drew
          replace HBW := Lib.hid HBW.out.drew
          generalize World.drew _ = Z2 at *
          have H1 := Lib.hid (fun m : Ext Z2 => r24Act_agg key true px pm pz ak ax an2 az m.at HKZ.out HA)
          have H4 := Lib.hid (fun m : Ext Z2 => refAfter_agg key false 0 0 ⟨#[]⟩ ak ax an2 az rb rx rn rs m.at HV2 HKZ.out (Lib.hid noVal_ok) HAO)
          have H5 := Lib.hid (fun m : Ext Z2 => refSameV_agg rb rx rn rs true px pm pz ks m.at HS HVO HPO)
          have v0 : ∀ m : Ext Z2, _ := fun m => (HGVZ.out.keep m.bl).cell 0 _ rfl
          have v1 : ∀ m : Ext Z2, _ := fun m => (HGVZ.out.keep m.bl).cell 1 _ rfl
          have v2 : ∀ m : Ext Z2, _ := fun m => (HGVZ.out.keep m.bl).cell 2 _ rfl
          have v3 : ∀ m : Ext Z2, _ := fun m => (HGVZ.out.keep m.bl).cell 3 _ rfl
          repeat (refine wpS_step (fun K hK => ?_); go_simp; first | (refine hK _ ?_; clear hK K) | (apply Exists.intro; refine ⟨fun m => ?_, hK _ ?_⟩; (first | with_reducible exact H1.out m | with_reducible exact H4.out m | with_reducible exact H5.out m); clear hK K))
          refine wpS_nil ?_
          intro q1
          replace HB8 := Lib.hid (HB8.out.trans q1.bl)
          replace HBW := Lib.hid (HBW.out.trans q1.bl)
          clear v0 v1 v2 v3 H1 H4 H5 HGVZ
          generalize ExtC.at q1 = Y9 at *
          cases ks
          case false =>
            have HNO := Lib.hid (done_no (by rw [HOKAT.out.1]; simp))
            clear done_no
            go_wp2_with fail
            go_ret
            exact ⟨ret_bool HNO.out.symm, HB8.out⟩
          have HY : Hid (okAt ps k = true) := Lib.hid (by rw [HOKAT.out.1]; simp)
          clear done_no
          go_wp2_with fail
          go_roundw
          case rel => exact ⟨k + 1, by omega, by go_num, HBW.out, step_ok (a := ⟨(an : Int), parts, xs, ps⟩) HALL.out HY.out⟩
          case measure => simp [intOf]; omega
      · obtain rfl : k = pn := by omega
        have HR1 : Hid (R = true) := Lib.hid (by
          rcases HF.out with h | h
          · rw [← HR.out]; exact validArc_of h
          · exact absurd HALL.out h)
        go_wp2_with fail
        go_ret
        exact ⟨ret_bool HR1.out.symm, HB7.out.trans HBL.out⟩
end Go.Proofs.YtaplefelfiefaaaGreat
end

/- bedrockref24.Write where the archive is none. By an AI agent. -/
section
set_option linter.unusedVariables false
set_option linter.unusedSimpArgs false
namespace Go.Proofs.YtaplefelfiefaaaGreat
open Go.RowKit
attribute [local go_sem] eOp eOper eUpon

set_option maxHeartbeats 1600000 in
set_option maxRecDepth 100000 in
theorem r24Write_no (n parts : Int) (ad : Option Addr) (an ac : Nat) (xs : List Int) (pd : Option Addr) (pn pc : Nat) (ps : List (ByteArray × ValL)) (w : World) (hx : IA w ad an xs) (hp : PA w pd pn ps)
    (hok : Hid (∀ p ∈ ps, p.1.size ≤ 140737488351232 ∧ p.2.Ok)) (hv : Hid (validArc ⟨n, parts, xs, ps⟩ = false)) :
    Calls Tryz.prog 6 #[.agg #[.int .i64 n, .int .i64 parts, .slice ad an ac, .slice pd pn pc]] w fun e w' => e = .returned (.tuple #[.string ⟨#[]⟩, .int .i64 1]) ∧ Bl w w' := by
  have hb := (Bl.refl w).alloc (.cells (arcCs n parts ad an ac pd pn pc).toArray 52)
  have hg := AC.new w _ rfl (arcCs n parts ad an ac pd pn pc) 52
  obtain ⟨c0, c1, c2, c3⟩ := AC.arc hg
  unfold arcCs at hg hb c0 c1 c2 c3
  go_enter Tryz.func6, Tryz.ntmps6
  go_wp2_with fail
  generalize w.alloc _ = W at *
  refine (r24Valid_hid n parts ad an ac xs pd pn pc ps _ (hx.keep hb) (hp.keep hb) false hv hok).mono ?_
  rintro e W1 ⟨rfl, hb1⟩
  go_wp2_with fail
  go_ret2
  exact ⟨rfl, hb.trans hb1⟩
end Go.Proofs.YtaplefelfiefaaaGreat
end
