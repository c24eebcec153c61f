/- archive.Valid (printed by wip/gen/arc2.py). By an AI agent. -/
import Derived.Test.YtechiehbigmjbaaArc1
import Derived.Test.YtechiehbigmjbaaAppP
import Derived.Test.YtechiehbigmjbaaVecS
set_option linter.unusedVariables false
set_option linter.unusedSimpArgs false
namespace Go.Proofs.Ytechiehbigmjbaa
open Go.RowKit
attribute [local go_sem] eOp eOper eUpon

/-- an archive's four cells -/
def arcCs (n parts : Int) (ad : Option Addr) (an ac : Nat) (pd : Option Addr) (pn pc : Nat) : List Value := [.int .i64 n, .int .i64 parts, .slice ad an ac, .slice pd pn pc]
def arcV (n parts : Int) (ad : Option Addr) (an ac : Nat) (pd : Option Addr) (pn pc : Nat) : Value := .agg #[.int .i64 n, .int .i64 parts, .slice ad an ac, .slice pd pn pc]
theorem AC.arc {w : World} {g : Nat} {n parts : Int} {ad : Option Addr} {an ac : Nat} {pd : Option Addr} {pn pc : Nat} (h : AC w g (arcCs n parts ad an ac pd pn pc)) :
    w.cell? ⟨g, 0, none⟩ = some (.int .i64 n) ∧ w.cell? ⟨g, 1, none⟩ = some (.int .i64 parts) ∧ w.cell? ⟨g, 2, none⟩ = some (.slice ad an ac) ∧ w.cell? ⟨g, 3, none⟩ = some (.slice pd pn pc) :=
  ⟨h.cell 0 _ rfl, h.cell 1 _ rfl, h.cell 2 _ rfl, h.cell 3 _ rfl⟩
theorem AC.pair {w : World} {g : Nat} {key : ByteArray} {b : Bool} {n : Int} {x : Nat} {s : ByteArray} (h : AC w g [.string key, .bool b, .float .f64 x, .int .i64 n, .string s]) :
    w.cell? ⟨g, 0, none⟩ = some (.string key) ∧ w.cell? ⟨g, 1, none⟩ = some (.bool b) ∧ w.cell? ⟨g, 2, none⟩ = some (.float .f64 x) ∧ w.cell? ⟨g, 3, none⟩ = some (.int .i64 n) ∧ w.cell? ⟨g, 4, none⟩ = some (.string s) :=
  ⟨h.cell 0 _ rfl, h.cell 1 _ rfl, h.cell 2 _ rfl, h.cell 3 _ rfl, h.cell 4 _ rfl⟩
theorem notArc {a : ArcL} (h : ArcParts a → False) : validArc a = false := by
  cases hv : validArc a
  · rfl
  · exact absurd (h (validArc_parts hv)) id
/-- the boxes of a round -/
structure VR (w Y : World) (cs : List Value) (gp : Nat) (ps : List Value) (ga : Nat) (as_ : List Value) : Prop where
  bl : Bl w Y
  b : AC Y w.heap.size cs
  p : AC Y gp ps
  a : AC Y ga as_
theorem VR.keep {w Y Y' : World} {cs : List Value} {gp : Nat} {ps : List Value} {ga : Nat} {as_ : List Value} (h : VR w Y cs gp ps ga as_) (k : Bl Y Y') : VR w Y' cs gp ps ga as_ := ⟨h.bl.trans k, h.b.keep k, h.p.keep k, h.a.keep k⟩
theorem zeroL_any (n : Nat) (w : World) (h1 : 1 ≤ n) (h8 : n ≤ 8) :
    Calls Try.prog 111 #[.int .i64 n] w fun e w' => ∃ a c, e = .returned (.slice a n c) ∧ IA w' a n (zeroL n) ∧ Bl w w' := by
  refine (zero_yes n w h1 h8).mono ?_
  rintro e w' ⟨v, rfl, hf, hb⟩
  obtain ⟨a, m, c, rfl, hI⟩ := hf.si
  have : m = n := by rw [← hI.len]; simp [zeroL]
  subst this
  exact ⟨a, c, rfl, hI, hb⟩
theorem cmpK_any (s t : ByteArray) (c : Int) (w : World) (h : Hid (Lib.compareBytes s.data.toList t.data.toList = c)) :
    Calls Try.prog 112 #[.string s, .string t] w fun e w' => e = .returned (.int .i64 c) ∧ Bl w w' := by
  refine (rawCompare_any s t w).mono ?_
  rintro e w' ⟨rfl, rfl⟩
  rw [h.out]
  exact ⟨rfl, Bl.refl _⟩
theorem isKeyR_any (s : ByteArray) (r : Bool) (w : World) (hs : s.size ≤ 140737488351232) (h : Hid (isKeyB s = r)) : Calls Try.prog 113 #[.string s] w fun e w' => e = .returned (.bool r) ∧ Bl w w' := by
  refine (isKey_any s w hs).mono ?_
  rintro e w' ⟨rfl, rfl⟩
  rw [h.out]
  exact ⟨rfl, Bl.refl _⟩
theorem step_ok {a : ArcL} {k : Nat} (h : ∀ j, j < k → okAt a.pairs j = true) (hk : okAt a.pairs k = true) : ∀ j, j < k + 1 → okAt a.pairs j = true := fun j hj => by
  rcases Nat.lt_or_ge j k with h' | h'
  · exact h j h'
  · have : j = k := by omega
    subst this; exact hk
/-- what a round tells, part by part -/
theorem okAt_eq {ps : List (ByteArray × ValL)} {k : Nat} {p q : ByteArray × ValL} (hp : nthQ ps k = p) (hq : nthQ ps (k - 1) = q) {c : Int} {ki kf ks : Bool} {A : ActL} {V : ValL} (hc : Lib.compareBytes q.1.data.toList p.1.data.toList = c) (hi : isKeyB p.1 = ki) (hA : actOf p.1 p.2 = A) (hf : fitsB p.1 A = kf) (hV : afterL p.1 noVal A = V) (hs : sameV V p.2 = ks) :
    okAt ps k = ((decide (k = 0) || decide (c < 0)) && (kf && ks)) ∧ (kf = true → ki = true) := by
  refine ⟨?_, fun h => ?_⟩
  · unfold okAt lessK pairB
    rw [hp, hq, hc, hA, hf, hV, hs]
  · subst hf
    rw [← hi]
    exact (fits_key h).1

set_option maxHeartbeats 12800000 in
set_option maxRecDepth 100000 in
theorem arcValid_hid (n parts : Int) (ad : Option Addr) (an ac : Nat) (xs : List Int) (pd : Option Addr) (pn pc : Nat) (ps : List (ByteArray × ValL)) (w : World) (hx : IA w ad an xs) (hp : PA w pd pn ps) (R : Bool) (HR : Hid (validArc ⟨n, parts, xs, ps⟩ = R))
    (hok : Hid (∀ p ∈ ps, p.1.size ≤ 140737488351232 ∧ p.2.Ok)) :
    Calls Try.prog 45 #[.agg #[.int .i64 n, .int .i64 parts, .slice ad an ac, .slice pd pn pc]] w fun e w' => e = .returned (.bool R) ∧ Bl w w' := by
  have hsf := store_float
  have hn1 := hx.cap
  have hpn := hp.cap
  have HX := Lib.hid hx
  have HP := Lib.hid hp
  have hxl := hx.len
  have hpl := hp.len
  have hg := AC.new w _ rfl (arcCs n parts ad an ac pd pn pc) 75
  have hb := (Bl.refl w).alloc (.cells (arcCs n parts ad an ac pd pn pc).toArray 75)
  have HN : Hid ((ArcParts ⟨n, parts, xs, ps⟩ → False) → R = false) := Lib.hid fun h => by rw [← HR.out]; exact notArc h
  obtain ⟨c0, c1, c2, c3⟩ := AC.arc hg
  unfold arcCs at hg hb c0 c1 c2 c3
  clear hx hp
  go_enter Try.func45, Try.ntmps45
  go_upto_region 1 with fail
  generalize w.alloc _ = W at *
  have HG := Lib.hid hg
  have HB := Lib.hid hb
  clear hg hb
  by_cases e1 : n < 1
  · have HF := Lib.hid (HN.out fun h => by have := h.n; dsimp only at this; omega)
    go_wp2_with fail
    go_ret
    exact ⟨ret_bool HF.out.symm, HB.out⟩
  have d0 : decide (n < 1) = false := decide_eq_false e1
  replace e1 := Lib.hid e1
  have E0 := e1
  clear e1
  by_cases e1 : 8 < n
  · have HF := Lib.hid (HN.out fun h => by have := h.n; dsimp only at this; omega)
    go_wp2_with fail
    go_ret
    exact ⟨ret_bool HF.out.symm, HB.out⟩
  have d1 : decide (8 < n) = false := decide_eq_false e1
  replace e1 := Lib.hid e1
  have E1 := e1
  clear e1
  by_cases e1 : parts < 1
  · have HF := Lib.hid (HN.out fun h => by have := h.parts; dsimp only at this; omega)
    go_wp2_with fail
    go_ret
    exact ⟨ret_bool HF.out.symm, HB.out⟩
  have d2 : decide (parts < 1) = false := decide_eq_false e1
  replace e1 := Lib.hid e1
  have E2 := e1
  clear e1
  by_cases e1 : 64 < parts
  · have HF := Lib.hid (HN.out fun h => by have := h.parts; dsimp only at this; omega)
    go_wp2_with fail
    go_ret
    exact ⟨ret_bool HF.out.symm, HB.out⟩
  have d3 : decide (64 < parts) = false := decide_eq_false e1
  replace e1 := Lib.hid e1
  have E3 := e1
  clear e1
  cases hv : validL xs
  · have HF := Lib.hid (HN.out fun h => by have := h.at_; dsimp only at this; rw [hv] at this; cases this)
    have HV := Lib.hid hv
    clear hv
    go_wp2_with fail
    refine (valid_any ad an ac xs _ (HX.out.keep HB.out)).mono ?_
    rintro e w' ⟨rfl, rfl⟩
    rw [HV.out]
    go_wp2_with fail
    go_ret
    exact ⟨ret_bool HF.out.symm, HB.out⟩
  have HV := Lib.hid hv
  clear hv
  by_cases e5 : (an : Int) = n
  case neg =>
    have HF := Lib.hid (HN.out fun h => by have := h.len; dsimp only at this; omega)
    have q5 : ((an : Int) != n) = true := by rw [bne_iff_ne]; exact e5
    clear e5
    go_wp2_with fail
    refine (valid_any ad an ac xs _ (HX.out.keep HB.out)).mono ?_
    rintro e w' ⟨rfl, rfl⟩
    rw [HV.out]
    go_wp2_with fail
    go_ret
    exact ⟨ret_bool HF.out.symm, HB.out⟩
  subst e5
  by_cases e6 : 10000 < pn
  · have HF := Lib.hid (HN.out fun h => by have := h.few; dsimp only at this; omega)
    have q5 : ((an : Int) != (an : Int)) = false := by simp
    go_wp2_with fail
    refine (valid_any ad an ac xs _ (HX.out.keep HB.out)).mono ?_
    rintro e w' ⟨rfl, rfl⟩
    rw [HV.out]
    go_wp2_with fail
    go_ret
    exact ⟨ret_bool HF.out.symm, HB.out⟩
  have q5 : ((an : Int) != (an : Int)) = false := by simp
  have han1 : 1 ≤ an := by have := E0.out; omega
  have han8 : an ≤ 8 := by have := E1.out; omega
  go_wp2_with fail
  refine (valid_any ad an ac xs _ (HX.out.keep HB.out)).mono ?_
  rintro e w' ⟨rfl, rfl⟩
  rw [HV.out]
  go_upto_region 3 with fail
  clear c0 c1 c2 c3 d0 d1 d2 d3 q5
  rcases Nat.eq_zero_or_pos pn with h0 | h0
  · subst h0
    refine wp_region_allS (by kernel_rfl) (by kernel_rfl) ?_
    have HGZ := Lib.hid (HG.out.keep ((Bl.refl W).drew))
    have HBZ := Lib.hid (HB.out.drew)
    clear HG HB
    generalize W.drew = Z at *
    have c3 : ∀ q : Ext Z, _ := fun q => (HGZ.out.keep q.bl).cell 3 _ rfl
    repeat (refine wpS_step (fun K hK => ?_); go_simp; first | (refine hK _ ?_; clear hK K) | (apply Exists.intro; refine ⟨fun q => ?_, hK _ ?_⟩; (fail); clear hK K))
    refine wpS_nil ?_
    intro q1
    have HG7 := Lib.hid (HGZ.out.keep q1.bl)
    have HB7 := Lib.hid (HBZ.out.trans q1.bl)
    clear c3 HGZ HBZ
    generalize ExtC.at q1 = W7 at *
    have hps : ps = [] := List.eq_nil_of_length_eq_zero hpl
    have HR1 : Hid (R = true) := Lib.hid (by
      subst hps
      rw [← HR.out]
      exact validArc_of ⟨⟨by show (1 : Int) ≤ an; omega, by show (an : Int) ≤ 8; omega⟩, ⟨by have := E2.out; show (1 : Int) ≤ parts; omega, by have := E3.out; show parts ≤ 64; omega⟩, by show (xs.length : Int) = an; omega, Nat.zero_le _, HV.out, .inl rfl, fun j hj => absurd hj (Nat.not_lt_zero _)⟩)
    have c3 := (AC.arc HG7.out).2.2.2
    go_wp2_with fail
    clear c3
    go_loopw [59] (fun i wr => i = .int .i64 0 ∧ Bl W7 wr) (fun _ _ => 0)
    case atStart => exact ⟨rfl, Bl.refl _⟩
    case round =>
      obtain ⟨rfl, hbl⟩ := hrel
      have HBL := Lib.hid hbl
      clear hbl
      go_wp2_with fail
      go_ret
      exact ⟨ret_bool HR1.out.symm, HB7.out.trans HBL.out⟩
  · have hp0 : decide ((0 : Int) < (pn : Int)) = true := decide_eq_true (by omega)
    refine wp_region_ext 9 3 (by kernel_rfl) rfl (by kernel_rfl) (by kernel_rfl) ?_
    simp only [List.take_succ_cons, List.take_zero]
    have HGZ := Lib.hid (HG.out.keep ((Bl.refl W).drew))
    have HBZ := Lib.hid (HB.out.drew)
    clear HG HB
    generalize W.drew = Z at *
    have c0 : ∀ q : Ext Z, _ := fun q => (HGZ.out.keep q.bl).cell 0 _ rfl
    have c2 : ∀ q : Ext Z, _ := fun q => (HGZ.out.keep q.bl).cell 2 _ rfl
    have c3 : ∀ q : Ext Z, _ := fun q => (HGZ.out.keep q.bl).cell 3 _ rfl
    repeat (refine wpE_step (fun K hK => ?_); go_simp; first | (refine hK _ ?_; clear hK K) | (apply Exists.intro; refine ⟨fun q => ?_, hK _ ?_⟩; (fail); clear hK K))
    refine wpE_nil ?_
    refine wpAnyE_one (i := 9) (by kernel_rfl) ?_
    intro W2 hb2
    go_simp
    refine (zeroL_any an W2 han1 han8).mono ?_
    rintro e W3 ⟨za, zc, rfl, hz, hb3⟩
    refine ⟨_, rfl, hb2.trans hb3, ?_⟩
    refine wpAnyE_one (i := 10) (by kernel_rfl) ?_
    intro W4 hb4
    go_simp
    refine (same_any ad za an an ac zc xs (zeroL an) W4 (HX.out.keep (HBZ.out.trans ((hb2.trans hb3).trans hb4))) (hz.keep hb4)).mono ?_
    rintro e W5 ⟨rfl, hb5⟩
    refine ⟨_, rfl, ((hb2.trans hb3).trans hb4).trans hb5, ?_⟩
    refine wpAnyE_one (i := 11) (by kernel_rfl) ?_
    intro W6 hb6
    go_simp
    refine ⟨(((hb2.trans hb3).trans hb4).trans hb5).trans hb6, ?_⟩
    refine wpAnyE_done (by kernel_rfl) ?_
    intro W7 hb7
    have HB7 := Lib.hid (HBZ.out.trans (((((hb2.trans hb3).trans hb4).trans hb5).trans hb6).trans hb7))
    have HG7 := Lib.hid (HGZ.out.keep (((((hb2.trans hb3).trans hb4).trans hb5).trans hb6).trans hb7))
    clear hb2 hb3 hb4 hb5 hb6 hb7 hz c0 c2 c3 HBZ HGZ
    by_cases hz : xs = zeroL an
    · have HF := Lib.hid (HN.out fun h => by
        have h1 := h.zero
        dsimp only at h1
        rw [hxl] at h1
        rcases h1 with h1 | h1
        · omega
        · exact h1 hz)
      rw [decide_eq_true hz]
      clear hz
      go_wp2_with fail
      go_ret
      exact ⟨ret_bool HF.out.symm, HB7.out⟩
    rw [decide_eq_false hz]
    have HF : Hid (ArcParts ⟨(an : Int), parts, xs, ps⟩ ∨ ¬ ∀ j, j < pn → okAt ps j = true) := Lib.hid (by
      by_cases hj : ∀ j, j < pn → okAt ps j = true
      · left
        refine ⟨⟨by show (1 : Int) ≤ an; omega, by show (an : Int) ≤ 8; omega⟩, ⟨by have := E2.out; show (1 : Int) ≤ parts; omega, by have := E3.out; show parts ≤ 64; omega⟩, by show (xs.length : Int) = an; omega, by show ps.length ≤ 10000; omega, HV.out, .inr (by show xs ≠ zeroL xs.length; rw [hxl]; exact hz), fun j hj2 => hj j (by rw [← hpl]; exact hj2)⟩
      · exact .inr hj)
    clear hz
    have c3 := (AC.arc HG7.out).2.2.2
    go_wp2_with fail
    clear c3
    go_loopw [59] (fun i wr => ∃ k : Nat, k ≤ pn ∧ i = .int .i64 k ∧ Bl W7 wr ∧ ∀ j, j < k → okAt ps j = true) (fun i _ => pn - (intOf i).toNat)
    case atStart => exact ⟨0, Nat.zero_le _, rfl, Bl.refl _, fun j hj => absurd hj (Nat.not_lt_zero _)⟩
    case round =>
      obtain ⟨k, hk, rfl, hbl, hall⟩ := hrel
      have HALL := Lib.hid hall
      have HBL := Lib.hid hbl
      clear hall hbl
      by_cases hlt : k < pn
      · have hkl : k < ps.length := by rw [hpl]; exact hlt
        obtain ⟨ba, oa, rfl, _⟩ := HP.out.cells k hlt
        obtain ⟨p0, p1, p2, p3, p4⟩ := HP.out.get (HB7.out.trans HBL.out) hlt
        have HOK := Lib.hid (hok.out _ (nthQ_mem hkl))
        have HPREV := Lib.hid (fun (j : Nat) (hj : j < pn) (W : World) (hb : Bl wr W) => ((HP.out.get (HB7.out.trans HBL.out) hj).keep hb).c0)
        obtain ⟨q, hq⟩ : ∃ q, nthQ ps (k - 1) = q := ⟨_, rfl⟩
        have HQ := Lib.hid hq
        clear hq hkl
        generalize hpe : nthQ ps k = p at *
        have HPE := Lib.hid hpe
        clear hpe
        obtain ⟨key, ⟨pt, px, pm, pz⟩⟩ := p
        obtain ⟨qkey, qv⟩ := q
        obtain ⟨⟨ak, ax, an2, az⟩, hA⟩ : ∃ A : ActL, actOf key ⟨pt, px, pm, pz⟩ = A := ⟨_, rfl⟩
        obtain ⟨⟨rb, rx, rn, rs⟩, hV⟩ : ∃ V : ValL, afterL key noVal ⟨ak, ax, an2, az⟩ = V := ⟨_, rfl⟩
        have HA := Lib.hid hA
        have HV2 := Lib.hid hV
        obtain ⟨c, hc⟩ : ∃ c, Lib.compareBytes qkey.data.toList key.data.toList = c := ⟨_, rfl⟩
        obtain ⟨ki, hi⟩ : ∃ ki, isKeyB key = ki := ⟨_, rfl⟩
        obtain ⟨kf, hf⟩ : ∃ kf, fitsB key ⟨ak, ax, an2, az⟩ = kf := ⟨_, rfl⟩
        obtain ⟨ks, hs⟩ : ∃ ks, sameV ⟨rb, rx, rn, rs⟩ ⟨pt, px, pm, pz⟩ = ks := ⟨_, rfl⟩
        have HOKAT := Lib.hid (okAt_eq HPE.out HQ.out hc hi hA hf hV hs)
        have HC := Lib.hid hc
        have HI := Lib.hid hi
        have HFI := Lib.hid hf
        have HS := Lib.hid hs
        have HAO := Lib.hid (show (⟨ak, ax, an2, az⟩ : ActL).Ok from hA ▸ actOf_ok key HOK.out.2)
        have HVO := Lib.hid (show (⟨rb, rx, rn, rs⟩ : ValL).Ok from hV ▸ after_ok noVal_ok HAO.out)
        have HKZ := Lib.hid HOK.out.1
        have HPO := Lib.hid HOK.out.2
        dsimp only at p0 p1 p2 p3 p4
        clear hA hV hc hi hf hs
        have hgp := AC.new wr _ rfl [.string key, .bool pt, .float .f64 px, .int .i64 pm, .string pz] 87
        have hbp := (Bl.refl wr).alloc (.cells #[.string key, .bool pt, .float .f64 px, .int .i64 pm, .string pz] 87)
        have hg7 := HG7.out.keep (HBL.out.trans hbp)
        obtain ⟨g0, g1, g2, g3, g4⟩ := AC.pair hgp
        go_wp2_with fail
        clear g0 g1 g2 g3 g4 p0 p1 p2 p3 p4
        have HGP := Lib.hid hgp
        have HBP := Lib.hid hbp
        have HG8 := Lib.hid hg7
        clear hgp hbp hg7
        generalize hge : wr.heap.size = ga at *
        have HGE := Lib.hid hge
        clear hge
        generalize wr.alloc _ = Y at *
        refine (arcAct_agg key pt px pm pz ak ax an2 az _ HKZ.out HA).mono ?_
        rintro e w1 ⟨rfl, hb1⟩
        go_upto_region 9 with fail
        have G0 : VR w (w1.alloc (.cells #[.int .i64 ak, .float .f64 ax, .int .i64 an2, .string az] 64)) (arcCs (an : Int) parts ad an ac (some ⟨ba, oa, none⟩) pn pc) ga [.string key, .bool pt, .float .f64 px, .int .i64 pm, .string pz] w1.heap.size [.int .i64 ak, .float .f64 ax, .int .i64 an2, .string az] :=
          ⟨((HB7.out.trans (HBL.out.trans HBP.out)).trans hb1).alloc _, (HG8.out.keep hb1).keep ((Bl.refl _).alloc _), (HGP.out.keep hb1).keep ((Bl.refl _).alloc _), AC.new w1 _ rfl _ _⟩
        have HBY := Lib.hid ((HBP.out.trans hb1).alloc (.cells #[.int .i64 ak, .float .f64 ax, .int .i64 an2, .string az] 64))
        replace G0 := Lib.hid (G0.keep ((Bl.refl _).drew))
        replace HBY := Lib.hid (HBY.out.drew)
        clear hb1 HBP HGP HG8
        generalize w1.heap.size = gx at *
        have done_no : okAt ps k = false → R = false := fun h => HN.out fun hp => by
          have := hp.ok k (by show k < ps.length; rw [hpl]; exact hlt)
          rw [show okAt ps k = true from this] at h
          cases h
        rcases Nat.eq_zero_or_pos k with hk0 | hk0
        · subst hk0
          cases ki
          case false =>
            have HNO := Lib.hid (done_no (by cases kf; (rw [HOKAT.out.1]; simp); exact absurd (HOKAT.out.2 rfl) (by decide)))
            clear done_no
            refine wp_region_allS (by kernel_rfl) (by kernel_rfl) ?_
            generalize World.drew _ = Z at *
            have b3 : ∀ m : Ext Z, _ := fun m => (G0.out.keep m.bl).b.cell 3 _ rfl
            have p0 : ∀ m : Ext Z, _ := fun m => (G0.out.keep m.bl).p.cell 0 _ rfl
            have p1 : ∀ m : Ext Z, _ := fun m => (G0.out.keep m.bl).p.cell 1 _ rfl
            have p2 : ∀ m : Ext Z, _ := fun m => (G0.out.keep m.bl).p.cell 2 _ rfl
            have p3 : ∀ m : Ext Z, _ := fun m => (G0.out.keep m.bl).p.cell 3 _ rfl
            have p4 : ∀ m : Ext Z, _ := fun m => (G0.out.keep m.bl).p.cell 4 _ rfl
            have a0 : ∀ m : Ext Z, _ := fun m => (G0.out.keep m.bl).a.cell 0 _ rfl
            have a1 : ∀ m : Ext Z, _ := fun m => (G0.out.keep m.bl).a.cell 1 _ rfl
            have a2 : ∀ m : Ext Z, _ := fun m => (G0.out.keep m.bl).a.cell 2 _ rfl
            have a3 : ∀ m : Ext Z, _ := fun m => (G0.out.keep m.bl).a.cell 3 _ rfl
            have H2 := Lib.hid (fun m : Ext Z => isKeyR_any key _ m.at HKZ.out HI)
            repeat (refine wpS_step (fun K hK => ?_); go_simp; first | (refine hK _ ?_; clear hK K) | (apply Exists.intro; refine ⟨fun m => ?_, hK _ ?_⟩; (first | with_reducible exact H2.out m); clear hK K))
            refine wpS_nil ?_
            intro q1
            have HB9 := Lib.hid (G0.out.bl.trans q1.bl)
            have HB8 := Lib.hid (HBL.out.trans (HBY.out.trans q1.bl))
            clear b3 p0 p1 p2 p3 p4 a0 a1 a2 a3 H2
            generalize ExtC.at q1 = Y2 at *
            go_wp2_with fail
            go_ret
            exact ⟨ret_bool HNO.out.symm, HB9.out⟩
          cases kf
          case false =>
            have HNO := Lib.hid (done_no (by rw [HOKAT.out.1]; simp))
            clear done_no
            refine wp_region_allS (by kernel_rfl) (by kernel_rfl) ?_
            generalize World.drew _ = Z at *
            have b3 : ∀ m : Ext Z, _ := fun m => (G0.out.keep m.bl).b.cell 3 _ rfl
            have p0 : ∀ m : Ext Z, _ := fun m => (G0.out.keep m.bl).p.cell 0 _ rfl
            have p1 : ∀ m : Ext Z, _ := fun m => (G0.out.keep m.bl).p.cell 1 _ rfl
            have p2 : ∀ m : Ext Z, _ := fun m => (G0.out.keep m.bl).p.cell 2 _ rfl
            have p3 : ∀ m : Ext Z, _ := fun m => (G0.out.keep m.bl).p.cell 3 _ rfl
            have p4 : ∀ m : Ext Z, _ := fun m => (G0.out.keep m.bl).p.cell 4 _ rfl
            have a0 : ∀ m : Ext Z, _ := fun m => (G0.out.keep m.bl).a.cell 0 _ rfl
            have a1 : ∀ m : Ext Z, _ := fun m => (G0.out.keep m.bl).a.cell 1 _ rfl
            have a2 : ∀ m : Ext Z, _ := fun m => (G0.out.keep m.bl).a.cell 2 _ rfl
            have a3 : ∀ m : Ext Z, _ := fun m => (G0.out.keep m.bl).a.cell 3 _ rfl
            have H2 := Lib.hid (fun m : Ext Z => isKeyR_any key _ m.at HKZ.out HI)
            have H3 := Lib.hid (fun m : Ext Z => fits_agg key ak ax an2 az _ m.at HFI HKZ.out HAO)
            repeat (refine wpS_step (fun K hK => ?_); go_simp; first | (refine hK _ ?_; clear hK K) | (apply Exists.intro; refine ⟨fun m => ?_, hK _ ?_⟩; (first | with_reducible exact H2.out m | with_reducible exact H3.out m); clear hK K))
            refine wpS_nil ?_
            intro q1
            have HB9 := Lib.hid (G0.out.bl.trans q1.bl)
            have HB8 := Lib.hid (HBL.out.trans (HBY.out.trans q1.bl))
            clear b3 p0 p1 p2 p3 p4 a0 a1 a2 a3 H2 H3
            generalize ExtC.at q1 = Y2 at *
            go_wp2_with fail
            go_ret
            exact ⟨ret_bool HNO.out.symm, HB9.out⟩
          cases ks
          case false =>
            have HNO := Lib.hid (done_no (by rw [HOKAT.out.1]; simp))
            clear done_no
            refine wp_region_allS (by kernel_rfl) (by kernel_rfl) ?_
            generalize World.drew _ = Z at *
            have b3 : ∀ m : Ext Z, _ := fun m => (G0.out.keep m.bl).b.cell 3 _ rfl
            have p0 : ∀ m : Ext Z, _ := fun m => (G0.out.keep m.bl).p.cell 0 _ rfl
            have p1 : ∀ m : Ext Z, _ := fun m => (G0.out.keep m.bl).p.cell 1 _ rfl
            have p2 : ∀ m : Ext Z, _ := fun m => (G0.out.keep m.bl).p.cell 2 _ rfl
            have p3 : ∀ m : Ext Z, _ := fun m => (G0.out.keep m.bl).p.cell 3 _ rfl
            have p4 : ∀ m : Ext Z, _ := fun m => (G0.out.keep m.bl).p.cell 4 _ rfl
            have a0 : ∀ m : Ext Z, _ := fun m => (G0.out.keep m.bl).a.cell 0 _ rfl
            have a1 : ∀ m : Ext Z, _ := fun m => (G0.out.keep m.bl).a.cell 1 _ rfl
            have a2 : ∀ m : Ext Z, _ := fun m => (G0.out.keep m.bl).a.cell 2 _ rfl
            have a3 : ∀ m : Ext Z, _ := fun m => (G0.out.keep m.bl).a.cell 3 _ rfl
            have H2 := Lib.hid (fun m : Ext Z => isKeyR_any key _ m.at HKZ.out HI)
            have H3 := Lib.hid (fun m : Ext Z => fits_agg key ak ax an2 az _ m.at HFI HKZ.out HAO)
            have H4 := Lib.hid (fun m : Ext Z => after_agg key false 0 0 ⟨#[]⟩ ak ax an2 az rb rx rn rs m.at HV2 HKZ.out (Lib.hid noVal_ok) HAO)
            have H5 := Lib.hid (fun m : Ext Z => same_agg rb rx rn rs pt px pm pz _ m.at HS HVO HPO)
            repeat (refine wpS_step (fun K hK => ?_); go_simp; first | (refine hK _ ?_; clear hK K) | (apply Exists.intro; refine ⟨fun m => ?_, hK _ ?_⟩; (first | with_reducible exact H2.out m | with_reducible exact H3.out m | with_reducible exact H4.out m | with_reducible exact H5.out m); clear hK K))
            refine wpS_nil ?_
            intro q1
            have HB9 := Lib.hid (G0.out.bl.trans q1.bl)
            have HB8 := Lib.hid (HBL.out.trans (HBY.out.trans q1.bl))
            clear b3 p0 p1 p2 p3 p4 a0 a1 a2 a3 H2 H3 H4 H5
            generalize ExtC.at q1 = Y2 at *
            go_wp2_with fail
            go_ret
            exact ⟨ret_bool HNO.out.symm, HB9.out⟩
          have HY : Hid (okAt ps 0 = true) := Lib.hid (by rw [HOKAT.out.1]; simp)
          clear done_no
          refine wp_region_allS (by kernel_rfl) (by kernel_rfl) ?_
          generalize World.drew _ = Z at *
          have b3 : ∀ m : Ext Z, _ := fun m => (G0.out.keep m.bl).b.cell 3 _ rfl
          have p0 : ∀ m : Ext Z, _ := fun m => (G0.out.keep m.bl).p.cell 0 _ rfl
          have p1 : ∀ m : Ext Z, _ := fun m => (G0.out.keep m.bl).p.cell 1 _ rfl
          have p2 : ∀ m : Ext Z, _ := fun m => (G0.out.keep m.bl).p.cell 2 _ rfl
          have p3 : ∀ m : Ext Z, _ := fun m => (G0.out.keep m.bl).p.cell 3 _ rfl
          have p4 : ∀ m : Ext Z, _ := fun m => (G0.out.keep m.bl).p.cell 4 _ rfl
          have a0 : ∀ m : Ext Z, _ := fun m => (G0.out.keep m.bl).a.cell 0 _ rfl
          have a1 : ∀ m : Ext Z, _ := fun m => (G0.out.keep m.bl).a.cell 1 _ rfl
          have a2 : ∀ m : Ext Z, _ := fun m => (G0.out.keep m.bl).a.cell 2 _ rfl
          have a3 : ∀ m : Ext Z, _ := fun m => (G0.out.keep m.bl).a.cell 3 _ rfl
          have H2 := Lib.hid (fun m : Ext Z => isKeyR_any key _ m.at HKZ.out HI)
          have H3 := Lib.hid (fun m : Ext Z => fits_agg key ak ax an2 az _ m.at HFI HKZ.out HAO)
          have H4 := Lib.hid (fun m : Ext Z => after_agg key false 0 0 ⟨#[]⟩ ak ax an2 az rb rx rn rs m.at HV2 HKZ.out (Lib.hid noVal_ok) HAO)
          have H5 := Lib.hid (fun m : Ext Z => same_agg rb rx rn rs pt px pm pz _ m.at HS HVO HPO)
          repeat (refine wpS_step (fun K hK => ?_); go_simp; first | (refine hK _ ?_; clear hK K) | (apply Exists.intro; refine ⟨fun m => ?_, hK _ ?_⟩; (first | with_reducible exact H2.out m | with_reducible exact H3.out m | with_reducible exact H4.out m | with_reducible exact H5.out m); clear hK K))
          refine wpS_nil ?_
          intro q1
          have HB9 := Lib.hid (G0.out.bl.trans q1.bl)
          have HB8 := Lib.hid (HBL.out.trans (HBY.out.trans q1.bl))
          clear b3 p0 p1 p2 p3 p4 a0 a1 a2 a3 H2 H3 H4 H5
          generalize ExtC.at q1 = Y2 at *
          go_wp2_with fail
          go_roundw
          case rel => exact ⟨0 + 1, by omega, by go_num, HB8.out, step_ok (a := ⟨(an : Int), parts, xs, ps⟩) HALL.out HY.out⟩
          case measure => simp [intOf]; omega
        · obtain ⟨j, hj⟩ : ∃ j, k = j + 1 := ⟨k - 1, by omega⟩
          have hjp : j < pn := by omega
          have hkm : IntKind.i64.wrap ((k : Int) - 1) = (j : Int) := by rw [IntKind.wrap_i64]; omega
          have hkp : decide ((0 : Int) < (k : Int)) = true := decide_eq_true (by omega)
          have hkp2 : decide (0 < k) = true := decide_eq_true hk0
          have hkn : decide (k = 0) = false := decide_eq_false (by omega)
          rw [hkn] at HOKAT
          have HQJ : Hid (nthQ ps j = (qkey, qv)) := Lib.hid (by rw [← HQ.out]; congr 1; omega)
          clear hkn hj hk0
          by_cases hcz : c < 0
          case neg =>
            have hcd : decide ((0 : Int) ≤ c) = true := decide_eq_true (by omega)
            have HNO := Lib.hid (done_no (by rw [HOKAT.out.1, decide_eq_false hcz]; rfl))
            clear hcz done_no
            refine wp_region_allS (by kernel_rfl) (by kernel_rfl) ?_
            generalize World.drew _ = Z at *
            have b3 : ∀ m : Ext Z, _ := fun m => (G0.out.keep m.bl).b.cell 3 _ rfl
            have p0 : ∀ m : Ext Z, _ := fun m => (G0.out.keep m.bl).p.cell 0 _ rfl
            have p1 : ∀ m : Ext Z, _ := fun m => (G0.out.keep m.bl).p.cell 1 _ rfl
            have p2 : ∀ m : Ext Z, _ := fun m => (G0.out.keep m.bl).p.cell 2 _ rfl
            have p3 : ∀ m : Ext Z, _ := fun m => (G0.out.keep m.bl).p.cell 3 _ rfl
            have p4 : ∀ m : Ext Z, _ := fun m => (G0.out.keep m.bl).p.cell 4 _ rfl
            have a0 : ∀ m : Ext Z, _ := fun m => (G0.out.keep m.bl).a.cell 0 _ rfl
            have a1 : ∀ m : Ext Z, _ := fun m => (G0.out.keep m.bl).a.cell 1 _ rfl
            have a2 : ∀ m : Ext Z, _ := fun m => (G0.out.keep m.bl).a.cell 2 _ rfl
            have a3 : ∀ m : Ext Z, _ := fun m => (G0.out.keep m.bl).a.cell 3 _ rfl
            have hv := fun m : Ext Z => HPREV.out j hjp m.at (HBY.out.trans m.bl)
            rw [HQJ.out] at hv
            dsimp only at hv
            have H1 := Lib.hid (fun m : Ext Z => cmpK_any qkey key c m.at HC)
            repeat (refine wpS_step (fun K hK => ?_); go_simp; first | (refine hK _ ?_; clear hK K) | (apply Exists.intro; refine ⟨fun m => ?_, hK _ ?_⟩; (first | with_reducible exact H1.out m); clear hK K))
            refine wpS_nil ?_
            intro q1
            have HB9 := Lib.hid (G0.out.bl.trans q1.bl)
            have HB8 := Lib.hid (HBL.out.trans (HBY.out.trans q1.bl))
            clear b3 p0 p1 p2 p3 p4 a0 a1 a2 a3 hv H1
            generalize ExtC.at q1 = Y2 at *
            go_wp2_with fail
            go_ret
            exact ⟨ret_bool HNO.out.symm, HB9.out⟩
          have hcd : decide ((0 : Int) ≤ c) = false := decide_eq_false (by omega)
          rw [decide_eq_true hcz] at HOKAT
          clear hcz
          cases ki
          case false =>
            have HNO := Lib.hid (done_no (by cases kf; (rw [HOKAT.out.1]; simp); exact absurd (HOKAT.out.2 rfl) (by decide)))
            clear done_no
            refine wp_region_allS (by kernel_rfl) (by kernel_rfl) ?_
            generalize World.drew _ = Z at *
            have b3 : ∀ m : Ext Z, _ := fun m => (G0.out.keep m.bl).b.cell 3 _ rfl
            have p0 : ∀ m : Ext Z, _ := fun m => (G0.out.keep m.bl).p.cell 0 _ rfl
            have p1 : ∀ m : Ext Z, _ := fun m => (G0.out.keep m.bl).p.cell 1 _ rfl
            have p2 : ∀ m : Ext Z, _ := fun m => (G0.out.keep m.bl).p.cell 2 _ rfl
            have p3 : ∀ m : Ext Z, _ := fun m => (G0.out.keep m.bl).p.cell 3 _ rfl
            have p4 : ∀ m : Ext Z, _ := fun m => (G0.out.keep m.bl).p.cell 4 _ rfl
            have a0 : ∀ m : Ext Z, _ := fun m => (G0.out.keep m.bl).a.cell 0 _ rfl
            have a1 : ∀ m : Ext Z, _ := fun m => (G0.out.keep m.bl).a.cell 1 _ rfl
            have a2 : ∀ m : Ext Z, _ := fun m => (G0.out.keep m.bl).a.cell 2 _ rfl
            have a3 : ∀ m : Ext Z, _ := fun m => (G0.out.keep m.bl).a.cell 3 _ rfl
            have hv := fun m : Ext Z => HPREV.out j hjp m.at (HBY.out.trans m.bl)
            rw [HQJ.out] at hv
            dsimp only at hv
            have H1 := Lib.hid (fun m : Ext Z => cmpK_any qkey key c m.at HC)
            have H2 := Lib.hid (fun m : Ext Z => isKeyR_any key _ m.at HKZ.out HI)
            repeat (refine wpS_step (fun K hK => ?_); go_simp; first | (refine hK _ ?_; clear hK K) | (apply Exists.intro; refine ⟨fun m => ?_, hK _ ?_⟩; (first | with_reducible exact H1.out m | with_reducible exact H2.out m); clear hK K))
            refine wpS_nil ?_
            intro q1
            have HB9 := Lib.hid (G0.out.bl.trans q1.bl)
            have HB8 := Lib.hid (HBL.out.trans (HBY.out.trans q1.bl))
            clear b3 p0 p1 p2 p3 p4 a0 a1 a2 a3 hv H1 H2
            generalize ExtC.at q1 = Y2 at *
            go_wp2_with fail
            go_ret
            exact ⟨ret_bool HNO.out.symm, HB9.out⟩
          cases kf
          case false =>
            have HNO := Lib.hid (done_no (by rw [HOKAT.out.1]; simp))
            clear done_no
            refine wp_region_allS (by kernel_rfl) (by kernel_rfl) ?_
            generalize World.drew _ = Z at *
            have b3 : ∀ m : Ext Z, _ := fun m => (G0.out.keep m.bl).b.cell 3 _ rfl
            have p0 : ∀ m : Ext Z, _ := fun m => (G0.out.keep m.bl).p.cell 0 _ rfl
            have p1 : ∀ m : Ext Z, _ := fun m => (G0.out.keep m.bl).p.cell 1 _ rfl
            have p2 : ∀ m : Ext Z, _ := fun m => (G0.out.keep m.bl).p.cell 2 _ rfl
            have p3 : ∀ m : Ext Z, _ := fun m => (G0.out.keep m.bl).p.cell 3 _ rfl
            have p4 : ∀ m : Ext Z, _ := fun m => (G0.out.keep m.bl).p.cell 4 _ rfl
            have a0 : ∀ m : Ext Z, _ := fun m => (G0.out.keep m.bl).a.cell 0 _ rfl
            have a1 : ∀ m : Ext Z, _ := fun m => (G0.out.keep m.bl).a.cell 1 _ rfl
            have a2 : ∀ m : Ext Z, _ := fun m => (G0.out.keep m.bl).a.cell 2 _ rfl
            have a3 : ∀ m : Ext Z, _ := fun m => (G0.out.keep m.bl).a.cell 3 _ rfl
            have hv := fun m : Ext Z => HPREV.out j hjp m.at (HBY.out.trans m.bl)
            rw [HQJ.out] at hv
            dsimp only at hv
            have H1 := Lib.hid (fun m : Ext Z => cmpK_any qkey key c m.at HC)
            have H2 := Lib.hid (fun m : Ext Z => isKeyR_any key _ m.at HKZ.out HI)
            have H3 := Lib.hid (fun m : Ext Z => fits_agg key ak ax an2 az _ m.at HFI HKZ.out HAO)
            repeat (refine wpS_step (fun K hK => ?_); go_simp; first | (refine hK _ ?_; clear hK K) | (apply Exists.intro; refine ⟨fun m => ?_, hK _ ?_⟩; (first | with_reducible exact H1.out m | with_reducible exact H2.out m | with_reducible exact H3.out m); clear hK K))
            refine wpS_nil ?_
            intro q1
            have HB9 := Lib.hid (G0.out.bl.trans q1.bl)
            have HB8 := Lib.hid (HBL.out.trans (HBY.out.trans q1.bl))
            clear b3 p0 p1 p2 p3 p4 a0 a1 a2 a3 hv H1 H2 H3
            generalize ExtC.at q1 = Y2 at *
            go_wp2_with fail
            go_ret
            exact ⟨ret_bool HNO.out.symm, HB9.out⟩
          cases ks
          case false =>
            have HNO := Lib.hid (done_no (by rw [HOKAT.out.1]; simp))
            clear done_no
            refine wp_region_allS (by kernel_rfl) (by kernel_rfl) ?_
            generalize World.drew _ = Z at *
            have b3 : ∀ m : Ext Z, _ := fun m => (G0.out.keep m.bl).b.cell 3 _ rfl
            have p0 : ∀ m : Ext Z, _ := fun m => (G0.out.keep m.bl).p.cell 0 _ rfl
            have p1 : ∀ m : Ext Z, _ := fun m => (G0.out.keep m.bl).p.cell 1 _ rfl
            have p2 : ∀ m : Ext Z, _ := fun m => (G0.out.keep m.bl).p.cell 2 _ rfl
            have p3 : ∀ m : Ext Z, _ := fun m => (G0.out.keep m.bl).p.cell 3 _ rfl
            have p4 : ∀ m : Ext Z, _ := fun m => (G0.out.keep m.bl).p.cell 4 _ rfl
            have a0 : ∀ m : Ext Z, _ := fun m => (G0.out.keep m.bl).a.cell 0 _ rfl
            have a1 : ∀ m : Ext Z, _ := fun m => (G0.out.keep m.bl).a.cell 1 _ rfl
            have a2 : ∀ m : Ext Z, _ := fun m => (G0.out.keep m.bl).a.cell 2 _ rfl
            have a3 : ∀ m : Ext Z, _ := fun m => (G0.out.keep m.bl).a.cell 3 _ rfl
            have hv := fun m : Ext Z => HPREV.out j hjp m.at (HBY.out.trans m.bl)
            rw [HQJ.out] at hv
            dsimp only at hv
            have H1 := Lib.hid (fun m : Ext Z => cmpK_any qkey key c m.at HC)
            have H2 := Lib.hid (fun m : Ext Z => isKeyR_any key _ m.at HKZ.out HI)
            have H3 := Lib.hid (fun m : Ext Z => fits_agg key ak ax an2 az _ m.at HFI HKZ.out HAO)
            have H4 := Lib.hid (fun m : Ext Z => after_agg key false 0 0 ⟨#[]⟩ ak ax an2 az rb rx rn rs m.at HV2 HKZ.out (Lib.hid noVal_ok) HAO)
            have H5 := Lib.hid (fun m : Ext Z => same_agg rb rx rn rs pt px pm pz _ m.at HS HVO HPO)
            repeat (refine wpS_step (fun K hK => ?_); go_simp; first | (refine hK _ ?_; clear hK K) | (apply Exists.intro; refine ⟨fun m => ?_, hK _ ?_⟩; (first | with_reducible exact H1.out m | with_reducible exact H2.out m | with_reducible exact H3.out m | with_reducible exact H4.out m | with_reducible exact H5.out m); clear hK K))
            refine wpS_nil ?_
            intro q1
            have HB9 := Lib.hid (G0.out.bl.trans q1.bl)
            have HB8 := Lib.hid (HBL.out.trans (HBY.out.trans q1.bl))
            clear b3 p0 p1 p2 p3 p4 a0 a1 a2 a3 hv H1 H2 H3 H4 H5
            generalize ExtC.at q1 = Y2 at *
            go_wp2_with fail
            go_ret
            exact ⟨ret_bool HNO.out.symm, HB9.out⟩
          have HY : Hid (okAt ps k = true) := Lib.hid (by rw [HOKAT.out.1]; simp)
          clear done_no
          refine wp_region_allS (by kernel_rfl) (by kernel_rfl) ?_
          generalize World.drew _ = Z at *
          have b3 : ∀ m : Ext Z, _ := fun m => (G0.out.keep m.bl).b.cell 3 _ rfl
          have p0 : ∀ m : Ext Z, _ := fun m => (G0.out.keep m.bl).p.cell 0 _ rfl
          have p1 : ∀ m : Ext Z, _ := fun m => (G0.out.keep m.bl).p.cell 1 _ rfl
          have p2 : ∀ m : Ext Z, _ := fun m => (G0.out.keep m.bl).p.cell 2 _ rfl
          have p3 : ∀ m : Ext Z, _ := fun m => (G0.out.keep m.bl).p.cell 3 _ rfl
          have p4 : ∀ m : Ext Z, _ := fun m => (G0.out.keep m.bl).p.cell 4 _ rfl
          have a0 : ∀ m : Ext Z, _ := fun m => (G0.out.keep m.bl).a.cell 0 _ rfl
          have a1 : ∀ m : Ext Z, _ := fun m => (G0.out.keep m.bl).a.cell 1 _ rfl
          have a2 : ∀ m : Ext Z, _ := fun m => (G0.out.keep m.bl).a.cell 2 _ rfl
          have a3 : ∀ m : Ext Z, _ := fun m => (G0.out.keep m.bl).a.cell 3 _ rfl
          have hv := fun m : Ext Z => HPREV.out j hjp m.at (HBY.out.trans m.bl)
          rw [HQJ.out] at hv
          dsimp only at hv
          have H1 := Lib.hid (fun m : Ext Z => cmpK_any qkey key c m.at HC)
          have H2 := Lib.hid (fun m : Ext Z => isKeyR_any key _ m.at HKZ.out HI)
          have H3 := Lib.hid (fun m : Ext Z => fits_agg key ak ax an2 az _ m.at HFI HKZ.out HAO)
          have H4 := Lib.hid (fun m : Ext Z => after_agg key false 0 0 ⟨#[]⟩ ak ax an2 az rb rx rn rs m.at HV2 HKZ.out (Lib.hid noVal_ok) HAO)
          have H5 := Lib.hid (fun m : Ext Z => same_agg rb rx rn rs pt px pm pz _ m.at HS HVO HPO)
          repeat (refine wpS_step (fun K hK => ?_); go_simp; first | (refine hK _ ?_; clear hK K) | (apply Exists.intro; refine ⟨fun m => ?_, hK _ ?_⟩; (first | with_reducible exact H1.out m | with_reducible exact H2.out m | with_reducible exact H3.out m | with_reducible exact H4.out m | with_reducible exact H5.out m); clear hK K))
          refine wpS_nil ?_
          intro q1
          have HB9 := Lib.hid (G0.out.bl.trans q1.bl)
          have HB8 := Lib.hid (HBL.out.trans (HBY.out.trans q1.bl))
          clear b3 p0 p1 p2 p3 p4 a0 a1 a2 a3 hv H1 H2 H3 H4 H5
          generalize ExtC.at q1 = Y2 at *
          go_wp2_with fail
          go_roundw
          case rel => exact ⟨k + 1, by omega, by go_num, HB8.out, step_ok (a := ⟨(an : Int), parts, xs, ps⟩) HALL.out HY.out⟩
          case measure => simp [intOf]; omega
      · obtain rfl : k = pn := by omega
        have HR1 : Hid (R = true) := Lib.hid (by
          rcases HF.out with h | h
          · rw [← HR.out]; exact validArc_of h
          · exact absurd HALL.out h)
        go_wp2_with fail
        go_ret
        exact ⟨ret_bool HR1.out.symm, HB7.out.trans HBL.out⟩
end Go.Proofs.Ytechiehbigmjbaa
