import Derived.Test.YtginbjcpcgphgaaCore14
import Derived.Test.YtginbjcpcgphgaaCore1
import Derived.Laws.AppendOwnNone

/- slices.CompactFunc over versions. By an AI agent. -/
section
set_option linter.unusedVariables false
set_option linter.unusedSimpArgs false
namespace Go.Proofs.Ytginbjcpcgphgaa
open Go.RowKit
attribute [local go_sem] eOp eOper eUpon

theorem go_drop (eq : VC → VC → Bool) {ys : List VC} {j : Nat} (p : VC) (h : j < ys.length) : cptGo eq p (ys.drop j) = if eq (el ys j) p then cptGo eq (el ys j) (ys.drop (j + 1)) else el ys j :: cptGo eq (el ys j) (ys.drop (j + 1)) := by
  rw [drop_el h]; rfl
theorem cpt_first (eq : VC → VC → Bool) {ys : List VC} (h : 1 ≤ ys.length) : cpt eq ys = ys.take 1 ++ cptGo eq (el ys (1 - 1)) (ys.drop 1) := by
  cases ys with
  | nil => simp at h
  | cons y ys => rfl
theorem cpt_short (eq : VC → VC → Bool) {ys : List VC} (h : ys.length < 2) : cpt eq ys = ys := by
  match ys, h with
  | [], _ => rfl
  | [y], _ => rfl
/-- how far the first loop is -/
structure CP1 (ys : List VC) (k : Nat) : Prop where
  lo : 1 ≤ k
  hi : k ≤ ys.length
  is_ : cpt eqC ys = ys.take k ++ cptGo eqC (el ys (k - 1)) (ys.drop k)
theorem CP1.no {ys : List VC} {k : Nat} (h : CP1 ys k) (hk : k < ys.length) (he : eqC (el ys k) (el ys (k - 1)) = false) : CP1 ys (k + 1) := by
  refine ⟨by have := h.lo; omega, hk, ?_⟩
  rw [h.is_, go_drop _ _ hk, he, take_el hk, Nat.add_sub_cancel]
  simp
/-- how far the second loop is -/
structure CP2 (ys zs : List VC) (kk pos : Nat) : Prop where
  lo : 1 ≤ kk
  hi : pos ≤ ys.length
  kp : kk + 1 ≤ pos
  len : zs.length = ys.length
  same : ∀ i, pos ≤ i + 1 → el zs i = el ys i
  is_ : cpt eqC ys = zs.take kk ++ cptGo eqC (el ys (pos - 1)) (ys.drop pos)
theorem CP1.yes {ys : List VC} {k : Nat} (h : CP1 ys k) (hk : k < ys.length) (he : eqC (el ys k) (el ys (k - 1)) = true) : CP2 ys ys k (k + 1) := by
  refine ⟨h.lo, hk, Nat.le_refl _, rfl, fun _ _ => rfl, ?_⟩
  rw [h.is_, go_drop _ _ hk, he, Nat.add_sub_cancel]
  simp
theorem CP2.yes {ys zs : List VC} {kk pos : Nat} (h : CP2 ys zs kk pos) (hk : pos < ys.length) (he : eqC (el ys pos) (el ys (pos - 1)) = true) : CP2 ys zs kk (pos + 1) := by
  refine ⟨h.lo, hk, by have := h.kp; omega, h.len, fun i hi => h.same i (by omega), ?_⟩
  rw [h.is_, go_drop _ _ hk, he, Nat.add_sub_cancel]
  simp
theorem CP2.no {ys zs : List VC} {kk pos : Nat} (h : CP2 ys zs kk pos) (hk : pos < ys.length) (he : eqC (el ys pos) (el ys (pos - 1)) = false) : CP2 ys (zs.set kk (el ys pos)) (kk + 1) (pos + 1) := by
  have hkz : kk < zs.length := by have := h.len; have := h.kp; omega
  refine ⟨by omega, hk, by have := h.kp; omega, by rw [List.length_set]; exact h.len, fun i hi => ?_, ?_⟩
  · rw [el_set hkz, if_neg (by have := h.kp; omega)]; exact h.same i (by omega)
  · rw [h.is_, go_drop _ _ hk, he, Nat.add_sub_cancel, List.take_add_one, List.take_set_of_le (Nat.le_refl kk), List.getElem?_set_self hkz]
    simp
theorem CP2.done {ys zs : List VC} {kk pos : Nat} (h : CP2 ys zs kk pos) (hk : ¬ pos < ys.length) : cpt eqC ys = zs.take kk := by
  rw [h.is_, List.drop_eq_nil_of_le (by omega)]
  simp [cptGo]
set_option maxHeartbeats 3200000 in
set_option maxRecDepth 100000 in
theorem compact_any (w W : World) (g n ca : Nat) (ys : List VC) (hl : ys.length = n) (hn1 : n ≤ 1000000) (hca : n ≤ ca) (hr : RW w W g ys) :
    Calls Try.prog 34 #[.slice (some ⟨g, 0, none⟩) n ca, .func (.func 35) #[] #[]] W fun e W' => ∃ (m : Nat) (rest : List VC), e = .returned (.slice (some ⟨g, 0, none⟩) m ca) ∧ (cpt eqC ys).length = m ∧ RW w W' g (cpt eqC ys ++ rest) ∧ (cpt eqC ys ++ rest).length = n := by
  have hsf := store_fl
  have HR := Lib.hid hr
  have HL := Lib.hid hl
  clear hr hl
  go_enter Try.func34, Try.ntmps34
  by_cases h2 : n < 2
  · have q0 : decide ((n : Int) < 2) = true := decide_eq_true (by omega)
    have q0n : decide (n < 2) = true := decide_eq_true h2
    have HS := Lib.hid (cpt_short eqC (show ys.length < 2 by rw [HL.out]; exact h2))
    go_wp2_with fail
    go_ret
    exact ⟨n, [], rfl, by rw [HS.out]; exact HL.out, by rw [HS.out, List.append_nil]; exact HR.out.keep (by simpa using Bl.refl _), by rw [HS.out, List.append_nil]; exact HL.out⟩
  have q0 : decide ((n : Int) < 2) = false := decide_eq_false (by omega)
  have q0n : decide (n < 2) = false := decide_eq_false h2
  have H2 := Lib.hid h2
  clear h2
  go_wp2_with fail
  go_loopw [5] (fun iv wr => ∃ k : Nat, CP1 ys k ∧ iv = .int .i64 (k : Int) ∧ RW w wr g ys) (fun iv _ => n + 1 - (intOf iv).toNat)
  case atStart => exact ⟨1, ⟨Nat.le_refl _, by have := HL.out; have := H2.out; omega, cpt_first _ (by have := HL.out; have := H2.out; omega)⟩, by go_num, HR.out⟩
  case round =>
    clear HR
    obtain ⟨k, hc1, rfl, hrow⟩ := hrel
    have HC1 := Lib.hid hc1
    have HRI := Lib.hid hrow
    clear hc1 hrow
    by_cases hlt : k < n
    · have q1 : decide ((k : Int) < (n : Int)) = true := decide_eq_true (by omega)
      have q1n : decide (k < n) = true := decide_eq_true hlt
      obtain ⟨m, hm⟩ : ∃ m, m + 1 = k := ⟨k - 1, by have := HC1.out.lo; omega⟩
      have hw : IntKind.i64.wrap ((k : Int) - 1) = (m : Int) := by rw [IntKind.wrap_i64]; omega
      have hmn : m < n := by omega
      have HM := Lib.hid hm
      clear hm
      have hmk := Lib.hid (show k - 1 = m by have := HM.out; omega)
      obtain ⟨x, hx⟩ : ∃ x, el ys k = x := ⟨_, rfl⟩
      obtain ⟨y, hy⟩ : ∃ y, el ys m = y := ⟨_, rfl⟩
      have ex := Lib.hid hx
      have ey := Lib.hid hy
      clear hx hy
      obtain ⟨r, hr⟩ : ∃ r, eqC x y = r := ⟨_, rfl⟩
      have HRR := Lib.hid hr
      clear hr
      go_upto_region 6 with fail
      refine wp_region_allS (by kernel_rfl) (by kernel_rfl) ?_
      have HZ := Lib.hid (HRI.out.keep ((Bl.refl wr).drew))
      clear HRI
      generalize wr.drew = Z at *
      obtain ⟨x0, x1, x2, x3, x4, x5, x6, x7⟩ := HZ.out.all8 (by rw [HL.out]; exact hlt) ex.out
      obtain ⟨y0, y1, y2, y3, y4, y5, y6, y7⟩ := HZ.out.all8 (by rw [HL.out]; exact hmn) ey.out
      have V := Lib.hid (fun q : Ext Z => same_stamp x y q.at (g := g) (ex.out ▸ (HZ.out.keep q.bl).at_ (by rw [HL.out]; exact hlt)) (ey.out ▸ (HZ.out.keep q.bl).at_ (by rw [HL.out]; exact hmn)) r HRR)
      repeat (refine wpS_step (fun K hK => ?_); go_simp; first | (refine hK _ ?_; clear hK K) | (apply Exists.intro; refine ⟨fun q => ?_, hK _ ?_⟩; (with_reducible exact V.out q); clear hK K))
      refine wpS_nil ?_
      intro q1
      have HZ0 := Lib.hid (HZ.out.keep q1.bl)
      clear x0 x1 x2 x3 x4 x5 x6 x7 y0 y1 y2 y3 y4 y5 y6 y7 V HZ
      generalize q1.at = Y at *
      clear q1
      have HE := Lib.hid (show eqC (el ys k) (el ys (k - 1)) = r by rw [hmk.out, ex.out, ey.out]; exact HRR.out)
      clear HRR ex ey
      cases r
      case false =>
        have HC := Lib.hid (HC1.out.no (by rw [HL.out]; exact hlt) HE.out)
        go_wp2_with fail
        go_roundw
        case rel => exact ⟨k + 1, HC.out, by go_num, HZ0.out⟩
        case measure => simp [intOf]; omega
      case true =>
        have HC := Lib.hid (HC1.out.yes (by rw [HL.out]; exact hlt) HE.out)
        have qc : ¬ (ca = k) := by omega
        obtain ⟨d, hd⟩ : ∃ d, n - k = d := ⟨_, rfl⟩
        have s1 : (n : Int) - (k : Int) = (d : Int) := by omega
        obtain ⟨cd, hcd⟩ : ∃ cd, ca - k = cd := ⟨_, rfl⟩
        have s2 : (ca : Int) - (k : Int) = (cd : Int) := by omega
        go_wp2_with fail
        have HDD := Lib.hid (show k + d = n by omega)
        have hcdn : d ≤ cd := by omega
        clear hd hcd s1 s2 H2 HM hmk HC1
        have hdn : d ≤ 1000000 := by have := HDD.out; omega
        go_loopw [5, 7] (fun iv jv wr => ∃ (kk k2 pos : Nat) (zs : List VC), CP2 ys zs kk pos ∧ 1 ≤ k2 ∧ k + k2 = pos ∧ iv = .int .i64 (kk : Int) ∧ jv = .int .i64 (k2 : Int) ∧ RW w wr g zs) (fun _ jv _ => n + 1 - (intOf jv).toNat)
        case atStart => exact ⟨k, 1, k + 1, ys, HC.out, Nat.le_refl _, rfl, rfl, by go_num, HZ0.out⟩
        case round =>
          clear HZ0 HC HE
          obtain ⟨kk, k2, pos, zs, hc2, h1, hp, rfl, rfl, hrow⟩ := hrel
          have HC2 := Lib.hid hc2
          have HRI := Lib.hid hrow
          have HP := Lib.hid hp
          clear hc2 hrow hp
          have hkk : kk < n := by have := HC2.out.kp; have := HC2.out.hi; have := HL.out; omega
          have hkz : zs.length = n := by rw [HC2.out.len]; exact HL.out
          have HKZ := Lib.hid hkz
          clear hkz
          have hk2 : k2 ≤ d := by have := HC2.out.hi; have := HL.out; have := HDD.out; have := HP.out; omega
          by_cases hlt2 : k2 < d
          · have q2 : decide ((k2 : Int) < (d : Int)) = true := decide_eq_true (by omega)
            have q2n : decide (k2 < d) = true := decide_eq_true hlt2
            have hpn : pos < n := by have := HDD.out; have := HP.out; omega
            obtain ⟨m2, hm⟩ : ∃ m, m + 1 = k2 := ⟨k2 - 1, by omega⟩
            have hw2 : IntKind.i64.wrap ((k2 : Int) - 1) = (m2 : Int) := by rw [IntKind.wrap_i64]; omega
            have hm2n : m2 < d := by omega
            obtain ⟨pm, hpm⟩ : ∃ pm, pm + 1 = pos := ⟨pos - 1, by have := HP.out; omega⟩
            have hpmn : pm < n := by omega
            have a1 := Lib.hid (show pos * 8 = k * 8 + k2 * 8 by have := HP.out; omega)
            have a2 := Lib.hid (show pm * 8 = k * 8 + m2 * 8 by have := HP.out; omega)
            have hpe := Lib.hid (show pos - 1 = pm by omega)
            clear hm hpm
            obtain ⟨x, hx⟩ : ∃ x, el ys pos = x := ⟨_, rfl⟩
            obtain ⟨y, hy⟩ : ∃ y, el ys pm = y := ⟨_, rfl⟩
            have ex := Lib.hid hx
            have ey := Lib.hid hy
            have ezx := Lib.hid (show el zs pos = x by rw [HC2.out.same _ (by omega)]; exact hx)
            have ezy := Lib.hid (show el zs pm = y by rw [HC2.out.same _ (by have := hpe.out; omega)]; exact hy)
            clear hx hy
            obtain ⟨r, hr⟩ : ∃ r, eqC x y = r := ⟨_, rfl⟩
            have HRR := Lib.hid hr
            clear hr
            go_upto_region 11 with fail
            refine wp_region_allS (by kernel_rfl) (by kernel_rfl) ?_
            have HZ := Lib.hid (HRI.out.keep ((Bl.refl wr).drew))
            clear HRI
            generalize wr.drew = Z at *
            have xs := HZ.out.all8 (by rw [HKZ.out]; exact hpn) ezx.out
            have ysx := HZ.out.all8 (by rw [HKZ.out]; exact hpmn) ezy.out
            rw [a1.out] at xs
            rw [a2.out] at ysx
            obtain ⟨x0, x1, x2, x3, x4, x5, x6, x7⟩ := xs
            obtain ⟨y0, y1, y2, y3, y4, y5, y6, y7⟩ := ysx
            have V := Lib.hid (fun q : Ext Z => same_stamp x y q.at (g := g) (ezx.out ▸ (HZ.out.keep q.bl).at_ (by rw [HKZ.out]; exact hpn)) (ezy.out ▸ (HZ.out.keep q.bl).at_ (by rw [HKZ.out]; exact hpmn)) r HRR)
            repeat (refine wpS_step (fun K hK => ?_); go_simp; first | (refine hK _ ?_; clear hK K) | (apply Exists.intro; refine ⟨fun q => ?_, hK _ ?_⟩; (with_reducible exact V.out q); clear hK K))
            refine wpS_nil ?_
            intro q1
            have HZ0 := Lib.hid (HZ.out.keep q1.bl)
            clear x0 x1 x2 x3 x4 x5 x6 x7 y0 y1 y2 y3 y4 y5 y6 y7 V HZ
            generalize q1.at = Y at *
            clear q1
            have HE := Lib.hid (show eqC (el ys pos) (el ys (pos - 1)) = r by rw [hpe.out, ex.out, ey.out]; exact HRR.out)
            clear HRR ey ezy
            cases r
            case true =>
              have HC := Lib.hid (HC2.out.yes (by rw [HL.out]; exact hpn) HE.out)
              go_wp2_with fail
              go_roundw
              case rel => exact ⟨kk, k2 + 1, pos + 1, zs, HC.out, by omega, by have := HP.out; omega, rfl, by go_num, HZ0.out⟩
              case measure => have := HDD.out; simp [intOf]; omega
            case false =>
              have HC := Lib.hid (HC2.out.no (by rw [HL.out]; exact hpn) HE.out)
              rw [ex.out] at HC
              have xs := HZ0.out.at8 (by rw [HKZ.out]; exact hpn) ezx.out
              rw [a1.out] at xs
              obtain ⟨x0, x1, x2, x3, x4, x5, x6, x7⟩ := xs
              obtain ⟨e0, e1, e2, e3, e4, e5, e6, e7⟩ := HZ0.out.cells (j := kk) (by rw [HKZ.out]; exact hkk)
              have f0 := HZ0.out.frozen (kk * 8)
              have f1 := HZ0.out.frozen (kk * 8 + 1)
              have f2 := HZ0.out.frozen (kk * 8 + 2)
              have f3 := HZ0.out.frozen (kk * 8 + 3)
              have f4 := HZ0.out.frozen (kk * 8 + 4)
              have f5 := HZ0.out.frozen (kk * 8 + 5)
              have f6 := HZ0.out.frozen (kk * 8 + 6)
              have f7 := HZ0.out.frozen (kk * 8 + 7)
              have hv1 : VOk _ g x := ezx.out ▸ HZ0.out.at_ (j := pos) (by rw [HKZ.out]; exact hpn)
              have k5 := HZ0.out.st8 (j := kk) (by rw [HKZ.out]; exact hkk) hv1
              unfold st8 at k5
              have H5 := Lib.hid k5
              clear k5 hv1
              go_wp2_with fail
              go_roundw
              case rel => exact ⟨kk + 1, k2 + 1, pos + 1, zs.set kk x, HC.out, by omega, by have := HP.out; omega, by go_num, by go_num, H5.out⟩
              case measure => have := HDD.out; simp [intOf]; omega
          · have q2 : decide ((k2 : Int) < (d : Int)) = false := decide_eq_false (by omega)
            have q2n : decide (k2 < d) = false := decide_eq_false hlt2
            have HE := Lib.hid (HC2.out.done (by rw [HL.out]; have := HP.out; have := HDD.out; omega))
            have qk : ¬ (ca = kk) := by omega
            obtain ⟨W2, hcl, hr2⟩ := clear_row HRI.out HKZ.out hkk 0 (ca - kk)
            have hr3 := Lib.hid hr2
            clear hr2
            obtain ⟨e, he⟩ : ∃ e, n - kk = e := ⟨_, rfl⟩
            have s1 : (n : Int) - (kk : Int) = (e : Int) := by omega
            obtain ⟨ce, hce⟩ : ∃ ce, ca - kk = ce := ⟨_, rfl⟩
            have s2 : (ca : Int) - (kk : Int) = (ce : Int) := by omega
            rw [he, hce] at hcl
            go_wp2_with fail
            go_ret
            refine ⟨kk, List.replicate e zeroVC, rfl, ?_, ?_, ?_⟩
            · rw [HE.out, List.length_take, HKZ.out]; omega
            · rw [HE.out, ← he]; exact hr3.out
            · rw [HE.out, ← he, List.length_append, List.length_take, HKZ.out, List.length_replicate]; omega
    · have q1 : decide ((k : Int) < (n : Int)) = false := decide_eq_false (by omega)
      have q1n : decide (k < n) = false := decide_eq_false hlt
      have HE := Lib.hid (show cpt eqC ys = ys by
        rw [HC1.out.is_, List.drop_eq_nil_of_le (by have := HL.out; omega), List.take_of_length_le (by have := HL.out; omega)]; simp [cptGo])
      go_wp2_with fail
      go_ret
      exact ⟨n, [], rfl, by rw [HE.out]; exact HL.out, by rw [HE.out, List.append_nil]; exact HRI.out, by rw [HE.out, List.append_nil]; exact HL.out⟩
end Go.Proofs.Ytginbjcpcgphgaa
end

/- slices.Clone of a vector. By an AI agent. -/
section
set_option linter.unusedVariables false
set_option linter.unusedSimpArgs false
namespace Go.Proofs.Ytginbjcpcgphgaa
open Go.RowKit

set_option maxHeartbeats 400000 in
theorem vclone_any (a : Option Addr) (n ca : Nat) (xs : List Int) (w : World) (hx : IA w a n xs) :
    Calls Try.prog 51 #[.slice a n ca] w fun e w' => ∃ v, e = .returned v ∧ FI w.heap.size w' v xs ∧ Bl w w' := by
  obtain ⟨i0, hi, hz0, hz1, hz2⟩ := info_parts info_int
  have hx1 := hx.cap
  have hnil := fun (w : World) => Lib.run_eql_slice_nil w 24 3 a n ca 0 0 Try.underlying24
  cases a with
  | none =>
    have hn : n = 0 := by
      rcases Nat.eq_zero_or_pos n with h | h
      · exact h
      · obtain ⟨_, _, h', _⟩ := hx.cells 0 h
        simp at h'
    have hxs : xs = [] := List.eq_nil_of_length_eq_zero (hx.len.trans hn)
    subst hn hxs
    go_enter Try.func51, Try.ntmps51
    go_wp2
    go_ret
    exact ⟨_, rfl, FI.nil _ _, Bl.refl _⟩
  | some ad =>
    have hcells : ∀ j u, (xs.map (Value.int .i64))[j]? = some u → ∀ o, (w.alloc o).cell? (ad.add j) = some u := by
      intro j u hj o
      have hjl : j < n := by
        have := (List.getElem?_eq_some_iff.1 hj).1
        simpa [hx.len] using this
      obtain ⟨b, off, e, hc⟩ := hx.cells j hjl
      obtain rfl := Option.some.inj e
      have h1 := hc j hjl
      rw [← Go.WideShapes.add_plain] at h1
      rw [((Bl.refl w).alloc o).cell h1]
      have hjx : j < xs.length := by rw [hx.len]; exact hjl
      simp [hjx] at hj
      rw [nth_eq hjx, hj]
    have HC := Lib.hid hcells; clear hcells
    have HX := Lib.hid hx
    have HL := Lib.hid hx.len
    clear hx
    go_enter Try.func51, Try.ntmps51
    go_wp2_with (at_builtin; refine wpList_append_own _ rfl _ _ 24 rfl (w.heap.size) 3 i0 (.int .i64 0) 1 8 Try.underlying24 hi hz0 hz1 hz2 rfl (by decide) _ 0 [] rfl (World.ownsRow_lit w #[] 0 (Nat.le_refl _) (by decide) rfl) ad n ca (xs.map (Value.int .i64)) rfl ?c1 ?c2 ?c3 ?c4 ?c5 ?c6 ?_)
    case c1 => simp [HL.out]
    case c2 => intro j u hj; exact HC.out j u hj _
    case c3 => intro u hu; simp at hu; obtain ⟨x, _, rfl⟩ := hu; rfl
    case c4 => unfold maxLen; omega
    case c5 => omega
    case c6 => simp
    intro v' w1 hown' hgrow _
    have hb : Bl w w1 := ((Bl.refl w).alloc _).grown hgrow (by simp) (fun k hk => by simp [Value.ownBlock] at hk; omega)
    have hf : FI w.heap.size w1 v' xs := ⟨by simpa [OI, HL.out] using hown', by rw [HL.out]; exact hx1, HX.out.wf⟩
    clear hown' hgrow
    go_wp2
    go_ret
    exact ⟨_, rfl, hf, hb⟩
end Go.Proofs.Ytginbjcpcgphgaa
end
