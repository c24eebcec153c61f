/- bedrockref5.SamePairs, bedrocklaw24.plain, bedrockref24.Same where all is the same. By an AI agent. -/
import Derived.Test.YtechiehbigmjbaaArc8
import Derived.Test.YtechiehbigmjbaaRefO1
import Derived.Test.YtechiehbigmjbaaRef3
set_option linter.unusedVariables false
set_option linter.unusedSimpArgs false
namespace Go.Proofs.Ytechiehbigmjbaa
open Go.RowKit
attribute [local go_sem] eOp eOper eUpon

theorem refSameV_agg (vb : Bool) (vx : Nat) (vn : Int) (vs : ByteArray) (rb : Bool) (rx : Nat) (rn : Int) (rs : ByteArray) (r : Bool) (w : World)
    (h : Hid (sameV ⟨vb, vx, vn, vs⟩ ⟨rb, rx, rn, rs⟩ = r)) (ov : Hid (ValL.Ok ⟨vb, vx, vn, vs⟩)) (oa : Hid (ValL.Ok ⟨rb, rx, rn, rs⟩)) :
    Calls Try.prog 161 #[.agg #[.bool vb, .float .f64 vx, .int .i64 vn, .string vs], .agg #[.bool rb, .float .f64 rx, .int .i64 rn, .string rs]] w fun e w' => e = .returned (.bool r) ∧ Bl w w' := by
  refine (refSameV_any ⟨vb, vx, vn, vs⟩ ⟨rb, rx, rn, rs⟩ w ov.out oa.out).mono ?_
  rintro e w' ⟨rfl, hb⟩
  rw [h.out]
  exact ⟨rfl, hb⟩
set_option maxHeartbeats 3200000 in
set_option maxRecDepth 100000 in
theorem samePairs_yes (a b : Option Addr) (n ca cb : Nat) (ps qs : List (ByteArray × ValL)) (w : World) (hp : PA w a n ps) (hq : PA w b n qs) (h : Hid (∀ j, j < n → (nthQ ps j).1 = (nthQ qs j).1 ∧ sameV (nthQ ps j).2 (nthQ qs j).2 = true ∧ (nthQ ps j).2.Ok ∧ (nthQ qs j).2.Ok)) :
    Calls Try.prog 110 #[.slice a n ca, .slice b n cb] w fun e w' => e = .returned (.bool true) ∧ Bl w w' := by
  have hsf := store_float
  have hcap := hp.cap
  have HP := Lib.hid hp
  have HQ := Lib.hid hq
  have h2 : ((n : Int) != (n : Int)) = false := by simp
  clear hp hq
  go_enter Try.func110, Try.ntmps110
  go_wp2_with fail
  go_loopw [5] (fun i wr => ∃ k : Nat, k ≤ n ∧ i = .int .i64 k ∧ Bl w wr) (fun i _ => n - (intOf i).toNat)
  case atStart => exact ⟨0, Nat.zero_le _, rfl, Bl.refl _⟩
  case round =>
    obtain ⟨k, hk, rfl, hbl⟩ := hrel
    have HBL := Lib.hid hbl
    clear hbl
    by_cases hlt : k < n
    · obtain ⟨ba, oa, rfl, _⟩ := HP.out.cells k hlt
      obtain ⟨bb, ob, rfl, _⟩ := HQ.out.cells k hlt
      have HPC := Lib.hid (HP.out.get HBL.out hlt)
      have HQC := Lib.hid (HQ.out.get HBL.out hlt)
      have HS := Lib.hid (h.out k hlt)
      generalize nthQ ps k = p at *
      generalize nthQ qs k = q at *
      obtain ⟨key, ⟨pt, px, pm, pz⟩⟩ := p
      obtain ⟨key2, ⟨qt, qx, qm, qz⟩⟩ := q
      obtain ⟨hkk, hs, ho1, ho2⟩ := HS.out
      dsimp only at hkk
      subst hkk
      have HV := Lib.hid hs
      have HO1 := Lib.hid ho1
      have HO2 := Lib.hid ho2
      clear hs ho1 ho2
      dsimp only at HV HO1 HO2
      go_upto_region 6 with fail
      refine wp_region_extall (by kernel_rfl) (by kernel_rfl) ?_
      have HPZ := Lib.hid (HPC.out.keep ((Bl.refl wr).drew))
      have HQZ := Lib.hid (HQC.out.keep ((Bl.refl wr).drew))
      have HBZ := Lib.hid (HBL.out.drew)
      generalize wr.drew = Z at *
      have p0 : ∀ q : Ext Z, _ := fun q => (HPZ.out.keep q.bl).c0
      have p1 : ∀ q : Ext Z, _ := fun q => (HPZ.out.keep q.bl).c1
      have p2 : ∀ q : Ext Z, _ := fun q => (HPZ.out.keep q.bl).c2
      have p3 : ∀ q : Ext Z, _ := fun q => (HPZ.out.keep q.bl).c3
      have p4 : ∀ q : Ext Z, _ := fun q => (HPZ.out.keep q.bl).c4
      have q0 : ∀ q : Ext Z, _ := fun q => (HQZ.out.keep q.bl).c0
      have q1 : ∀ q : Ext Z, _ := fun q => (HQZ.out.keep q.bl).c1
      have q2 : ∀ q : Ext Z, _ := fun q => (HQZ.out.keep q.bl).c2
      have q3 : ∀ q : Ext Z, _ := fun q => (HQZ.out.keep q.bl).c3
      have q4 : ∀ q : Ext Z, _ := fun q => (HQZ.out.keep q.bl).c4
      dsimp only at p0 p1 p2 p3 p4 q0 q1 q2 q3 q4
      have H1 := Lib.hid (fun w => refSameV_agg pt px pm pz qt qx qm qz true w HV HO1 HO2)
      repeat (refine wpE_step (fun K hK => ?_); go_simp; first | (refine hK _ ?_; clear hK K) | (apply Exists.intro; refine ⟨fun m => ?_, hK _ ?_⟩; (with_reducible exact H1.out _); clear hK K))
      refine wpE_nil ?_
      intro q9
      have HBN := Lib.hid (HBZ.out.trans q9.bl)
      clear p0 p1 p2 p3 p4 q0 q1 q2 q3 q4 H1
      generalize ExtC.at q9 = Y at *
      go_wp2_with fail
      go_roundw
      case rel => exact ⟨k + 1, by omega, by go_num, HBN.out⟩
      case measure => simp [intOf]; omega
    · go_wp2_with fail
      go_ret
      exact ⟨rfl, HBL.out⟩
theorem plain_results {tmps : Array Value} {w : World} {g : Nat} {n parts : Int} {ad : Option Addr} {an ac : Nat} {pd : Option Addr} {pn pc : Nat} (h : tmps.getD 2 undef = .pointer (some ⟨g, 0, none⟩)) (d0 : AC w g (arcCs n parts ad an ac pd pn pc)) :
    (results Try.f44 tmps).run Try.prog w = .ok (arcV n parts ad an ac pd pn pc) w := by
  rw [Array.getD_eq_getD_getElem?] at h
  obtain ⟨c0, c1, c2, c3⟩ := d0.arc
  simp [results, Try.results44, go_sem, h, c0, c1, c2, c3, arcV]
set_option maxRecDepth 100000 in
theorem plain_any (n parts : Int) (ad : Option Addr) (an ac : Nat) (pd : Option Addr) (pn pc : Nat) (w : World) :
    Calls Try.prog 44 #[.agg #[.int .i64 n, .int .i64 parts, .slice ad an ac, .slice pd pn pc]] w fun e w' => e = .returned (.agg #[.int .i64 n, .int .i64 parts, .slice ad an ac, .slice pd pn pc]) ∧ Bl w w' := by
  have hA := (AC.new w _ rfl (arcCs n parts ad an ac pd pn pc) 75).keep ((Bl.refl _).alloc (.cells (arcCs 0 0 none 0 0 none 0 0).toArray 81))
  have hB := AC.new (w.alloc (.cells (arcCs n parts ad an ac pd pn pc).toArray 75)) (w.heap.size + 1) (by simp) (arcCs 0 0 none 0 0 none 0 0) 81
  have hb := ((Bl.refl w).alloc (.cells (arcCs n parts ad an ac pd pn pc).toArray 75)).alloc (.cells (arcCs 0 0 none 0 0 none 0 0).toArray 81)
  unfold arcCs at hA hB hb
  go_enter Try.func44, Try.ntmps44
  go_upto_region 1 with fail
  generalize (w.alloc (.cells #[.int .i64 n, .int .i64 parts, .slice ad an ac, .slice pd pn pc] 75)).alloc _ = W at *
  obtain ⟨a0, a1, a2, a3⟩ := AC.arc hA
  obtain ⟨b0, b1, b2, b3⟩ := AC.arc hB
  have fr := hB.frozen
  have HB := Lib.hid hB
  have HBL := Lib.hid hb
  clear hA hB hb
  go_wp2_with fail
  refine bodyPost_ret (plain_results rfl (HB.out.set4 (.int .i64 n) (.int .i64 parts) (.slice ad an ac) (.slice pd pn pc))) rfl ?_
  exact ⟨rfl, HBL.out.store4 (Nat.le_succ _) _ _ _ _⟩
set_option maxHeartbeats 1600000 in
set_option maxRecDepth 100000 in
theorem refSameArc_yes (n parts : Int) (xs : List Int) (ad bd : Option Addr) (an ac bc : Nat) (pd qd : Option Addr) (pn pc qc : Nat) (ps qs : List (ByteArray × ValL)) (w : World) (hx : IA w ad an xs) (hy : IA w bd an xs) (hp : PA w pd pn ps) (hq : PA w qd pn qs)
    (h : Hid (∀ j, j < pn → (nthQ ps j).1 = (nthQ qs j).1 ∧ sameV (nthQ ps j).2 (nthQ qs j).2 = true ∧ (nthQ ps j).2.Ok ∧ (nthQ qs j).2.Ok)) :
    Calls Try.prog 43 #[.agg #[.int .i64 n, .int .i64 parts, .slice ad an ac, .slice pd pn pc], .agg #[.int .i64 n, .int .i64 parts, .slice bd an bc, .slice qd pn qc]] w fun e w' => e = .returned (.bool true) ∧ Bl w w' := by
  have hA := (AC.new w _ rfl (arcCs n parts ad an ac pd pn pc) 81).keep ((Bl.refl _).alloc (.cells (arcCs n parts bd an bc qd pn qc).toArray 81))
  have hB := AC.new (w.alloc (.cells (arcCs n parts ad an ac pd pn pc).toArray 81)) (w.heap.size + 1) (by simp) (arcCs n parts bd an bc qd pn qc) 81
  have hb := ((Bl.refl w).alloc (.cells (arcCs n parts ad an ac pd pn pc).toArray 81)).alloc (.cells (arcCs n parts bd an bc qd pn qc).toArray 81)
  unfold arcCs at hA hB hb
  have HX := Lib.hid hx
  have HY := Lib.hid hy
  have HP := Lib.hid hp
  have HQ := Lib.hid hq
  have h1 : (n == n) = true := by simp
  have h2 : (parts == parts) = true := by simp
  clear hx hy hp hq
  go_enter Try.func43, Try.ntmps43
  go_upto_region 1 with fail
  generalize (w.alloc (.cells #[.int .i64 n, .int .i64 parts, .slice ad an ac, .slice pd pn pc] 81)).alloc _ = W at *
  obtain ⟨a0, a1, a2, a3⟩ := AC.arc hA
  obtain ⟨b0, b1, b2, b3⟩ := AC.arc hB
  have HA := Lib.hid hA
  have HBB := Lib.hid hB
  have HBL := Lib.hid hb
  clear hA hB hb
  go_wp2_with fail
  refine (rsame_any _ _ _ _ _ _ xs xs _ (HX.out.keep HBL.out) (HY.out.keep HBL.out)).mono ?_
  rintro e w1 ⟨rfl, hb1⟩
  rw [decide_eq_true rfl]
  have HB1 := Lib.hid (HBL.out.trans hb1)
  obtain ⟨a0', a1', a2', a3'⟩ := AC.arc (HA.out.keep hb1)
  obtain ⟨b0', b1', b2', b3'⟩ := AC.arc (HBB.out.keep hb1)
  clear a0 a1 a2 a3 b0 b1 b2 b3 hb1
  go_wp2_with fail
  refine (samePairs_yes _ _ _ _ _ ps qs _ (HP.out.keep HB1.out) (HQ.out.keep HB1.out) h).mono ?_
  rintro e w2 ⟨rfl, hb2⟩
  go_wp2_with fail
  go_ret
  exact ⟨rfl, HB1.out.trans hb2⟩
end Go.Proofs.Ytechiehbigmjbaa
