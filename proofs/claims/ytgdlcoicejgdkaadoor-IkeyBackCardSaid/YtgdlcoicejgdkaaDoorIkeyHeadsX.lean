/- IkeyHeads, walked. By an AI agent. -/
import Derived.Test.YtgdlcoicejgdkaaDoorIkeyA
import Derived.Test.YtgdlcoicejgdkaaDoorLiftU
namespace Go.Proofs.YtgdlcoicejgdkaaDoor
open Go.RowKit

theorem SB.front {y : ByteArray} {ly : List UInt8} (hy : SB y ly) (n : Nat) : SB (y.extract 0 n) (ly.take n) := by
  rw [SB, Lib.extract_data, show y.data.toList = ly from hy]; simp
theorem front_ne {x y : ByteArray} {lx ly : List UInt8} (hx : SB x lx) (hy : SB y ly) (h : ∀ z, ly ≠ lx ++ z) : ((y.extract 0 x.size).toList == x.toList) = false := by
  rw [SB.beq (hy.front x.size) hx]
  refine decide_eq_false (fun e => h (ly.drop x.size) ?_)
  conv => lhs; rw [← List.take_append_drop x.size ly, e]
theorem front_eq {x y : ByteArray} {lx ly z : List UInt8} (hx : SB x lx) (hy : SB y ly) (h : ly = lx ++ z) : ((y.extract 0 x.size).toList == x.toList) = true := by
  rw [SB.beq (hy.front x.size) hx]
  refine decide_eq_true ?_
  rw [h, hx.size, List.take_left]

set_option maxHeartbeats 3200000 in
set_option maxRecDepth 100000 in
theorem ikeyHeads_walk (s0 s1 : ByteArray) (a : Option Addr) (n ca : Nat) (V : VerL) (w : World) (hs0 : s0.size ≤ 140737488351232) (hs1 : s1.size ≤ 140737488351232) (hI : IA w a n V.at_) (_hR : VR V) :
    Calls Tryd.prog 6 #[.string s0, .string s1, .agg #[.string V.key, .slice a n ca, .int .i64 V.origin, .int .i64 V.tx, .int .i64 V.act.k, .float .f64 V.act.x, .int .i64 V.act.n, .string V.act.s]] w
      fun e w' => e = .returned (.bool true) ∧ Bl w w' := by
  have hsf := store_float
  have hb0 := (Bl.refl w).alloc (.cells #[.string V.key, .slice a n ca, .int .i64 V.origin, .int .i64 V.tx, .int .i64 V.act.k, .float .f64 V.act.x, .int .i64 V.act.n, .string V.act.s] 30)
  have hA0 := ver_box w V.key a n ca V.origin V.tx V.act.k V.act.x V.act.n V.act.s
  by_cases hbig : 3000 < s0.size + s1.size
  · go_enter Tryd.func6, Tryd.ntmps6
    go_wp2_with fail
    refine (alive5_any _).mono ?_
    rintro e w1 ⟨rfl, hb1⟩
    go_wp2_with fail
    go_ret
    exact ⟨rfl, hb0.trans hb1⟩
  by_cases heq : s0 = s1
  · subst heq
    go_enter Tryd.func6, Tryd.ntmps6
    go_wp2_with fail
    refine (alive5_any _).mono ?_
    rintro e w1 ⟨rfl, hb1⟩
    go_wp2_with fail
    go_ret
    exact ⟨rfl, hb0.trans hb1⟩
  · generalize hl0 : s0.data.toList = l0
    generalize hl1 : s1.data.toList = l1
    have hne : ¬ l0 = l1 := fun e => heq (ByteArray.ext (Array.toList_inj.1 (by rw [hl0, hl1, e])))
    have q1 : (s0.toList == s1.toList) = false := by rw [SB.beq (show SB s0 l0 from hl0) (show SB s1 l1 from hl1)]; exact decide_eq_false hne
    have HL0 : Hid (SB s0 l0) := Lib.hid hl0
    have HL1 : Hid (SB s1 l1) := Lib.hid hl1
    have HN := Lib.hid hne
    clear hl0 hl1 heq hne
    go_enter Tryd.func6, Tryd.ntmps6
    go_wp2_with fail
    refine (head_any s0 l0 _ HL0.out (by omega)).mono ?_
    rintro e w1 ⟨rfl, hb1⟩
    go_wp2_with fail
    refine (head_any s1 l1 _ HL1.out (by omega)).mono ?_
    rintro e w2 ⟨rfl, hb2⟩
    have hB2 := hb1.trans hb2
    have hA2 := hA0.keep hB2
    have hb := hb0.trans hB2
    clear hb1 hb2 hB2 hA0 hb0 q1
    generalize hx : (⟨(headL l0).toArray⟩ : ByteArray) = x
    generalize hy : (⟨(headL l1).toArray⟩ : ByteArray) = y
    have HX : Hid (SB x (headL l0)) := Lib.hid (by rw [← hx]; exact SB.mk _)
    have HY : Hid (SB y (headL l1)) := Lib.hid (by rw [← hy]; exact SB.mk _)
    clear hx hy
    have q1 : (x.toList == y.toList) = false := by
      rw [SB.beq HX.out HY.out]; exact decide_eq_false (fun e => HN.out (head_inj e))
    have q2 : ((y.extract 0 x.size).toList == x.toList) = false := front_ne HX.out HY.out (fun z e => HN.out (head_no_prefix e))
    have q3 : ((x.extract 0 y.size).toList == y.toList) = false := front_ne HY.out HX.out (fun z e => HN.out (head_no_prefix e).symm)
    have hs64 := HX.out.size
    have hs65 := HY.out.size
    have hu0 := (headL_len l0).2
    have hu1 := (headL_len l1).2
    have hv0 := HL0.out.size
    have hv1 := HL1.out.size
    have hxz : x.size ≤ 6002 := by omega
    have hyz : y.size ≤ 6002 := by omega
    clear hs64 hs65 hu0 hu1 hv0 hv1
    obtain ⟨V', hV'⟩ : ∃ V' : VerL, (⟨s0, V.at_, V.origin, V.tx, ⟨V.act.k, V.act.x, V.act.n, V.act.s⟩⟩ : VerL) = V' := ⟨_, rfl⟩
    have hpk : putK V' = headL l0 ++ tailK V' := by
      rw [← hV']; unfold putK; rw [show s0.data.toList = l0 from HL0.out]
    have hk := hA2.cell 0 _ rfl
    have hf := hA2.frozen 0
    have hA3 : AC (w2.setCell ⟨w.heap.size, 0, none⟩ (.string s0)) w.heap.size (verC s0 a n ca V.origin V.tx V.act.k V.act.x V.act.n V.act.s) := hA2.setj 0 (.string s0)
    obtain ⟨d0, d1, d2, d3, d4, d5, d6, d7⟩ := hA3.ver
    have hb3 : Bl w (w2.setCell ⟨w.heap.size, 0, none⟩ (.string s0)) := hb.setCell (p := ⟨w.heap.size, 0, none⟩) (Nat.le_refl _) (.string s0)
    have hI3 := hI.keep hb3
    have HPK := Lib.hid hpk
    have HV' := Lib.hid hV'
    clear hpk hV' hA2 hA3 hb
    have hcases : x.size < y.size ∨ (x.size ≤ y.size ∧ y.size ≤ x.size) ∨ y.size < x.size := by omega
    rcases hcases with h | ⟨h, h'⟩ | h
    all_goals
      go_wp2_with fail
      refine (kput_any s0 a n ca V.at_ V.origin V.tx V.act.k V.act.x V.act.n V.act.s ⟨(kputS V').toArray⟩ (kputC V') _ hs0 hI3 (Lib.hid (by rw [HV'.out]; exact ⟨SB.mk _, rfl⟩))).mono ?_
      rintro e w4 ⟨rfl, hb4⟩
      have hB4 := hb3.trans hb4
      clear hb3 hb4 hI3 d0 d1 d2 d3 d4 d5 d6 d7 hk hf
      cases hvk : validK V'
      · rw [show kputC V' = 1 from by unfold kputC; rw [hvk]; rfl]
        generalize (⟨(kputS V').toArray⟩ : ByteArray) = z
        go_wp2_with fail
        refine (alive5_any _).mono ?_
        rintro e w5 ⟨rfl, hb5⟩
        go_wp2_with fail
        go_ret
        exact ⟨rfl, hB4.trans hb5⟩
      · rw [show kputC V' = 0 from by unfold kputC; rw [hvk]; rfl, show kputS V' = putK V' from by unfold kputS; rw [hvk]; rfl, HPK.out]
        generalize hr : (⟨(headL l0 ++ tailK V').toArray⟩ : ByteArray) = r
        have hR : SB r (headL l0 ++ tailK V') := by rw [← hr]; exact SB.mk _
        have r1 : ((r.extract 0 x.size).toList == x.toList) = true := front_eq HX.out hR rfl
        have r2 : ((r.extract 0 y.size).toList == y.toList) = false := front_ne HY.out hR (fun z e => HN.out (head_split _ _ _ _ e).1)
        have r3 : x.size + 13 ≤ r.size := by rw [HX.out.size, hR.size]; unfold tailK; simp only [List.length_append, putB_len]; omega
        clear hr hR hvk
        go_wp2_with fail
        refine (alive5_any _).mono ?_
        rintro e w5 ⟨rfl, hb5⟩
        have hB5 := hB4.trans hb5
        clear hB4 hb5
        go_wp2_with fail
        all_goals (go_ret; exact ⟨ret_bool (by simp_all), hB5⟩)
end Go.Proofs.YtgdlcoicejgdkaaDoor
