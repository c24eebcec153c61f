/- IkeyFolded, walked. By an AI agent. -/
import Derived.Test.YtgdlcoicejgdkaaDoorIkeyHeadsX
import Derived.Test.YtgdlcoicejgdkaaDoorIkeyO
import Derived.Test.YtgdlcoicejgdkaaDoorIkeyT
import Derived.Sort.Walk0
namespace Go.Proofs.YtgdlcoicejgdkaaDoor
open Go.RowKit

/-- what was folded stands ahead -/
theorem folded_less {key : ByteArray} {xs : List Int} {t : Int} {A : ActL} {o : Nat} (hv : ValidK ⟨key, xs, 254, t, A⟩) (ho : o < xs.length) :
    ValidK ⟨key, xs, o, t, A⟩ ∧ less (putK ⟨key, xs, 254, t, A⟩) (putK ⟨key, xs, o, t, A⟩) = true ∧ nth xs o ≤ maxL xs := by
  have hl : 1 ≤ xs.length ∧ xs.length ≤ 8 := hv.len
  have hw : ValidK ⟨key, xs, o, t, A⟩ := ⟨hv.key, hv.at_, by show (0 : Int) ≤ o; omega, .inl (by show (o : Int) < xs.length; omega), hv.t0, hv.t1⟩
  have e1 : timeL ⟨key, xs, 254, t, A⟩ = maxL xs := by
    unfold timeL; rw [if_pos ⟨rfl, by show 0 < xs.length; omega⟩]
  have e2 : timeL ⟨key, xs, (o : Int), t, A⟩ = nth xs o := by
    unfold timeL
    rw [if_neg (by rintro ⟨h, -⟩; have h : (o : Int) = 254 := h; omega), if_pos ⟨by show (0 : Int) ≤ o; omega, by show (o : Int) < xs.length; omega⟩]
    rfl
  have hm := (maxL_mem (xs := xs) (by intro e; rw [e] at hl; simp at hl)).2 (nth xs o) (by rw [nth_eq ho]; exact List.getElem_mem ho)
  refine ⟨hw, ?_, hm⟩
  unfold putK
  rw [less_same]
  rcases tail_less hv hw with ⟨-, h, -⟩ | h
  · have h : (254 : Int) = o := h
    omega
  · rw [h, e1, e2]
    refine decide_eq_true ?_
    show maxL xs > nth xs o ∨ (maxL xs = nth xs o ∧ ((254 : Int) > o ∨ _))
    by_cases h2 : maxL xs > nth xs o
    · exact .inl h2
    · exact .inr ⟨by omega, .inl (by omega)⟩

set_option maxHeartbeats 3200000 in
set_option maxRecDepth 100000 in
theorem ikeyFolded_walk (a : Option Addr) (n ca : Nat) (V : VerL) (o : Int) (w : World) (hI : IA w a n V.at_) (hV : VR V) (ho : -9223372036854775808 ≤ o ∧ o ≤ 9223372036854775807) :
    Calls Tryd.prog 7 #[.agg #[.string V.key, .slice a n ca, .int .i64 V.origin, .int .i64 V.tx, .int .i64 V.act.k, .float .f64 V.act.x, .int .i64 V.act.n, .string V.act.s], .int .i64 o] w
      fun e w' => e = .returned (.bool true) ∧ Bl w w' := by
  have hsf := store_float
  have hkV := hV.key
  obtain ⟨key, xs, vo, t, k, x, m, s⟩ := V
  dsimp only at hI hkV ⊢
  have HL := Lib.hid hI.len
  have hcap := hI.cap
  have A1 := ver_box w key a n ca 254 t k x m s
  have B1 : Bl w (w.alloc (.cells #[.string key, .slice a n ca, .int .i64 254, .int .i64 t, .int .i64 k, .float .f64 x, .int .i64 m, .string s] 30)) := (Bl.refl w).alloc _
  obtain ⟨a0, a1, a2, a3, a4, a5, a6, a7⟩ := A1.ver
  clear hV
  go_enter Tryd.func7, Tryd.ntmps7
  go_wp2_with fail
  refine (kput_any key a n ca xs 254 t k x m s ⟨(kputS ⟨key, xs, 254, t, ⟨k, x, m, s⟩⟩).toArray⟩ (kputC ⟨key, xs, 254, t, ⟨k, x, m, s⟩⟩) _ hkV (hI.keep B1) (Lib.hid ⟨SB.mk _, rfl⟩)).mono ?_
  rintro e w1 ⟨rfl, hb1⟩
  have A2 := A1.keep hb1
  have B2 : Bl w w1 := B1.trans hb1
  clear a0 a1 a2 a3 a4 a5 a6 a7 A1 B1 hb1
  cases hv : validK ⟨key, xs, 254, t, ⟨k, x, m, s⟩⟩
  · rw [show kputC ⟨key, xs, 254, t, ⟨k, x, m, s⟩⟩ = 1 from by unfold kputC; rw [hv]; rfl]
    generalize (⟨(kputS ⟨key, xs, 254, t, ⟨k, x, m, s⟩⟩).toArray⟩ : ByteArray) = z1
    go_wp2_with fail
    refine (alive5_any _).mono ?_
    rintro e w3 ⟨rfl, hb3⟩
    go_wp2_with fail
    go_ret
    exact ⟨rfl, B2.trans hb3⟩
  have KV := (validK_iff _).1 hv
  rw [show kputC ⟨key, xs, 254, t, ⟨k, x, m, s⟩⟩ = 0 from by unfold kputC; rw [hv]; rfl, show kputS ⟨key, xs, 254, t, ⟨k, x, m, s⟩⟩ = putK ⟨key, xs, 254, t, ⟨k, x, m, s⟩⟩ from by unfold kputS; rw [hv]; rfl]
  have ps : SB ⟨(putK ⟨key, xs, 254, t, ⟨k, x, m, s⟩⟩).toArray⟩ (putK ⟨key, xs, 254, t, ⟨k, x, m, s⟩⟩) := SB.mk _
  generalize (⟨(putK ⟨key, xs, 254, t, ⟨k, x, m, s⟩⟩).toArray⟩ : ByteArray) = p1 at *
  have HPS := Lib.hid ps
  have HKV := Lib.hid KV
  clear ps hv KV
  obtain ⟨a0, a1, a2, a3, a4, a5, a6, a7⟩ := A2.ver
  have A5 := ver_box w1 key a n ca o t k x m s
  have hb3 : Bl w1 (w1.alloc (.cells #[.string key, .slice a n ca, .int .i64 o, .int .i64 t, .int .i64 k, .float .f64 x, .int .i64 m, .string s] 30)) := (Bl.refl w1).alloc _
  have A4 := A2.keep hb3
  have B5 : Bl w _ := B2.trans hb3
  have c0 := A4.ver
  have d0 := A5.ver
  obtain ⟨c0, c1, c2, c3, c4, c5, c6, c7⟩ := c0
  obtain ⟨d0, d1, d2, d3, d4, d5, d6, d7⟩ := d0
  by_cases hneg : o < 0
  · go_wp2_with fail
    refine (alive5_any _).mono ?_
    rintro e w3 ⟨rfl, hb3⟩
    go_wp2_with fail
    go_ret
    exact ⟨rfl, B5.trans hb3⟩
  by_cases hge : (n : Int) ≤ o
  · go_wp2_with fail
    refine (alive5_any _).mono ?_
    rintro e w3 ⟨rfl, hb3⟩
    go_wp2_with fail
    go_ret
    exact ⟨rfl, B5.trans hb3⟩
  obtain ⟨j, rfl⟩ : ∃ j : Nat, o = j := ⟨o.toNat, by omega⟩
  have hjn : j < n := by omega
  obtain ⟨hvW, hless, hmost⟩ := folded_less HKV.out (o := j) (by rw [HL.out]; exact hjn)
  have hvW2 := (validK_iff _).2 hvW
  have HLess := Lib.hid hless
  have HMost := Lib.hid hmost
  have HvW2 := Lib.hid hvW2
  clear hless hmost hvW hvW2
  go_wp2_with fail
  refine (kput_any key a n ca xs j t k x m s ⟨(putK ⟨key, xs, j, t, ⟨k, x, m, s⟩⟩).toArray⟩ 0 _ hkV (hI.keep B5) (Lib.hid ⟨by unfold kputS; rw [HvW2.out]; exact SB.mk _, by unfold kputC; rw [HvW2.out]; rfl⟩)).mono ?_
  rintro e w5 ⟨rfl, hb5⟩
  have pt : SB ⟨(putK ⟨key, xs, j, t, ⟨k, x, m, s⟩⟩).toArray⟩ (putK ⟨key, xs, j, t, ⟨k, x, m, s⟩⟩) := SB.mk _
  generalize (⟨(putK ⟨key, xs, j, t, ⟨k, x, m, s⟩⟩).toArray⟩ : ByteArray) = p2 at *
  have q2 : Op.bytesLess p1.toList p2.toList = true := by
    rw [ByteArray.toList_eq, ByteArray.toList_eq, show p1.data.toList = _ from HPS.out, show p2.data.toList = _ from pt]; exact HLess.out
  have A6 := A4.keep hb5
  have B6 : Bl w w5 := B5.trans hb5
  clear c0 c1 c2 c3 c4 c5 c6 c7 d0 d1 d2 d3 d4 d5 d6 d7 a0 a1 a2 a3 a4 a5 a6 a7 A2 A4 A5 B5 B2 hb3 hb5 pt
  go_wp2_with fail
  go_loopw [10, 11] (fun v i wr => ∃ (q : Nat) (y : Int), q ≤ n ∧ i = .int .i64 q ∧ v = .int .i64 y ∧ Bl w wr ∧ AC wr w.heap.size (verC key a n ca 254 t k x m s) ∧ Hid (y = if q = 0 then 0 else runL xs q)) (fun _ i _ => n - (intOf i).toNat)
  case atStart => exact ⟨0, 0, Nat.zero_le _, rfl, rfl, B6, A6, Lib.hid rfl⟩
  case round =>
    clear B6 A6
    obtain ⟨q, y, hq, rfl, rfl, hb, hA, HY⟩ := hrel
    have d1 := hA.ver.2.1
    by_cases hlt : q < n
    · obtain ⟨ba, oa, rfl, hck⟩ := (hI.keep hb).at_k q hlt
      have hk2 : q < xs.length := by rw [HL.out]; exact hlt
      have HR : Hid (max y (nth xs q) = if q + 1 = 0 then 0 else runL xs (q + 1)) := Lib.hid (by
        rw [if_neg (by omega), HY.out]
        by_cases hz : q = 0
        · subst hz
          rw [if_pos rfl, runL_one hk2]
          have := (valid_mem HKV.out.at_ (x := nth xs 0) (by rw [nth_eq hk2]; exact List.getElem_mem hk2)).1
          omega
        · rw [if_neg hz, runL_succ hz hk2])
      clear ho
      by_cases hgt : y < nth xs q
      · go_wp2_with fail
        go_roundw
        case rel => exact ⟨q + 1, _, by omega, by go_num, rfl, hb, hA, Lib.hid (by rw [← HR.out])⟩
        case measure => simp [intOf]; omega
      · go_wp2_with fail
        go_roundw
        case rel => exact ⟨q + 1, _, by omega, by go_num, rfl, hb, hA, Lib.hid (by rw [← HR.out])⟩
        case measure => simp [intOf]; omega
    · obtain rfl : q = n := by omega
      have hym : nth xs j ≤ y := by
        rw [HY.out, if_neg (by omega)]
        have := HMost.out
        rw [← runL_all, HL.out] at this
        exact this
      go_wp2_with fail
      refine (alive5_any _).mono ?_
      rintro e w7 ⟨rfl, hb7⟩
      have B8 := hb.trans hb7
      have d1 := (hA.keep hb7).ver.2.1
      obtain ⟨ba, oa, rfl, hck⟩ := (hI.keep B8).at_k j hjn
      go_wp2_with fail
      go_ret
      first | exact ⟨rfl, B8⟩ | exact ⟨ret_bool (by simp; omega), B8⟩
end Go.Proofs.YtgdlcoicejgdkaaDoor
