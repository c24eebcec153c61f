/- raw.Digits. By an AI agent. -/
import Derived.Test.YtgdlcoicejgdkaaDoorRaw0
namespace Go.Proofs.YtgdlcoicejgdkaaDoor
open Go.RowKit

theorem slice_arr20 (g i : Nat) (x : Int) (hx : x = i) (h : i < 20) (w : World) :
    (Instr.sliceAt 133 (.pointer (some ⟨g, 0, none⟩)) (some (.int .i64 x)) none none).run Tryd.prog w = .ok (.slice (some ⟨g, i, none⟩) (20 - i) (20 - i)) w := by
  subst hx
  have hne : ¬ (20 : Nat) = i := by omega
  have hle : (i : Int) ≤ 20 := by omega
  have ha : Addr.add ⟨g, 0, none⟩ i = ⟨g, i, none⟩ := by unfold Addr.add; split <;> simp_all
  simp [Instr.sliceAt, Instr.sureAddr, run_underlying Tryd.underlying133, Instr.sliceBounds, run_sliceBound, hne, hle, Result.andThen, ha]

set_option maxHeartbeats 1600000 in
set_option maxRecDepth 100000 in
theorem digits_any (v : Int) (w : World) (h0 : -9223372036854775808 ≤ v) (h1 : v ≤ 9223372036854775807) :
    Calls Tryd.prog 97 #[.int .i64 v] w fun e w' => e = .returned (.string (strOfNums (digL v))) ∧ Bl w w' := by
  have hu : ∃ u : Nat, u = v.natAbs ∧ u ≤ 9223372036854775808 := ⟨_, rfl, by omega⟩
  obtain ⟨u, hu, hu1⟩ := hu
  have HLU := Lib.hid (decD_len 18 u (by omega))
  have har : AR (w.alloc (.cells #[.int .u8 0, .int .u8 0, .int .u8 0, .int .u8 0, .int .u8 0, .int .u8 0, .int .u8 0, .int .u8 0, .int .u8 0, .int .u8 0, .int .u8 0, .int .u8 0, .int .u8 0, .int .u8 0, .int .u8 0, .int .u8 0, .int .u8 0, .int .u8 0, .int .u8 0, .int .u8 0] 133)) w.heap.size (List.replicate 20 0) := ⟨133, by
    rw [heap_alloc_new]; rfl⟩
  have hbl := (Bl.refl w).alloc (.cells #[.int .u8 0, .int .u8 0, .int .u8 0, .int .u8 0, .int .u8 0, .int .u8 0, .int .u8 0, .int .u8 0, .int .u8 0, .int .u8 0, .int .u8 0, .int .u8 0, .int .u8 0, .int .u8 0, .int .u8 0, .int .u8 0, .int .u8 0, .int .u8 0, .int .u8 0, .int .u8 0] 133)
  have HU := Lib.hid hu; clear hu
  have HU1 := Lib.hid hu1; clear hu1
  have H0 := Lib.hid h0; clear h0
  have H1 := Lib.hid h1; clear h1
  by_cases hneg : v < 0
  · have HDL := Lib.hid (show digL v = 45 :: decD u from by rw [digL, if_pos hneg, HU.out])
    go_enter Tryd.func97, Tryd.ntmps97
    go_wp2
    go_loopw [4, 5] (fun n i wr => ∃ (m k : Nat) (xs t : List Int), n = .int .u64 m ∧ i = .int .i64 k ∧ xs.length = 20 ∧ AR wr w.heap.size xs ∧ Bl w wr ∧ xs.drop k = t ∧ k ≤ 20 ∧ m ≤ 9223372036854775808 ∧ decD u = decD m ++ t) (fun _ i _ => (intOf i).toNat)
    case atStart => exact ⟨u, 20, _, [], by
      have h0 := H0.out; have h1 := H1.out; have hu := HU.out
      congr 1; simp only [IntKind.wrap_u64]; omega, rfl, List.length_replicate, har, hbl, rfl, Nat.le_refl _, HU1.out, by simp⟩
    case round =>
      clear har hbl
      obtain ⟨m, k, xs, t, rfl, rfl, hxl, har, hb, ht, hk, hm, hd⟩ := hrel
      have hk2 : 2 ≤ k := by
        have h1 := HLU.out.2
        rw [hd, List.length_append] at h1
        have h2 := decD_pos m
        have h3 : t.length = 20 - k := by rw [← ht, List.length_drop, hxl]
        omega
      have hw : IntKind.u64.wrap ((m : Int) / 10) = (m : Int) / 10 := by rw [IntKind.wrap_u64]; omega
      have HX := Lib.hid hxl
      have HT := Lib.hid ht
      have HD := Lib.hid hd
      have HM := Lib.hid hm
      clear ht hd hm
      have hc1 := har.cell (k - 1) (by omega)
      have hc2 := har.cell (k - 1 - 1) (by omega)
      have hf1 := har.frozen (k - 1)
      have hf2 := har.frozen (k - 1 - 1)
      clear hxl
      generalize nth xs (k - 1) = o1 at hc1
      generalize nth xs (k - 1 - 1) = o2 at hc2
      have HT2 := Lib.hid (drop_set_pred (by omega) (by rw [HX.out]; exact hk) HT.out (48 + (m : Int) % 10))
      have har1 := har.set (k - 1) (48 + (m : Int) % 10)
      by_cases hm10 : m < 10
      · have hq : ((m : Int) / 10 == 0) = true := by simp; omega
        have hdd : digL v = 45 :: (48 + (m : Int) % 10) :: t := by
          rw [HDL.out, HD.out, decD_small hm10, show (m : Int) % 10 = m by omega]; rfl
        have HDD := Lib.hid hdd; clear hdd
        have har2 := har1.set (k - 1 - 1) 45
        have hsx := har2.string (k - 1 - 1) (20 - (k - 1 - 1)) (20 - (k - 1 - 1)) (by simp [HX.out]; omega)
        have hsl := slice_arr20 w.heap.size (k - 1 - 1) ((k : Int) - 1 - 1) (by omega) (by omega)
        have HT3 := Lib.hid (drop_set_pred (xs := xs.set (k - 1) (48 + (m : Int) % 10)) (by omega) (by simp [HX.out]; omega) HT2.out 45)
        go_wp2
        go_ret
        exact ⟨ret_str (by rw [HDD.out, HT3.out]), (hb.setCell (Nat.le_refl _) _).setCell (Nat.le_refl _) _⟩
      · have hq : ((m : Int) / 10 == 0) = false := by simp; omega
        have HD2 := Lib.hid (decD_big hm10)
        go_wp2
        go_roundw
        case rel => exact ⟨m / 10, k - 1, _, _, by go_num, by go_num, by simp [HX.out], har1, hb.setCell (Nat.le_refl _) _, HT2.out, by omega, by have := HM.out; omega, by rw [HD.out, HD2.out]; simp⟩
        case measure => simp [intOf]; omega
  · have HDL := Lib.hid (show digL v = decD u from by rw [digL, if_neg hneg, HU.out])
    go_enter Tryd.func97, Tryd.ntmps97
    go_wp2
    go_loopw [4, 5] (fun n i wr => ∃ (m k : Nat) (xs t : List Int), n = .int .u64 m ∧ i = .int .i64 k ∧ xs.length = 20 ∧ AR wr w.heap.size xs ∧ Bl w wr ∧ xs.drop k = t ∧ k ≤ 20 ∧ m ≤ 9223372036854775808 ∧ decD u = decD m ++ t) (fun _ i _ => (intOf i).toNat)
    case atStart => exact ⟨u, 20, _, [], by
      have h0 := H0.out; have h1 := H1.out; have hu := HU.out
      congr 1; simp only [IntKind.wrap_u64]; omega, rfl, List.length_replicate, har, hbl, rfl, Nat.le_refl _, HU1.out, by simp⟩
    case round =>
      clear har hbl
      obtain ⟨m, k, xs, t, rfl, rfl, hxl, har, hb, ht, hk, hm, hd⟩ := hrel
      have hk2 : 2 ≤ k := by
        have h1 := HLU.out.2
        rw [hd, List.length_append] at h1
        have h2 := decD_pos m
        have h3 : t.length = 20 - k := by rw [← ht, List.length_drop, hxl]
        omega
      have hw : IntKind.u64.wrap ((m : Int) / 10) = (m : Int) / 10 := by rw [IntKind.wrap_u64]; omega
      have HX := Lib.hid hxl
      have HT := Lib.hid ht
      have HD := Lib.hid hd
      have HM := Lib.hid hm
      clear ht hd hm
      have hc1 := har.cell (k - 1) (by omega)
      have hc2 := har.cell (k - 1 - 1) (by omega)
      have hf1 := har.frozen (k - 1)
      have hf2 := har.frozen (k - 1 - 1)
      clear hxl
      generalize nth xs (k - 1) = o1 at hc1
      generalize nth xs (k - 1 - 1) = o2 at hc2
      have HT2 := Lib.hid (drop_set_pred (by omega) (by rw [HX.out]; exact hk) HT.out (48 + (m : Int) % 10))
      have har1 := har.set (k - 1) (48 + (m : Int) % 10)
      by_cases hm10 : m < 10
      · have hq : ((m : Int) / 10 == 0) = true := by simp; omega
        have hdd : digL v = (48 + (m : Int) % 10) :: t := by
          rw [HDL.out, HD.out, decD_small hm10, show (m : Int) % 10 = m by omega]; rfl
        have HDD := Lib.hid hdd; clear hdd
        have hsl := slice_arr20 w.heap.size (k - 1) ((k : Int) - 1) (by omega) (by omega)
        have hsx := har1.string (k - 1) (20 - (k - 1)) (20 - (k - 1)) (by simp [HX.out]; omega)
        go_wp2
        go_ret
        exact ⟨ret_str (by rw [HDD.out, HT2.out]), hb.setCell (Nat.le_refl _) _⟩
      · have hq : ((m : Int) / 10 == 0) = false := by simp; omega
        have HD2 := Lib.hid (decD_big hm10)
        go_wp2
        go_roundw
        case rel => exact ⟨m / 10, k - 1, _, _, by go_num, by go_num, by simp [HX.out], har1, hb.setCell (Nat.le_refl _) _, HT2.out, by omega, by have := HM.out; omega, by rw [HD.out, HD2.out]; simp⟩
        case measure => simp [intOf]; omega
end Go.Proofs.YtgdlcoicejgdkaaDoor
