/- real.parts; math/bits.Len64. · raw.Digits. · real.Text. By an AI agent. -/
import Derived.Test.YtgdlcoicejgdkaaDoorMath3
import Derived.Test.YtgdlcoicejgdkaaDoorBase
namespace Go.Proofs.YtgdlcoicejgdkaaDoor
open Go.RowKit Ieee

/-- a number's odd digits, and their place -/
def tzS (r : Nat) : Nat := Lib.ctz 64 (normS r)
def oddM (r : Nat) : Nat := normS r / 2 ^ tzS r
def oddE (r : Nat) : Int := normP r + tzS r

theorem cut_zero_way (s : Bool) (n : Nat) : Toward.zero.cut s n 0 = n := by
  unfold Toward.cut; simp
theorem to_int_whole (S : Nat) (h1 : two52 ≤ S) (h2 : S < 2 * two52) : floatToIntVal .f64 (1074 * two52 + S) .u64 = some (S : Int) := by
  have hf : S - two52 < two52 := by omega
  have e : 1074 * two52 + S = 1075 * two52 + (S - two52) := by
    have h3 : 1075 * two52 = 1074 * two52 + two52 := Nat.succ_mul 1074 two52
    rw [h3]
    generalize 1074 * two52 = Z
    omega
  obtain ⟨p1, p2⟩ := word_parts 1075 (S - two52) hf
  have hge : two52 ≤ 1075 * two52 + (S - two52) := by
    exact Nat.le_trans (Nat.le_mul_of_pos_left two52 (show 0 < 1075 by decide)) (Nat.le_add_right _ _)
  unfold floatToIntVal
  rw [e]
  have hr : FloatKind.f64.decode (1075 * two52 + (S - two52)) = .number false S 0 := by
    have hd : ∀ z, FloatKind.f64.decode z = Ieee.double.read z := fun _ => rfl
    rw [hd, read_normal hge (word_lt_inf 1075 _ hf (by decide)), p1, p2]
    have e5 : two52 + (S - two52) = S := by omega
    have e6 : ((1075 : Nat) : Int) - 1075 = 0 := by omega
    rw [e5, e6]
  rw [hr]
  have ht : (Datum.number false S 0).toInt .zero = some (S : Int) := by
    unfold Datum.toInt Datum.integral
    simp only [Int.toNat_zero, Nat.shiftLeft_zero, Int.neg_zero, cut_zero_way, signed]
    simp
  rw [ht]
  have hb : IntKind.u64.min ≤ (S : Int) ∧ (S : Int) ≤ IntKind.u64.max := by
    have : IntKind.u64.min = 0 := by decide
    have h3 : IntKind.u64.max = 18446744073709551615 := by decide
    rw [this, h3]
    unfold two52 at h2
    omega
  simp only [if_pos hb]

theorem tz_bound {r : Nat} (h0 : r ≠ 0) : tzS r < 53 ∧ ∃ m, normS r = 2 ^ tzS r * (2 * m + 1) := by
  have h1 := normS_ge h0
  have h2 := normS_lt h0
  have hn : normS r ≠ 0 := by unfold two52 at h1; omega
  have hl : normS r < 2 ^ 64 := by unfold two52 at h2; omega
  have e : tzS r = Lib.ctzFrom 64 (normS r) := by unfold tzS Lib.ctz; rw [if_neg hn]
  obtain ⟨m, hm, _⟩ := Lib.ctzFrom_spec 64 (normS r) (by omega) hl
  rw [← e] at hm
  refine ⟨?_, m, hm⟩
  have hle : 2 ^ tzS r ≤ normS r := by
    calc 2 ^ tzS r ≤ 2 ^ tzS r * (2 * m + 1) := Nat.le_mul_of_pos_right _ (by omega)
      _ = normS r := hm.symm
  have hlt : 2 ^ tzS r < 2 ^ 53 := by
    have : 2 * two52 = 2 ^ 53 := by decide
    omega
  exact (Nat.pow_lt_pow_iff_right (by decide)).1 hlt
theorem oddM_odd {r : Nat} (h0 : r ≠ 0) : oddM r % 2 = 1 ∧ normS r = oddM r * 2 ^ tzS r ∧ oddM r < 2 * two52 := by
  obtain ⟨hk, m, hm⟩ := tz_bound h0
  have h2 := normS_lt h0
  have e : oddM r = 2 * m + 1 := by
    unfold oddM
    conv => lhs; rw [hm]
    exact Nat.mul_div_cancel_left _ (Nat.two_pow_pos _)
  refine ⟨by rw [e]; omega, by rw [e, Nat.mul_comm]; exact hm, ?_⟩
  have : oddM r ≤ normS r := Nat.div_le_self _ _
  omega
theorem normP_bd {r : Nat} (h0 : r ≠ 0) (h : r < infR) : -1126 ≤ normP r ∧ normP r ≤ 971 := by
  unfold normP
  split
  · rename_i hs
    have := log2_sub h0 hs
    omega
  · have hq : r / two52 < 2047 := by rw [Nat.div_lt_iff_lt_mul (by decide)]; exact h
    generalize r / two52 = q at *
    omega

set_option maxHeartbeats 800000 in
set_option maxRecDepth 100000 in
theorem parts_any (x : Nat) (w : World) (hx : x < two64) (h0 : x % two63 ≠ 0) (h : x % two63 < infR) (hT : Tab w) :
    Calls Tryd.prog 107 #[.float .f64 x] w fun e w' => e = .returned (.tuple #[.int .i64 (oddM (x % two63)), .int .i64 (oddE (x % two63))]) ∧ w = w' := by
  generalize hr : x % two63 = r at *
  have h1 := normS_ge h0
  have h2 := normS_lt h0
  have hp := normP_bd h0 h
  obtain ⟨hk, m, hm⟩ := tz_bound h0
  have hS64 : normS r < two64 := by unfold two52 at h2; unfold two64; omega
  have hS0 : normS r ≠ 0 := by unfold two52 at h1; omega
  have HF := Lib.hid (fun w => frexp_any r w h0 h)
  have hl := fun w => ldexp_any 1022 (normS r - two52) 53 w (by decide) (by decide) (by omega) (by decide)
  have e1 : rung (two52 + (normS r - two52)) (53 + ((1022 : Nat) : Int) - 1075) = 1074 * two52 + normS r := by
    have e0 : two52 + (normS r - two52) = normS r := by omega
    rw [e0, rung_exact h1 h2 (by omega) (by omega)]
    rfl
  rw [e1, show 1022 * two52 = 4602678819172646912 from by decide] at hl
  have HL := Lib.hid hl
  have hcv : ∀ w, (convert 26 83 (.float .f64 (1074 * two52 + normS r))).run Tryd.prog w = .ok (.int .u64 (normS r)) w := fun w =>
    run_convert_float_int w 26 83 .f64 .u64 _ _ (by rw [Tryd.underlying26]; rfl) Tryd.underlying83 (to_int_whole _ h1 h2)
  have HT := Lib.hid (tz_any (normS r) hS64 hS0 w hT)
  have eM : ((normS r : Nat) : Int) / 2 ^ tzS r = (oddM r : Int) := by unfold oddM; simp
  have hMb := (oddM_odd h0).2.2
  have hM63 : (oddM r : Int) ≤ 9223372036854775807 := by unfold two52 at hMb; omega
  have EE := Lib.hid (show oddE r = normP r + (tzS r : Int) from rfl)
  have htz : Lib.ctz 64 (normS r) = tzS r := rfl
  rw [htz] at HT
  clear e1 hl hm h1 h2 hS64 hS0 h0 h
  generalize normS r = S at *
  generalize tzS r = k at *
  generalize oddM r = M at *
  generalize normP r = P at *
  go_enter Tryd.func107, Tryd.ntmps107
  go_wp2_with fail
  refine (abs_any x _ hx).mono ?_
  rintro e w' ⟨rfl, rfl⟩
  rw [hr]
  go_wp2_with fail
  refine (HF.out _).mono ?_
  rintro e w' ⟨rfl, rfl⟩
  go_wp2_with fail
  refine (HL.out _).mono ?_
  rintro e w' ⟨rfl, rfl⟩
  go_wp2_with fail
  refine (HT.out).mono ?_
  rintro e w' ⟨rfl, rfl⟩
  go_wp2_with fail
  rw [EE.out]
  go_ret2
  exact ⟨rfl, rfl⟩

/-- the shelf's contract of Len64, at this dump -/
def len_ren : Go.Shelf.Ren := ⟨fun | 129 => 108 | n => n, fun | 3 => 3 | 4 => 4 | 5 => 5 | 9 => 9 | 46 => 84 | 53 => 83 | n => n, fun | n => n⟩
theorem len_lays : Go.Proofs.Lays.n129 Tryd.prog len_ren := {
  mixed := by kernel_rfl
  f129 := Tryd.func108.trans (congrArg some (by kernel_rfl))
  t3 := Tryd.underlying3
  a3 := Tryd.isAgg3
  z3 := Tryd.sizeOf3
  v3 := Tryd.zeroValue3
  t4 := Tryd.underlying4
  a4 := Tryd.isAgg4
  z4 := Tryd.sizeOf4
  v4 := Tryd.zeroValue4
  t5 := Tryd.underlying5
  a5 := Tryd.isAgg5
  z5 := Tryd.sizeOf5
  v5 := Tryd.zeroValue5
  t9 := Tryd.underlying9
  a9 := Tryd.isAgg9
  z9 := Tryd.sizeOf9
  v9 := Tryd.zeroValue9
  t46 := Tryd.underlying84
  a46 := Tryd.isAgg84
  z46 := Tryd.sizeOf84
  v46 := Tryd.zeroValue84
  t53 := Tryd.underlying83
  a53 := Tryd.isAgg83
  z53 := Tryd.sizeOf83
  v53 := Tryd.zeroValue83 }
theorem len64_any (x : Nat) (w : World) (hx : x < two64) : Calls Tryd.prog 108 #[.int .u64 x] w fun e w' => e = .returned (.int .i64 (Lib.bitLen x)) ∧ w = w' := by
  refine (Go.Proofs.Any.bits_Len64 len_lays (x : Int) w (by omega) (by unfold two64 at hx; omega)).mono ?_
  rintro e w' ⟨rfl, rfl⟩
  exact ⟨rfl, rfl⟩
end Go.Proofs.YtgdlcoicejgdkaaDoor

namespace Go.Proofs.YtgdlcoicejgdkaaDoor
open Go.RowKit

theorem slice_arr20 (g i : Nat) (x : Int) (hx : x = i) (h : i < 20) (w : World) :
    (Instr.sliceAt 133 (.pointer (some ⟨g, 0, none⟩)) (some (.int .i64 x)) none none).run Tryd.prog w = .ok (.slice (some ⟨g, i, none⟩) (20 - i) (20 - i)) w := by
  subst hx
  have hne : ¬ (20 : Nat) = i := by omega
  have hle : (i : Int) ≤ 20 := by omega
  have ha : Addr.add ⟨g, 0, none⟩ i = ⟨g, i, none⟩ := by unfold Addr.add; split <;> simp_all
  simp [Instr.sliceAt, Instr.sureAddr, run_underlying Tryd.underlying133, Instr.sliceBounds, run_sliceBound, hne, hle, Result.andThen, ha]

set_option maxHeartbeats 1600000 in
set_option maxRecDepth 100000 in
theorem digits_any (v : Int) (w : World) (h0 : -9223372036854775808 ≤ v) (h1 : v ≤ 9223372036854775807) :
    Calls Tryd.prog 97 #[.int .i64 v] w fun e w' => e = .returned (.string (strOfNums (digL v))) ∧ Bl w w' := by
  have hu : ∃ u : Nat, u = v.natAbs ∧ u ≤ 9223372036854775808 := ⟨_, rfl, by omega⟩
  obtain ⟨u, hu, hu1⟩ := hu
  have HLU := Lib.hid (decD_len 18 u (by omega))
  have har : AR (w.alloc (.cells #[.int .u8 0, .int .u8 0, .int .u8 0, .int .u8 0, .int .u8 0, .int .u8 0, .int .u8 0, .int .u8 0, .int .u8 0, .int .u8 0, .int .u8 0, .int .u8 0, .int .u8 0, .int .u8 0, .int .u8 0, .int .u8 0, .int .u8 0, .int .u8 0, .int .u8 0, .int .u8 0] 133)) w.heap.size (List.replicate 20 0) := ⟨133, by
    rw [heap_alloc_new]; rfl⟩
  have hbl := (Bl.refl w).alloc (.cells #[.int .u8 0, .int .u8 0, .int .u8 0, .int .u8 0, .int .u8 0, .int .u8 0, .int .u8 0, .int .u8 0, .int .u8 0, .int .u8 0, .int .u8 0, .int .u8 0, .int .u8 0, .int .u8 0, .int .u8 0, .int .u8 0, .int .u8 0, .int .u8 0, .int .u8 0, .int .u8 0] 133)
  have HU := Lib.hid hu; clear hu
  have HU1 := Lib.hid hu1; clear hu1
  have H0 := Lib.hid h0; clear h0
  have H1 := Lib.hid h1; clear h1
  by_cases hneg : v < 0
  · have HDL := Lib.hid (show digL v = 45 :: decD u from by rw [digL, if_pos hneg, HU.out])
    go_enter Tryd.func97, Tryd.ntmps97
    go_wp2
    go_loopw [4, 5] (fun n i wr => ∃ (m k : Nat) (xs t : List Int), n = .int .u64 m ∧ i = .int .i64 k ∧ xs.length = 20 ∧ AR wr w.heap.size xs ∧ Bl w wr ∧ xs.drop k = t ∧ k ≤ 20 ∧ m ≤ 9223372036854775808 ∧ decD u = decD m ++ t) (fun _ i _ => (intOf i).toNat)
    case atStart => exact ⟨u, 20, _, [], by
      have h0 := H0.out; have h1 := H1.out; have hu := HU.out
      congr 1; simp only [IntKind.wrap_u64]; omega, rfl, List.length_replicate, har, hbl, rfl, Nat.le_refl _, HU1.out, by simp⟩
    case round =>
      clear har hbl
      obtain ⟨m, k, xs, t, rfl, rfl, hxl, har, hb, ht, hk, hm, hd⟩ := hrel
      have hk2 : 2 ≤ k := by
        have h1 := HLU.out.2
        rw [hd, List.length_append] at h1
        have h2 := decD_pos m
        have h3 : t.length = 20 - k := by rw [← ht, List.length_drop, hxl]
        omega
      have hw : IntKind.u64.wrap ((m : Int) / 10) = (m : Int) / 10 := by rw [IntKind.wrap_u64]; omega
      have HX := Lib.hid hxl
      have HT := Lib.hid ht
      have HD := Lib.hid hd
      have HM := Lib.hid hm
      clear ht hd hm
      have hc1 := har.cell (k - 1) (by omega)
      have hc2 := har.cell (k - 1 - 1) (by omega)
      have hf1 := har.frozen (k - 1)
      have hf2 := har.frozen (k - 1 - 1)
      clear hxl
      generalize nth xs (k - 1) = o1 at hc1
      generalize nth xs (k - 1 - 1) = o2 at hc2
      have HT2 := Lib.hid (drop_set_pred (by omega) (by rw [HX.out]; exact hk) HT.out (48 + (m : Int) % 10))
      have har1 := har.set (k - 1) (48 + (m : Int) % 10)
      by_cases hm10 : m < 10
      · have hq : ((m : Int) / 10 == 0) = true := by simp; omega
        have hdd : digL v = 45 :: (48 + (m : Int) % 10) :: t := by
          rw [HDL.out, HD.out, decD_small hm10, show (m : Int) % 10 = m by omega]; rfl
        have HDD := Lib.hid hdd; clear hdd
        have har2 := har1.set (k - 1 - 1) 45
        have hsx := har2.string (k - 1 - 1) (20 - (k - 1 - 1)) (20 - (k - 1 - 1)) (by simp [HX.out]; omega)
        have hsl := slice_arr20 w.heap.size (k - 1 - 1) ((k : Int) - 1 - 1) (by omega) (by omega)
        have HT3 := Lib.hid (drop_set_pred (xs := xs.set (k - 1) (48 + (m : Int) % 10)) (by omega) (by simp [HX.out]; omega) HT2.out 45)
        go_wp2
        go_ret
        exact ⟨ret_str (by rw [HDD.out, HT3.out]), (hb.setCell (Nat.le_refl _) _).setCell (Nat.le_refl _) _⟩
      · have hq : ((m : Int) / 10 == 0) = false := by simp; omega
        have HD2 := Lib.hid (decD_big hm10)
        go_wp2
        go_roundw
        case rel => exact ⟨m / 10, k - 1, _, _, by go_num, by go_num, by simp [HX.out], har1, hb.setCell (Nat.le_refl _) _, HT2.out, by omega, by have := HM.out; omega, by rw [HD.out, HD2.out]; simp⟩
        case measure => simp [intOf]; omega
  · have HDL := Lib.hid (show digL v = decD u from by rw [digL, if_neg hneg, HU.out])
    go_enter Tryd.func97, Tryd.ntmps97
    go_wp2
    go_loopw [4, 5] (fun n i wr => ∃ (m k : Nat) (xs t : List Int), n = .int .u64 m ∧ i = .int .i64 k ∧ xs.length = 20 ∧ AR wr w.heap.size xs ∧ Bl w wr ∧ xs.drop k = t ∧ k ≤ 20 ∧ m ≤ 9223372036854775808 ∧ decD u = decD m ++ t) (fun _ i _ => (intOf i).toNat)
    case atStart => exact ⟨u, 20, _, [], by
      have h0 := H0.out; have h1 := H1.out; have hu := HU.out
      congr 1; simp only [IntKind.wrap_u64]; omega, rfl, List.length_replicate, har, hbl, rfl, Nat.le_refl _, HU1.out, by simp⟩
    case round =>
      clear har hbl
      obtain ⟨m, k, xs, t, rfl, rfl, hxl, har, hb, ht, hk, hm, hd⟩ := hrel
      have hk2 : 2 ≤ k := by
        have h1 := HLU.out.2
        rw [hd, List.length_append] at h1
        have h2 := decD_pos m
        have h3 : t.length = 20 - k := by rw [← ht, List.length_drop, hxl]
        omega
      have hw : IntKind.u64.wrap ((m : Int) / 10) = (m : Int) / 10 := by rw [IntKind.wrap_u64]; omega
      have HX := Lib.hid hxl
      have HT := Lib.hid ht
      have HD := Lib.hid hd
      have HM := Lib.hid hm
      clear ht hd hm
      have hc1 := har.cell (k - 1) (by omega)
      have hc2 := har.cell (k - 1 - 1) (by omega)
      have hf1 := har.frozen (k - 1)
      have hf2 := har.frozen (k - 1 - 1)
      clear hxl
      generalize nth xs (k - 1) = o1 at hc1
      generalize nth xs (k - 1 - 1) = o2 at hc2
      have HT2 := Lib.hid (drop_set_pred (by omega) (by rw [HX.out]; exact hk) HT.out (48 + (m : Int) % 10))
      have har1 := har.set (k - 1) (48 + (m : Int) % 10)
      by_cases hm10 : m < 10
      · have hq : ((m : Int) / 10 == 0) = true := by simp; omega
        have hdd : digL v = (48 + (m : Int) % 10) :: t := by
          rw [HDL.out, HD.out, decD_small hm10, show (m : Int) % 10 = m by omega]; rfl
        have HDD := Lib.hid hdd; clear hdd
        have hsl := slice_arr20 w.heap.size (k - 1) ((k : Int) - 1) (by omega) (by omega)
        have hsx := har1.string (k - 1) (20 - (k - 1)) (20 - (k - 1)) (by simp [HX.out]; omega)
        go_wp2
        go_ret
        exact ⟨ret_str (by rw [HDD.out, HT2.out]), hb.setCell (Nat.le_refl _) _⟩
      · have hq : ((m : Int) / 10 == 0) = false := by simp; omega
        have HD2 := Lib.hid (decD_big hm10)
        go_wp2
        go_roundw
        case rel => exact ⟨m / 10, k - 1, _, _, by go_num, by go_num, by simp [HX.out], har1, hb.setCell (Nat.le_refl _) _, HT2.out, by omega, by have := HM.out; omega, by rw [HD.out, HD2.out]; simp⟩
        case measure => simp [intOf]; omega
end Go.Proofs.YtgdlcoicejgdkaaDoor

namespace Go.Proofs.YtgdlcoicejgdkaaDoor
open Go.RowKit Ieee

def signL (x : Nat) : List UInt8 := if two63 ≤ x then [45] else []
/-- does it stand as a whole number? -/
def wholeB (M : Nat) (E : Int) : Bool := decide (0 ≤ E) && decide ((Lib.bitLen M : Int) + E ≤ 53)
def bytesD (v : Int) : List UInt8 := (strOfNums (digL v)).data.toList
/-- digits and a power of two -/
def numL (M : Nat) (E : Int) : List UInt8 := if wholeB M E then bytesD ((M * 2 ^ E.toNat : Nat) : Int) else bytesD M ++ ([112] ++ bytesD E)
def textF (x : Nat) : List UInt8 :=
  if nanB x then [110, 97, 110]
  else if x % two63 = 0 then signL x ++ [48]
  else if x % two63 = infR then signL x ++ [105, 110, 102]
  else signL x ++ numL (oddM (x % two63)) (oddE (x % two63))

theorem zero_order {x : Nat} (hx : x < two64) (hn : nanB x = false) : (FloatKind.f64.format.order x 0 == some .eq) = decide (x % two63 = 0) := by
  have e : FloatKind.f64.format.order x 0 = some (compare (sval x) (sval 0)) := order_eq hx (by decide) hn (by decide)
  rw [e, show sval 0 = 0 from by decide]
  by_cases h : x % two63 = 0
  · rw [decide_eq_true h]
    have : sval x = 0 := by
      unfold sval
      rw [h]
      split <;> rfl
    rw [this]; rfl
  · rw [decide_eq_false h]
    have hu : 0 < uval (x % two63) := by
      have := uval_lt (show 0 < x % two63 by omega)
      rwa [show uval 0 = 0 from by decide] at this
    unfold sval
    split
    · rw [Int.compare_eq_lt.2 (by omega)]; rfl
    · rw [Int.compare_eq_gt.2 (by omega)]; rfl
theorem oddE_bd {r : Nat} (h0 : r ≠ 0) (h : r < infR) : -1126 ≤ oddE r ∧ oddE r ≤ 1023 := by
  have h1 := normP_bd h0 h
  have h2 := (tz_bound h0).1
  unfold oddE
  omega
theorem bitLen_le {M L : Nat} (hM : M < 2 ^ L) : Lib.bitLen M ≤ L := Lib.bitLenAux_le _ M L hM
theorem lt_aux : ∀ (f x : Nat), x < 2 ^ f → x < 2 ^ Lib.bitLenAux f x
  | 0, x, h => by simpa [Lib.bitLenAux] using h
  | f + 1, x, h => by
    unfold Lib.bitLenAux
    split
    · subst_vars; decide
    · have h2 := lt_aux f (x / 2) (by rw [Nat.pow_succ] at h; omega)
      rw [Nat.add_comm, Nat.pow_succ]
      omega
theorem lt_bitLen {M : Nat} (h : M < 2 ^ 64) : M < 2 ^ Lib.bitLen M := lt_aux 64 M h
theorem whole_bound {M : Nat} {E : Int} (hM : M < 2 ^ 64) (h : wholeB M E = true) : M * 2 ^ E.toNat < 2 ^ 53 := by
  simp only [wholeB, Bool.and_eq_true, decide_eq_true_eq] at h
  calc M * 2 ^ E.toNat < 2 ^ Lib.bitLen M * 2 ^ E.toNat := Nat.mul_lt_mul_of_pos_right (lt_bitLen hM) (Nat.two_pow_pos _)
    _ = 2 ^ (Lib.bitLen M + E.toNat) := by rw [← Nat.pow_add]
    _ ≤ 2 ^ 53 := Nat.pow_le_pow_right (by decide) (by omega)

/-- the walk of a finite number that is not nought: what comes behind its parts -/
structure TextParts (x : Nat) (M : Nat) (E : Int) (L : Nat) : Prop where
  parts : ∀ w, Tab w → Calls Tryd.prog 107 #[.float .f64 x] w fun e w' => e = .returned (.tuple #[.int .i64 M, .int .i64 E]) ∧ w = w'
  len : ∀ w, Calls Tryd.prog 108 #[.int .u64 M] w fun e w' => e = .returned (.int .i64 L) ∧ w = w'
  m : (M : Int) < 9007199254740992
  e : -1126 ≤ E ∧ E ≤ 1023
  l : L ≤ 53
theorem dig_size (v : Int) (h0 : -9223372036854775808 ≤ v) (h1 : v ≤ 9223372036854775807) : (strOfNums (digL v)).size ≤ 20 := by
  have h := (digL_len v h0 h1).2
  have e : (strOfNums (digL v)).size = (digL v).length := by simp [strOfNums, ByteArray.size]
  omega
theorem SB.dig (v : Int) : SB (strOfNums (digL v)) (bytesD v) := rfl

set_option maxHeartbeats 1600000 in
set_option maxRecDepth 100000 in
theorem rtext_fin (x : Nat) (w : World) (hx : x < two64) (hT : Tab w) (hnx : nanB x = false) (hz0 : x % two63 ≠ 0) (hib : infB x = false) (M : Nat) (E : Int) (L : Nat) (hp : TextParts x M E L) (hL : Lib.bitLen M = L) :
    Calls Tryd.prog 53 #[.float .f64 x] w fun e w' => ∃ s : ByteArray, e = .returned (.string s) ∧ SB s (signL x ++ numL M E) ∧ Bl w w' := by
  have hn : (FloatKind.f64.format.order x x != some .eq) = false := (self_nan hx).trans hnx
  have hz := zero_order hx hnx
  rw [decide_eq_false hz0] at hz
  obtain ⟨HP, HL, hM, hE, hl⟩ := hp
  have HP := Lib.hid HP
  have HL := Lib.hid HL
  clear hnx hz0
  by_cases hw : 0 ≤ E ∧ (L : Int) + E ≤ 53
  · obtain ⟨k, rfl⟩ : ∃ k : Nat, E = k := ⟨E.toNat, by omega⟩
    have hwb : wholeB M (k : Int) = true := by simp [wholeB, hL]; omega
    have hb := whole_bound (by omega) hwb
    have hN := Lib.hid (show numL M (k : Int) = bytesD ((M * 2 ^ k : Nat) : Int) by rw [numL, if_pos hwb]; rfl)
    rw [Int.toNat_natCast] at hb
    have hk53 : k ≤ 53 := by omega
    have e1 : wrap64 ((M : Int) * 2 ^ k) = ((M * 2 ^ k : Nat) : Int) := by
      have : ((M : Int) * 2 ^ k) = ((M * 2 ^ k : Nat) : Int) := by simp
      rw [this]
      unfold wrap64
      omega
    have hV : ((M * 2 ^ k : Nat) : Int) < 9007199254740992 := by omega
    clear hwb hb hL
    generalize M * 2 ^ k = V at *
    obtain ⟨h0k, h53⟩ := hw
    by_cases hs : two63 ≤ x
    · have HS := Lib.hid (show signL x = ([45] : List UInt8) from if_pos hs)
      go_enter Tryd.func53, Tryd.ntmps53
      go_wp2_with fail
      refine (signbit_any x _ hx).mono ?_
      rintro e w' ⟨rfl, rfl⟩
      rw [decide_eq_true hs]
      go_wp2_with fail
      refine (isInf_any x _ hx).mono ?_
      rintro e w' ⟨rfl, rfl⟩
      rw [hib]
      go_wp2_with fail
      refine (HP.out _ hT).mono ?_
      rintro e w' ⟨rfl, rfl⟩
      go_wp2_with fail
      refine (HL.out _).mono ?_
      rintro e w' ⟨rfl, rfl⟩
      go_wp2_with fail
      refine (digits_any (V : Int) _ (by omega) (by omega)).mono ?_
      rintro e w1 ⟨rfl, hb1⟩
      have hb1d := SB.dig (V : Int)
      have hb1z := dig_size (V : Int) (by omega) (by omega)
      generalize strOfNums (digL (V : Int)) = hb1s at hb1d hb1z ⊢
      have hb1d := Lib.hid hb1d
      go_wp2_with fail
      go_ret
      refine ⟨_, rfl, ?_, hb1⟩
      rw [HS.out, hN.out]
      exact SB.append (SB.mk [45]) hb1d.out
    · have HS := Lib.hid (show signL x = ([] : List UInt8) from if_neg hs)
      go_enter Tryd.func53, Tryd.ntmps53
      go_wp2_with fail
      refine (signbit_any x _ hx).mono ?_
      rintro e w' ⟨rfl, rfl⟩
      rw [decide_eq_false hs]
      go_wp2_with fail
      refine (isInf_any x _ hx).mono ?_
      rintro e w' ⟨rfl, rfl⟩
      rw [hib]
      go_wp2_with fail
      refine (HP.out _ hT).mono ?_
      rintro e w' ⟨rfl, rfl⟩
      go_wp2_with fail
      refine (HL.out _).mono ?_
      rintro e w' ⟨rfl, rfl⟩
      go_wp2_with fail
      refine (digits_any (V : Int) _ (by omega) (by omega)).mono ?_
      rintro e w1 ⟨rfl, hb1⟩
      have hb1d := SB.dig (V : Int)
      have hb1z := dig_size (V : Int) (by omega) (by omega)
      generalize strOfNums (digL (V : Int)) = hb1s at hb1d hb1z ⊢
      have hb1d := Lib.hid hb1d
      go_wp2_with fail
      go_ret
      refine ⟨_, rfl, ?_, hb1⟩
      rw [HS.out, hN.out]
      exact SB.append (SB.mk []) hb1d.out
  · have hwb : wholeB M E = false := by
      cases h : wholeB M E
      · rfl
      · simp only [wholeB, hL, Bool.and_eq_true, decide_eq_true_eq] at h
        exact absurd h hw
    have hN := Lib.hid (show numL M E = bytesD M ++ ([112] ++ bytesD E) by rw [numL, hwb]; rfl)
    clear hwb hL
    by_cases h0E : 0 ≤ E
    · have h53 : 53 < (L : Int) + E := by omega
      have hd : decide ((0 : Int) ≤ E) = true := by simp; omega
      have hd2 : decide ((L : Int) + E ≤ 53) = false := by simp; omega
      clear hw
      by_cases hs : two63 ≤ x
      · have HS := Lib.hid (show signL x = ([45] : List UInt8) from if_pos hs)
        go_enter Tryd.func53, Tryd.ntmps53
        go_wp2_with fail
        refine (signbit_any x _ hx).mono ?_
        rintro e w' ⟨rfl, rfl⟩
        rw [decide_eq_true hs]
        go_wp2_with fail
        refine (isInf_any x _ hx).mono ?_
        rintro e w' ⟨rfl, rfl⟩
        rw [hib]
        go_wp2_with fail
        refine (HP.out _ hT).mono ?_
        rintro e w' ⟨rfl, rfl⟩
        go_wp2_with fail
        refine (HL.out _).mono ?_
        rintro e w' ⟨rfl, rfl⟩
        go_wp2_with fail
        refine (digits_any (M : Int) _ (by omega) (by omega)).mono ?_
        rintro e w1 ⟨rfl, hb1⟩
        have hb1d := SB.dig (M : Int)
        have hb1z := dig_size (M : Int) (by omega) (by omega)
        generalize strOfNums (digL (M : Int)) = hb1s at hb1d hb1z ⊢
        have hb1d := Lib.hid hb1d
        have z1 : 1 + hb1s.size ≤ 9223372036854775806 := by omega
        go_wp2_with fail
        refine (digits_any E _ (by omega) (by omega)).mono ?_
        rintro e w2 ⟨rfl, hb2⟩
        have hb2d := SB.dig E
        have hb2z := dig_size E (by omega) (by omega)
        generalize strOfNums (digL E) = hb2s at hb2d hb2z ⊢
        have hb2d := Lib.hid hb2d
        have z2 : 1 + hb1s.size + 1 + hb2s.size ≤ 9223372036854775807 := by omega
        go_wp2_with fail
        go_ret
        refine ⟨_, rfl, ?_, hb1.trans hb2⟩
        rw [HS.out, hN.out]
        have h1 := SB.append (SB.append (SB.append (SB.mk [45]) hb1d.out) (SB.mk [112])) hb2d.out
        simpa using h1
      · have HS := Lib.hid (show signL x = ([] : List UInt8) from if_neg hs)
        go_enter Tryd.func53, Tryd.ntmps53
        go_wp2_with fail
        refine (signbit_any x _ hx).mono ?_
        rintro e w' ⟨rfl, rfl⟩
        rw [decide_eq_false hs]
        go_wp2_with fail
        refine (isInf_any x _ hx).mono ?_
        rintro e w' ⟨rfl, rfl⟩
        rw [hib]
        go_wp2_with fail
        refine (HP.out _ hT).mono ?_
        rintro e w' ⟨rfl, rfl⟩
        go_wp2_with fail
        refine (HL.out _).mono ?_
        rintro e w' ⟨rfl, rfl⟩
        go_wp2_with fail
        refine (digits_any (M : Int) _ (by omega) (by omega)).mono ?_
        rintro e w1 ⟨rfl, hb1⟩
        have hb1d := SB.dig (M : Int)
        have hb1z := dig_size (M : Int) (by omega) (by omega)
        generalize strOfNums (digL (M : Int)) = hb1s at hb1d hb1z ⊢
        have hb1d := Lib.hid hb1d
        have z1 : hb1s.size ≤ 9223372036854775806 := by omega
        go_wp2_with fail
        refine (digits_any E _ (by omega) (by omega)).mono ?_
        rintro e w2 ⟨rfl, hb2⟩
        have hb2d := SB.dig E
        have hb2z := dig_size E (by omega) (by omega)
        generalize strOfNums (digL E) = hb2s at hb2d hb2z ⊢
        have hb2d := Lib.hid hb2d
        have z2 : hb1s.size + 1 + hb2s.size ≤ 9223372036854775807 := by omega
        go_wp2_with fail
        go_ret
        refine ⟨_, rfl, ?_, hb1.trans hb2⟩
        rw [HS.out, hN.out]
        have h1 := SB.append (SB.append (SB.append (SB.mk []) hb1d.out) (SB.mk [112])) hb2d.out
        simpa using h1
    · have hd : decide ((0 : Int) ≤ E) = false := by simp; omega
      clear hw
      by_cases hs : two63 ≤ x
      · have HS := Lib.hid (show signL x = ([45] : List UInt8) from if_pos hs)
        go_enter Tryd.func53, Tryd.ntmps53
        go_wp2_with fail
        refine (signbit_any x _ hx).mono ?_
        rintro e w' ⟨rfl, rfl⟩
        rw [decide_eq_true hs]
        go_wp2_with fail
        refine (isInf_any x _ hx).mono ?_
        rintro e w' ⟨rfl, rfl⟩
        rw [hib]
        go_wp2_with fail
        refine (HP.out _ hT).mono ?_
        rintro e w' ⟨rfl, rfl⟩
        go_wp2_with fail
        refine (digits_any (M : Int) _ (by omega) (by omega)).mono ?_
        rintro e w1 ⟨rfl, hb1⟩
        have hb1d := SB.dig (M : Int)
        have hb1z := dig_size (M : Int) (by omega) (by omega)
        generalize strOfNums (digL (M : Int)) = hb1s at hb1d hb1z ⊢
        have hb1d := Lib.hid hb1d
        have z1 : 1 + hb1s.size ≤ 9223372036854775806 := by omega
        go_wp2_with fail
        refine (digits_any E _ (by omega) (by omega)).mono ?_
        rintro e w2 ⟨rfl, hb2⟩
        have hb2d := SB.dig E
        have hb2z := dig_size E (by omega) (by omega)
        generalize strOfNums (digL E) = hb2s at hb2d hb2z ⊢
        have hb2d := Lib.hid hb2d
        have z2 : 1 + hb1s.size + 1 + hb2s.size ≤ 9223372036854775807 := by omega
        go_wp2_with fail
        go_ret
        refine ⟨_, rfl, ?_, hb1.trans hb2⟩
        rw [HS.out, hN.out]
        have h1 := SB.append (SB.append (SB.append (SB.mk [45]) hb1d.out) (SB.mk [112])) hb2d.out
        simpa using h1
      · have HS := Lib.hid (show signL x = ([] : List UInt8) from if_neg hs)
        go_enter Tryd.func53, Tryd.ntmps53
        go_wp2_with fail
        refine (signbit_any x _ hx).mono ?_
        rintro e w' ⟨rfl, rfl⟩
        rw [decide_eq_false hs]
        go_wp2_with fail
        refine (isInf_any x _ hx).mono ?_
        rintro e w' ⟨rfl, rfl⟩
        rw [hib]
        go_wp2_with fail
        refine (HP.out _ hT).mono ?_
        rintro e w' ⟨rfl, rfl⟩
        go_wp2_with fail
        refine (digits_any (M : Int) _ (by omega) (by omega)).mono ?_
        rintro e w1 ⟨rfl, hb1⟩
        have hb1d := SB.dig (M : Int)
        have hb1z := dig_size (M : Int) (by omega) (by omega)
        generalize strOfNums (digL (M : Int)) = hb1s at hb1d hb1z ⊢
        have hb1d := Lib.hid hb1d
        have z1 : hb1s.size ≤ 9223372036854775806 := by omega
        go_wp2_with fail
        refine (digits_any E _ (by omega) (by omega)).mono ?_
        rintro e w2 ⟨rfl, hb2⟩
        have hb2d := SB.dig E
        have hb2z := dig_size E (by omega) (by omega)
        generalize strOfNums (digL E) = hb2s at hb2d hb2z ⊢
        have hb2d := Lib.hid hb2d
        have z2 : hb1s.size + 1 + hb2s.size ≤ 9223372036854775807 := by omega
        go_wp2_with fail
        go_ret
        refine ⟨_, rfl, ?_, hb1.trans hb2⟩
        rw [HS.out, hN.out]
        have h1 := SB.append (SB.append (SB.append (SB.mk []) hb1d.out) (SB.mk [112])) hb2d.out
        simpa using h1

set_option maxHeartbeats 1600000 in
set_option maxRecDepth 100000 in
theorem rtext_edge (x : Nat) (w : World) (hx : x < two64) (h : nanB x = true ∨ x % two63 = 0 ∨ x % two63 = infR) :
    Calls Tryd.prog 53 #[.float .f64 x] w fun e w' => ∃ s : ByteArray, e = .returned (.string s) ∧ SB s (textF x) ∧ Bl w w' := by
  have hn : (FloatKind.f64.format.order x x != some .eq) = nanB x := self_nan hx
  cases hnx : nanB x
  · rw [hnx] at hn
    have hz := zero_order hx hnx
    by_cases hz0 : x % two63 = 0
    · rw [decide_eq_true hz0] at hz
      have HT := Lib.hid (show textF x = signL x ++ [48] by unfold textF; rw [hnx, if_pos hz0]; rfl)
      clear hnx hz0 h
      by_cases hs : two63 ≤ x
      · have HS := Lib.hid (show signL x = ([45] : List UInt8) from if_pos hs)
        go_enter Tryd.func53, Tryd.ntmps53
        go_wp2_with fail
        refine (signbit_any x _ hx).mono ?_
        rintro e w' ⟨rfl, rfl⟩
        rw [decide_eq_true hs]
        go_wp2_with fail
        go_ret
        refine ⟨_, rfl, ?_, Bl.refl _⟩
        rw [HT.out, HS.out]
        exact SB.append (SB.mk [45]) (SB.mk [48])
      · have HS := Lib.hid (show signL x = ([] : List UInt8) from if_neg hs)
        go_enter Tryd.func53, Tryd.ntmps53
        go_wp2_with fail
        refine (signbit_any x _ hx).mono ?_
        rintro e w' ⟨rfl, rfl⟩
        rw [decide_eq_false hs]
        go_wp2_with fail
        go_ret
        refine ⟨_, rfl, ?_, Bl.refl _⟩
        rw [HT.out, HS.out]
        exact SB.append (SB.mk []) (SB.mk [48])
    · have hi : x % two63 = infR := by
        rcases h with h | h | h
        · rw [hnx] at h; cases h
        · exact absurd h hz0
        · exact h
      have hib : infB x = true := decide_eq_true hi
      rw [decide_eq_false hz0] at hz
      have HT := Lib.hid (show textF x = signL x ++ [105, 110, 102] by unfold textF; rw [hnx, if_neg hz0, if_pos hi]; rfl)
      clear hnx hz0 h hi
      by_cases hs : two63 ≤ x
      · have HS := Lib.hid (show signL x = ([45] : List UInt8) from if_pos hs)
        go_enter Tryd.func53, Tryd.ntmps53
        go_wp2_with fail
        refine (signbit_any x _ hx).mono ?_
        rintro e w' ⟨rfl, rfl⟩
        rw [decide_eq_true hs]
        go_wp2_with fail
        refine (isInf_any x _ hx).mono ?_
        rintro e w' ⟨rfl, rfl⟩
        rw [hib]
        go_wp2_with fail
        go_ret
        refine ⟨_, rfl, ?_, Bl.refl _⟩
        rw [HT.out, HS.out]
        exact SB.append (SB.mk [45]) (SB.mk [105, 110, 102])
      · have HS := Lib.hid (show signL x = ([] : List UInt8) from if_neg hs)
        go_enter Tryd.func53, Tryd.ntmps53
        go_wp2_with fail
        refine (signbit_any x _ hx).mono ?_
        rintro e w' ⟨rfl, rfl⟩
        rw [decide_eq_false hs]
        go_wp2_with fail
        refine (isInf_any x _ hx).mono ?_
        rintro e w' ⟨rfl, rfl⟩
        rw [hib]
        go_wp2_with fail
        go_ret
        refine ⟨_, rfl, ?_, Bl.refl _⟩
        rw [HT.out, HS.out]
        exact SB.append (SB.mk []) (SB.mk [105, 110, 102])
  · rw [hnx] at hn
    have HT := Lib.hid (show textF x = [110, 97, 110] by unfold textF; rw [hnx]; rfl)
    clear hnx h
    by_cases hs : two63 ≤ x
    · have HS := Lib.hid (show signL x = ([45] : List UInt8) from if_pos hs)
      go_enter Tryd.func53, Tryd.ntmps53
      go_wp2_with fail
      refine (signbit_any x _ hx).mono ?_
      rintro e w' ⟨rfl, rfl⟩
      rw [decide_eq_true hs]
      go_wp2_with fail
      go_ret
      exact ⟨_, rfl, by rw [HT.out]; exact SB.mk _, Bl.refl _⟩
    · have HS := Lib.hid (show signL x = ([] : List UInt8) from if_neg hs)
      go_enter Tryd.func53, Tryd.ntmps53
      go_wp2_with fail
      refine (signbit_any x _ hx).mono ?_
      rintro e w' ⟨rfl, rfl⟩
      rw [decide_eq_false hs]
      go_wp2_with fail
      go_ret
      exact ⟨_, rfl, by rw [HT.out]; exact SB.mk _, Bl.refl _⟩

theorem rtext_any (x : Nat) (w : World) (hx : x < two64) (hT : Tab w) : Calls Tryd.prog 53 #[.float .f64 x] w fun e w' => ∃ s : ByteArray, e = .returned (.string s) ∧ SB s (textF x) ∧ Bl w w' := by
  by_cases h : nanB x = true ∨ x % two63 = 0 ∨ x % two63 = infR
  · exact rtext_edge x w hx h
  · have hnx : nanB x = false := by
      cases hn : nanB x
      · rfl
      · exact absurd (.inl hn) h
    have hz0 : x % two63 ≠ 0 := fun e => h (.inr (.inl e))
    have hi : x % two63 ≠ infR := fun e => h (.inr (.inr e))
    have hlt : x % two63 < infR := by
      rcases fin_or_inf hnx with h | h
      · exact h
      · exact absurd h hi
    have hM := (oddM_odd hz0).2.2
    have hM64 : oddM (x % two63) < two64 := by unfold two52 at hM; unfold two64; omega
    have hM53 : oddM (x % two63) < 2 ^ 53 := by
      have : 2 * two52 = 2 ^ 53 := by decide
      omega
    have e : textF x = signL x ++ numL (oddM (x % two63)) (oddE (x % two63)) := by unfold textF; rw [hnx, if_neg hz0, if_neg hi]; rfl
    rw [e]
    exact rtext_fin x w hx hT hnx hz0 (decide_eq_false hi) _ _ _ ⟨fun w hT => parts_any x w hx hz0 hlt hT, fun w => len64_any _ w hM64, by omega, oddE_bd hz0 hlt, bitLen_le hM53⟩ rfl
end Go.Proofs.YtgdlcoicejgdkaaDoor
