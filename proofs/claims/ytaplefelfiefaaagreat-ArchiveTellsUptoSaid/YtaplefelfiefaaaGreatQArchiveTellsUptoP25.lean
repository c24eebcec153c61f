import Derived.Test.YtaplefelfiefaaaGreatQArchiveTellsUptoP6
import Derived.Test.YtaplefelfiefaaaGreatQArchiveTellsUptoP1
import Derived.Lib.CutLaws
import Derived.Lib.IndexBytes
import Derived.Test.YtaplefelfiefaaaGreatQArchiveTellsUptoP10
import Derived.Shelf.Spec.TrailingZeros
import Derived.Shelf.Strconv.Itoa0
import Derived.Laws.BitsAllLaws
import Derived.Laws.FloatArith
import Derived.IntWalk
import Derived.Outline
import Derived.Test.YtaplefelfiefaaaGreatQArchiveTellsUptoP19
import Derived.Test.YtaplefelfiefaaaGreatQArchiveTellsUptoP3
import Derived.Deep.Cut
import Derived.Test.YtaplefelfiefaaaGreatQArchiveTellsUptoP24
import Derived.Test.YtaplefelfiefaaaGreatQArchiveTellsUptoP14
import Derived.Test.YtaplefelfiefaaaGreatQArchiveTellsUptoP22
import Derived.Test.YtaplefelfiefaaaGreatQArchiveTellsUptoP20
import Derived.Test.YtaplefelfiefaaaGreatQArchiveTellsUptoP17

/- The document's own answer to chapter 2: numbers by their odd digits; plain facts. · The document's own answer to chapter 2: bytes and keys in halves; plain facts. By an AI agent. -/
section
namespace Go.Proofs.YtaplefelfiefaaaGreat
open Go.RowKit Ieee

/-! ### a number's odd digits, as the document finds them -/


/-! ### a text of digits, as the document reads it -/
end Go.Proofs.YtaplefelfiefaaaGreat

namespace Go.Proofs.YtaplefelfiefaaaGreat
open Go.RowKit Ieee

/-- the halves of a number's key -/
theorem put_halves (x : Nat) : putN (keyH x : Int) 4 4 ++ putN (keyL x : Int) 4 4 = putN (fkey x : Int) 8 8 := by
  unfold keyH keyL
  generalize fkey x = u
  simp only [putN, byteAt, List.range_succ, List.range_zero, List.map_nil, List.map_cons, List.nil_append, List.cons_append]
  simp
  omega
theorem str_append (a b : List Int) : strOfNums a ++ strOfNums b = strOfNums (a ++ b) := by
  have h : SB (strOfNums a ++ strOfNums b) (strOfNums (a ++ b)).data.toList := by
    rw [SB]; simp [strOfNums]
  exact h.eq rfl
theorem getN_append (l m : List UInt8) (h : m.length = 4) : getN (l ++ m) = getN l * 4294967296 + getN m := by
  match m, h with
  | [a, b, c, d], _ =>
    simp only [getN, List.foldl_append, List.foldl_cons, List.foldl_nil]
    omega
end Go.Proofs.YtaplefelfiefaaaGreat
end

/- bedrockref1.Get, bedrockref1.Put; bedrockref2.key, Compare, Same, Max, Min, Put, Get. · bedrockref1.Put; bedrockref2.Put, Get. By an AI agent. -/
section
namespace Go.Proofs.YtaplefelfiefaaaGreat
open Go.RowKit

theorem refPutF_any (x : Nat) (w : World) (hx : x < two64) :
    Calls Tryz.prog 120 #[.float .f64 x] w fun e w' => e = .returned (.string (strOfNums (putN (fkey x) 8 8))) ∧ Bl w w' := by
  have h1 := keyH_lt hx
  have h2 := keyL_lt x
  have HP := Lib.hid (put_halves x)
  have P1 := Lib.hid (fun w => refPut_any (keyH x) 4 w (by decide) (by decide) (by omega) (by rw [Nat.div_eq_zero_iff]; omega))
  have P2 := Lib.hid (fun w => refPut_any (keyL x) 4 w (by decide) (by decide) (by omega) (by rw [Nat.div_eq_zero_iff]; omega))
  have hz : ∀ v : Int, (strOfNums (putN v 4 4)).size = 4 := fun v => by
    have : (strOfNums (putN v 4 4)).data.toList.length = 4 := by rw [strOfNums_data, List.length_map, putN_len]
    simpa using this
  have z1 := hz (keyH x)
  have z2 := hz (keyL x)
  have HA := Lib.hid (str_append (putN (keyH x) 4 4) (putN (keyL x) 4 4))
  rw [HP.out] at HA
  clear HP hz h1 h2
  go_enter Tryz.func120, Tryz.ntmps120
  go_wp2_with fail
  refine (refKey_any x _ hx).mono ?_
  rintro e w1 ⟨rfl, rfl⟩
  go_wp2_with fail
  refine (P1.out _).mono ?_
  rintro e w1 ⟨rfl, hb1⟩
  go_wp2_with fail
  refine (P2.out _).mono ?_
  rintro e w2 ⟨rfl, hb2⟩
  go_wp2_with fail
  go_ret
  exact ⟨by rw [HA.out]; rfl, hb1.trans hb2⟩

theorem refGetF_no (s : ByteArray) (w : World) (hs : s.size ≠ 8) : Calls Tryz.prog 123 #[.string s] w fun e w' => e = .returned (.tuple #[.float .f64 0, .int .i64 4]) ∧ w = w' := by
  go_enter Tryz.func123, Tryz.ntmps123
  go_wp2_with fail
  go_ret2
  exact ⟨rfl, rfl⟩
/-- the two halves of eight bytes -/
structure Halves (s u v : ByteArray) (a c : Nat) : Prop where
  su : s.extract 0 4 = u
  sv : s.extract 4 8 = v
  g1 : ∀ w, Calls Tryz.prog 122 #[.string u] w fun e w' => e = .returned (.tuple #[.int .i64 a, .int .i64 0]) ∧ w = w'
  g2 : ∀ w, Calls Tryz.prog 122 #[.string v] w fun e w' => e = .returned (.tuple #[.int .i64 c, .int .i64 0]) ∧ w = w'
  ba : a < 4294967296
  bc : c < 4294967296
  sum : (getN s.data.toList).toNat = a * 4294967296 + c
theorem halves (s : ByteArray) (hs : s.size = 8) : ∃ u v a c, Halves s u v a c := by
  have hl : s.data.toList.length = 8 := by simpa using hs
  have su : SB (s.extract 0 4) (s.data.toList.take 4) := by
    rw [SB, Lib.extract_data, List.drop_zero]
  have sv : SB (s.extract 4 8) (s.data.toList.drop 4) := by
    rw [SB, Lib.extract_data, List.take_of_length_le (by rw [List.length_drop]; omega)]
  have zu : (s.extract 0 4).size = 4 := by rw [su.size, List.length_take]; omega
  have zv : (s.extract 4 8).size = 4 := by rw [sv.size, List.length_drop]; omega
  have bu := getN_bound (s.extract 0 4).data.toList
  have bv := getN_bound (s.extract 4 8).data.toList
  have e0 : getN s.data.toList = getN (s.extract 0 4).data.toList * 4294967296 + getN (s.extract 4 8).data.toList := by
    have := getN_append (s.data.toList.take 4) (s.data.toList.drop 4) (by rw [List.length_drop]; omega)
    rw [List.take_append_drop] at this
    rw [this, su, sv]
  have G1 := fun w => refGet_any (s.extract 0 4) w (by omega) (by omega)
  have G2 := fun w => refGet_any (s.extract 4 8) w (by omega) (by omega)
  rw [show (s.extract 0 4).data.toList.length = 4 by simpa using zu] at bu
  rw [show (s.extract 4 8).data.toList.length = 4 by rw [show (s.extract 4 8).data.toList = _ from sv, List.length_drop]; omega] at bv
  obtain ⟨a, ha⟩ : ∃ a : Nat, getN (s.extract 0 4).data.toList = a := ⟨_, (Int.toNat_of_nonneg bu.1).symm⟩
  obtain ⟨c, hc⟩ : ∃ c : Nat, getN (s.extract 4 8).data.toList = c := ⟨_, (Int.toNat_of_nonneg bv.1).symm⟩
  rw [ha] at G1 bu e0
  rw [hc] at G2 bv e0
  exact ⟨_, _, a, c, rfl, rfl, G1, G2, by have := bu.2; omega, by have := bv.2; omega, by omega⟩
set_option maxHeartbeats 1600000 in
set_option maxRecDepth 100000 in
theorem refGetF_zero (s u v : ByteArray) (w : World) (hs : s.size = 8) (H : Hid (Halves s u v 0 0)) :
    Calls Tryz.prog 123 #[.string s] w fun e w' => e = .returned (.tuple #[.float .f64 (getR (getN s.data.toList).toNat).1, .int .i64 (getR (getN s.data.toList).toNat).2]) ∧ w = w' := by
  have hu := H.out.su
  have hv := H.out.sv
  rw [H.out.sum]
  go_enter Tryz.func123, Tryz.ntmps123
  go_wp2_with fail
  refine (H.out.g1 _).mono ?_
  rintro e w1 ⟨rfl, rfl⟩
  go_wp2_with fail
  refine (H.out.g2 _).mono ?_
  rintro e w1 ⟨rfl, rfl⟩
  go_wp2_with fail
  refine (nan_is _).mono ?_
  rintro e w1 ⟨rfl, rfl⟩
  go_wp2_with fail
  go_ret2
  exact ⟨rfl, rfl⟩
theorem back_top {a c : Nat} (k : 2147483648 ≤ a) : backW (a * 4294967296 + c) = (a - 2147483648) * 4294967296 + c := by
  have h : two63 ≤ a * 4294967296 + c := by unfold two63; omega
  have e : two63 = 2147483648 * 4294967296 := by unfold two63; decide
  unfold backW
  rw [if_pos h, e, Nat.sub_mul]
  omega
theorem back_low {a c : Nat} (k : ¬ 2147483648 ≤ a) (hc : c < 4294967296) : backW (a * 4294967296 + c) = (4294967295 - a) * 4294967296 + (4294967295 - c) := by
  have e : two63 = 2147483648 * 4294967296 := by unfold two63; decide
  have h : ¬ two63 ≤ a * 4294967296 + c := by rw [e]; omega
  have e2 : two64 = 4294967296 * 4294967296 := by unfold two64; decide
  unfold backW
  rw [if_neg h, e2, Nat.sub_mul]
  omega
set_option maxHeartbeats 1600000 in
set_option maxRecDepth 100000 in
theorem refGetF_top (s u v : ByteArray) (a' c f : Nat) (w : World) (hs : s.size = 8) (H : Hid (Halves s u v (a' + 2147483648) c)) (ba : a' < 2147483648) (bc : c < 4294967296)
    (hsum : ((a' : Int) * 4294967296 + (c : Int)) = (f : Int)) (hf : f < two64) (HB : Hid (backW (getN s.data.toList).toNat = f)) (H0 : Hid ((getN s.data.toList).toNat ≠ 0)) :
    Calls Tryz.prog 123 #[.string s] w fun e w' => e = .returned (.tuple #[.float .f64 (getR (getN s.data.toList).toNat).1, .int .i64 (getR (getN s.data.toList).toNat).2]) ∧ w = w' := by
  have hfb := run_frombits
  have hu := H.out.su
  have hv := H.out.sv
  have N1 := Lib.hid (fun w => refNan_any f w hf)
  have q0 : (((a' + 2147483648 : Nat) : Int) == 0) = false := by simp; omega
  have q1 : decide ((2147483648 : Int) ≤ ((a' + 2147483648 : Nat) : Int)) = true := by simp; omega
  have ea : ((a' + 2147483648 : Nat) : Int) - 2147483648 = (a' : Int) := by omega
  have ba2 : ((a' + 2147483648 : Nat) : Int) < 4294967296 := by omega
  generalize a' + 2147483648 = a at *
  obtain ⟨r, hr⟩ : ∃ r, getR (getN s.data.toList).toNat = r := ⟨_, rfl⟩
  have E := Lib.hid (show (if nanB f then (0, 4) else (f, 0)) = r by
    rw [← hr]; unfold getR; rw [if_neg H0.out, HB.out])
  rw [hr]
  clear hr
  go_enter Tryz.func123, Tryz.ntmps123
  go_wp2_with fail
  refine (H.out.g1 _).mono ?_
  rintro e w1 ⟨rfl, rfl⟩
  go_wp2_with fail
  refine (H.out.g2 _).mono ?_
  rintro e w1 ⟨rfl, rfl⟩
  cases hn : nanB f
  all_goals
    go_wp2_with fail
    refine (N1.out _).mono ?_
    rintro e w1 ⟨rfl, rfl⟩
    rw [hn]
    go_wp2_with fail
    go_ret2
    exact ⟨by rw [← E.out, hn]; rfl, rfl⟩
set_option maxHeartbeats 1600000 in
set_option maxRecDepth 100000 in
theorem refGetF_low (s u v : ByteArray) (a c a' c' f : Nat) (w : World) (hs : s.size = 8) (H : Hid (Halves s u v a c)) (ba : a < 2147483648) (_bc : c < 4294967296) (_ba' : a' < 4294967296) (bc' : c' < 4294967296)
    (ea : 4294967295 - (a : Int) = (a' : Int)) (ec : 4294967295 - (c : Int) = (c' : Int)) (hz : (((a : Int) == 0) = true ∧ ((c : Int) == 0) = false) ∨ ((a : Int) == 0) = false)
    (hsum : ((a' : Int) * 4294967296 + (c' : Int)) = (f : Int)) (hf : f < two64) (HB : Hid (backW (getN s.data.toList).toNat = f)) (H0 : Hid ((getN s.data.toList).toNat ≠ 0)) :
    Calls Tryz.prog 123 #[.string s] w fun e w' => e = .returned (.tuple #[.float .f64 (getR (getN s.data.toList).toNat).1, .int .i64 (getR (getN s.data.toList).toNat).2]) ∧ w = w' := by
  have hfb := run_frombits
  have hu := H.out.su
  have hv := H.out.sv
  have N1 := Lib.hid (fun w => refNan_any f w hf)
  have q1 : decide ((2147483648 : Int) ≤ (a : Int)) = false := by simp; omega
  obtain ⟨r, hr⟩ : ∃ r, getR (getN s.data.toList).toNat = r := ⟨_, rfl⟩
  have E := Lib.hid (show (if nanB f then (0, 4) else (f, 0)) = r by
    rw [← hr]; unfold getR; rw [if_neg H0.out, HB.out])
  rw [hr]
  clear hr
  rcases hz with ⟨z1, z2⟩ | z1
  all_goals
    go_enter Tryz.func123, Tryz.ntmps123
    go_wp2_with fail
    refine (H.out.g1 _).mono ?_
    rintro e w1 ⟨rfl, rfl⟩
    go_wp2_with fail
    refine (H.out.g2 _).mono ?_
    rintro e w1 ⟨rfl, rfl⟩
    cases hn : nanB f
    all_goals
      go_wp2_with fail
      refine (N1.out _).mono ?_
      rintro e w1 ⟨rfl, rfl⟩
      rw [hn]
      go_wp2_with fail
      go_ret2
      exact ⟨by rw [← E.out, hn]; rfl, rfl⟩
/-- bedrockref2.Get is real.Get -/
theorem refGetF_any (s : ByteArray) (w : World) (hs : s.size = 8) :
    Calls Tryz.prog 123 #[.string s] w fun e w' => e = .returned (.tuple #[.float .f64 (getR (getN s.data.toList).toNat).1, .int .i64 (getR (getN s.data.toList).toNat).2]) ∧ w = w' := by
  obtain ⟨u, v, a, c, H⟩ := halves s hs
  have ba := H.ba
  have bc := H.bc
  have hsum := H.sum
  by_cases k : 2147483648 ≤ a
  · obtain ⟨a', rfl⟩ : ∃ a', a = a' + 2147483648 := ⟨a - 2147483648, by omega⟩
    have hb := back_top (c := c) k
    rw [← hsum, Nat.add_sub_cancel] at hb
    exact refGetF_top s u v a' c (a' * 4294967296 + c) w hs (Lib.hid H) (by omega) bc (by omega) (by unfold two64; omega) (Lib.hid hb) (Lib.hid (by omega))
  · by_cases h0 : a = 0 ∧ c = 0
    · obtain ⟨rfl, rfl⟩ := h0
      exact refGetF_zero s u v w hs (Lib.hid H)
    · have hb := back_low (c := c) k bc
      rw [← hsum] at hb
      refine refGetF_low s u v a c (4294967295 - a) (4294967295 - c) ((4294967295 - a) * 4294967296 + (4294967295 - c)) w hs (Lib.hid H) (by omega) bc (by omega) (by omega) (by omega) (by omega) ?_ (by omega) (by unfold two64; omega) (Lib.hid hb) (Lib.hid (by omega))
      by_cases ha : a = 0
      · exact .inl ⟨by simp [ha], by simp; omega⟩
      · exact .inr (by simp; omega)
end Go.Proofs.YtaplefelfiefaaaGreat
end

/- bedrockref5.eight, PutAct. By an AI agent. -/
section
namespace Go.Proofs.YtaplefelfiefaaaGreat
open Go.RowKit

theorem eight_byte (v : Int) (U k : Nat) (hU : (U : Int) = v % 18446744073709551616) (hk : k < 8) : v / 2 ^ (8 * k) % 256 = byteAt (U : Int) 8 (8 - 1 - k) := by
  unfold byteAt
  rw [show 8 - 1 - (8 - 1 - k) = k by omega, hU]
  have hc : k = 0 ∨ k = 1 ∨ k = 2 ∨ k = 3 ∨ k = 4 ∨ k = 5 ∨ k = 6 ∨ k = 7 := by omega
  rcases hc with rfl | rfl | rfl | rfl | rfl | rfl | rfl | rfl
  · rw [show (2 : Int) ^ (8 * 0) = 1 from rfl]; omega
  · rw [show (2 : Int) ^ (8 * 1) = 256 from rfl]; omega
  · rw [show (2 : Int) ^ (8 * 2) = 65536 from rfl]; omega
  · rw [show (2 : Int) ^ (8 * 3) = 16777216 from rfl]; omega
  · rw [show (2 : Int) ^ (8 * 4) = 4294967296 from rfl]; omega
  · rw [show (2 : Int) ^ (8 * 5) = 1099511627776 from rfl]; omega
  · rw [show (2 : Int) ^ (8 * 6) = 281474976710656 from rfl]; omega
  · rw [show (2 : Int) ^ (8 * 7) = 72057594037927936 from rfl]; omega
theorem shift_step (v : Int) (k : Nat) : v / 2 ^ (8 * k) / 256 = v / 2 ^ (8 * (k + 1)) := by
  rw [Int.ediv_ediv_of_nonneg (by exact_mod_cast Nat.zero_le _), show 8 * (k + 1) = 8 * k + 8 by omega, Int.pow_add]
  rfl
theorem shift_bd {v : Int} (h : -9223372036854775808 ≤ v ∧ v ≤ 9223372036854775807) (k : Nat) : -9223372036854775808 ≤ v / 2 ^ (8 * k) ∧ v / 2 ^ (8 * k) ≤ 9223372036854775807 := by
  have h1 : (1 : Int) ≤ 2 ^ (8 * k) := by exact_mod_cast Nat.two_pow_pos _
  generalize (2 : Int) ^ (8 * k) = P at *
  have hp : (0 : Int) < P := by omega
  constructor
  · rw [Int.le_ediv_iff_mul_le hp]
    omega
  · have : v / P < 9223372036854775808 := by
      rw [Int.ediv_lt_iff_lt_mul hp]
      omega
    omega

set_option maxHeartbeats 1600000 in
set_option maxRecDepth 100000 in
theorem eight_any (v : Int) (U : Nat) (w : World) (hv : -9223372036854775808 ≤ v ∧ v ≤ 9223372036854775807) (hU : (U : Int) = v % 18446744073709551616) :
    Calls Tryz.prog 121 #[.int .i64 v] w fun e w' => e = .returned (.string (strOfNums (putN U 8 8))) ∧ Bl w w' := by
  obtain ⟨i0, hi, hz0, hz1, hz2⟩ := info_parts info_byte
  have HU := Lib.hid hU; clear hU
  have HV := Lib.hid hv; clear hv
  go_enter Tryz.func121, Tryz.ntmps121
  go_wp2_with (at_make; refine wpList_make_full _ rfl _ _ 75 rfl w.heap.size 5 i0 (.int .u8 0) 1 Tryz.underlying75 hi hz0 hz1 .i64 .i64 _ _ 8 rfl rfl rfl rfl ?b1 ?b2 ?b3 ?_)
  case b1 => rw [hz2]; omega
  case b2 => unfold maxLen; omega
  case b3 => exact Nat.le_refl _
  intro w1 hown hgrow
  have hb : Bl w w1 := Below.grown (Bl.refl w) hgrow (Nat.le_refl _) (by simp)
  have hob : OB w.heap.size w1 (.slice (some ⟨w.heap.size, 0, none⟩) 8 8) (putN U 8 0) := by
    rw [OB, putN_len, putN_zero]
    have e : (madeCells #[Value.int .u8 0] 8).toList = List.map (Value.int .u8) (List.replicate 8 0) := by
      rw [List.map_replicate]
      exact toList_madeCells_one _ _
    rw [e] at hown
    exact hown
  clear hown hgrow
  go_wp2_with fail
  go_loopw [0, 4] (fun v' i wr => ∃ (k : Nat) (t : Int), k ≤ 8 ∧ i = .int .i64 (7 - (k : Int)) ∧ v' = .int .i64 t ∧ Hid (t = v / 2 ^ (8 * k)) ∧ Bl w wr ∧ OB w.heap.size wr (.slice (some ⟨w.heap.size, 0, none⟩) 8 8) (putN U 8 k)) (fun _ i _ => (intOf i + 1).toNat)
  case atStart => exact ⟨0, v, Nat.zero_le _, rfl, rfl, Lib.hid (by simp), hb, hob⟩
  case round =>
    clear hb hob
    obtain ⟨k, t, hk, rfl, rfl, ht, hb, hob⟩ := hrel
    by_cases hlt : k < 8
    · have hc := hob.cell (putN_len U 8 k) (7 - k) (by omega)
      have hfz := hob.frozen (putN_len U 8 k) (7 - k)
      generalize nth (putN U 8 k) (7 - k) = old at hc
      have HOB := Lib.hid hob; clear hob
      have ei : (7 : Int) - (k : Int) = ((7 - k : Nat) : Int) := by omega
      rw [ei]
      have hbd := shift_bd HV.out k
      rw [← ht.out] at hbd
      go_wp2_with fail
      go_roundw
      case rel =>
        refine ⟨k + 1, t / 256, by omega, by go_num, rfl, Lib.hid (by rw [ht.out]; exact shift_step v k), hb.setCell (Nat.le_refl _) _, ?_⟩
        have h1 := HOB.out.set (putN_len U 8 k) (7 - k) (t % 256)
        have e := eight_byte v U k HU.out hlt
        rw [← ht.out] at e
        have h2 := putN_set (U : Int) 8 k hlt
        rw [← e, show 8 - 1 - k = 7 - k by omega] at h2
        rw [h2] at h1
        exact h1
      case measure => simp [intOf] <;> omega
    · have hkn : k = 8 := by omega
      subst hkn
      have hs := hob.string (putN_len U 8 8)
      clear hob
      rw [show (7 : Int) - ((8 : Nat) : Int) = -1 by omega]
      go_wp2_with fail
      go_ret
      exact ⟨rfl, hb⟩

theorem refRight_agg (k : Int) (x : Nat) (n : Int) (s : ByteArray) (r : Bool) (w : World) (h : Hid (rightB ⟨k, x, n, s⟩ = r)) (oa : Hid (ActL.Ok ⟨k, x, n, s⟩)) :
    Calls Tryz.prog 119 #[.agg #[.int .i64 k, .float .f64 x, .int .i64 n, .string s]] w fun e w' => e = .returned (.bool r) ∧ Bl w w' := by
  refine (refRight_any ⟨k, x, n, s⟩ w oa.out).mono ?_
  rintro e w' ⟨rfl, hb⟩
  rw [h.out]
  exact ⟨rfl, hb⟩
set_option maxRecDepth 100000 in
theorem refPutA_no (k : Int) (x : Nat) (n : Int) (s : ByteArray) (w : World) (h : Hid (rightB ⟨k, x, n, s⟩ = false)) (oa : Hid (ActL.Ok ⟨k, x, n, s⟩)) :
    Calls Tryz.prog 25 #[.agg #[.int .i64 k, .float .f64 x, .int .i64 n, .string s]] w fun e w' => e = .returned (.tuple #[.string ⟨#[]⟩, .int .i64 40]) ∧ Bl w w' := by
  go_enter Tryz.func25, Tryz.ntmps25
  go_wp2_with fail
  refine (refRight_agg k x n s false _ h oa).mono ?_
  rintro e w1 ⟨rfl, hb1⟩
  have G := (Box.new w k x n s _).keep hb1
  go_wp2_with fail
  go_ret2
  exact ⟨rfl, G.bl⟩
set_option maxRecDepth 100000 in
theorem refPutA_clear (x : Nat) (n : Int) (s : ByteArray) (w : World) (h : Hid (rightB ⟨4, x, n, s⟩ = true)) (oa : Hid (ActL.Ok ⟨4, x, n, s⟩)) :
    Calls Tryz.prog 25 #[.agg #[.int .i64 4, .float .f64 x, .int .i64 n, .string s]] w fun e w' => e = .returned (.tuple #[.string ⟨#[4]⟩, .int .i64 0]) ∧ Bl w w' := by
  go_enter Tryz.func25, Tryz.ntmps25
  go_wp2_with fail
  refine (refRight_agg 4 x n s true _ h oa).mono ?_
  rintro e w1 ⟨rfl, hb1⟩
  have G := (Box.new w 4 x n s _).keep hb1
  clear hb1
  obtain ⟨a0, a1, a2, a3⟩ := G.a.act
  obtain ⟨l0, l1, l2, l3⟩ := G.later
  have hst := OB.string (OB.one w1 4 (Nat.le_refl _)) rfl
  go_wp2_with fail
  go_ret2
  exact ⟨rfl, G.bl.alloc _⟩
set_option maxHeartbeats 800000 in
set_option maxRecDepth 100000 in
theorem refPutA_num (k : Int) (x : Nat) (n : Int) (s : ByteArray) (w : World) (hk : k = 2 ∨ k = 3) (h : Hid (rightB ⟨k, x, n, s⟩ = true)) (oa : Hid (ActL.Ok ⟨k, x, n, s⟩)) (hx : x < two64) :
    Calls Tryz.prog 25 #[.agg #[.int .i64 k, .float .f64 x, .int .i64 n, .string s]] w fun e w' => e = .returned (.tuple #[.string ⟨(UInt8.ofNat k.toNat :: bytesN8 (fkey x)).toArray⟩, .int .i64 0]) ∧ Bl w w' := by
  obtain ⟨s2, hs2⟩ : ∃ s2, s2 = strOfNums (putN (fkey x) 8 8) := ⟨_, rfl⟩
  have z2 : s2.size = 8 := by rw [hs2, (put8_SB x).size, bytesN8_len]
  have hput : ∀ W', Calls Tryz.prog 120 #[.float .f64 x] W' fun e w' => e = .returned (.string s2) ∧ Bl W' w' := fun W' => by rw [hs2]; exact refPutF_any x W' hx
  have HS2 := Lib.hid hs2
  clear hs2
  rcases hk with rfl | rfl
  · go_enter Tryz.func25, Tryz.ntmps25
    go_wp2_with fail
    refine (refRight_agg _ x n s true _ h oa).mono ?_
    rintro e w1 ⟨rfl, hb1⟩
    have G := (Box.new w _ x n s _).keep hb1
    clear hb1
    obtain ⟨a0, a1, a2, a3⟩ := G.a.act
    obtain ⟨l0, l1, l2, l3⟩ := G.later
    obtain ⟨s1, hs1⟩ : ∃ s1, s1 = strOfNums [2] := ⟨_, rfl⟩
    have z1 : s1.size = 1 := by rw [hs1]; rfl
    have hst := OB.string (OB.one w1 2 (Nat.le_refl _)) rfl
    rw [← hs1] at hst
    have HS1 := Lib.hid hs1
    clear hs1
    go_wp2_with fail
    refine (hput _).mono ?_
    rintro e w2 ⟨rfl, hb2⟩
    have hbn := (G.bl.alloc (.cells #[.int .u8 2] 5)).trans hb2
    clear hst
    go_wp2_with fail
    go_ret2
    refine ⟨?_, hbn⟩
    rw [HS1.out, HS2.out]
    exact congrArg (fun z => Ending.returned (.tuple #[.string z, .int .i64 0])) (SB.eq (SB.append (show SB (strOfNums [2]) [2] from rfl) (put8_SB x)) (SB.mk _))
  · go_enter Tryz.func25, Tryz.ntmps25
    go_wp2_with fail
    refine (refRight_agg _ x n s true _ h oa).mono ?_
    rintro e w1 ⟨rfl, hb1⟩
    have G := (Box.new w _ x n s _).keep hb1
    clear hb1
    obtain ⟨a0, a1, a2, a3⟩ := G.a.act
    obtain ⟨l0, l1, l2, l3⟩ := G.later
    obtain ⟨s1, hs1⟩ : ∃ s1, s1 = strOfNums [3] := ⟨_, rfl⟩
    have z1 : s1.size = 1 := by rw [hs1]; rfl
    have hst := OB.string (OB.one w1 3 (Nat.le_refl _)) rfl
    rw [← hs1] at hst
    have HS1 := Lib.hid hs1
    clear hs1
    go_wp2_with fail
    refine (hput _).mono ?_
    rintro e w2 ⟨rfl, hb2⟩
    have hbn := (G.bl.alloc (.cells #[.int .u8 3] 5)).trans hb2
    clear hst
    go_wp2_with fail
    go_ret2
    refine ⟨?_, hbn⟩
    rw [HS1.out, HS2.out]
    exact congrArg (fun z => Ending.returned (.tuple #[.string z, .int .i64 0])) (SB.eq (SB.append (show SB (strOfNums [3]) [3] from rfl) (put8_SB x)) (SB.mk _))
set_option maxHeartbeats 800000 in
set_option maxRecDepth 100000 in
theorem refPutA_add (x : Nat) (n : Int) (s : ByteArray) (w : World) (h : Hid (rightB ⟨1, x, n, s⟩ = true)) (oa : Hid (ActL.Ok ⟨1, x, n, s⟩)) :
    Calls Tryz.prog 25 #[.agg #[.int .i64 1, .float .f64 x, .int .i64 n, .string s]] w fun e w' => e = .returned (.tuple #[.string ⟨(1 :: bytesN8 (n % 18446744073709551616).toNat).toArray⟩, .int .i64 0]) ∧ Bl w w' := by
  obtain ⟨s2, hs2⟩ : ∃ s2, s2 = strOfNums (putN ((n % 18446744073709551616).toNat : Nat) 8 8) := ⟨_, rfl⟩
  have hsb : SB s2 (bytesN8 (n % 18446744073709551616).toNat) := by rw [hs2]; rfl
  have z2 : s2.size = 8 := by rw [hsb.size, bytesN8_len]
  have hn := oa.out.n
  have hput : ∀ W', Calls Tryz.prog 121 #[.int .i64 n] W' fun e w' => e = .returned (.string s2) ∧ Bl W' w' := fun W' => by rw [hs2]; exact eight_any n _ W' hn (by omega)
  have HS2 := Lib.hid hsb
  clear hs2 hsb hn
  go_enter Tryz.func25, Tryz.ntmps25
  go_wp2_with fail
  refine (refRight_agg _ x n s true _ h oa).mono ?_
  rintro e w1 ⟨rfl, hb1⟩
  have G := (Box.new w _ x n s _).keep hb1
  clear hb1
  obtain ⟨a0, a1, a2, a3⟩ := G.a.act
  obtain ⟨l0, l1, l2, l3⟩ := G.later
  obtain ⟨s1, hs1⟩ : ∃ s1, s1 = strOfNums [1] := ⟨_, rfl⟩
  have z1 : s1.size = 1 := by rw [hs1]; rfl
  have hst := OB.string (OB.one w1 1 (Nat.le_refl _)) rfl
  rw [← hs1] at hst
  have HS1 := Lib.hid hs1
  clear hs1
  go_wp2_with fail
  refine (hput _).mono ?_
  rintro e w2 ⟨rfl, hb2⟩
  have hbn := (G.bl.alloc (.cells #[.int .u8 1] 5)).trans hb2
  clear hst
  go_wp2_with fail
  go_ret2
  refine ⟨?_, hbn⟩
  rw [HS1.out]
  exact congrArg (fun z => Ending.returned (.tuple #[.string z, .int .i64 0])) (SB.eq (SB.append (show SB (strOfNums [1]) [1] from rfl) HS2.out) (SB.mk _))
set_option maxHeartbeats 800000 in
set_option maxRecDepth 100000 in
theorem refPutA_set0 (x : Nat) (n : Int) (s : ByteArray) (w : World) (h : Hid (rightB ⟨0, x, n, s⟩ = true)) (oa : Hid (ActL.Ok ⟨0, x, n, s⟩)) (hs : s.toList.isEmpty = true) (hx : x < two64) :
    Calls Tryz.prog 25 #[.agg #[.int .i64 0, .float .f64 x, .int .i64 n, .string s]] w fun e w' => e = .returned (.tuple #[.string ⟨(0 :: 110 :: bytesN8 (fkey x)).toArray⟩, .int .i64 0]) ∧ Bl w w' := by
  obtain ⟨s2, hs2⟩ : ∃ s2, s2 = strOfNums (putN (fkey x) 8 8) := ⟨_, rfl⟩
  have z2 : s2.size = 8 := by rw [hs2, (put8_SB x).size, bytesN8_len]
  have hput : ∀ W', Calls Tryz.prog 120 #[.float .f64 x] W' fun e w' => e = .returned (.string s2) ∧ Bl W' w' := fun W' => by rw [hs2]; exact refPutF_any x W' hx
  have HS2 := Lib.hid hs2
  clear hs2
  go_enter Tryz.func25, Tryz.ntmps25
  go_wp2_with fail
  refine (refRight_agg _ x n s true _ h oa).mono ?_
  rintro e w1 ⟨rfl, hb1⟩
  have G := (Box.new w _ x n s _).keep hb1
  clear hb1
  obtain ⟨a0, a1, a2, a3⟩ := G.a.act
  obtain ⟨l0, l1, l2, l3⟩ := G.later
  obtain ⟨s1, hs1⟩ : ∃ s1, s1 = strOfNums [0] := ⟨_, rfl⟩
  have z1 : s1.size = 1 := by rw [hs1]; rfl
  have hst := OB.string (OB.one w1 0 (Nat.le_refl _)) rfl
  rw [← hs1] at hst
  have HS1 := Lib.hid hs1
  clear hs1
  have qs : (s.toList != []) = false := by cases e : s.toList with
    | nil => rfl
    | cons a l => rw [e] at hs; cases hs
  go_wp2_with fail
  refine (hput _).mono ?_
  rintro e w2 ⟨rfl, hb2⟩
  have hbn := (G.bl.alloc (.cells #[.int .u8 0] 5)).trans hb2
  clear hst
  go_wp2_with fail
  go_ret2
  refine ⟨?_, hbn⟩
  rw [HS1.out, HS2.out]
  exact congrArg (fun z => Ending.returned (.tuple #[.string z, .int .i64 0])) (SB.eq (SB.append (SB.append (show SB (strOfNums [0]) [0] from rfl) (show SB ⟨#[110]⟩ [110] from rfl)) (put8_SB x)) (SB.mk _))
set_option maxHeartbeats 800000 in
set_option maxRecDepth 100000 in
theorem refPutA_sett (x : Nat) (n : Int) (s : ByteArray) (w : World) (h : Hid (rightB ⟨0, x, n, s⟩ = true)) (oa : Hid (ActL.Ok ⟨0, x, n, s⟩)) (hs : s.toList.isEmpty = false) (hz : s.size ≤ 1024) :
    Calls Tryz.prog 25 #[.agg #[.int .i64 0, .float .f64 x, .int .i64 n, .string s]] w fun e w' => e = .returned (.tuple #[.string ⟨(0 :: 116 :: s.data.toList).toArray⟩, .int .i64 0]) ∧ Bl w w' := by
  go_enter Tryz.func25, Tryz.ntmps25
  go_wp2_with fail
  refine (refRight_agg _ x n s true _ h oa).mono ?_
  rintro e w1 ⟨rfl, hb1⟩
  have G := (Box.new w _ x n s _).keep hb1
  clear hb1
  obtain ⟨a0, a1, a2, a3⟩ := G.a.act
  obtain ⟨l0, l1, l2, l3⟩ := G.later
  obtain ⟨s1, hs1⟩ : ∃ s1, s1 = strOfNums [0] := ⟨_, rfl⟩
  have z1 : s1.size = 1 := by rw [hs1]; rfl
  have hst := OB.string (OB.one w1 0 (Nat.le_refl _)) rfl
  rw [← hs1] at hst
  have HS1 := Lib.hid hs1
  clear hs1
  have qs : (s.toList != []) = true := by cases e : s.toList with
    | nil => rw [e] at hs; cases hs
    | cons a l => rfl
  go_wp2_with fail
  go_ret2
  refine ⟨?_, G.bl.alloc _⟩
  rw [HS1.out]
  exact congrArg (fun z => Ending.returned (.tuple #[.string z, .int .i64 0])) (SB.eq (SB.append (SB.append (show SB (strOfNums [0]) [0] from rfl) (show SB ⟨#[116]⟩ [116] from rfl)) (show SB s s.data.toList from rfl)) (SB.mk _))
/-- bedrockref5.PutAct is op.Put -/
theorem refPutA_any (a : ActL) (w : World) (ok : a.Ok) :
    Calls Tryz.prog 25 #[.agg #[.int .i64 a.k, .float .f64 a.x, .int .i64 a.n, .string a.s]] w fun e w' => e = .returned (.tuple #[.string ⟨(putS a).toArray⟩, .int .i64 (putC a)]) ∧ Bl w w' := by
  unfold putS putC
  cases hr : rightB a
  · exact refPutA_no a.k a.x a.n a.s w (Lib.hid hr) (Lib.hid ok)
  · have hz := right_size hr
    simp only [if_true]
    obtain ⟨k, x, n, s⟩ := a
    rcases right_kind ok hr with ⟨k0, _⟩ | ⟨k0, _⟩ | ⟨k0, _⟩ | ⟨k0, _⟩
    · simp only at k0; subst k0
      cases hs : s.toList.isEmpty
      · have e : putA ⟨0, x, n, s⟩ = 0 :: 116 :: s.data.toList := by unfold putA; rw [if_pos rfl]; simp only [hs]; rfl
        rw [e]; exact refPutA_sett x n s w (Lib.hid hr) (Lib.hid ok) hs hz
      · have e : putA ⟨0, x, n, s⟩ = 0 :: 110 :: bytesN8 (fkey x) := by unfold putA; rw [if_pos rfl]; simp only [hs]; rfl
        rw [e]; exact refPutA_set0 x n s w (Lib.hid hr) (Lib.hid ok) hs ok.x
    · simp only at k0; subst k0
      exact refPutA_add x n s w (Lib.hid hr) (Lib.hid ok)
    · simp only at k0
      have e : putA ⟨k, x, n, s⟩ = UInt8.ofNat k.toNat :: bytesN8 (fkey x) := by
        rcases k0 with rfl | rfl <;> rfl
      rw [e]; exact refPutA_num k x n s w k0 (Lib.hid hr) (Lib.hid ok) ok.x
    · simp only at k0; subst k0
      exact refPutA_clear x n s w (Lib.hid hr) (Lib.hid ok)
theorem refPut_agg (k : Int) (x : Nat) (n : Int) (s : ByteArray) (b : ByteArray) (c : Int) (w : World) (oa : Hid (ActL.Ok ⟨k, x, n, s⟩)) (h : Hid (SB b (putS ⟨k, x, n, s⟩) ∧ putC ⟨k, x, n, s⟩ = c)) :
    Calls Tryz.prog 25 #[.agg #[.int .i64 k, .float .f64 x, .int .i64 n, .string s]] w fun e w' => e = .returned (.tuple #[.string b, .int .i64 c]) ∧ Bl w w' := by
  refine (refPutA_any ⟨k, x, n, s⟩ w oa.out).mono ?_
  rintro e w' ⟨rfl, hb⟩
  rw [h.out.2, SB.eq h.out.1 (SB.mk _)]
  exact ⟨rfl, hb⟩
end Go.Proofs.YtaplefelfiefaaaGreat
end
