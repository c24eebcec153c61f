/- raw.Put, raw.Get, raw.Digits. By an AI agent. -/
import Derived.Test.YtpfpefapdcdkeaaBase
namespace Go.Proofs.Ytpfpefapdcdkeaa
open Go.RowKit

/-- the j-th of n bytes of v, the greatest first -/
def byteAt (v : Int) (n j : Nat) : Int := v / 2 ^ (8 * (n - 1 - j)) % 256
def putN (v : Int) (n k : Nat) : List Int := (List.range n).map (fun j => if n - k ≤ j then byteAt v n j else 0)

theorem putN_len (v : Int) (n k : Nat) : (putN v n k).length = n := by simp [putN]
theorem putN_zero (v : Int) (n : Nat) : putN v n 0 = List.replicate n 0 := by
  apply List.ext_getElem (by simp [putN])
  intro i h1 h2
  simp [putN] at h1
  simp [putN]; omega
theorem putN_set (v : Int) (n k : Nat) (hk : k < n) : (putN v n k).set (n - 1 - k) (byteAt v n (n - 1 - k)) = putN v n (k + 1) := by
  apply List.ext_getElem (by simp [putN])
  intro i h1 h2
  simp [putN] at h1
  rw [List.getElem_set]
  simp only [putN, List.getElem_map, List.getElem_range]
  by_cases e : n - 1 - k = i
  · subst e; rw [if_pos rfl, if_pos (by omega)]
  · rw [if_neg e]
    by_cases h : n - k ≤ i
    · rw [if_pos h, if_pos (by omega)]
    · rw [if_neg h, if_neg (by omega)]

set_option maxHeartbeats 800000 in
set_option maxRecDepth 100000 in
theorem put_any (v : Int) (n : Nat) (w : World) (hv : 0 ≤ v) (hn : 1 ≤ n) (hn1 : n ≤ 7) (hvn : v / 2 ^ (8 * n) = 0) :
    Calls Try.prog 50 #[.int .i64 v, .int .i64 n] w fun e w' => e = .returned (.tuple #[.string (strOfNums (putN v n n)), .int .i64 0]) ∧ Bl w w' := by
  obtain ⟨i0, hi, hz0, hz1, hz2⟩ := info_parts info_byte
  have hv0 : (v / 2 ^ (8 * n) != 0) = false := by simp [hvn]
  clear hvn
  go_enter Try.func50, Try.ntmps50
  go_wp2_with (at_make; refine wpList_make_full _ rfl _ _ 69 rfl w.heap.size 5 i0 (.int .u8 0) 1 Try.underlying69 hi hz0 hz1 .i64 .i64 _ _ n rfl rfl rfl rfl ?b1 ?b2 ?b3 ?_)
  case b1 => rw [hz2]; omega
  case b2 => unfold maxLen; omega
  case b3 => exact Nat.le_refl _
  intro w1 hown hgrow
  have hb : Bl w w1 := Below.grown (Bl.refl w) hgrow (Nat.le_refl _) (by simp)
  have hob : OB w.heap.size w1 (.slice (some ⟨w.heap.size, 0, none⟩) n n) (putN v n 0) := by
    rw [OB, putN_len, putN_zero]
    have e : (madeCells #[Value.int .u8 0] n).toList = List.map (Value.int .u8) (List.replicate n 0) := by
      rw [List.map_replicate]
      exact toList_madeCells_one _ _
    rw [e] at hown
    exact hown
  clear hown hgrow
  go_wp2
  go_loopw [29] (fun i wr => ∃ k : Nat, k ≤ n ∧ i = .int .i64 k ∧ Bl w wr ∧ OB w.heap.size wr (.slice (some ⟨w.heap.size, 0, none⟩) n n) (putN v n k)) (fun i _ => n - (intOf i).toNat)
  case atStart => exact ⟨0, Nat.zero_le _, rfl, hb, hob⟩
  case round =>
    clear hb hob
    obtain ⟨k, hk, rfl, hb, hob⟩ := hrel
    by_cases hlt : k < n
    · have hc := hob.cell (putN_len v n k) (n - 1 - k) (by omega)
      have hfz := hob.frozen (putN_len v n k) (n - 1 - k)
      generalize nth (putN v n k) (n - 1 - k) = old at hc
      have HOB := Lib.hid hob; clear hob
      go_wp2
      go_roundw
      case rel =>
        refine ⟨k + 1, by omega, by go_num, hb.setCell (Nat.le_refl _) _, ?_⟩
        have h1 := HOB.out.set (putN_len v n k) (n - 1 - k) (v / 2 ^ (8 * k) % 256)
        have e : v / 2 ^ (8 * k) % 256 = byteAt v n (n - 1 - k) := by unfold byteAt; rw [show n - 1 - (n - 1 - k) = k by omega]
        have h2 := putN_set v n k hlt
        rw [← e] at h2
        rw [h2] at h1
        exact h1
      case measure => simp [intOf]; omega
    · have hkn : k = n := by omega
      subst hkn
      have hs := hob.string (putN_len v k k)
      clear hob
      go_wp2
      go_ret2
      exact ⟨rfl, hb⟩

set_option maxRecDepth 100000 in
/-- what is too much for its bytes -/
theorem put_no (v n : Int) (w : World) (h : n < 1 ∨ 7 < n ∨ v < 0) :
    Calls Try.prog 50 #[.int .i64 v, .int .i64 n] w fun e w' => e = .returned (.tuple #[.string ⟨#[]⟩, .int .i64 1]) ∧ w = w' := by
  by_cases h1 : n < 1
  · go_enter Try.func50, Try.ntmps50
    go_wp2
    go_ret2
    exact ⟨rfl, rfl⟩
  · by_cases h2 : 7 < n
    · go_enter Try.func50, Try.ntmps50
      go_wp2
      go_ret2
      exact ⟨rfl, rfl⟩
    · have h3 : v < 0 := by omega
      go_enter Try.func50, Try.ntmps50
      go_wp2
      go_ret2
      exact ⟨rfl, rfl⟩

/-- the number of some bytes -/
def getN (l : List UInt8) : Int := l.foldl (fun v b => v * 256 + b.toNat) 0

theorem getN_bound (l : List UInt8) : 0 ≤ getN l ∧ getN l < 256 ^ l.length := by
  unfold getN
  suffices h : ∀ (l : List UInt8) (a : Int) (m : Nat), 0 ≤ a → a < 256 ^ m → 0 ≤ l.foldl (fun v b => v * 256 + (b.toNat : Int)) a ∧ l.foldl (fun v b => v * 256 + (b.toNat : Int)) a < 256 ^ (m + l.length) by
    simpa using h l 0 0 (by omega) (by simp)
  intro l
  induction l with
  | nil => intro a m h0 h1; exact ⟨h0, by simpa using h1⟩
  | cons b l ih =>
    intro a m h0 h1
    have hb : b.toNat < 256 := UInt8.toNat_lt b
    have := ih (a * 256 + b.toNat) (m + 1) (by omega) (by rw [Int.pow_succ]; omega)
    simp only [List.foldl_cons, List.length_cons]
    rw [show m + (l.length + 1) = m + 1 + l.length by omega]
    exact this
theorem getN_snoc (l : List UInt8) (b : UInt8) : getN (l ++ [b]) = getN l * 256 + b.toNat := by simp [getN]

theorem wraps_i64 (n : Int) (h₀ : 0 ≤ n) (h₁ : n < 2 ^ 63) : IntKind.i64.wrap n = n := by rw [IntKind.wrap_i64]; omega
theorem or_shl8 (a b : Int) (h0 : 0 ≤ a) (h1 : a < 281474976710656) (h2 : 0 ≤ b) (h3 : b < 256) : bits .or .i64 (a * 256) (wrap64 b) = a * 256 + b := by
  have e2 : wrap64 b = b := by unfold wrap64; omega
  rw [e2]
  exact bits_join .i64 63 (by decide) wraps_i64 8 _ _ (by omega) (by omega) (by omega) h2 (by omega) (by omega)

theorem getN_take {s : ByteArray} {k : Nat} (h : k < s.size) : getN (s.data.toList.take (k + 1)) = getN (s.data.toList.take k) * 256 + s[k].toNat := by
  have h' : k < s.data.toList.length := by simpa using h
  rw [List.take_succ_eq_append_getElem h', getN_snoc]
  rfl

set_option maxHeartbeats 800000 in
set_option maxRecDepth 100000 in
theorem get_any (s : ByteArray) (w : World) (h1 : 1 ≤ s.size) (h7 : s.size ≤ 7) :
    Calls Try.prog 57 #[.string s] w fun e w' => e = .returned (.tuple #[.int .i64 (getN s.data.toList), .int .i64 0]) ∧ w = w' := by
  go_enter Try.func57, Try.ntmps57
  go_wp2
  go_loop [4, 16] (fun v i => ∃ (k : Nat) (a : Int), k ≤ s.size ∧ i = .int .i64 k ∧ v = .int .i64 a ∧ a = getN (s.data.toList.take k)) (fun _ i => s.size - (intOf i).toNat)
  case atStart => exact ⟨0, 0, Nat.zero_le _, rfl, rfl, rfl⟩
  case round =>
    obtain ⟨k, a, hk, rfl, rfl, ha⟩ := hrel
    have hbd := getN_bound (s.data.toList.take k)
    rw [← ha] at hbd
    have HA := Lib.hid ha; clear ha
    by_cases hlt : k < s.size
    · have h6 : a < 281474976710656 := by
        have h2 := hbd.2
        have : (s.data.toList.take k).length ≤ 6 := Nat.le_trans (List.length_take_le _ _) (by omega)
        have h3 : (256 : Int) ^ (s.data.toList.take k).length ≤ 256 ^ 6 := by
          have := Nat.pow_le_pow_right (show 0 < 256 by decide) this
          exact_mod_cast this
        omega
      have h0 := hbd.1
      clear hbd
      have HO := Lib.hid (or_shl8 a s[k].toNat h0 h6 (by omega) (by have := UInt8.toNat_lt s[k]; omega))
      have HT := Lib.hid (getN_take hlt)
      go_wp2
      go_round
      case rel => exact ⟨k + 1, _, by omega, by go_num, rfl, by rw [HO.out, HT.out, HA.out]⟩
      case measure => simp [intOf]; omega
    · have HE := Lib.hid (show s.data.toList.take k = s.data.toList from List.take_of_length_le (by simp; omega))
      go_wp2
      go_ret2
      exact ⟨ret_int_ok (HA.out.trans (congrArg getN HE.out)), rfl⟩

/-! ### digits -/
def decD (u : Nat) : List Int := if u < 10 then [48 + (u : Int)] else decD (u / 10) ++ [48 + ((u % 10 : Nat) : Int)]
  termination_by u
  decreasing_by omega

theorem decD_small {u : Nat} (h : u < 10) : decD u = [48 + (u : Int)] := by rw [decD, if_pos h]
theorem decD_big {u : Nat} (h : ¬ u < 10) : decD u = decD (u / 10) ++ [48 + ((u % 10 : Nat) : Int)] := by rw [decD, if_neg h]
theorem decD_len (k : Nat) : ∀ u, u < 10 ^ (k + 1) → 1 ≤ (decD u).length ∧ (decD u).length ≤ k + 1 := by
  induction k with
  | zero => intro u h; rw [decD_small (by simpa using h)]; simp
  | succ k ih =>
    intro u h
    by_cases hu : u < 10
    · rw [decD_small hu]; simp
    · rw [decD_big hu]
      have := ih (u / 10) (by rw [Nat.pow_succ] at h; omega)
      simp; omega
theorem decD_pos (u : Nat) : 1 ≤ (decD u).length := by
  by_cases hu : u < 10
  · rw [decD_small hu]; simp
  · rw [decD_big hu]; simp
theorem decD_digit (u : Nat) : ∀ x ∈ decD u, 48 ≤ x ∧ x ≤ 57 := by
  induction u using Nat.strongRecOn with
  | _ u ih =>
    by_cases hu : u < 10
    · rw [decD_small hu]; intro x hx; simp at hx; omega
    · rw [decD_big hu]
      intro x hx
      rcases List.mem_append.1 hx with h | h
      · exact ih (u / 10) (by omega) x h
      · simp at h; omega
/-- a number's decimal digits -/
def digL (v : Int) : List Int := if v < 0 then 45 :: decD v.natAbs else decD v.natAbs

theorem digL_len (v : Int) (h0 : -9223372036854775808 ≤ v) (h1 : v ≤ 9223372036854775807) : 1 ≤ (digL v).length ∧ (digL v).length ≤ 20 := by
  have h := decD_len 18 v.natAbs (by omega)
  unfold digL
  split
  · simp; omega
  · omega

theorem drop_set_pred {xs t : List Int} {i : Nat} (hi : 1 ≤ i) (hl : i ≤ xs.length) (h : xs.drop i = t) (x : Int) : (xs.set (i - 1) x).drop (i - 1) = x :: t := by
  have h1 : i - 1 < (xs.set (i - 1) x).length := by simp; omega
  rw [List.drop_eq_getElem_cons h1, List.getElem_set_self]
  congr 1
  rw [show i - 1 + 1 = i by omega, List.drop_set_of_lt (by omega), h]

theorem slice_arr20 (g i : Nat) (x : Int) (hx : x = i) (h : i < 20) (w : World) :
    (Instr.sliceAt 92 (.pointer (some ⟨g, 0, none⟩)) (some (.int .i64 x)) none none).run Try.prog w = .ok (.slice (some ⟨g, i, none⟩) (20 - i) (20 - i)) w := by
  subst hx
  have hne : ¬ (20 : Nat) = i := by omega
  have hle : (i : Int) ≤ 20 := by omega
  have ha : Addr.add ⟨g, 0, none⟩ i = ⟨g, i, none⟩ := by unfold Addr.add; split <;> simp_all
  simp [Instr.sliceAt, Instr.sureAddr, run_underlying Try.underlying92, Instr.sliceBounds, run_sliceBound, hne, hle, Result.andThen, ha]

set_option maxHeartbeats 1600000 in
set_option maxRecDepth 100000 in
theorem digits_any (v : Int) (w : World) (h0 : -9223372036854775808 ≤ v) (h1 : v ≤ 9223372036854775807) :
    Calls Try.prog 42 #[.int .i64 v] w fun e w' => e = .returned (.string (strOfNums (digL v))) ∧ Bl w w' := by
  have hu : ∃ u : Nat, u = v.natAbs ∧ u ≤ 9223372036854775808 := ⟨_, rfl, by omega⟩
  obtain ⟨u, hu, hu1⟩ := hu
  have HLU := Lib.hid (decD_len 18 u (by omega))
  have har : AR (w.alloc (.cells #[.int .u8 0, .int .u8 0, .int .u8 0, .int .u8 0, .int .u8 0, .int .u8 0, .int .u8 0, .int .u8 0, .int .u8 0, .int .u8 0, .int .u8 0, .int .u8 0, .int .u8 0, .int .u8 0, .int .u8 0, .int .u8 0, .int .u8 0, .int .u8 0, .int .u8 0, .int .u8 0] 92)) w.heap.size (List.replicate 20 0) := ⟨92, by
    rw [heap_alloc_new]; rfl⟩
  have hbl := (Bl.refl w).alloc (.cells #[.int .u8 0, .int .u8 0, .int .u8 0, .int .u8 0, .int .u8 0, .int .u8 0, .int .u8 0, .int .u8 0, .int .u8 0, .int .u8 0, .int .u8 0, .int .u8 0, .int .u8 0, .int .u8 0, .int .u8 0, .int .u8 0, .int .u8 0, .int .u8 0, .int .u8 0, .int .u8 0] 92)
  have HU := Lib.hid hu; clear hu
  have HU1 := Lib.hid hu1; clear hu1
  have H0 := Lib.hid h0; clear h0
  have H1 := Lib.hid h1; clear h1
  by_cases hneg : v < 0
  · have HDL := Lib.hid (show digL v = 45 :: decD u from by rw [digL, if_pos hneg, HU.out])
    go_enter Try.func42, Try.ntmps42
    go_wp2
    go_loopw [4, 5] (fun n i wr => ∃ (m k : Nat) (xs t : List Int), n = .int .u64 m ∧ i = .int .i64 k ∧ xs.length = 20 ∧ AR wr w.heap.size xs ∧ Bl w wr ∧ xs.drop k = t ∧ k ≤ 20 ∧ m ≤ 9223372036854775808 ∧ decD u = decD m ++ t) (fun _ i _ => (intOf i).toNat)
    case atStart => exact ⟨u, 20, _, [], by
      have h0 := H0.out; have h1 := H1.out; have hu := HU.out
      congr 1; simp only [IntKind.wrap_u64]; omega, rfl, List.length_replicate, har, hbl, rfl, Nat.le_refl _, HU1.out, by simp⟩
    case round =>
      clear har hbl
      obtain ⟨m, k, xs, t, rfl, rfl, hxl, har, hb, ht, hk, hm, hd⟩ := hrel
      have hk2 : 2 ≤ k := by
        have h1 := HLU.out.2
        rw [hd, List.length_append] at h1
        have h2 := decD_pos m
        have h3 : t.length = 20 - k := by rw [← ht, List.length_drop, hxl]
        omega
      have hw : IntKind.u64.wrap ((m : Int) / 10) = (m : Int) / 10 := by rw [IntKind.wrap_u64]; omega
      have HX := Lib.hid hxl
      have HT := Lib.hid ht
      have HD := Lib.hid hd
      have HM := Lib.hid hm
      clear ht hd hm
      have hc1 := har.cell (k - 1) (by omega)
      have hc2 := har.cell (k - 1 - 1) (by omega)
      have hf1 := har.frozen (k - 1)
      have hf2 := har.frozen (k - 1 - 1)
      clear hxl
      generalize nth xs (k - 1) = o1 at hc1
      generalize nth xs (k - 1 - 1) = o2 at hc2
      have HT2 := Lib.hid (drop_set_pred (by omega) (by rw [HX.out]; exact hk) HT.out (48 + (m : Int) % 10))
      have har1 := har.set (k - 1) (48 + (m : Int) % 10)
      by_cases hm10 : m < 10
      · have hq : ((m : Int) / 10 == 0) = true := by simp; omega
        have hdd : digL v = 45 :: (48 + (m : Int) % 10) :: t := by
          rw [HDL.out, HD.out, decD_small hm10, show (m : Int) % 10 = m by omega]; rfl
        have HDD := Lib.hid hdd; clear hdd
        have har2 := har1.set (k - 1 - 1) 45
        have hsx := har2.string (k - 1 - 1) (20 - (k - 1 - 1)) (20 - (k - 1 - 1)) (by simp [HX.out]; omega)
        have hsl := slice_arr20 w.heap.size (k - 1 - 1) ((k : Int) - 1 - 1) (by omega) (by omega)
        have HT3 := Lib.hid (drop_set_pred (xs := xs.set (k - 1) (48 + (m : Int) % 10)) (by omega) (by simp [HX.out]; omega) HT2.out 45)
        go_wp2
        go_ret
        exact ⟨ret_str (by rw [HDD.out, HT3.out]), (hb.setCell (Nat.le_refl _) _).setCell (Nat.le_refl _) _⟩
      · have hq : ((m : Int) / 10 == 0) = false := by simp; omega
        have HD2 := Lib.hid (decD_big hm10)
        go_wp2
        go_roundw
        case rel => exact ⟨m / 10, k - 1, _, _, by go_num, by go_num, by simp [HX.out], har1, hb.setCell (Nat.le_refl _) _, HT2.out, by omega, by have := HM.out; omega, by rw [HD.out, HD2.out]; simp⟩
        case measure => simp [intOf]; omega
  · have HDL := Lib.hid (show digL v = decD u from by rw [digL, if_neg hneg, HU.out])
    go_enter Try.func42, Try.ntmps42
    go_wp2
    go_loopw [4, 5] (fun n i wr => ∃ (m k : Nat) (xs t : List Int), n = .int .u64 m ∧ i = .int .i64 k ∧ xs.length = 20 ∧ AR wr w.heap.size xs ∧ Bl w wr ∧ xs.drop k = t ∧ k ≤ 20 ∧ m ≤ 9223372036854775808 ∧ decD u = decD m ++ t) (fun _ i _ => (intOf i).toNat)
    case atStart => exact ⟨u, 20, _, [], by
      have h0 := H0.out; have h1 := H1.out; have hu := HU.out
      congr 1; simp only [IntKind.wrap_u64]; omega, rfl, List.length_replicate, har, hbl, rfl, Nat.le_refl _, HU1.out, by simp⟩
    case round =>
      clear har hbl
      obtain ⟨m, k, xs, t, rfl, rfl, hxl, har, hb, ht, hk, hm, hd⟩ := hrel
      have hk2 : 2 ≤ k := by
        have h1 := HLU.out.2
        rw [hd, List.length_append] at h1
        have h2 := decD_pos m
        have h3 : t.length = 20 - k := by rw [← ht, List.length_drop, hxl]
        omega
      have hw : IntKind.u64.wrap ((m : Int) / 10) = (m : Int) / 10 := by rw [IntKind.wrap_u64]; omega
      have HX := Lib.hid hxl
      have HT := Lib.hid ht
      have HD := Lib.hid hd
      have HM := Lib.hid hm
      clear ht hd hm
      have hc1 := har.cell (k - 1) (by omega)
      have hc2 := har.cell (k - 1 - 1) (by omega)
      have hf1 := har.frozen (k - 1)
      have hf2 := har.frozen (k - 1 - 1)
      clear hxl
      generalize nth xs (k - 1) = o1 at hc1
      generalize nth xs (k - 1 - 1) = o2 at hc2
      have HT2 := Lib.hid (drop_set_pred (by omega) (by rw [HX.out]; exact hk) HT.out (48 + (m : Int) % 10))
      have har1 := har.set (k - 1) (48 + (m : Int) % 10)
      by_cases hm10 : m < 10
      · have hq : ((m : Int) / 10 == 0) = true := by simp; omega
        have hdd : digL v = (48 + (m : Int) % 10) :: t := by
          rw [HDL.out, HD.out, decD_small hm10, show (m : Int) % 10 = m by omega]; rfl
        have HDD := Lib.hid hdd; clear hdd
        have hsl := slice_arr20 w.heap.size (k - 1) ((k : Int) - 1) (by omega) (by omega)
        have hsx := har1.string (k - 1) (20 - (k - 1)) (20 - (k - 1)) (by simp [HX.out]; omega)
        go_wp2
        go_ret
        exact ⟨ret_str (by rw [HDD.out, HT2.out]), hb.setCell (Nat.le_refl _) _⟩
      · have hq : ((m : Int) / 10 == 0) = false := by simp; omega
        have HD2 := Lib.hid (decD_big hm10)
        go_wp2
        go_roundw
        case rel => exact ⟨m / 10, k - 1, _, _, by go_num, by go_num, by simp [HX.out], har1, hb.setCell (Nat.le_refl _) _, HT2.out, by omega, by have := HM.out; omega, by rw [HD.out, HD2.out]; simp⟩
        case measure => simp [intOf]; omega
end Go.Proofs.Ytpfpefapdcdkeaa
