import Derived.Test.YtibabgokmacnaaaGreatQVecTellsUptoP18
import Derived.Test.YtibabgokmacnaaaGreatQVecTellsUptoP2
import Derived.Test.YtibabgokmacnaaaGreatQVecTellsUptoP1
import Derived.Deep.Cut

/- strings of bytes; strings.Clone. By an AI agent. -/
section
set_option linter.unusedVariables false
set_option linter.unusedSimpArgs false
namespace Go.Proofs.YtibabgokmacnaaaGreat
open Go.RowKit

theorem cloneB_any (s : ByteArray) (w : World) (hs : s.size ≤ 140737488351232) : Calls Tryz.prog 208 #[.string s] w fun e w' => e = .returned (.string s) ∧ Bl w w' := by
  go_enter Tryz.func208, Tryz.ntmps208
  go_wp2_with fail
  refine (Tryz.stringslite_Clone s _ (by omega)).mono ?_
  rintro e w' ⟨rfl, hb⟩
  go_wp2_with fail
  go_ret
  exact ⟨rfl, hb⟩
/-- the string of these bytes -/
def strL (l : List UInt8) : ByteArray := ⟨l.toArray⟩
theorem strL_SB (l : List UInt8) : SB (strL l) l := rfl
theorem strL_size (l : List UInt8) : (strL l).size = l.length := (strL_SB l).size
theorem strL_of {s : ByteArray} {l : List UInt8} (h : SB s l) : s = strL l := SB.eq h (strL_SB l)
theorem strL_app (l m : List UInt8) : strL l ++ strL m = strL (l ++ m) := SB.eq ((strL_SB l).append (strL_SB m)) (strL_SB _)
theorem strL_nums (x : Int) (n : Nat) : strOfNums (putN x n n) = strL (numB x n) := SB.eq (strOfNums_list _) (strL_SB _)
theorem strL_ext (l : List UInt8) (a b : Nat) : (strL l).extract a b = strL ((l.drop a).take (b - a)) := by
  refine strL_of ?_
  rw [SB, Lib.extract_data, strL_SB]
theorem strL_take (l : List UInt8) (n : Nat) : (strL l).extract 0 n = strL (l.take n) := by
  rw [strL_ext, List.drop_zero, Nat.sub_zero]
theorem strL_drop (l : List UInt8) (n : Nat) : (strL l).extract n (strL l).size = strL (l.drop n) := by
  rw [strL_ext, strL_size, List.take_of_length_le (by rw [List.length_drop]; omega)]
theorem getL_any (l : List UInt8) (w : World) (h1 : 1 ≤ l.length) (h7 : l.length ≤ 7) :
    Calls Tryz.prog 62 #[.string (strL l)] w fun e w' => e = .returned (.tuple #[.int .i64 (getN l), .int .i64 0]) ∧ w = w' :=
  get_any (strL l) w (by rw [strL_size]; exact h1) (by rw [strL_size]; exact h7)
theorem strL_data (s : ByteArray) : strL s.data.toList = s := by unfold strL; simp
end Go.Proofs.YtibabgokmacnaaaGreat
end

/- bedrockref1.Get, bedrockref1.Put. By an AI agent. -/
section
namespace Go.Proofs.YtibabgokmacnaaaGreat
open Go.RowKit

theorem ret_pair {a b c d : Int} (h : a = b) (k : c = d) : Ending.returned (.tuple #[.int .i64 a, .int .i64 c]) = Ending.returned (.tuple #[.int .i64 b, .int .i64 d]) := by rw [h, k]
end Go.Proofs.YtibabgokmacnaaaGreat

namespace Go.Proofs.YtibabgokmacnaaaGreat
open Go.RowKit

set_option maxHeartbeats 1600000 in
set_option maxRecDepth 100000 in
theorem refPut_any (v : Nat) (n : Nat) (w : World) (hn : 1 ≤ n) (hn1 : n ≤ 7) (hv63 : v < 9223372036854775808) (hvn : v / 2 ^ (8 * n) = 0) :
    Calls Tryz.prog 68 #[.int .i64 v, .int .i64 n] w fun e w' => e = .returned (.tuple #[.string (strOfNums (putN v n n)), .int .i64 0]) ∧ Bl w w' := by
  obtain ⟨i0, hi, hz0, hz1, hz2⟩ := info_parts info_byte
  have HV := Lib.hid hvn; clear hvn
  go_enter Tryz.func68, Tryz.ntmps68
  go_wp2_with (at_make; refine wpList_make_full _ rfl _ _ 92 rfl w.heap.size 5 i0 (.int .u8 0) 1 Tryz.underlying92 hi hz0 hz1 .i64 .i64 _ _ n rfl rfl rfl rfl ?b1 ?b2 ?b3 ?_)
  case b1 => rw [hz2]; omega
  case b2 => unfold maxLen; omega
  case b3 => exact Nat.le_refl _
  intro w1 hown hgrow
  have hb : Bl w w1 := Below.grown (Bl.refl w) hgrow (Nat.le_refl _) (by simp)
  have hob : OB w.heap.size w1 (.slice (some ⟨w.heap.size, 0, none⟩) n n) (putN v n 0) := by
    rw [OB, putN_len, putN_zero]
    have e : (madeCells #[Value.int .u8 0] n).toList = List.map (Value.int .u8) (List.replicate n 0) := by
      rw [List.map_replicate]
      exact toList_madeCells_one _ _
    rw [e] at hown
    exact hown
  clear hown hgrow
  go_wp2_with fail
  go_loopw [0, 7] (fun v' i wr => ∃ (k : Nat) (u : Nat), k ≤ n ∧ i = .int .i64 ((n : Int) - 1 - k) ∧ v' = .int .i64 u ∧ u = v / 2 ^ (8 * k) ∧ Bl w wr ∧ OB w.heap.size wr (.slice (some ⟨w.heap.size, 0, none⟩) n n) (putN v n k)) (fun _ i _ => (intOf i + 1).toNat)
  case atStart => exact ⟨0, v, Nat.zero_le _, by go_num, rfl, by simp, hb, hob⟩
  case round =>
    clear hb hob
    obtain ⟨k, u, hk, rfl, rfl, hu, hb, hob⟩ := hrel
    have hu63 : u < 9223372036854775808 := by
      rw [hu]; exact Nat.lt_of_le_of_lt (Nat.div_le_self _ _) hv63
    by_cases hlt : k < n
    · have hc := hob.cell (putN_len v n k) (n - 1 - k) (by omega)
      have hfz := hob.frozen (putN_len v n k) (n - 1 - k)
      generalize nth (putN v n k) (n - 1 - k) = old at hc
      have HOB := Lib.hid hob; clear hob
      have HU := Lib.hid hu; clear hu
      have ei : (n : Int) - 1 - (k : Int) = ((n - 1 - k : Nat) : Int) := by omega
      rw [ei]
      have et : ((u : Int)).tmod 256 = ((u % 256 : Nat) : Int) := by
        rw [Int.tmod_eq_emod_of_nonneg (by omega)]; omega
      have ed : wrap64 ((u : Int).tdiv 256) = ((u / 256 : Nat) : Int) := by
        rw [Int.tdiv_eq_ediv_of_nonneg (by omega)]; unfold wrap64; omega
      go_wp2_with fail
      go_roundw
      case rel =>
        refine ⟨k + 1, u / 256, by omega, by go_num, rfl, ?_, hb.setCell (Nat.le_refl _) _, ?_⟩
        · rw [HU.out, Nat.div_div_eq_div_mul, show 8 * (k + 1) = 8 * k + 8 by omega, Nat.pow_add]
        · have h1 := HOB.out.set (putN_len v n k) (n - 1 - k) ((u : Int) % 256)
          have e : (u : Int) % 256 = byteAt v n (n - 1 - k) := by
            unfold byteAt
            rw [show n - 1 - (n - 1 - k) = k by omega, HU.out]
            rfl
          have h2 := putN_set v n k hlt
          rw [← e] at h2
          rw [h2] at h1
          exact h1
      case measure => simp [intOf] <;> omega
    · have hkn : k = n := by omega
      subst hkn
      have hs := hob.string (putN_len v k k)
      clear hob
      obtain rfl : u = 0 := by rw [hu]; exact HV.out
      clear hu
      rw [show (k : Int) - 1 - (k : Int) = -1 by omega]
      go_wp2_with fail
      go_ret2
      exact ⟨rfl, hb⟩

end Go.Proofs.YtibabgokmacnaaaGreat
end
