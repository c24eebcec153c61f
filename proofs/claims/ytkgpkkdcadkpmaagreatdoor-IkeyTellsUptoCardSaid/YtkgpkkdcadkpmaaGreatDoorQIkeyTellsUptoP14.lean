import Derived.Test.YtkgpkkdcadkpmaaGreatDoorQIkeyTellsUptoP1
import Derived.Deep.Cut
import Derived.Test.YtkgpkkdcadkpmaaGreatDoorQIkeyTellsUptoP13
import Derived.Test.YtkgpkkdcadkpmaaGreatDoorQIkeyTellsUptoP9
import Derived.Deep.AppendSrc

/- bedrockref1.Get, bedrockref1.Put. By an AI agent. -/
section
namespace Go.Proofs.YtkgpkkdcadkpmaaGreatDoor
open Go.RowKit

end Go.Proofs.YtkgpkkdcadkpmaaGreatDoor

namespace Go.Proofs.YtkgpkkdcadkpmaaGreatDoor
open Go.RowKit

set_option maxHeartbeats 1600000 in
set_option maxRecDepth 100000 in
theorem refPut_any (v : Nat) (n : Nat) (w : World) (hn : 1 ≤ n) (hn1 : n ≤ 7) (hv63 : v < 9223372036854775808) (hvn : v / 2 ^ (8 * n) = 0) :
    Calls Tryz.prog 24 #[.int .i64 v, .int .i64 n] w fun e w' => e = .returned (.tuple #[.string (strOfNums (putN v n n)), .int .i64 0]) ∧ Bl w w' := by
  obtain ⟨i0, hi, hz0, hz1, hz2⟩ := info_parts info_byte
  have HV := Lib.hid hvn; clear hvn
  go_enter Tryz.func24, Tryz.ntmps24
  go_wp2_with (at_make; refine wpList_make_full _ rfl _ _ 66 rfl w.heap.size 5 i0 (.int .u8 0) 1 Tryz.underlying66 hi hz0 hz1 .i64 .i64 _ _ n rfl rfl rfl rfl ?b1 ?b2 ?b3 ?_)
  case b1 => rw [hz2]; omega
  case b2 => unfold maxLen; omega
  case b3 => exact Nat.le_refl _
  intro w1 hown hgrow
  have hb : Bl w w1 := Below.grown (Bl.refl w) hgrow (Nat.le_refl _) (by simp)
  have hob : OB w.heap.size w1 (.slice (some ⟨w.heap.size, 0, none⟩) n n) (putN v n 0) := by
    rw [OB, putN_len, putN_zero]
    have e : (madeCells #[Value.int .u8 0] n).toList = List.map (Value.int .u8) (List.replicate n 0) := by
      rw [List.map_replicate]
      exact toList_madeCells_one _ _
    rw [e] at hown
    exact hown
  clear hown hgrow
  go_wp2_with fail
  go_loopw [0, 7] (fun v' i wr => ∃ (k : Nat) (u : Nat), k ≤ n ∧ i = .int .i64 ((n : Int) - 1 - k) ∧ v' = .int .i64 u ∧ u = v / 2 ^ (8 * k) ∧ Bl w wr ∧ OB w.heap.size wr (.slice (some ⟨w.heap.size, 0, none⟩) n n) (putN v n k)) (fun _ i _ => (intOf i + 1).toNat)
  case atStart => exact ⟨0, v, Nat.zero_le _, by go_num, rfl, by simp, hb, hob⟩
  case round =>
    clear hb hob
    obtain ⟨k, u, hk, rfl, rfl, hu, hb, hob⟩ := hrel
    have hu63 : u < 9223372036854775808 := by
      rw [hu]; exact Nat.lt_of_le_of_lt (Nat.div_le_self _ _) hv63
    by_cases hlt : k < n
    · have hc := hob.cell (putN_len v n k) (n - 1 - k) (by omega)
      have hfz := hob.frozen (putN_len v n k) (n - 1 - k)
      generalize nth (putN v n k) (n - 1 - k) = old at hc
      have HOB := Lib.hid hob; clear hob
      have HU := Lib.hid hu; clear hu
      have ei : (n : Int) - 1 - (k : Int) = ((n - 1 - k : Nat) : Int) := by omega
      rw [ei]
      have et : ((u : Int)).tmod 256 = ((u % 256 : Nat) : Int) := by
        rw [Int.tmod_eq_emod_of_nonneg (by omega)]; omega
      have ed : wrap64 ((u : Int).tdiv 256) = ((u / 256 : Nat) : Int) := by
        rw [Int.tdiv_eq_ediv_of_nonneg (by omega)]; unfold wrap64; omega
      go_wp2_with fail
      go_roundw
      case rel =>
        refine ⟨k + 1, u / 256, by omega, by go_num, rfl, ?_, hb.setCell (Nat.le_refl _) _, ?_⟩
        · rw [HU.out, Nat.div_div_eq_div_mul, show 8 * (k + 1) = 8 * k + 8 by omega, Nat.pow_add]
        · have h1 := HOB.out.set (putN_len v n k) (n - 1 - k) ((u : Int) % 256)
          have e : (u : Int) % 256 = byteAt v n (n - 1 - k) := by
            unfold byteAt
            rw [show n - 1 - (n - 1 - k) = k by omega, HU.out]
            rfl
          have h2 := putN_set v n k hlt
          rw [← e] at h2
          rw [h2] at h1
          exact h1
      case measure => simp [intOf] <;> omega
    · have hkn : k = n := by omega
      subst hkn
      have hs := hob.string (putN_len v k k)
      clear hob
      obtain rfl : u = 0 := by rw [hu]; exact HV.out
      clear hu
      rw [show (k : Int) - 1 - (k : Int) = -1 by omega]
      go_wp2_with fail
      go_ret2
      exact ⟨rfl, hb⟩

end Go.Proofs.YtkgpkkdcadkpmaaGreatDoor
end

/- bedrockref3.Put of a valid vector. By an AI agent. -/
section
set_option linter.unusedVariables false
set_option linter.unusedSimpArgs false
namespace Go.Proofs.YtkgpkkdcadkpmaaGreatDoor
open Go.RowKit

theorem refPut6 (x : Int) (w : World) (h0 : 0 ≤ x) (h1 : x < 281474976710656) :
    Calls Tryz.prog 24 #[.int .i64 x, .int .i64 6] w fun e w' => e = .returned (.tuple #[.string (strL (bytesN (putN x 6 6))), .int .i64 0]) ∧ Bl w w' := by
  obtain ⟨v, rfl⟩ := Int.eq_ofNat_of_zero_le h0
  have := refPut_any v 6 w (by decide) (by decide) (by omega) (Nat.div_eq_of_lt (by have : (2 : Nat) ^ (8 * 6) = 281474976710656 := by decide
                                                                                    omega))
  exact this
set_option maxHeartbeats 1600000 in
set_option maxRecDepth 100000 in
theorem rput3_yes (a : Option Addr) (n ca : Nat) (xs : List Int) (w : World) (hx : IA w a n xs) (hv : validL xs = true) :
    Calls Tryz.prog 26 #[.slice a n ca] w fun e w' => e = .returned (.tuple #[.string (strL (putL xs)), .int .i64 0]) ∧ Bl w w' := by
  have hpt := valid_parts hv
  have h1 : 1 ≤ n := by rw [← hx.len]; exact hpt.1
  have h8 : n ≤ 8 := by rw [← hx.len]; exact hpt.2.1
  have HP := Lib.hid hpt.2.2; clear hpt
  have HX := Lib.hid hx.len
  have HV := Lib.hid hv; clear hv
  have hw8 : IntKind.u8.wrap (n : Int) = n := by rw [IntKind.wrap_u8]; omega
  go_enter Tryz.func26, Tryz.ntmps26
  go_wp2_with fail
  refine (rvalid_any a n ca xs _ hx).mono ?_
  rintro e w' ⟨rfl, rfl⟩
  rw [HV.out]
  have hcv : (convert 66 9 (.slice (some ⟨w.heap.size, 0, none⟩) 1 1)).run Tryz.prog (w.alloc (.cells #[.int .u8 n] 5)) = .ok (.string (strOfNums [(n : Int)])) (w.alloc (.cells #[.int .u8 n] 5)) :=
    AR.string (xs := [(n : Int)]) ⟨_, heap_alloc_new w _⟩ 0 1 1 rfl
  have hbl := (Bl.refl w).alloc (.cells #[.int .u8 n] 5)
  go_wp2_with fail
  go_loopw [4, 5] (fun s i wr => ∃ (k : Nat) (l : List UInt8), k ≤ n ∧ i = .int .i64 k ∧ s = .string (strL l) ∧ Bl w wr ∧ l = UInt8.ofNat n :: putBodyL (xs.take k)) (fun _ i _ => n - (intOf i).toNat)
  case atStart => exact ⟨0, _, Nat.zero_le _, rfl, rfl, hbl, rfl⟩
  case round =>
    clear hbl hcv
    obtain ⟨k, l, hk, rfl, rfl, hb, hl⟩ := hrel
    have hll : l.length ≤ 49 := by rw [hl, List.length_cons, putBodyL_len, List.length_take]; omega
    have HL := Lib.hid hl; clear hl
    have zl := strL_size l
    by_cases hlt : k < n
    · obtain ⟨ba, oa, rfl, hca⟩ := hx.cells k hlt
      have ha := hb.cell (hca k hlt)
      clear hca
      have hpk := HP.out k (by rw [HX.out]; exact hlt)
      have HG := Lib.hid (fun w => refPut6 (nth xs k) w hpk.1 hpk.2)
      have zq : (strL (bytesN (putN (nth xs k) 6 6))).size = 6 := by rw [strL_size, bytesN_len, putN_len]
      have HA := Lib.hid (strL_app l (bytesN (putN (nth xs k) 6 6)))
      generalize strL (bytesN (putN (nth xs k) 6 6)) = q at *
      generalize strL l = sl at *
      have hsum : (9223372036854775807 < sl.size + q.size) = False := eq_false (by omega)
      go_wp2_with fail
      refine (HG.out _).mono ?_
      rintro e w2 ⟨rfl, hb2⟩
      go_wp2_with fail
      go_roundw
      case rel => exact ⟨k + 1, _, by omega, by go_num, congrArg Value.string HA.out, hb.trans hb2, by rw [HL.out, take_nth (by rw [HX.out]; exact hlt), putBodyL_snoc]; rfl⟩
      case measure => simp [intOf]; omega
    · have hfin : l = putL xs := by
        rw [HL.out, putL, HX.out, List.take_of_length_le (by rw [HX.out]; omega)]
      have HF := Lib.hid hfin; clear hfin
      go_wp2_with fail
      go_ret2
      exact ⟨congrArg (fun l : List UInt8 => Ending.returned (.tuple #[.string (strL l), .int .i64 0])) HF.out, hb⟩
end Go.Proofs.YtkgpkkdcadkpmaaGreatDoor
end

/- bedrockref1.Digits: digits that are put ahead of others. By an AI agent. -/
section
namespace Go.Proofs.YtkgpkkdcadkpmaaGreatDoor
open Go.RowKit

theorem OB.lit {B : Nat} {w : World} {x : Int} (hB : B ≤ w.heap.size) : OB B (w.alloc (.cells #[.int .u8 x] 5)) (.slice (some ⟨w.heap.size, 0, none⟩) 1 1) [x] :=
  ⟨by simp, .inr ⟨w.heap.size, 1, #[.int .u8 x], rfl, hB, heap_alloc_new w _, Nat.le_refl _, by decide, by simp, by simp⟩⟩
section
variable {ops : Array Oper}
end


end Go.Proofs.YtkgpkkdcadkpmaaGreatDoor
end
