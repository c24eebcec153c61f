import Derived.Test.YtibabgokmacnaaaGreatQGossipPlaysUptoP30
import Derived.Test.YtibabgokmacnaaaGreatQGossipPlaysUptoP44
import Derived.Test.YtibabgokmacnaaaGreatQGossipPlaysUptoP36
import Derived.Test.YtibabgokmacnaaaGreatQGossipPlaysUptoP34

/- bedrockref3.Put of a valid vector. By an AI agent. -/
section
set_option linter.unusedVariables false
set_option linter.unusedSimpArgs false
namespace Go.Proofs.YtibabgokmacnaaaGreat
open Go.RowKit

theorem refPut6 (x : Int) (w : World) (h0 : 0 ≤ x) (h1 : x < 281474976710656) :
    Calls Tryz.prog 68 #[.int .i64 x, .int .i64 6] w fun e w' => e = .returned (.tuple #[.string (strL (bytesN (putN x 6 6))), .int .i64 0]) ∧ Bl w w' := by
  obtain ⟨v, rfl⟩ := Int.eq_ofNat_of_zero_le h0
  have := refPut_any v 6 w (by decide) (by decide) (by omega) (Nat.div_eq_of_lt (by have : (2 : Nat) ^ (8 * 6) = 281474976710656 := by decide
                                                                                    omega))
  exact this
set_option maxHeartbeats 1600000 in
set_option maxRecDepth 100000 in
theorem rput3_yes (a : Option Addr) (n ca : Nat) (xs : List Int) (w : World) (hx : IA w a n xs) (hv : validL xs = true) :
    Calls Tryz.prog 16 #[.slice a n ca] w fun e w' => e = .returned (.tuple #[.string (strL (putL xs)), .int .i64 0]) ∧ Bl w w' := by
  have hpt := valid_parts hv
  have h1 : 1 ≤ n := by rw [← hx.len]; exact hpt.1
  have h8 : n ≤ 8 := by rw [← hx.len]; exact hpt.2.1
  have HP := Lib.hid hpt.2.2; clear hpt
  have HX := Lib.hid hx.len
  have HV := Lib.hid hv; clear hv
  have hw8 : IntKind.u8.wrap (n : Int) = n := by rw [IntKind.wrap_u8]; omega
  go_enter Tryz.func16, Tryz.ntmps16
  go_wp2_with fail
  refine (rvalid_any a n ca xs _ hx).mono ?_
  rintro e w' ⟨rfl, rfl⟩
  rw [HV.out]
  have hcv : (convert 92 9 (.slice (some ⟨w.heap.size, 0, none⟩) 1 1)).run Tryz.prog (w.alloc (.cells #[.int .u8 n] 5)) = .ok (.string (strOfNums [(n : Int)])) (w.alloc (.cells #[.int .u8 n] 5)) :=
    AR.string (xs := [(n : Int)]) ⟨_, heap_alloc_new w _⟩ 0 1 1 rfl
  have hbl := (Bl.refl w).alloc (.cells #[.int .u8 n] 5)
  go_wp2_with fail
  go_loopw [4, 5] (fun s i wr => ∃ (k : Nat) (l : List UInt8), k ≤ n ∧ i = .int .i64 k ∧ s = .string (strL l) ∧ Bl w wr ∧ l = UInt8.ofNat n :: putBodyL (xs.take k)) (fun _ i _ => n - (intOf i).toNat)
  case atStart => exact ⟨0, _, Nat.zero_le _, rfl, rfl, hbl, rfl⟩
  case round =>
    clear hbl hcv
    obtain ⟨k, l, hk, rfl, rfl, hb, hl⟩ := hrel
    have hll : l.length ≤ 49 := by rw [hl, List.length_cons, putBodyL_len, List.length_take]; omega
    have HL := Lib.hid hl; clear hl
    have zl := strL_size l
    by_cases hlt : k < n
    · obtain ⟨ba, oa, rfl, hca⟩ := hx.cells k hlt
      have ha := hb.cell (hca k hlt)
      clear hca
      have hpk := HP.out k (by rw [HX.out]; exact hlt)
      have HG := Lib.hid (fun w => refPut6 (nth xs k) w hpk.1 hpk.2)
      have zq : (strL (bytesN (putN (nth xs k) 6 6))).size = 6 := by rw [strL_size, bytesN_len, putN_len]
      have HA := Lib.hid (strL_app l (bytesN (putN (nth xs k) 6 6)))
      generalize strL (bytesN (putN (nth xs k) 6 6)) = q at *
      generalize strL l = sl at *
      have hsum : (9223372036854775807 < sl.size + q.size) = False := eq_false (by omega)
      go_wp2_with fail
      refine (HG.out _).mono ?_
      rintro e w2 ⟨rfl, hb2⟩
      go_wp2_with fail
      go_roundw
      case rel => exact ⟨k + 1, _, by omega, by go_num, congrArg Value.string HA.out, hb.trans hb2, by rw [HL.out, take_nth (by rw [HX.out]; exact hlt), putBodyL_snoc]; rfl⟩
      case measure => simp [intOf]; omega
    · have hfin : l = putL xs := by
        rw [HL.out, putL, HX.out, List.take_of_length_le (by rw [HX.out]; omega)]
      have HF := Lib.hid hfin; clear hfin
      go_wp2_with fail
      go_ret2
      exact ⟨congrArg (fun l : List UInt8 => Ending.returned (.tuple #[.string (strL l), .int .i64 0])) HF.out, hb⟩
end Go.Proofs.YtibabgokmacnaaaGreat
end

/- Put of the reference's rows. By an AI agent. -/
section
set_option linter.unusedVariables false
set_option linter.unusedSimpArgs false
namespace Go.Proofs.YtibabgokmacnaaaGreat
open Go.RowKit

set_option maxHeartbeats 1600000 in
set_option maxRecDepth 100000 in
theorem rrowsPut_any (B g : Nat) (rows : List (List Int)) (w : World) (hr : RG B w g rows) (h1 : 1 ≤ rows.length) (hn8 : rows.length ≤ 8) (hv : ∀ r ∈ rows, validL r = true) :
    Calls Tryz.prog 37 #[.pointer (some ⟨g, 0, none⟩)] w fun e w' => e = .returned (.string (strL (putRows rows))) ∧ Bl w w' := by
  obtain ⟨v, hc, _, hor⟩ := hr
  obtain ⟨a0, cap, rfl⟩ := hor.slice
  have hcc := hc.cell
  have hw8 : IntKind.u8.wrap (rows.length : Int) = rows.length := by rw [IntKind.wrap_u8]; omega
  have hcv : (convert 92 9 (.slice (some ⟨w.heap.size, 0, none⟩) 1 1)).run Tryz.prog (w.alloc (.cells #[.int .u8 rows.length] 5)) = .ok (.string (strOfNums [(rows.length : Int)])) (w.alloc (.cells #[.int .u8 rows.length] 5)) :=
    AR.string (xs := [(rows.length : Int)]) ⟨_, heap_alloc_new w _⟩ 0 1 1 rfl
  go_enter Tryz.func37, Tryz.ntmps37
  go_wp2_with fail
  go_loopw [3, 4] (fun s i wr => ∃ (k : Nat) (l : List UInt8), k ≤ rows.length ∧ i = .int .i64 k ∧ s = .string (strL l) ∧ l = UInt8.ofNat rows.length :: (rows.take k).flatMap putL ∧ Bl w wr) (fun _ i _ => rows.length - (intOf i).toNat)
  case atStart => exact ⟨0, _, Nat.zero_le _, rfl, rfl, rfl, (Bl.refl w).alloc _⟩
  case round =>
    clear hcv
    obtain ⟨k, l, hkl, rfl, rfl, hl, hb⟩ := hrel
    have hll : l.length ≤ 393 := by
      have h4 := flat_small rows k hv hn8
      rw [hl, List.length_cons]; omega
    have HL := Lib.hid hl
    have zl := strL_size l
    have hcc := hb.cell hcc
    clear hl
    by_cases hlt : k < rows.length
    · obtain ⟨vs, hown, hvl, hrr⟩ := hor
      obtain ⟨h0, cap', e1, _, hcell, _⟩ := OR.cellAt hown hlt
      obtain ⟨ai, ni, ci, hvk, hIk⟩ := (hrr k).si
      rw [hvk] at hcell
      have e2 : a0 = some ⟨h0, 0, none⟩ := by simp at e1; exact e1.1
      subst e2
      have hcell := hb.cell hcell
      have hIk := hIk.keep hb
      have hvk2 : validL (nthR rows k) = true := hv _ (by simp [nthR, List.getD, hlt])
      clear hrr hvl hown e1 hvk
      have HP := Lib.hid (rput3_yes ai ni ci (nthR rows k) _ hIk hvk2)
      have zq : (strL (putL (nthR rows k))).size ≤ 49 := by rw [strL_size]; exact putL_small hvk2
      have HA := Lib.hid (strL_app l (putL (nthR rows k)))
      generalize strL (putL (nthR rows k)) = q at *
      generalize strL l = sl at *
      have hsum : (9223372036854775807 < sl.size + q.size) = False := eq_false (by omega)
      go_wp2_with fail
      refine HP.out.mono ?_
      rintro e w2 ⟨rfl, hb2⟩
      go_wp2_with fail
      go_roundw
      case rel => exact ⟨k + 1, _, by omega, by go_num, congrArg Value.string HA.out, by rw [HL.out, take_nthR hlt, List.flatMap_append]; simp, hb.trans hb2⟩
      case measure => simp [intOf]; omega
    · obtain rfl : k = rows.length := by omega
      go_wp2_with fail
      go_ret
      refine ⟨?_, hb⟩
      rw [HL.out, List.take_length]
      rfl
end Go.Proofs.YtibabgokmacnaaaGreat
end
