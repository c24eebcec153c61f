/- Put of the reference's rows. By an AI agent. -/
import Derived.Test.YtechiehbigmjbaaLoad4
import Derived.Test.YtechiehbigmjbaaGossip8
import Derived.Test.YtechiehbigmjbaaLoad0
set_option linter.unusedVariables false
set_option linter.unusedSimpArgs false
namespace Go.Proofs.Ytechiehbigmjbaa
open Go.RowKit

set_option maxHeartbeats 1600000 in
set_option maxRecDepth 100000 in
theorem rrowsPut_any (B g : Nat) (rows : List (List Int)) (w : World) (hr : RG B w g rows) (h1 : 1 ≤ rows.length) (hn8 : rows.length ≤ 8) (hv : ∀ r ∈ rows, validL r = true) :
    Calls Try.prog 70 #[.pointer (some ⟨g, 0, none⟩)] w fun e w' => e = .returned (.string (strL (putRows rows))) ∧ Bl w w' := by
  obtain ⟨v, hc, _, hor⟩ := hr
  obtain ⟨a0, cap, rfl⟩ := hor.slice
  have hcc := hc.cell
  have hw8 : IntKind.u8.wrap (rows.length : Int) = rows.length := by rw [IntKind.wrap_u8]; omega
  have hcv : (convert 61 9 (.slice (some ⟨w.heap.size, 0, none⟩) 1 1)).run Try.prog (w.alloc (.cells #[.int .u8 rows.length] 5)) = .ok (.string (strOfNums [(rows.length : Int)])) (w.alloc (.cells #[.int .u8 rows.length] 5)) :=
    AR.string (xs := [(rows.length : Int)]) ⟨_, heap_alloc_new w _⟩ 0 1 1 rfl
  go_enter Try.func70, Try.ntmps70
  go_wp2_with fail
  go_loopw [3, 4] (fun s i wr => ∃ (k : Nat) (l : List UInt8), k ≤ rows.length ∧ i = .int .i64 k ∧ s = .string (strL l) ∧ l = UInt8.ofNat rows.length :: (rows.take k).flatMap putL ∧ Bl w wr) (fun _ i _ => rows.length - (intOf i).toNat)
  case atStart => exact ⟨0, _, Nat.zero_le _, rfl, rfl, rfl, (Bl.refl w).alloc _⟩
  case round =>
    clear hcv
    obtain ⟨k, l, hkl, rfl, rfl, hl, hb⟩ := hrel
    have hll : l.length ≤ 393 := by
      have h4 := flat_small rows k hv hn8
      rw [hl, List.length_cons]; omega
    have HL := Lib.hid hl
    have zl := strL_size l
    have hcc := hb.cell hcc
    clear hl
    by_cases hlt : k < rows.length
    · obtain ⟨vs, hown, hvl, hrr⟩ := hor
      obtain ⟨h0, cap', e1, _, hcell, _⟩ := OR.cellAt hown hlt
      obtain ⟨ai, ni, ci, hvk, hIk⟩ := (hrr k).si
      rw [hvk] at hcell
      have e2 : a0 = some ⟨h0, 0, none⟩ := by simp at e1; exact e1.1
      subst e2
      have hcell := hb.cell hcell
      have hIk := hIk.keep hb
      have hvk2 : validL (nthR rows k) = true := hv _ (by simp [nthR, List.getD, hlt])
      clear hrr hvl hown e1 hvk
      have HP := Lib.hid (rput3_yes ai ni ci (nthR rows k) _ hIk hvk2)
      have zq : (strL (putL (nthR rows k))).size ≤ 49 := by rw [strL_size]; exact putL_small hvk2
      have HA := Lib.hid (strL_app l (putL (nthR rows k)))
      generalize strL (putL (nthR rows k)) = q at *
      generalize strL l = sl at *
      have hsum : (9223372036854775807 < sl.size + q.size) = False := eq_false (by omega)
      go_wp2_with fail
      refine HP.out.mono ?_
      rintro e w2 ⟨rfl, hb2⟩
      go_wp2_with fail
      go_roundw
      case rel => exact ⟨k + 1, _, by omega, by go_num, congrArg Value.string HA.out, by rw [HL.out, take_nthR hlt, List.flatMap_append]; simp, hb.trans hb2⟩
      case measure => simp [intOf]; omega
    · obtain rfl : k = rows.length := by omega
      go_wp2_with fail
      go_ret
      refine ⟨?_, hb⟩
      rw [HL.out, List.take_length]
      rfl
end Go.Proofs.Ytechiehbigmjbaa
