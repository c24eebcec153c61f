/- stream.PutRow; a row read. By an AI agent. -/
import Derived.Test.YtdkfgoaogmjjfaaPlain1
import Derived.Test.YtdkfgoaogmjjfaaAppP
import Derived.Test.YtdkfgoaogmjjfaaAppM
import Derived.Test.YtdkfgoaogmjjfaaFill
import Derived.Test.YtdkfgoaogmjjfaaStrL
import Derived.Test.YtdkfgoaogmjjfaaOpGet2
import Derived.Deep.DeepCutAuto
set_option linter.unusedVariables false
set_option linter.unusedSimpArgs false
namespace Go.Proofs.Ytdkfgoaogmjjfaa
open Go.RowKit
attribute [local go_sem] eOp eOper eUpon pOp pOper pUpon

theorem swant_yes (w : World) : Calls Try.prog 111 #[.bool true] w fun e w' => e = .returned (.tuple #[]) ∧ w = w' := by
  go_enter Try.func111, Try.ntmps111
  go_wp2_with fail
  go_end0
  exact ⟨rfl, rfl⟩
theorem swant_no (w : World) : Calls Try.prog 111 #[.bool false] w fun e w' => e = panE ∧ w = w' := by
  go_enter Try.func111, Try.ntmps111
  go_wp2_with fail
  exact ⟨rfl, rfl, rfl⟩
/-- what PutRow tells -/
def rowL (from_ : Int) (row : List Int) : List UInt8 := if validL row = true ∧ 0 ≤ from_ ∧ from_ < row.length then 82 :: (numB from_ 1 ++ putL row) else []
def rowC (from_ : Int) (row : List Int) : Int := if validL row = true ∧ 0 ≤ from_ ∧ from_ < row.length then 0 else 1
set_option maxHeartbeats 1600000 in
set_option maxRecDepth 100000 in
theorem putRow_any (from_ : Int) (a : Option Addr) (n c : Nat) (row : List Int) (w : World) (hx : IA w a n row) :
    Calls Try.prog 27 #[.int .i64 from_, .slice a n c] w fun e w' => e = .returned (.tuple #[.string (strL (rowL from_ row)), .int .i64 (rowC from_ row)]) ∧ Bl w w' := by
  have HL := Lib.hid hx.len
  have hcap := hx.cap
  have HX := Lib.hid hx
  have hnil : (strL [] : ByteArray) = ⟨#[]⟩ := rfl
  cases hv : validL row
  · have HF : Hid (rowL from_ row = [] ∧ rowC from_ row = 1) := Lib.hid (by unfold rowL rowC; rw [hv]; simp)
    have HV := Lib.hid hv
    clear hv hx
    go_enter Try.func27, Try.ntmps27
    go_wp2_with fail
    refine (vput_no a n c row _ HX.out HV.out).mono ?_
    rintro e w' ⟨rfl, rfl⟩
    go_wp2_with fail
    go_ret2
    rw [HF.out.1, HF.out.2]
    exact ⟨rfl, Bl.refl _⟩
  have HV := Lib.hid hv
  by_cases h0 : from_ < 0
  · have HF : Hid (rowL from_ row = [] ∧ rowC from_ row = 1) := Lib.hid (by unfold rowL rowC; rw [if_neg (by omega), if_neg (by omega)]; exact ⟨rfl, rfl⟩)
    have d1 : decide (from_ < 0) = true := decide_eq_true h0
    clear hv hx
    go_enter Try.func27, Try.ntmps27
    go_wp2_with fail
    refine (vput_yes a n c row _ HX.out HV.out).mono ?_
    rintro e w' ⟨rfl, hb⟩
    go_wp2_with fail
    go_ret2
    rw [HF.out.1, HF.out.2]
    exact ⟨rfl, hb⟩
  obtain ⟨fi, rfl⟩ := Int.eq_ofNat_of_zero_le (show 0 ≤ from_ by omega)
  have d1 : decide ((fi : Int) < 0) = false := decide_eq_false h0
  by_cases h1 : n ≤ fi
  · have HF : Hid (rowL (fi : Int) row = [] ∧ rowC (fi : Int) row = 1) := Lib.hid (by have := HL.out; unfold rowL rowC; rw [if_neg (by omega), if_neg (by omega)]; exact ⟨rfl, rfl⟩)
    have d2 : decide ((n : Int) ≤ (fi : Int)) = true := decide_eq_true (by omega)
    have d3 : decide (n ≤ fi) = true := decide_eq_true h1
    clear hv hx
    go_enter Try.func27, Try.ntmps27
    go_wp2_with fail
    refine (vput_yes a n c row _ HX.out HV.out).mono ?_
    rintro e w' ⟨rfl, hb⟩
    go_wp2_with fail
    go_ret2
    rw [HF.out.1, HF.out.2]
    exact ⟨rfl, hb⟩
  have d2 : decide ((n : Int) ≤ (fi : Int)) = false := decide_eq_false (by omega)
  have d3 : decide (n ≤ fi) = false := decide_eq_false h1
  have hn8 : n ≤ 8 := by rw [← HL.out]; exact (valid_parts hv).2.1
  have HF : Hid (rowL (fi : Int) row = 82 :: (numB (fi : Int) 1 ++ putL row) ∧ rowC (fi : Int) row = 0) := Lib.hid (by have := HL.out; unfold rowL rowC; rw [if_pos ⟨hv, by omega, by omega⟩, if_pos ⟨hv, by omega, by omega⟩]; exact ⟨rfl, rfl⟩)
  have HP := Lib.hid (fun w => put_any (fi : Int) 1 w (by omega) (by decide) (by decide) (by rw [show (2 : Int) ^ (8 * 1) = 256 by decide]; omega))
  have e1 : (⟨#[82]⟩ : ByteArray) ++ strL (numB (fi : Int) 1) = strL (82 :: numB (fi : Int) 1) := strL_app [82] (numB (fi : Int) 1)
  have e2 : strL (82 :: numB (fi : Int) 1) ++ strL (putL row) = strL (82 :: (numB (fi : Int) 1 ++ putL row)) := strL_app _ _
  have z1 : (strL (numB (fi : Int) 1)).size = 1 := by rw [strL_size, numB_len]
  have z2 : (strL (putL row)).size ≤ 49 := by rw [strL_size]; exact putL_small hv
  have z3 : (strL (82 :: numB (fi : Int) 1)).size = 2 := by rw [strL_size, List.length_cons, numB_len]
  have hpe : (⟨(putL row).toArray⟩ : ByteArray) = strL (putL row) := rfl
  have HPE := Lib.hid hpe
  rw [HF.out.1, HF.out.2]
  clear hv hx hpe
  generalize strL (82 :: (numB (fi : Int) 1 ++ putL row)) = s3 at *
  generalize strL (82 :: numB (fi : Int) 1) = s2 at *
  generalize strL (putL row) = s1 at *
  go_enter Try.func27, Try.ntmps27
  go_wp2_with fail
  refine (vput_yes a n c row _ HX.out HV.out).mono ?_
  rintro e w' ⟨rfl, hb⟩
  rw [HPE.out]
  go_wp2_with fail
  refine (HP.out _).mono ?_
  rintro e w2 ⟨rfl, hb2⟩
  rw [strL_nums]
  generalize strL (numB (fi : Int) 1) = s0 at *
  have hb3 := (hb.trans hb2).alloc (.cells #[.int .u8 82] 5)
  have hob : OB w2.heap.size (w2.alloc (.cells #[.int .u8 82] 5)) (.slice (some ⟨w2.heap.size, 0, none⟩) 1 1) [82] := ⟨by simp, .inr ⟨w2.heap.size, 1, #[.int .u8 82], rfl, Nat.le_refl _, heap_alloc_new w2 _, Nat.le_refl _, by decide, by simp, by simp⟩⟩
  have hcv := hob.string rfl
  rw [show strOfNums [82] = (⟨#[82]⟩ : ByteArray) from rfl] at hcv
  have s_1 : (9223372036854775807 < 1 + s0.size) = False := eq_false (by omega)
  have s_2 : (9223372036854775807 < s2.size + s1.size) = False := eq_false (by omega)
  go_wp2_with fail
  go_ret2
  exact ⟨rfl, hb3⟩
end Go.Proofs.Ytdkfgoaogmjjfaa
