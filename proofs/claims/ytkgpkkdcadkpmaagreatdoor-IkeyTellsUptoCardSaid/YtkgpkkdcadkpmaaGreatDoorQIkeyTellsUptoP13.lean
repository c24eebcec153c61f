import Derived.Test.YtkgpkkdcadkpmaaGreatDoorQIkeyTellsUptoP3
import Derived.Test.YtkgpkkdcadkpmaaGreatDoorQIkeyTellsUptoP12
import Derived.Test.YtkgpkkdcadkpmaaGreatDoorQIkeyTellsUptoP4
import Derived.Test.YtkgpkkdcadkpmaaGreatDoorQIkeyTellsUptoP2

/- parts of other texts. By an AI agent. -/
section
set_option linter.unusedVariables false
set_option linter.unusedSimpArgs false
namespace Go.Proofs.YtkgpkkdcadkpmaaGreatDoor
open Go.RowKit

theorem empty_of {s : ByteArray} (h : s.size = 0) : s.toList.isEmpty = true := by
  rw [ByteArray.toList_eq]
  obtain ⟨⟨l⟩⟩ := s
  cases l with
  | nil => rfl
  | cons a l => simp [ByteArray.size] at h
theorem filled_of {s : ByteArray} (h : 0 < s.size) : s.toList.isEmpty = false := by
  rw [ByteArray.toList_eq]
  obtain ⟨⟨l⟩⟩ := s
  cases l with
  | nil => exact absurd h (by decide)
  | cons a l => rfl
set_option maxHeartbeats 1600000 in
set_option maxRecDepth 100000 in
theorem refSameA_any (a d : ActL) (w : World) (oa : a.Ok) (ob : d.Ok) :
    Calls Tryz.prog 32 #[a.v, d.v] w fun e w' => e = .returned (.bool (sameA a d)) ∧ Bl w w' := by
  obtain ⟨k, x, n, s⟩ := a
  obtain ⟨l, y, m, t⟩ := d
  obtain ⟨_, hx, _, _⟩ := oa
  obtain ⟨_, hy, _, _⟩ := ob
  simp only at hx hy
  show Calls Tryz.prog 32 #[.agg #[.int .i64 k, .float .f64 x, .int .i64 n, .string s], .agg #[.int .i64 l, .float .f64 y, .int .i64 m, .string t]] w _
  by_cases hk : k = l
  · subst hk
    by_cases hf : fkey x = fkey y
    · have HF := Lib.hid hf
      go_enter Tryz.func32, Tryz.ntmps32
      go_wp2_with fail
      refine (refSame_any x y _ hx hy).mono ?_
      rintro e w1 ⟨rfl, rfl⟩
      rw [decide_eq_true hf]
      clear hf
      go_wp2_with fail
      all_goals (go_ret; refine ⟨ret_bool ?_, ((Bl.refl w).alloc _).alloc _⟩)
      all_goals (have h1 := HF.out; simp_all [sameA])
    · have HF := Lib.hid hf
      go_enter Tryz.func32, Tryz.ntmps32
      go_wp2_with fail
      refine (refSame_any x y _ hx hy).mono ?_
      rintro e w1 ⟨rfl, rfl⟩
      rw [decide_eq_false hf]
      clear hf
      go_wp2_with fail
      go_ret
      refine ⟨ret_bool ?_, ((Bl.refl w).alloc _).alloc _⟩
      have h1 := HF.out
      simp [sameA, h1]
  · have q : (k == l) = false := by simpa using hk
    have HK := Lib.hid hk
    clear hk
    go_enter Tryz.func32, Tryz.ntmps32
    go_wp2_with fail
    go_ret
    refine ⟨ret_bool ?_, ((Bl.refl w).alloc _).alloc _⟩
    have h1 := HK.out
    simp [sameA, h1]
end Go.Proofs.YtkgpkkdcadkpmaaGreatDoor
end

/- bedrockref5.IsKey, Right, Fits, SameAct, SameValue. By an AI agent. -/
section
namespace Go.Proofs.YtkgpkkdcadkpmaaGreatDoor
open Go.RowKit

set_option maxRecDepth 100000 in
theorem refIsKey_any (s : ByteArray) (w : World) (hs : s.size ≤ 140737488351232) : Calls Tryz.prog 15 #[.string s] w fun e w' => e = .returned (.bool (isKeyB s)) ∧ w = w' := by
  by_cases hp : 0 < s.size
  · have HH := Lib.hid (hd_get hp)
    have HE := Lib.hid (filled_of hp)
    go_enter Tryz.func15, Tryz.ntmps15
    go_wp2_with fail
    all_goals (go_ret; refine ⟨ret_bool ?_, rfl⟩)
    all_goals (
      have h := HH.out
      have h2 := HE.out
      clear HH HE
      unfold isKeyB
      rw [h2]
      first
      | (simp_all; done)
      | (simp_all; omega)
      | (rw [Bool.eq_iff_iff]; simp_all; done)
      | (rw [Bool.eq_iff_iff]; simp_all; omega))
  · have HE := Lib.hid (empty_of (s := s) (by omega))
    go_enter Tryz.func15, Tryz.ntmps15
    go_wp2_with fail
    all_goals (go_ret; refine ⟨ret_bool ?_, rfl⟩)
    all_goals (unfold isKeyB; rw [HE.out]; rfl)



end Go.Proofs.YtkgpkkdcadkpmaaGreatDoor
end

/- bedrockref3.Valid. By an AI agent. -/
section
namespace Go.Proofs.YtkgpkkdcadkpmaaGreatDoor
open Go.RowKit

theorem valid_bad {xs : List Int} {k : Nat} (hk : k < xs.length) (h : badT (nth xs k) = true) : validL xs = false := by
  have : xs.any badT = true := List.any_eq_true.2 ⟨nth xs k, by rw [nth_eq hk]; exact List.getElem_mem hk, h⟩
  simp [validL, this]
theorem valid_good {xs : List Int} (h : ∀ j, j < xs.length → badT (nth xs j) = false) : validL xs = (decide (1 ≤ xs.length) && decide (xs.length ≤ 8)) := by
  have : xs.any badT = false := by
    rw [List.any_eq_false]
    intro x hx
    obtain ⟨j, hj, rfl⟩ := List.getElem_of_mem hx
    have := h j hj
    rw [nth_eq hj] at this
    simp [this]
  simp [validL, this]

set_option maxHeartbeats 800000 in
theorem rvalid_any (a : Option Addr) (n ca : Nat) (xs : List Int) (w : World) (hx : IA w a n xs) :
    Calls Tryz.prog 34 #[.slice a n ca] w fun e w' => e = .returned (.bool (validL xs)) ∧ w = w' := by
  have hx1 := hx.cap
  have HX := Lib.hid hx.len
  go_enter Tryz.func34, Tryz.ntmps34
  go_wp2
  go_loop [3] (fun i => ∃ k : Nat, k ≤ n ∧ i = .int .i64 k ∧ ∀ j, j < k → badT (nth xs j) = false) (fun i => n - (intOf i).toNat)
  case atStart => exact ⟨0, Nat.zero_le _, rfl, fun j h => by omega⟩
  case round =>
    obtain ⟨k, hk, rfl, hle⟩ := hrel
    have HLE := Lib.hid hle; clear hle
    by_cases hlt : k < n
    · obtain ⟨ba, oa, rfl, hca⟩ := hx.cells k hlt
      have ha := hca k hlt
      clear hca
      have hkx : k < xs.length := by rw [HX.out]; exact hlt
      by_cases h0 : nth xs k < 0
      · have HB := Lib.hid (valid_bad hkx (show badT (nth xs k) = true by simp [badT, h0]))
        go_wp2
        go_ret
        exact ⟨ret_bool HB.out.symm, rfl⟩
      · by_cases h1 : 281474976710656 ≤ nth xs k
        · have HB := Lib.hid (valid_bad hkx (show badT (nth xs k) = true by simp [badT, h1]))
          go_wp2
          go_ret
          exact ⟨ret_bool HB.out.symm, rfl⟩
        · have HB := Lib.hid (show badT (nth xs k) = false by simp [badT]; omega)
          go_wp2
          go_round
          case rel => exact ⟨k + 1, by omega, by go_num, fun j hj => by
            by_cases e : j = k
            · subst e; exact HB.out
            · exact HLE.out j (by omega)⟩
          case measure => simp [intOf]; omega
    · have HV := Lib.hid (valid_good (xs := xs) (fun j hj => HLE.out j (by rw [HX.out] at hj; omega)))
      by_cases h1 : (1 : Int) ≤ n
      · by_cases h8 : (n : Int) ≤ 8
        · go_wp2
          go_ret
          exact ⟨ret_bool (by rw [HV.out, HX.out]; simp; omega), rfl⟩
        · go_wp2
          go_ret
          exact ⟨ret_bool (by rw [HV.out, HX.out]; simp; omega), rfl⟩
      · go_wp2
        go_ret
        exact ⟨ret_bool (by rw [HV.out, HX.out]; simp; omega), rfl⟩
end Go.Proofs.YtkgpkkdcadkpmaaGreatDoor
end
