import Derived.Test.YtfjjnffifnohkaaGreatQFoldTellsUptoP1
import Derived.Deep.QuietTactic
import Derived.BigQuiet
import Derived.Below
import Derived.Test.YtfjjnffifnohkaaGreatQFoldTellsUptoP13

/- vec.Valid (lines of the text Vec2). By an AI agent. -/
section
set_option linter.unusedVariables false
namespace Go.Proofs.YtfjjnffifnohkaaGreat
open Go.RowKit

theorem bad_any (x : Int) (w : World) : Calls Tryz.prog 121 #[.int .i64 x] w fun e w' => e = .returned (.bool (decide (x < 0 ∨ 281474976710656 ≤ x))) ∧ w = w' := by
  by_cases h0 : x < 0
  · go_enter Tryz.func121, Tryz.ntmps121
    go_wp2
    go_ret
    exact ⟨ret_bool (by simp [h0]), rfl⟩
  · by_cases h1 : 281474976710656 ≤ x
    · go_enter Tryz.func121, Tryz.ntmps121
      go_wp2
      go_ret
      exact ⟨ret_bool (by simp_all), rfl⟩
    · go_enter Tryz.func121, Tryz.ntmps121
      go_wp2
      go_ret
      exact ⟨ret_bool (by simp; omega), rfl⟩

def badT (x : Int) : Bool := decide (x < 0 ∨ 281474976710656 ≤ x)

set_option maxHeartbeats 400000 in
theorem indexBad_any (a : Option Addr) (n ca : Nat) (xs : List Int) (w : World) (hx : IA w a n xs) :
    Calls Tryz.prog 176 #[.slice a n ca, .func (.func 121) #[] #[]] w fun e w' => ∃ k : Int, e = .returned (.int .i64 k) ∧ (k ≥ 0 ↔ xs.any badT = true) ∧ w = w' := by
  have hx1 := hx.cap
  have HX := Lib.hid hx.len
  go_enter Tryz.func176, Tryz.ntmps176
  go_wp2
  go_loop [8] (fun i => ∃ k : Nat, k ≤ n ∧ i = .int .i64 k ∧ ∀ j, j < k → badT (nth xs j) = false) (fun i => n - (intOf i).toNat)
  case atStart => exact ⟨0, Nat.zero_le _, rfl, fun j h => by omega⟩
  case round =>
    obtain ⟨k, hk, rfl, hle⟩ := hrel
    have HLE := Lib.hid hle; clear hle
    by_cases hlt : k < n
    · obtain ⟨ba, oa, rfl, hca⟩ := hx.cells k hlt
      have ha := hca k hlt
      clear hca
      go_wp2_with fail
      refine (bad_any _ _).mono ?_
      rintro e w' ⟨rfl, rfl⟩
      have hbt : decide (nth xs k < 0 ∨ 281474976710656 ≤ nth xs k) = badT (nth xs k) := rfl
      cases hbad : badT (nth xs k)
      · have HB := Lib.hid hbad
        rw [hbad] at hbt
        clear hbad
        rw [hbt]
        clear hbt
        go_wp2
        go_round
        case rel => exact ⟨k + 1, by omega, by go_num, fun j hj => by
            by_cases e : j = k
            · subst e; exact HB.out
            · exact HLE.out j (by omega)⟩
        case measure => simp [intOf]; omega
      · have HB := Lib.hid hbad
        rw [hbad] at hbt
        clear hbad
        rw [hbt]
        clear hbt
        go_wp2
        go_ret
        refine ⟨(k : Int), rfl, ⟨fun _ => ?_, fun _ => by omega⟩, rfl⟩
        rw [List.any_eq_true]
        have hkx : k < xs.length := by rw [HX.out]; exact hlt
        exact ⟨nth xs k, by rw [nth_eq hkx]; exact List.getElem_mem hkx, HB.out⟩
    · go_wp2
      go_ret
      refine ⟨-1, rfl, ⟨fun h => by omega, fun h => ?_⟩, rfl⟩
      obtain ⟨x, hxm, hb⟩ := h
      obtain ⟨j, hj, rfl⟩ := List.getElem_of_mem hxm
      have := HLE.out j (by rw [HX.out] at hj; omega)
      rw [nth_eq hj, hb] at this
      cases this

theorem containsBad_any (a : Option Addr) (n ca : Nat) (xs : List Int) (w : World) (hx : IA w a n xs) :
    Calls Tryz.prog 120 #[.slice a n ca, .func (.func 121) #[] #[]] w fun e w' => e = .returned (.bool (xs.any badT)) ∧ w = w' := by
  go_enter Tryz.func120, Tryz.ntmps120
  go_wp2_with fail
  refine (indexBad_any a n ca xs _ hx).mono ?_
  rintro e w' ⟨k, rfl, hk, rfl⟩
  have HK := Lib.hid hk; clear hk
  by_cases h : k ≥ 0
  · have HA := Lib.hid (HK.out.1 h)
    go_wp2
    go_ret
    exact ⟨ret_bool (by rw [HA.out]), rfl⟩
  · have HA := Lib.hid (show xs.any badT = false by rw [Bool.eq_false_iff]; exact fun h' => h (HK.out.2 h'))
    go_wp2
    go_ret
    exact ⟨ret_bool (by rw [HA.out]; simp; omega), rfl⟩

/-- is it a vector? -/
def validL (xs : List Int) : Bool := decide (1 ≤ xs.length) && decide (xs.length ≤ 8) && !xs.any badT

theorem valid_any (a : Option Addr) (n ca : Nat) (xs : List Int) (w : World) (hx : IA w a n xs) :
    Calls Tryz.prog 26 #[.slice a n ca] w fun e w' => e = .returned (.bool (validL xs)) ∧ w = w' := by
  have hx1 := hx.cap
  have HX := Lib.hid hx.len
  by_cases h0 : 1 ≤ n
  · by_cases h1 : n ≤ 8
    · go_enter Tryz.func26, Tryz.ntmps26
      go_wp2_with fail
      refine (containsBad_any a n ca xs _ hx).mono ?_
      rintro e w' ⟨rfl, rfl⟩
      cases hb : xs.any badT
      · have HB := Lib.hid hb; clear hb
        go_wp2
        go_ret
        exact ⟨ret_bool (by simp [validL, HX.out, h0, h1, HB.out]), rfl⟩
      · have HB := Lib.hid hb; clear hb
        go_wp2
        go_ret
        exact ⟨ret_bool (by simp [validL, HX.out, HB.out]), rfl⟩
    · go_enter Tryz.func26, Tryz.ntmps26
      go_wp2
      go_ret
      exact ⟨ret_bool (by simp [validL, HX.out, h1]), rfl⟩
  · go_enter Tryz.func26, Tryz.ntmps26
    go_wp2
    go_ret
    exact ⟨ret_bool (by simp [validL, HX.out, h0]), rfl⟩
theorem valid_parts {xs : List Int} (h : validL xs = true) : 1 ≤ xs.length ∧ xs.length ≤ 8 ∧ ∀ j, j < xs.length → 0 ≤ nth xs j ∧ nth xs j < 281474976710656 := by
  simp only [validL, Bool.and_eq_true, decide_eq_true_eq, Bool.not_eq_true'] at h
  obtain ⟨⟨h1, h2⟩, h3⟩ := h
  refine ⟨h1, h2, fun j hj => ?_⟩
  have h4 : badT (nth xs j) = false := by
    cases hb : badT (nth xs j)
    · rfl
    · have : xs.any badT = true := List.any_eq_true.2 ⟨nth xs j, by rw [nth_eq hj]; exact List.getElem_mem hj, hb⟩
      rw [h3] at this; cases this
  simp [badT] at h4; omega
end Go.Proofs.YtfjjnffifnohkaaGreat
end

/- joins and meets of valid vectors are valid. By an AI agent. -/
section
set_option linter.unusedVariables false
namespace Go.Proofs.YtfjjnffifnohkaaGreat
open Go.RowKit

theorem valid_mk {xs : List Int} (h1 : 1 ≤ xs.length) (h8 : xs.length ≤ 8) (h : ∀ j, j < xs.length → 0 ≤ nth xs j ∧ nth xs j < 281474976710656) : validL xs = true := by
  simp only [validL, Bool.and_eq_true, decide_eq_true_eq, Bool.not_eq_true']
  refine ⟨⟨h1, h8⟩, ?_⟩
  rw [List.any_eq_false]
  intro x hx
  obtain ⟨j, hj, rfl⟩ := List.getElem_of_mem hx
  have h2 := h j hj
  rw [nth_eq hj] at h2
  simp [badT]; omega

theorem join_valid {xs ys : List Int} (hx : validL xs = true) (hy : validL ys = true) (hl : xs.length = ys.length) : validL (joinL xs ys) = true := by
  have a := valid_parts hx
  have b := valid_parts hy
  have e := join_len' hl
  refine valid_mk (by omega) (by omega) fun j hj => ?_
  rw [e] at hj
  rw [join_nth hl hj]
  have p := a.2.2 j hj
  have q := b.2.2 j (by omega)
  omega
end Go.Proofs.YtfjjnffifnohkaaGreat
end
