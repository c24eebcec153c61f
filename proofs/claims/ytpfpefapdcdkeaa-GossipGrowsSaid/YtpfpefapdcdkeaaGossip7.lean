/- gossip.Set that is refused; gossip.New of no number. By an AI agent. -/
import Derived.Test.YtpfpefapdcdkeaaGossip3
namespace Go.Proofs.Ytpfpefapdcdkeaa
open Go.RowKit

theorem new_no (n : Int) (w : World) (h : n < 1 ∨ 8 < n) :
    Calls Try.prog 12 #[.int .i64 n] w fun e w' => e = .returned (.pointer none) ∧ w = w' := by
  by_cases h1 : n < 1
  · clear h
    go_enter Try.func12, Try.ntmps12
    go_wp2_with fail
    go_ret
    exact ⟨rfl, rfl⟩
  · have h8 : 8 < n := by omega
    clear h
    go_enter Try.func12, Try.ntmps12
    go_wp2_with fail
    go_ret
    exact ⟨rfl, rfl⟩

set_option maxHeartbeats 800000 in
theorem set_index (B g m c : Nat) (ad : Option Addr) (i : Int) (rows : List (List Int)) (w : World) (hr : RG B w g rows) (h1 : 1 ≤ rows.length) (hn8 : rows.length ≤ 8) (hi : i < 0 ∨ (rows.length : Int) ≤ i) :
    Calls Try.prog 13 #[.pointer (some ⟨g, 0, none⟩), .int .i64 i, .slice ad m c] w fun e w' => e = .returned (.int .i64 5) ∧ w = w' := by
  obtain ⟨v, hc, _, hor⟩ := hr
  obtain ⟨a0, cap, rfl⟩ := hor.slice
  have hcc := hc.cell
  have q0 : decide (rows.length = 0) = false := decide_eq_false (by omega)
  by_cases h0 : i < 0
  · clear hi
    go_enter Try.func13, Try.ntmps13
    go_wp2_with fail
    refine (none_any g _ _ _ _ hc).mono ?_
    rintro e w1 ⟨rfl, rfl⟩
    rw [q0]
    go_wp2_with fail
    go_ret
    exact ⟨rfl, rfl⟩
  · have h2 : (rows.length : Int) ≤ i := by omega
    clear hi
    go_enter Try.func13, Try.ntmps13
    go_wp2_with fail
    refine (none_any g _ _ _ _ hc).mono ?_
    rintro e w1 ⟨rfl, rfl⟩
    rw [q0]
    go_wp2_with fail
    go_ret
    exact ⟨rfl, rfl⟩

set_option maxHeartbeats 800000 in
theorem set_arg (B g m c k : Nat) (ad : Option Addr) (rows : List (List Int)) (xs : List Int) (w : World) (hr : RG B w g rows) (h1 : 1 ≤ rows.length) (hn8 : rows.length ≤ 8) (hk : k < rows.length) (hx : IA w ad m xs) (hv : validL xs = false ∨ m ≠ rows.length) :
    Calls Try.prog 13 #[.pointer (some ⟨g, 0, none⟩), .int .i64 k, .slice ad m c] w fun e w' => e = .returned (.int .i64 1) ∧ w = w' := by
  obtain ⟨v, hc, _, hor⟩ := hr
  obtain ⟨a0, cap, rfl⟩ := hor.slice
  have hcc := hc.cell
  have q0 : decide (rows.length = 0) = false := decide_eq_false (by omega)
  have hkn : ((k : Nat) : Int) < (rows.length : Int) := by omega
  have hm := hx.cap
  cases hvx : validL xs
  · clear hv
    go_enter Try.func13, Try.ntmps13
    go_wp2_with fail
    refine (none_any g _ _ _ _ hc).mono ?_
    rintro e w1 ⟨rfl, rfl⟩
    rw [q0]
    go_wp2_with fail
    refine (valid_any ad _ c xs _ hx).mono ?_
    rintro e w1 ⟨rfl, rfl⟩
    rw [hvx]
    go_wp2_with fail
    go_ret
    exact ⟨rfl, rfl⟩
  · have q1 : ((m : Int) != (rows.length : Int)) = true := by
      rcases hv with h | h
      · rw [hvx] at h; cases h
      · simp; omega
    clear hv
    go_enter Try.func13, Try.ntmps13
    go_wp2_with fail
    refine (none_any g _ _ _ _ hc).mono ?_
    rintro e w1 ⟨rfl, rfl⟩
    rw [q0]
    go_wp2_with fail
    refine (valid_any ad _ c xs _ hx).mono ?_
    rintro e w1 ⟨rfl, rfl⟩
    rw [hvx]
    go_wp2_with fail
    go_ret
    exact ⟨rfl, rfl⟩
end Go.Proofs.Ytpfpefapdcdkeaa
