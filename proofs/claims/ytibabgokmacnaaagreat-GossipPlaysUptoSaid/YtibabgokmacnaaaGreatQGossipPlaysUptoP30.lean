import Derived.Test.YtibabgokmacnaaaGreatQGossipPlaysUptoP3
import Derived.Test.YtibabgokmacnaaaGreatQGossipPlaysUptoP8

/- bedrockref3.Valid. By an AI agent. -/
section
namespace Go.Proofs.YtibabgokmacnaaaGreat
open Go.RowKit

theorem valid_bad {xs : List Int} {k : Nat} (hk : k < xs.length) (h : badT (nth xs k) = true) : validL xs = false := by
  have : xs.any badT = true := List.any_eq_true.2 ⟨nth xs k, by rw [nth_eq hk]; exact List.getElem_mem hk, h⟩
  simp [validL, this]
theorem valid_good {xs : List Int} (h : ∀ j, j < xs.length → badT (nth xs j) = false) : validL xs = (decide (1 ≤ xs.length) && decide (xs.length ≤ 8)) := by
  have : xs.any badT = false := by
    rw [List.any_eq_false]
    intro x hx
    obtain ⟨j, hj, rfl⟩ := List.getElem_of_mem hx
    have := h j hj
    rw [nth_eq hj] at this
    simp [this]
  simp [validL, this]

set_option maxHeartbeats 800000 in
theorem rvalid_any (a : Option Addr) (n ca : Nat) (xs : List Int) (w : World) (hx : IA w a n xs) :
    Calls Tryz.prog 23 #[.slice a n ca] w fun e w' => e = .returned (.bool (validL xs)) ∧ w = w' := by
  have hx1 := hx.cap
  have HX := Lib.hid hx.len
  go_enter Tryz.func23, Tryz.ntmps23
  go_wp2
  go_loop [3] (fun i => ∃ k : Nat, k ≤ n ∧ i = .int .i64 k ∧ ∀ j, j < k → badT (nth xs j) = false) (fun i => n - (intOf i).toNat)
  case atStart => exact ⟨0, Nat.zero_le _, rfl, fun j h => by omega⟩
  case round =>
    obtain ⟨k, hk, rfl, hle⟩ := hrel
    have HLE := Lib.hid hle; clear hle
    by_cases hlt : k < n
    · obtain ⟨ba, oa, rfl, hca⟩ := hx.cells k hlt
      have ha := hca k hlt
      clear hca
      have hkx : k < xs.length := by rw [HX.out]; exact hlt
      by_cases h0 : nth xs k < 0
      · have HB := Lib.hid (valid_bad hkx (show badT (nth xs k) = true by simp [badT, h0]))
        go_wp2
        go_ret
        exact ⟨ret_bool HB.out.symm, rfl⟩
      · by_cases h1 : 281474976710656 ≤ nth xs k
        · have HB := Lib.hid (valid_bad hkx (show badT (nth xs k) = true by simp [badT, h1]))
          go_wp2
          go_ret
          exact ⟨ret_bool HB.out.symm, rfl⟩
        · have HB := Lib.hid (show badT (nth xs k) = false by simp [badT]; omega)
          go_wp2
          go_round
          case rel => exact ⟨k + 1, by omega, by go_num, fun j hj => by
            by_cases e : j = k
            · subst e; exact HB.out
            · exact HLE.out j (by omega)⟩
          case measure => simp [intOf]; omega
    · have HV := Lib.hid (valid_good (xs := xs) (fun j hj => HLE.out j (by rw [HX.out] at hj; omega)))
      by_cases h1 : (1 : Int) ≤ n
      · by_cases h8 : (n : Int) ≤ 8
        · go_wp2
          go_ret
          exact ⟨ret_bool (by rw [HV.out, HX.out]; simp; omega), rfl⟩
        · go_wp2
          go_ret
          exact ⟨ret_bool (by rw [HV.out, HX.out]; simp; omega), rfl⟩
      · go_wp2
        go_ret
        exact ⟨ret_bool (by rw [HV.out, HX.out]; simp; omega), rfl⟩
end Go.Proofs.YtibabgokmacnaaaGreat
end

/- the one word of what is no number. By an AI agent. -/
section
namespace Go.Proofs.YtibabgokmacnaaaGreat
open Go.RowKit

def nanW : Nat := 9221120237041090561
def canon (x : Nat) : Nat := if nanB x then nanW else x
theorem canon_key (x : Nat) : fkey (canon x) = fkey x := by
  cases h : nanB x
  · have : canon x = x := by unfold canon; rw [h]; rfl
    rw [this]
  · have : canon x = nanW := by unfold canon; rw [h]; rfl
    have h2 : fkey x = 0 := by unfold fkey; rw [h]; rfl
    rw [this, h2]
    decide +kernel
end Go.Proofs.YtibabgokmacnaaaGreat
end
