import Derived.Test.YtdkfgoaogmjjfaaVecP
import Derived.Test.YtdkfgoaogmjjfaaApp

/- bedrockref3.Valid. By an AI agent. -/
section
namespace Go.Proofs.Ytdkfgoaogmjjfaa
open Go.RowKit

theorem valid_bad {xs : List Int} {k : Nat} (hk : k < xs.length) (h : badT (nth xs k) = true) : validL xs = false := by
  have : xs.any badT = true := List.any_eq_true.2 ⟨nth xs k, by rw [nth_eq hk]; exact List.getElem_mem hk, h⟩
  simp [validL, this]
theorem valid_good {xs : List Int} (h : ∀ j, j < xs.length → badT (nth xs j) = false) : validL xs = (decide (1 ≤ xs.length) && decide (xs.length ≤ 8)) := by
  have : xs.any badT = false := by
    rw [List.any_eq_false]
    intro x hx
    obtain ⟨j, hj, rfl⟩ := List.getElem_of_mem hx
    have := h j hj
    rw [nth_eq hj] at this
    simp [this]
  simp [validL, this]

set_option maxHeartbeats 800000 in
theorem rvalid_any (a : Option Addr) (n ca : Nat) (xs : List Int) (w : World) (hx : IA w a n xs) :
    Calls Try.prog 71 #[.slice a n ca] w fun e w' => e = .returned (.bool (validL xs)) ∧ w = w' := by
  have hx1 := hx.cap
  have HX := Lib.hid hx.len
  go_enter Try.func71, Try.ntmps71
  go_wp2
  go_loop [3] (fun i => ∃ k : Nat, k ≤ n ∧ i = .int .i64 k ∧ ∀ j, j < k → badT (nth xs j) = false) (fun i => n - (intOf i).toNat)
  case atStart => exact ⟨0, Nat.zero_le _, rfl, fun j h => by omega⟩
  case round =>
    obtain ⟨k, hk, rfl, hle⟩ := hrel
    have HLE := Lib.hid hle; clear hle
    by_cases hlt : k < n
    · obtain ⟨ba, oa, rfl, hca⟩ := hx.cells k hlt
      have ha := hca k hlt
      clear hca
      have hkx : k < xs.length := by rw [HX.out]; exact hlt
      by_cases h0 : nth xs k < 0
      · have HB := Lib.hid (valid_bad hkx (show badT (nth xs k) = true by simp [badT, h0]))
        go_wp2
        go_ret
        exact ⟨ret_bool HB.out.symm, rfl⟩
      · by_cases h1 : 281474976710656 ≤ nth xs k
        · have HB := Lib.hid (valid_bad hkx (show badT (nth xs k) = true by simp [badT, h1]))
          go_wp2
          go_ret
          exact ⟨ret_bool HB.out.symm, rfl⟩
        · have HB := Lib.hid (show badT (nth xs k) = false by simp [badT]; omega)
          go_wp2
          go_round
          case rel => exact ⟨k + 1, by omega, by go_num, fun j hj => by
            by_cases e : j = k
            · subst e; exact HB.out
            · exact HLE.out j (by omega)⟩
          case measure => simp [intOf]; omega
    · have HV := Lib.hid (valid_good (xs := xs) (fun j hj => HLE.out j (by rw [HX.out] at hj; omega)))
      by_cases h1 : (1 : Int) ≤ n
      · by_cases h8 : (n : Int) ≤ 8
        · go_wp2
          go_ret
          exact ⟨ret_bool (by rw [HV.out, HX.out]; simp; omega), rfl⟩
        · go_wp2
          go_ret
          exact ⟨ret_bool (by rw [HV.out, HX.out]; simp; omega), rfl⟩
      · go_wp2
        go_ret
        exact ⟨ret_bool (by rw [HV.out, HX.out]; simp; omega), rfl⟩
end Go.Proofs.Ytdkfgoaogmjjfaa
end

/- a vector's elements, as append asks of them. By an AI agent. -/
section
namespace Go.Proofs.Ytdkfgoaogmjjfaa
open Go.RowKit

theorem el_vc : EL 27 3 1 8 := el_of Try.underlying27 (by kernel_rfl) (by decide)
end Go.Proofs.Ytdkfgoaogmjjfaa
end

/- bedrockref3.Copy. By an AI agent. -/
section
set_option linter.unusedVariables false
set_option linter.unusedSimpArgs false
namespace Go.Proofs.Ytdkfgoaogmjjfaa
open Go.RowKit

set_option maxRecDepth 100000 in
theorem rcopy3_any (a : Option Addr) (n ca : Nat) (xs : List Int) (w : World) (hx : IA w a n xs) :
    Calls Try.prog 55 #[.slice a n ca] w fun e w' => ∃ v, e = .returned v ∧ FI w.heap.size w' v xs ∧ Bl w w' := by
  have HX := Lib.hid hx
  have hcap := hx.cap
  have HS := Lib.hid (sg_ints hx)
  clear hx
  go_enter Try.func55, Try.ntmps55
  go_wp2_with (at_builtin; refine wpList_appG rfl _ _ _ rfl el_vc w.heap.size _ 0 [] rfl (World.ownsRow_nil _ _ _ _) (Nat.le_refl _) _ _ _ _ rfl HS.out ?c1 ?c2 ?_)
  case c1 => unfold maxLen; omega
  case c2 => omega
  intro v1 w1 ho1 hg1
  have HB := Lib.hid ((Bl.refl w).ownRow (World.ownsRow_nil w w.heap.size 3 1) (Nat.le_refl _) hg1)
  have HO : Hid (FI w.heap.size w1 v1 xs) := Lib.hid ⟨by
    have hl := HX.out.len
    unfold OI
    rw [hl]
    exact ho1, by have hl := HX.out.len; omega, HX.out.wf⟩
  clear ho1 hg1
  go_wp2_with fail
  go_ret
  exact ⟨_, rfl, HO.out, HB.out⟩
end Go.Proofs.Ytdkfgoaogmjjfaa
end
