import Derived.Test.YtaplefelfiefaaaGreatQArchiveTellsUptoP4
import Derived.Test.YtaplefelfiefaaaGreatQArchiveTellsUptoP1
import Derived.Deep.QuietTactic
import Derived.BigQuiet
import Derived.Test.YtaplefelfiefaaaGreatQArchiveTellsUptoP8

/- bedrockref3.Valid. By an AI agent. -/
section
namespace Go.Proofs.YtaplefelfiefaaaGreat
open Go.RowKit

theorem valid_bad {xs : List Int} {k : Nat} (hk : k < xs.length) (h : badT (nth xs k) = true) : validL xs = false := by
  have : xs.any badT = true := List.any_eq_true.2 ⟨nth xs k, by rw [nth_eq hk]; exact List.getElem_mem hk, h⟩
  simp [validL, this]
theorem valid_good {xs : List Int} (h : ∀ j, j < xs.length → badT (nth xs j) = false) : validL xs = (decide (1 ≤ xs.length) && decide (xs.length ≤ 8)) := by
  have : xs.any badT = false := by
    rw [List.any_eq_false]
    intro x hx
    obtain ⟨j, hj, rfl⟩ := List.getElem_of_mem hx
    have := h j hj
    rw [nth_eq hj] at this
    simp [this]
  simp [validL, this]

set_option maxHeartbeats 800000 in
theorem rvalid_any (a : Option Addr) (n ca : Nat) (xs : List Int) (w : World) (hx : IA w a n xs) :
    Calls Tryz.prog 50 #[.slice a n ca] w fun e w' => e = .returned (.bool (validL xs)) ∧ w = w' := by
  have hx1 := hx.cap
  have HX := Lib.hid hx.len
  go_enter Tryz.func50, Tryz.ntmps50
  go_wp2
  go_loop [3] (fun i => ∃ k : Nat, k ≤ n ∧ i = .int .i64 k ∧ ∀ j, j < k → badT (nth xs j) = false) (fun i => n - (intOf i).toNat)
  case atStart => exact ⟨0, Nat.zero_le _, rfl, fun j h => by omega⟩
  case round =>
    obtain ⟨k, hk, rfl, hle⟩ := hrel
    have HLE := Lib.hid hle; clear hle
    by_cases hlt : k < n
    · obtain ⟨ba, oa, rfl, hca⟩ := hx.cells k hlt
      have ha := hca k hlt
      clear hca
      have hkx : k < xs.length := by rw [HX.out]; exact hlt
      by_cases h0 : nth xs k < 0
      · have HB := Lib.hid (valid_bad hkx (show badT (nth xs k) = true by simp [badT, h0]))
        go_wp2
        go_ret
        exact ⟨ret_bool HB.out.symm, rfl⟩
      · by_cases h1 : 281474976710656 ≤ nth xs k
        · have HB := Lib.hid (valid_bad hkx (show badT (nth xs k) = true by simp [badT, h1]))
          go_wp2
          go_ret
          exact ⟨ret_bool HB.out.symm, rfl⟩
        · have HB := Lib.hid (show badT (nth xs k) = false by simp [badT]; omega)
          go_wp2
          go_round
          case rel => exact ⟨k + 1, by omega, by go_num, fun j hj => by
            by_cases e : j = k
            · subst e; exact HB.out
            · exact HLE.out j (by omega)⟩
          case measure => simp [intOf]; omega
    · have HV := Lib.hid (valid_good (xs := xs) (fun j hj => HLE.out j (by rw [HX.out] at hj; omega)))
      by_cases h1 : (1 : Int) ≤ n
      · by_cases h8 : (n : Int) ≤ 8
        · go_wp2
          go_ret
          exact ⟨ret_bool (by rw [HV.out, HX.out]; simp; omega), rfl⟩
        · go_wp2
          go_ret
          exact ⟨ret_bool (by rw [HV.out, HX.out]; simp; omega), rfl⟩
      · go_wp2
        go_ret
        exact ⟨ret_bool (by rw [HV.out, HX.out]; simp; omega), rfl⟩
end Go.Proofs.YtaplefelfiefaaaGreat
end

/- bedrockref3: Leq, Same, Valid. By an AI agent. -/
section
namespace Go.Proofs.YtaplefelfiefaaaGreat
open Go.RowKit

set_option maxHeartbeats 400000 in
theorem rleq_any (a b : Option Addr) (n m ca cb : Nat) (xs ys : List Int) (w : World) (hx : IA w a n xs) (hy : IA w b m ys) :
    Calls Tryz.prog 137 #[.slice a n ca, .slice b m cb] w fun e w' => e = .returned (.bool (leqL xs ys)) ∧ Bl w w' := by
  have hx1 := hx.cap
  have hy1 := hy.cap
  by_cases hl : n = m
  · subst hl
    have HLL := Lib.hid (hx.len.trans hy.len.symm)
    have HX := Lib.hid hx.len
    have h2 : ((n : Int) != (n : Int)) = false := by simp
    go_enter Tryz.func137, Tryz.ntmps137
    go_wp2
    go_loopw [5] (fun i wr => ∃ k : Nat, k ≤ n ∧ i = .int .i64 k ∧ Bl w wr ∧ ∀ j, j < k → nth xs j ≤ nth ys j) (fun i _ => n - (intOf i).toNat)
    case atStart => exact ⟨0, Nat.zero_le _, rfl, Bl.refl _, fun j h => by omega⟩
    case round =>
      obtain ⟨k, hk, rfl, hbl, hle⟩ := hrel
      have HLE := Lib.hid hle; clear hle
      by_cases hlt : k < n
      · obtain ⟨ba, oa, rfl, hca⟩ := hx.cells k hlt
        obtain ⟨bb, ob, rfl, hcb⟩ := hy.cells k hlt
        have ha := hbl.cell (hca k hlt)
        have hb := hbl.cell (hcb k hlt)
        clear hca hcb
        by_cases hgt : nth ys k < nth xs k
        · have HR := Lib.hid (leqL_false HLL.out (by rw [HX.out]; exact hlt) hgt)
          go_wp2
          go_quiet (fail)
          go_wp2
          go_ret
          exact ⟨ret_bool HR.out.symm, hbl.drewN _⟩
        · go_wp2
          go_quiet (fail)
          go_wp2
          go_roundw
          case rel => exact ⟨k + 1, by omega, by go_num, hbl.drewN _, fun j hj => by
            by_cases e : j = k
            · subst e; omega
            · exact HLE.out j (by omega)⟩
          case measure => simp [intOf]; omega
      · have HR := Lib.hid ((leqL_iff HLL.out).2 (fun j hj => HLE.out j (by rw [HX.out] at hj; omega)))
        go_wp2
        go_ret
        exact ⟨ret_bool HR.out.symm, hbl⟩
  · have h2 : ((n : Int) != (m : Int)) = true := by simp; omega
    have HR := Lib.hid (leqL_len (xs := xs) (ys := ys) (by rw [hx.len, hy.len]; exact hl))
    go_enter Tryz.func137, Tryz.ntmps137
    go_wp2
    go_ret
    exact ⟨ret_bool HR.out.symm, Bl.refl _⟩

theorem leq_both (xs ys : List Int) : (leqL xs ys && leqL ys xs) = decide (xs = ys) := by
  by_cases hl : xs.length = ys.length
  · rw [Bool.eq_iff_iff, Bool.and_eq_true, decide_eq_true_eq, leqL_iff hl, leqL_iff hl.symm]
    constructor
    · rintro ⟨h1, h2⟩
      exact getD_ext hl fun j hj => Int.le_antisymm (h1 j hj) (h2 j (by omega))
    · rintro rfl
      exact ⟨fun _ _ => Int.le_refl _, fun _ _ => Int.le_refl _⟩
  · rw [leqL_len hl, decide_eq_false (fun e => hl (by rw [e]))]; rfl

theorem rsame_any (a b : Option Addr) (n m ca cb : Nat) (xs ys : List Int) (w : World) (hx : IA w a n xs) (hy : IA w b m ys) :
    Calls Tryz.prog 41 #[.slice a n ca, .slice b m cb] w fun e w' => e = .returned (.bool (decide (xs = ys))) ∧ Bl w w' := by
  have HB := Lib.hid (leq_both xs ys)
  cases h1 : leqL xs ys
  · have HQ := Lib.hid h1
    go_enter Tryz.func41, Tryz.ntmps41
    go_wp2_with fail
    refine (rleq_any a b n m ca cb xs ys _ hx hy).mono ?_
    rintro e w1 ⟨rfl, hb1⟩
    rw [h1]
    clear h1
    go_wp2_with fail
    go_ret
    exact ⟨ret_bool (by rw [← HB.out, HQ.out]; rfl), hb1⟩
  · have HQ := Lib.hid h1
    go_enter Tryz.func41, Tryz.ntmps41
    go_wp2_with fail
    refine (rleq_any a b n m ca cb xs ys _ hx hy).mono ?_
    rintro e w1 ⟨rfl, hb1⟩
    rw [h1]
    clear h1
    go_wp2_with fail
    refine (rleq_any b a m n cb ca ys xs _ (hy.keep hb1) (hx.keep hb1)).mono ?_
    rintro e w2 ⟨rfl, hb2⟩
    go_wp2_with fail
    go_ret
    exact ⟨ret_bool (by rw [← HB.out, HQ.out]; rfl), hb1.trans hb2⟩
end Go.Proofs.YtaplefelfiefaaaGreat
end

/- bedrockref3.Zero of any number. By an AI agent. -/
section
set_option linter.unusedVariables false
set_option linter.unusedSimpArgs false
namespace Go.Proofs.YtaplefelfiefaaaGreat
open Go.RowKit

set_option maxHeartbeats 400000 in
set_option maxRecDepth 100000 in
theorem rzero3_yes (n : Nat) (w : World) (h1 : 1 ≤ n) (h8 : n ≤ 8) :
    Calls Tryz.prog 51 #[.int .i64 n] w fun e w' => ∃ v, e = .returned v ∧ FI w.heap.size w' v (zeroL n) ∧ Bl w w' := by
  obtain ⟨i0, hi, hz0, hz1, hz2⟩ := info_parts info_int
  go_enter Tryz.func51, Tryz.ntmps51
  go_wp2_with (at_make; refine wpList_make_full _ rfl _ _ 23 rfl w.heap.size 3 i0 (.int .i64 0) 1 Tryz.underlying23 hi hz0 hz1 .i64 .i64 _ _ n rfl rfl rfl rfl ?b1 ?b2 ?b3 ?_)
  case b1 => rw [hz2]; omega
  case b2 => unfold maxLen; omega
  case b3 => exact Nat.le_refl _
  intro w1 hown hgrow
  have hb : Bl w w1 := Below.grown (Bl.refl w) hgrow (Nat.le_refl _) (by simp)
  have hob : OI w.heap.size w1 (.slice (some ⟨w.heap.size, 0, none⟩) n n) (zeroL n) := by
    have e : (madeCells #[Value.int .i64 0] n).toList = List.map (Value.int .i64) (List.replicate n 0) := by
      rw [List.map_replicate]
      exact toList_madeCells_one _ _
    rw [e] at hown
    rw [OI, zeroL, List.length_replicate]
    exact hown
  clear hown hgrow
  go_wp2_with fail
  go_ret
  refine ⟨_, rfl, ⟨hob, by simp [zeroL]; omega, fun x hx => ?_⟩, hb⟩
  simp [zeroL] at hx; omega
end Go.Proofs.YtaplefelfiefaaaGreat
end
