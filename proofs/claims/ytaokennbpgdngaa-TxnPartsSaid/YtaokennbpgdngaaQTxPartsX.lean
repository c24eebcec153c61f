/- the walk of TxnParts. By an AI agent. -/
import Derived.Test.YtaokennbpgdngaaCore32
import Derived.Test.YtaokennbpgdngaaQOpenK

set_option linter.unusedVariables false
set_option linter.unusedSimpArgs false
namespace Go.Proofs.Ytaokennbpgdngaa
open Go.RowKit

theorem partL_one (key : ByteArray) : partL key 1 = 0 := by
  unfold partL
  rw [if_pos (by decide)]
  omega
theorem partL_out {key : ByteArray} {parts : Int} (h : parts < 1 ∨ 64 < parts) : partL key parts = 0 := by
  unfold partL
  rw [if_neg (by omega)]
set_option maxHeartbeats 3200000 in
set_option maxRecDepth 100000 in
theorem txParts_walk (a : Option Addr) (n c : Nat) (ks : List ByteArray) (parts : Int) (w : World) (h : TK w a n ks) (hp : -9223372036854775808 ≤ parts ∧ parts ≤ 9223372036854775807) :
    Calls Try.prog 8 #[.slice a n c, .int .i64 parts] w fun e w' => e = .returned (.bool true) ∧ Bl w w' := by
  have hcap := h.cap
  have HT := Lib.hid h
  clear h
  by_cases hn : 200 < n
  · have d1 : decide ((200 : Int) < (n : Int)) = true := decide_eq_true (by omega)
    have d2 : decide (200 < n) = true := decide_eq_true hn
    go_enter Try.func8, Try.ntmps8
    go_wp2_with fail
    refine (alive21_any _).mono ?_
    rintro e w1 ⟨rfl, hb1⟩
    go_wp2_with fail
    go_ret
    exact ⟨rfl, hb1⟩
  have d1 : decide ((200 : Int) < (n : Int)) = false := decide_eq_false (by omega)
  have d2 : decide (200 < n) = false := decide_eq_false hn
  go_enter Try.func8, Try.ntmps8
  go_wp2_with fail
  clear d1 d2
  go_loopw [5] (fun i wr => ∃ k : Nat, k ≤ n ∧ i = .int .i64 k ∧ Bl w wr) (fun i _ => n - (intOf i).toNat)
  case atStart => exact ⟨0, Nat.zero_le _, rfl, Bl.refl _⟩
  case round =>
    obtain ⟨k, hk, rfl, hbl⟩ := hrel
    have HBL := Lib.hid hbl
    clear hbl
    by_cases hlt : k < n
    · have hsz := HT.out.sz k
      obtain ⟨ba, oa, rfl, _⟩ := HT.out.cells k hlt
      have HC := Lib.hid (fun W (hb : Bl w W) => HT.out.get hb hlt)
      generalize nthK ks k = key at *
      have c0 := HC.out _ HBL.out
      by_cases h3 : 300 < key.size
      · have d1 : decide ((300 : Int) < (key.size : Int)) = true := decide_eq_true (by omega)
        have d2 : decide (300 < key.size) = true := decide_eq_true h3
        go_wp2_with fail
        refine (alive21_any _).mono ?_
        rintro e w1 ⟨rfl, hb1⟩
        go_wp2_with fail
        go_ret
        exact ⟨rfl, HBL.out.trans hb1⟩
      have d1 : decide ((300 : Int) < (key.size : Int)) = false := decide_eq_false (by omega)
      have d2 : decide (300 < key.size) = false := decide_eq_false h3
      have HP := Lib.hid (fun w => tpart_any key parts w hsz)
      have HO := Lib.hid (fun w => tpart_any key 1 w hsz)
      rw [partL_one] at HO
      obtain ⟨hp0, hp1⟩ := partL_range key parts
      have HOUT := Lib.hid (fun h => partL_out (key := key) (parts := parts) h)
      generalize partL key parts = p at *
      have x1 : decide (p < 0) = false := decide_eq_false (by omega)
      have x2 : decide (max (min parts 64) 1 ≤ p) = false := decide_eq_false (by omega)
      have x3 : (p != p) = false := by simp
      have HF := Lib.hid (And.intro hp0 hp1)
      clear hp0 hp1
      by_cases hpt : parts < 1
      · have y1 : decide (parts < 1) = true := decide_eq_true hpt
        have hz : p = 0 := HOUT.out (.inl hpt)
        subst hz
        go_wp2_with fail
        refine (HP.out _).mono ?_
        rintro e w1 ⟨rfl, rfl⟩
        go_wp2_with fail
        refine (HP.out _).mono ?_
        rintro e w1 ⟨rfl, rfl⟩
        go_wp2_with fail
        refine (HO.out _).mono ?_
        rintro e w1 ⟨rfl, rfl⟩
        go_wp2_with fail
        go_roundw
        case rel => exact ⟨k + 1, by omega, by go_num, HBL.out⟩
        case measure => simp [intOf]; omega
      · have y1 : decide (parts < 1) = false := decide_eq_false hpt
        by_cases hpt2 : 64 < parts
        · have y2 : decide (64 < parts) = true := decide_eq_true hpt2
          have hz : p = 0 := HOUT.out (.inr hpt2)
          subst hz
          go_wp2_with fail
          refine (HP.out _).mono ?_
          rintro e w1 ⟨rfl, rfl⟩
          go_wp2_with fail
          refine (HP.out _).mono ?_
          rintro e w1 ⟨rfl, rfl⟩
          go_wp2_with fail
          refine (HO.out _).mono ?_
          rintro e w1 ⟨rfl, rfl⟩
          go_wp2_with fail
          go_roundw
          case rel => exact ⟨k + 1, by omega, by go_num, HBL.out⟩
          case measure => simp [intOf]; omega
        · have y2 : decide (64 < parts) = false := decide_eq_false hpt2
          go_wp2_with fail
          refine (HP.out _).mono ?_
          rintro e w1 ⟨rfl, rfl⟩
          go_wp2_with fail
          refine (HP.out _).mono ?_
          rintro e w1 ⟨rfl, rfl⟩
          go_wp2_with fail
          refine (HO.out _).mono ?_
          rintro e w1 ⟨rfl, rfl⟩
          go_wp2_with fail
          go_roundw
          case rel => exact ⟨k + 1, by omega, by go_num, HBL.out⟩
          case measure => simp [intOf]; omega
    · have hkn : k = n := by omega
      subst hkn
      go_wp2_with fail
      refine (alive21_any _).mono ?_
      rintro e w1 ⟨rfl, hb1⟩
      go_wp2_with fail
      go_ret
      exact ⟨rfl, HBL.out.trans hb1⟩
end Go.Proofs.Ytaokennbpgdngaa
