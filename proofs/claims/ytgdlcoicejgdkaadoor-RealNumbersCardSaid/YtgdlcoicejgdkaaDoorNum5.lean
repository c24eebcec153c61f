/- real.number, of every text. By an AI agent. -/
import Derived.Test.YtgdlcoicejgdkaaDoorNum4
namespace Go.Proofs.YtgdlcoicejgdkaaDoor
open Go.RowKit

theorem cut_len (l : List UInt8) : (headP l).length ≤ l.length ∧ (tailP l).length ≤ l.length := by
  unfold headP tailP Lib.cut
  split
  · simp; omega
  · simp
theorem numV_nonneg {l : List UInt8} (h : signB l = false) : 0 ≤ numV l := by
  unfold numV
  rw [h]
  split
  · rename_i k
    simp only [Bool.false_eq_true, if_false]
    exact (valD_bd _ (digOk_all k).2.2).1
  · omega
theorem numV_small {l : List UInt8} (h : l.length ≤ 5) : -100000 < numV l ∧ numV l < 100000 := by
  unfold numV
  split
  · rename_i k
    have hb := valD_bd _ (digOk_all k).2.2
    have hl : (restL l).length ≤ 5 := by
      refine Nat.le_trans ?_ h
      unfold restL Lib.trimPrefix
      split
      · simp
      · exact Nat.le_refl _
    have h3 : (10 : Int) ^ (restL l).length ≤ 10 ^ 5 := by
      have := Nat.pow_le_pow_right (show 0 < 10 by decide) hl
      exact_mod_cast this
    split <;> omega
  · omega
theorem numC_two (l : List UInt8) : numC l = 0 ∨ numC l = 4 := by
  unfold numC; split <;> simp

theorem numCase (s : ByteArray) (l : List UInt8) (hs : SB s l) (hsz : s.size ≤ 140737488351232) :
    NumCase s (isP l) ⟨(headP l).toArray⟩ ⟨(tailP l).toArray⟩ (numV (headP l)) (numC (headP l)) (numV (tailP l)) (numC (tailP l)) (signB (headP l)) := by
  have hl := cut_len l
  have hz := hs.size
  have h1 : SB ⟨(headP l).toArray⟩ (headP l) := SB.mk _
  have h2 : SB ⟨(tailP l).toArray⟩ (tailP l) := SB.mk _
  refine ⟨fun w => ?_, fun w => number_any _ _ w h1 (by rw [h1.size]; omega), fun _ w => number_any _ _ w h2 (by rw [h2.size]; omega), fun w => hasMinus _ _ w h1⟩
  refine (cutP_any s l w hs hsz).mono ?_
  rintro e w' ⟨d, p, rfl, hd, hp, hb⟩
  obtain rfl : d = ⟨(headP l).toArray⟩ := SB.eq hd h1
  obtain rfl : p = ⟨(tailP l).toArray⟩ := SB.eq hp h2
  exact ⟨rfl, hb⟩

theorem numP_bad {l : List UInt8} (h : numC (headP l) ≠ 0 ∨ 16 < (headP l).length ∨ signB (headP l) = true) : numP l = (0, 4) := if_pos h
theorem numP_bad2 {l : List UInt8} (h : ¬ (numC (headP l) ≠ 0 ∨ 16 < (headP l).length ∨ signB (headP l) = true)) (k : isP l = true ∧ (numC (tailP l) ≠ 0 ∨ 5 < (tailP l).length)) : numP l = (0, 4) := by
  unfold numP; rw [if_neg h, if_pos k]
theorem numP_over {l : List UInt8} (h : ¬ (numC (headP l) ≠ 0 ∨ 16 < (headP l).length ∨ signB (headP l) = true)) (k : ¬ (isP l = true ∧ (numC (tailP l) ≠ 0 ∨ 5 < (tailP l).length))) (j : 9007199254740992 ≤ numV (headP l)) : numP l = (0, 11) := by
  unfold numP; rw [if_neg h, if_neg k, if_pos j]
theorem numP_fin {l : List UInt8} (h : ¬ (numC (headP l) ≠ 0 ∨ 16 < (headP l).length ∨ signB (headP l) = true)) (k : ¬ (isP l = true ∧ (numC (tailP l) ≠ 0 ∨ 5 < (tailP l).length))) (j : ¬ 9007199254740992 ≤ numV (headP l)) : numP l = numF (numV (headP l)).toNat (kP l) := by
  unfold numP; rw [if_neg h, if_neg k, if_neg j]
theorem numF_ends (n : Nat) (k : Int) (h0 : n ≠ 0) :
    (rung n k = 0 ∨ rung n k = infR → (numF n k).1 = 0 ∧ (numF n k).2 = 11) ∧
    (rung n k ≠ 0 → rung n k ≠ infR → oddM (rung n k) ≠ n / 2 ^ Lib.ctz 64 n ∨ oddE (rung n k) ≠ k + (Lib.ctz 64 n : Int) → (numF n k).1 = 0 ∧ (numF n k).2 = 11) ∧
    (rung n k ≠ 0 → rung n k ≠ infR → oddM (rung n k) = n / 2 ^ Lib.ctz 64 n → oddE (rung n k) = k + (Lib.ctz 64 n : Int) → (numF n k).1 = rung n k ∧ (numF n k).2 = 0) := by
  unfold numF
  rw [if_neg h0]
  refine ⟨fun h => ?_, fun h1 h2 h => ?_, fun h1 h2 h3 h4 => ?_⟩
  · rw [if_pos h]; exact ⟨rfl, rfl⟩
  · rw [if_neg (by simp [h1, h2]), if_pos h]; exact ⟨rfl, rfl⟩
  · rw [if_neg (by simp [h1, h2]), if_neg (by rw [h3, h4]; simp)]; exact ⟨rfl, rfl⟩

theorem rnumber_any (s : ByteArray) (l : List UInt8) (w : World) (hs : SB s l) (hsz : s.size ≤ 140737488351232) (hT : Tab w) :
    Calls Tryd.prog 86 #[.string s] w fun e w' => e = numE (numP l).1 (numP l).2 ∧ Bl w w' := by
  have hl := cut_len l
  have hz := hs.size
  have hN := numCase s l hs hsz
  have h1 : SB ⟨(headP l).toArray⟩ (headP l) := SB.mk _
  have h2 : SB ⟨(tailP l).toArray⟩ (tailP l) := SB.mk _
  by_cases A : numC (headP l) ≠ 0 ∨ 16 < (headP l).length ∨ signB (headP l) = true
  · rw [numP_bad A]
    exact number_bad s _ _ _ _ _ _ _ _ 0 w (Lib.hid hN) (by rw [h1.size]; omega) (by
      rcases A with A | A | A
      · exact .inl A
      · exact .inr (.inr (.inl (by rw [h1.size]; exact A)))
      · exact .inr (.inr (.inr A)))
  · have a1 : numC (headP l) = 0 := by
      by_cases e : numC (headP l) = 0
      · exact e
      · exact absurd (.inl e) A
    have a2 : (headP l).length ≤ 16 := by
      by_cases e : 16 < (headP l).length
      · exact absurd (.inr (.inl e)) A
      · omega
    have a3 : signB (headP l) = false := by
      cases e : signB (headP l)
      · rfl
      · exact absurd (.inr (.inr e)) A
    have a4 := numV_nonneg a3
    rw [a1, a3] at hN
    by_cases B : isP l = true ∧ (numC (tailP l) ≠ 0 ∨ 5 < (tailP l).length)
    · rw [numP_bad2 A B]
      rw [B.1] at hN
      exact number_bad2 s _ _ _ _ _ 0 w (Lib.hid hN) (by rw [h2.size]; omega) (by omega) (by rw [h1.size]; exact a2) (by rw [h2.size]; exact B.2)
    · have b1 : isP l = true → numC (tailP l) = 0 ∧ (tailP l).length ≤ 5 := fun e => by
        by_cases k : numC (tailP l) = 0
        · refine ⟨k, ?_⟩
          by_cases k2 : 5 < (tailP l).length
          · exact absurd ⟨e, .inr k2⟩ B
          · omega
        · exact absurd ⟨e, .inl k⟩ B
      have hR : NumRest s ⟨(headP l).toArray⟩ ⟨(tailP l).toArray⟩ (isP l) (numV (headP l)) (numV (tailP l)) (kP l) := by
        refine ⟨⟨hN.cut, hN.nd, fun e w => ?_, hN.sg⟩, rfl, fun e => by rw [h2.size]; exact (b1 e).2⟩
        have := hN.np e w
        rw [(b1 e).1] at this
        exact this
      have hk : -1000000 ≤ kP l ∧ kP l ≤ 1000000 := by
        unfold kP
        cases e : isP l
        · simp
        · have := numV_small (b1 e).2
          simp only [if_true]
          omega
      by_cases C : 9007199254740992 ≤ numV (headP l)
      · rw [numP_over A B C]
        exact number_over s _ _ _ _ _ _ 0 w (Lib.hid hR) (by omega) (by rw [h1.size]; exact a2) (by rw [h2.size]; omega) C
      · rw [numP_fin A B C]
        by_cases h0 : numV (headP l) = 0
        · rw [h0] at hR ⊢
          exact number_zero s _ _ _ _ _ w (Lib.hid hR) (by rw [h1.size]; exact a2) (by rw [h2.size]; omega)
        · obtain ⟨n, hn⟩ : ∃ n : Nat, numV (headP l) = (n : Int) := ⟨(numV (headP l)).toNat, by omega⟩
          rw [hn] at hR ⊢
          rw [Int.toNat_natCast]
          have hn0 : n ≠ 0 := by omega
          have hn53 : n < 9007199254740992 := by omega
          have htz : Lib.ctz 64 n < 64 := by
            have h64 : n < 2 ^ 64 := by omega
            exact (Lib.lowest_bit 64 n hn0 h64).2
          have hfi := rung_le_inf n (kP l)
          have hlt63 : ∀ r, r ≤ infR → r % two63 = r := fun r hr => Nat.mod_eq_of_lt (by unfold infR two63 at *; omega)
          have hO := numF_ends n (kP l) hn0
          have hinf : ∀ w, Calls Tryd.prog 106 #[.float .f64 (rung n (kP l)), .int .i64 0] w fun e w' => e = .returned (.bool (decide (rung n (kP l) = infR))) ∧ w = w' := fun w => by
            rw [← infB_of hfi]
            exact isInf_any _ w (by unfold infR two64 at *; omega)
          have htzc : ∀ w, Tab w → Calls Tryd.prog 131 #[.int .u64 n] w fun e w' => e = .returned (.int .i64 (Lib.ctz 64 n : Nat)) ∧ w = w' := fun w hT => tz_any n (by unfold two64; omega) hn0 w hT
          by_cases e : rung n (kP l) = 0 ∨ rung n (kP l) = infR
          · refine number_fin s _ _ _ n _ _ w (Lib.hid hR) (by rw [h1.size]; exact a2) (by rw [h2.size]; omega) hn0 hn53 (rung n 0) (rung n (kP l)) (Lib.ctz 64 n) 0 0
              (Lib.hid ⟨fun w => ldexp_nat n _ w hn0 (by omega) hk, hinf, fun k1 k2 => ?_, htzc, hT⟩) (float_rung n) hfi htz hk _ _ (Lib.hid ⟨hO.1, fun k1 k2 => ?_, fun k1 k2 => ?_⟩)
            all_goals
              rcases e with e | e
              · exact absurd e k1
              · exact absurd e k2
          · have k1 : rung n (kP l) ≠ 0 := fun k => e (.inl k)
            have k2 : rung n (kP l) ≠ infR := fun k => e (.inr k)
            refine number_fin s _ _ _ n _ _ w (Lib.hid hR) (by rw [h1.size]; exact a2) (by rw [h2.size]; omega) hn0 hn53 (rung n 0) (rung n (kP l)) (Lib.ctz 64 n) (oddM (rung n (kP l))) (oddE (rung n (kP l)))
              (Lib.hid ⟨fun w => ldexp_nat n _ w hn0 (by omega) hk, hinf, fun _ _ w hT => ?_, htzc, hT⟩) (float_rung n) hfi htz hk _ _ (Lib.hid hO)
            have := parts_any (rung n (kP l)) w (by unfold infR two64 at *; omega) (by rw [hlt63 _ hfi]; exact k1) (by rw [hlt63 _ hfi]; omega) hT
            rw [hlt63 _ hfi] at this
            exact this
end Go.Proofs.YtgdlcoicejgdkaaDoor
