/- the walk of VecBack. By an AI agent. -/
import Derived.Test.YtpfpefapdcdkeaaLawC
import Derived.Test.YtpfpefapdcdkeaaPutBack
namespace Go.Proofs.Ytpfpefapdcdkeaa
open Go.RowKit Go.Shelf

theorem vput_yes' (a : Option Addr) (n ca : Nat) (xs : List Int) (w : World) (hx : IA w a n xs) (hv : validL xs = true) :
    Calls Try.prog 30 #[.slice a n ca] w fun e w' => ∃ s : ByteArray, e = .returned (.tuple #[.string s, .int .i64 0]) ∧ SB s (putL xs) ∧ Bl w w' := by
  refine (vput_yes a n ca xs w hx hv).mono ?_
  rintro e w' ⟨rfl, hb⟩
  exact ⟨_, rfl, rfl, hb⟩

set_option maxHeartbeats 1600000 in
set_option maxRecDepth 100000 in
theorem vecBack_yes (a b : Option Addr) (n m ca cb : Nat) (xs ys : List Int) (s0 : ByteArray) (w : World) (hx : IA w a n xs) (hy : IA w b m ys) (hn : n ≤ 60) (hm : m ≤ 60) (hs0 : s0.size ≤ 3000) (hv : validL xs = true) :
    Calls Try.prog 8 #[.slice a n ca, .slice b m cb, .string s0] w fun e w' => e = .returned (.bool true) ∧ Bl w w' := by
  have HL := Lib.hid (show (decide (n ≤ 60) && decide (m ≤ 60)) = true by simp [hn, hm])
  have HV := Lib.hid hv
  have vx := valid_parts hv
  clear hv
  have vx1 := vx.1
  have vx2 := vx.2.1
  have HVX := Lib.hid vx.2.2; clear vx
  go_enter Try.func8, Try.ntmps8
  go_wp2_with fail
  refine (light_any a b n m ca cb _).mono ?_
  rintro e w1 ⟨rfl, rfl⟩
  rw [HL.out]
  go_wp2_with fail
  refine (vput_yes' a n ca xs _ hx HV.out).mono ?_
  rintro e w1 ⟨s, rfl, hs, hb1⟩
  have hss : s.size ≤ 100 := by rw [hs.size, putL_len]; omega
  go_wp2_with fail
  have hsm : SB (s ++ s0) (putL xs ++ s0.data.toList) := hs.append rfl
  have hml : (putL xs ++ s0.data.toList).length = 1 + 6 * xs.length + s0.size := by
    rw [List.length_append, putL_len]; simp
  refine (vget_loop (s ++ s0) _ xs.length _ hsm (by omega) (by omega) (put_head xs _ vx2) ⟨vx1, vx2⟩).mono ?_
  intro e w2 hp
  rw [GetPost, if_pos (by omega), putL_drop, vals_put xs _ HVX.out] at hp
  obtain ⟨v, rfl, hf, hb2⟩ := hp
  obtain ⟨a2, n2, c2, rfl, hz⟩ := hf.si
  have hb2 := hb1.trans hb2
  have HSZ := Lib.hid (show ((1 + 6 * xs.length : Nat) : Int) = (s.size : Int) by rw [hs.size, putL_len])
  rw [HSZ.out]
  have q1 : ((s.size : Int) == (s.size : Int)) = true := by simp
  clear hsm hml hf
  have hx2 := hx.keep hb2
  have hy2 := hy.keep hb2
  cases hvy : validL ys
  · have HVY := Lib.hid hvy; clear hvy
    go_wp2_with fail
    refine (vput_no b m cb ys _ hy2 HVY.out).mono ?_
    rintro e w3 ⟨rfl, rfl⟩
    go_wp2_with fail
    refine (alive3_any _).mono ?_
    rintro e w4 ⟨rfl, hb4⟩
    go_wp2_with fail
    refine (valid_any a n ca xs _ (hx2.keep hb4)).mono ?_
    rintro e w5 ⟨rfl, rfl⟩
    rw [HV.out]
    go_wp2_with fail
    refine (same_any a2 a n2 n c2 ca xs xs _ (hz.keep hb4) (hx2.keep hb4)).mono ?_
    rintro e w6 ⟨rfl, hb6⟩
    rw [decide_eq_true (rfl : xs = xs)]
    go_wp2_with fail
    go_ret
    exact ⟨rfl, (hb2.trans hb4).trans hb6⟩
  · have HVY := Lib.hid hvy; clear hvy
    go_wp2_with fail
    refine (vput_yes' b m cb ys _ hy2 HVY.out).mono ?_
    rintro e w3 ⟨t, rfl, ht, hb3⟩
    have heq : (s.toList == t.toList) = decide (xs = ys) := by
      rw [hs.beq ht]
      by_cases e : xs = ys
      · simp [e]
      · rw [decide_eq_false e, decide_eq_false (fun h => e (putL_inj HV.out HVY.out h))]
    have q2 : (decide (xs = ys) == decide (xs = ys)) = true := by simp
    go_wp2_with fail
    refine (alive3_any _).mono ?_
    rintro e w4 ⟨rfl, hb4⟩
    have hb4 := hb3.trans hb4
    go_wp2_with fail
    refine (valid_any a n ca xs _ (hx2.keep hb4)).mono ?_
    rintro e w5 ⟨rfl, rfl⟩
    rw [HV.out]
    go_wp2_with fail
    refine (same_any a2 a n2 n c2 ca xs xs _ (hz.keep hb4) (hx2.keep hb4)).mono ?_
    rintro e w6 ⟨rfl, hb6⟩
    rw [decide_eq_true (rfl : xs = xs)]
    have hb6 := hb4.trans hb6
    go_wp2_with fail
    refine (same_any a b n m ca cb xs ys _ (hx2.keep hb6) (hy2.keep hb6)).mono ?_
    rintro e w7 ⟨rfl, hb7⟩
    go_wp2_with fail
    go_ret
    exact ⟨rfl, (hb2.trans hb6).trans hb7⟩

set_option maxHeartbeats 1600000 in
set_option maxRecDepth 100000 in
theorem vecBack_bad (a b : Option Addr) (n m ca cb : Nat) (xs : List Int) (s0 : ByteArray) (w : World) (hx : IA w a n xs) (hn : n ≤ 60) (hm : m ≤ 60) (hs0 : s0.size ≤ 3000) (hv : validL xs = false) :
    Calls Try.prog 8 #[.slice a n ca, .slice b m cb, .string s0] w fun e w' => e = .returned (.bool true) ∧ Bl w w' := by
  have HL := Lib.hid (show (decide (n ≤ 60) && decide (m ≤ 60)) = true by simp [hn, hm])
  have HV := Lib.hid hv; clear hv
  go_enter Try.func8, Try.ntmps8
  go_wp2_with fail
  refine (light_any a b n m ca cb _).mono ?_
  rintro e w1 ⟨rfl, rfl⟩
  rw [HL.out]
  go_wp2_with fail
  refine (vput_no a n ca xs _ hx HV.out).mono ?_
  rintro e w1 ⟨rfl, rfl⟩
  go_wp2_with fail
  refine (alive3_any _).mono ?_
  rintro e w1 ⟨rfl, hb1⟩
  go_wp2_with fail
  refine (valid_any a n ca xs _ (hx.keep hb1)).mono ?_
  rintro e w5 ⟨rfl, rfl⟩
  rw [HV.out]
  go_wp2_with fail
  go_ret
  exact ⟨rfl, hb1⟩

set_option maxHeartbeats 1600000 in
set_option maxRecDepth 100000 in
theorem vecBack_no (a b : Option Addr) (n m ca cb : Nat) (s0 : ByteArray) (w : World) (h : ¬ (n ≤ 60 ∧ m ≤ 60 ∧ s0.size ≤ 3000)) :
    Calls Try.prog 8 #[.slice a n ca, .slice b m cb, .string s0] w fun e w' => e = .returned (.bool true) ∧ Bl w w' := by
  by_cases h1 : n ≤ 60 ∧ m ≤ 60
  · have HL := Lib.hid (show (decide (n ≤ 60) && decide (m ≤ 60)) = true by simp [h1])
    have h3 : 3000 < s0.size := by omega
    clear h h1
    go_enter Try.func8, Try.ntmps8
    go_wp2_with fail
    refine (light_any a b n m ca cb _).mono ?_
    rintro e w1 ⟨rfl, rfl⟩
    rw [HL.out]
    go_wp2_with fail
    refine (alive3_any _).mono ?_
    rintro e w1 ⟨rfl, hb1⟩
    go_wp2_with fail
    go_ret
    exact ⟨rfl, hb1⟩
  · have HL := Lib.hid (show (decide (n ≤ 60) && decide (m ≤ 60)) = false by simp; omega)
    clear h h1
    go_enter Try.func8, Try.ntmps8
    go_wp2_with fail
    refine (light_any a b n m ca cb _).mono ?_
    rintro e w1 ⟨rfl, rfl⟩
    rw [HL.out]
    go_wp2_with fail
    refine (alive3_any _).mono ?_
    rintro e w1 ⟨rfl, hb1⟩
    go_wp2_with fail
    go_ret
    exact ⟨rfl, hb1⟩

theorem vecBack_walk (a : Option Addr) (n ca : Nat) (xs : List Int) (b : Option Addr) (m cb : Nat) (ys : List Int) (s0 : ByteArray) (w : World) (hx : IA w a n xs) (hy : IA w b m ys) (_ : s0.data.toList.length ≤ reachBytes) :
    Calls Try.prog 8 #[.slice a n ca, .slice b m cb, .string s0] w fun e w' => e = .returned (.bool true) ∧ Bl w w' := by
  by_cases h : n ≤ 60 ∧ m ≤ 60 ∧ s0.size ≤ 3000
  · obtain ⟨h1, h2, h3⟩ := h
    cases hv : validL xs
    · exact vecBack_bad a b n m ca cb xs s0 w hx h1 h2 h3 hv
    · exact vecBack_yes a b n m ca cb xs ys s0 w hx hy h1 h2 h3 hv
  · exact vecBack_no a b n m ca cb s0 w h
end Go.Proofs.Ytpfpefapdcdkeaa
