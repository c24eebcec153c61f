/- the walk of VecTexts. By an AI agent. -/
import Derived.Test.YtpfpefapdcdkeaaVec4
import Derived.Test.YtpfpefapdcdkeaaText
namespace Go.Proofs.Ytpfpefapdcdkeaa
open Go.RowKit Go.Shelf

theorem textL_len (xs : List Int) (h : xs.length ≤ 60) (hw : ∀ x ∈ xs, -9223372036854775808 ≤ x ∧ x ≤ 9223372036854775807) : (textL xs).length ≤ 2000 := by
  have h2 := join_len (xs.map fun x => bytesN (digL x)) 20 (by
    intro y hy
    obtain ⟨x, hx', rfl⟩ := List.mem_map.1 hy
    have := hw x hx'
    rw [bytesN_len]; exact (digL_len x this.1 this.2).2)
  rw [List.length_map] at h2
  simp [textL]; omega
theorem textL_shape (xs : List Int) : ∃ m, textL xs = 91 :: m ++ [93] := ⟨_, rfl⟩

theorem text_ends {s : ByteArray} {xs : List Int} (hs : SB s (textL xs)) : ∃ h : 2 ≤ s.size, ((s[0]'(by omega)).toNat : Int) = 91 ∧ ((s[s.size - 1]'(by omega)).toNat : Int) = 93 := by
  obtain ⟨l, hl⟩ := textL_shape xs
  rw [hl] at hs
  have hsz : s.size = l.length + 2 := by rw [hs.size]; simp
  refine ⟨by omega, ?_, ?_⟩
  · rw [hs.get 0 (by omega) (by simp)]; rfl
  · rw [hs.get (s.size - 1) (by omega) (by simp; omega)]
    have : (91 :: l ++ [93])[s.size - 1]'(by simp; omega) = 93 := by
      simp only [hsz]; simp
    rw [this]; rfl

set_option maxHeartbeats 1600000 in
set_option maxRecDepth 100000 in
theorem vecTexts_walk (a b : Option Addr) (n m ca cb : Nat) (xs ys : List Int) (w : World) (hx : IA w a n xs) (hy : IA w b m ys) :
    Calls Try.prog 4 #[.slice a n ca, .slice b m cb] w fun e w' => e = .returned (.bool true) ∧ Bl w w' := by
  have hx1 := hx.cap
  have hy1 := hy.cap
  by_cases h60 : (n : Int) + m > 60
  · go_enter Try.func4, Try.ntmps4
    go_wp2_with fail
    refine (alive3_any _).mono ?_
    rintro e w1 ⟨rfl, hb1⟩
    go_wp2
    go_ret
    exact ⟨rfl, hb1⟩
  · have hn60 : n ≤ 60 := by omega
    have hm60 : m ≤ 60 := by omega
    go_enter Try.func4, Try.ntmps4
    go_wp2_with fail
    refine (text_any a n ca xs _ hx (by omega)).mono ?_
    rintro e w1 ⟨s, rfl, hs, hb1⟩
    go_wp2_with fail
    refine (alive3_any _).mono ?_
    rintro e w2 ⟨rfl, hb2⟩
    have hb2 := hb1.trans hb2
    go_wp2_with fail
    refine (text_any b m cb ys _ (hy.keep hb2) (by omega)).mono ?_
    rintro e w3 ⟨t, rfl, ht, hb3⟩
    have hb3 := hb2.trans hb3
    go_wp2_with fail
    refine (same_any a b n m ca cb xs ys _ (hx.keep hb3) (hy.keep hb3)).mono ?_
    rintro e w4 ⟨rfl, hb4⟩
    have hb4 := hb3.trans hb4
    have hlen := textL_len xs (by rw [hx.len]; exact hn60) hx.wf
    have heq : (s.toList == t.toList) = decide (xs = ys) := by
      rw [hs.beq ht]
      by_cases e : xs = ys
      · simp [e]
      · rw [decide_eq_false e, decide_eq_false (fun h => e (textL_inj h))]
    have hsz2 : s.size ≤ 2000 := by rw [hs.size]; exact hlen
    obtain ⟨h2, hg0, hg1⟩ := text_ends hs
    clear hs hlen ht
    go_wp2
    go_ret
    exact ⟨rfl, hb4⟩
end Go.Proofs.Ytpfpefapdcdkeaa
