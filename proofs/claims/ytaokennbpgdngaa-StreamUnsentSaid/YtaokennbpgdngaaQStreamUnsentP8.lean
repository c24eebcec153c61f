import Derived.Test.YtaokennbpgdngaaQStreamUnsentP7
import Derived.Test.YtaokennbpgdngaaCore13
import Derived.Test.YtaokennbpgdngaaCore1
import Derived.Deep.Cut

/- bedrockref3.With. By an AI agent. -/
section
set_option linter.unusedVariables false
set_option linter.unusedSimpArgs false
namespace Go.Proofs.Ytaokennbpgdngaa
open Go.RowKit

set_option maxHeartbeats 400000 in
theorem rwith3_any (a : Option Addr) (n ca : Nat) (xs : List Int) (i t : Int) (w : World) (hx : IA w a n xs) (ht : -9223372036854775808 ≤ t ∧ t ≤ 9223372036854775807) :
    Calls Try.prog 69 #[.slice a n ca, .int .i64 i, .int .i64 t] w fun e w' => ∃ v, e = .returned v ∧ FI w.heap.size w' v (withL xs i t) ∧ Bl w w' := by
  have HX := Lib.hid hx.len
  by_cases hin : 0 ≤ i ∧ i < n
  · obtain ⟨h0, h1⟩ := hin
    obtain ⟨k, rfl⟩ := Int.eq_ofNat_of_zero_le h0
    have hkn : k < n := by omega
    go_enter Try.func69, Try.ntmps69
    go_wp2_with fail
    refine (rcopy3_any a n ca xs w hx).mono ?_
    rintro e w' ⟨v, rfl, hf, hb⟩
    have hn0 := hf.own.1
    obtain ⟨h1', ⟨rfl, h2⟩ | ⟨g, cap, cur, rfl, hB, hg, hn, hm, hs, htk⟩⟩ := hf.own
    · exfalso; have := HX.out; omega
    · have hown : w'.ownsRow w.heap.size 3 1 (.slice (some ⟨g, 0, none⟩) xs.length cap) xs.length (xs.map (Value.int .i64)) := ⟨h1', .inr ⟨g, cap, cur, rfl, hB, hg, hn, hm, hs, htk⟩⟩
      have hst := hown.stored k (.int .i64 t)
      have hc : w'.cell? ⟨g, k, none⟩ = some (.int .i64 (nth xs k)) := by
        rw [hown.cellAt k (by rw [HX.out]; omega)]
        have : k < xs.length := by rw [HX.out]; exact hkn
        simp [nth_eq this, this]
      have hfz : w'.frozen? ⟨g, k, none⟩ = false := hown.frozenAt k
      have hkx : k < xs.length := by rw [HX.out]; exact hkn
      have hnm : xs.length ≤ 9223372036854775807 := by have := hf.cap; omega
      have HST := Lib.hid hst
      have HF := Lib.hid hf
      clear hst hown htk hs hg h1' hf hn0
      go_wp2
      go_ret
      refine ⟨_, rfl, ⟨?_, ?_, ?_⟩, hb.grown HST.out.2 hb.size (fun k hk => by cases hk; exact hB)⟩
      · have := HST.out.1
        simpa [OI, withL, List.map_set] using this
      · rw [withL_len]; exact HF.out.cap
      · intro x hx
        unfold withL at hx
        rw [if_pos h0] at hx
        rcases List.mem_or_eq_of_mem_set hx with h | h
        · exact HF.out.wf x h
        · rw [h]; exact ht
  · have hw : withL xs i t = xs := by
      unfold withL
      split
      · rw [List.set_eq_of_length_le]; have := HX.out; omega
      · rfl
    have HW := Lib.hid hw; clear hw
    by_cases h0 : 0 ≤ i
    · have h1 : ¬ i < n := fun h => hin ⟨h0, h⟩
      clear hin
      go_enter Try.func69, Try.ntmps69
      go_wp2_with fail
      refine (rcopy3_any a n ca xs w hx).mono ?_
      rintro e w' ⟨v, rfl, hf, hb⟩
      obtain ⟨a', n', cap', rfl, hI⟩ := hf.si
      have hnn : n' = n := hI.len.symm.trans HX.out
      subst hnn
      go_wp2
      go_ret
      exact ⟨_, rfl, by rw [HW.out]; exact hf, hb⟩
    · clear hin
      go_enter Try.func69, Try.ntmps69
      go_wp2_with fail
      refine (rcopy3_any a n ca xs w hx).mono ?_
      rintro e w' ⟨v, rfl, hf, hb⟩
      obtain ⟨a', n', cap', rfl, hI⟩ := hf.si
      go_wp2
      go_ret
      exact ⟨_, rfl, by rw [HW.out]; exact hf, hb⟩
end Go.Proofs.Ytaokennbpgdngaa
end

/- bedrockref2.isNan, key, Compare, Same. By an AI agent. -/
section
namespace Go.Proofs.Ytaokennbpgdngaa
open Go.RowKit

theorem ret_pairC {a b c d : Int} (h : a = b) (k : c = d) : Ending.returned (.tuple #[.int .i64 a, .int .i64 c]) = Ending.returned (.tuple #[.int .i64 b, .int .i64 d]) := by rw [h, k]
def keyH (x : Nat) : Nat := fkey x / 4294967296
def keyL (x : Nat) : Nat := fkey x % 4294967296
theorem keyH_lt {x : Nat} (hx : x < two64) : keyH x < 4294967296 := by
  have := fkey_lt hx
  unfold keyH; unfold two64 at this; omega
theorem keyL_lt (x : Nat) : keyL x < 4294967296 := by unfold keyL; omega
theorem key_nan {x : Nat} (h : nanB x = true) : keyH x = 0 ∧ keyL x = 0 := by
  have : fkey x = 0 := by unfold fkey; rw [h]; rfl
  unfold keyH keyL; rw [this]; exact ⟨rfl, rfl⟩
theorem key_neg {x : Nat} (h : nanB x = false) (hx : x < two64) (k : 2147483648 ≤ x / 4294967296) : keyH x = 4294967295 - x / 4294967296 ∧ keyL x = 4294967295 - x % 4294967296 := by
  have e := fkey_num h
  unfold two63 at e
  rw [if_pos (by omega)] at e
  unfold keyH keyL
  rw [e]
  unfold two64 at *
  omega
theorem half_pos {x : Nat} (h : nanB x = false) (k : ¬ 2147483648 ≤ x / 4294967296) : keyH x = x / 4294967296 + 2147483648 ∧ keyL x = x % 4294967296 := by
  have e := fkey_num h
  unfold two63 at e
  rw [if_neg (by omega)] at e
  unfold keyH keyL
  rw [e]
  omega
theorem key_order (x y : Nat) : cmpN (fkey x) (fkey y) = if keyH x < keyH y ∨ (keyH x = keyH y ∧ keyL x < keyL y) then -1 else if keyH y < keyH x ∨ keyL y < keyL x then 1 else 0 := by
  have h1 : fkey x < fkey y ↔ (keyH x < keyH y ∨ (keyH x = keyH y ∧ keyL x < keyL y)) := by unfold keyH keyL; omega
  have h2 : ¬ fkey x < fkey y → (fkey y < fkey x ↔ (keyH y < keyH x ∨ keyL y < keyL x)) := by unfold keyH keyL; omega
  unfold cmpN
  by_cases h : fkey x < fkey y
  · rw [if_pos h, if_pos (h1.1 h)]
  · rw [if_neg h, if_neg (fun k => h (h1.2 k))]
    by_cases h3 : fkey y < fkey x
    · rw [if_pos h3, if_pos ((h2 h).1 h3)]
    · rw [if_neg h3, if_neg (fun k => h3 ((h2 h).2 k))]
theorem key_same (x y : Nat) : fkey x = fkey y ↔ keyH x = keyH y ∧ keyL x = keyL y := by unfold keyH keyL; omega

/-- eight bytes in two halves -/
theorem refNan_any (x : Nat) (w : World) (hx : x < two64) : Calls Try.prog 117 #[.float .f64 x] w fun e w' => e = .returned (.bool (nanB x)) ∧ w = w' := by
  have q : (FloatKind.f64.format.order x x != some .eq) = nanB x := self_nan hx
  cases hn : nanB x
  · rw [hn] at q
    go_enter Try.func117, Try.ntmps117
    go_wp2_with fail
    go_ret
    exact ⟨rfl, rfl⟩
  · rw [hn] at q
    go_enter Try.func117, Try.ntmps117
    go_wp2_with fail
    go_ret
    exact ⟨rfl, rfl⟩

set_option maxHeartbeats 800000 in
set_option maxRecDepth 100000 in
theorem refKey_any (x : Nat) (w : World) (hx : x < two64) :
    Calls Try.prog 109 #[.float .f64 x] w fun e w' => e = .returned (.tuple #[.int .i64 (keyH x), .int .i64 (keyL x)]) ∧ w = w' := by
  have hrb := run_bits x
  obtain ⟨H, hH⟩ : ∃ H : Nat, x / 4294967296 = H := ⟨_, rfl⟩
  obtain ⟨L, hL⟩ : ∃ L : Nat, x % 4294967296 = L := ⟨_, rfl⟩
  have eH := Lib.hid (show (x : Int) / 4294967296 = (H : Int) by omega)
  have eL := Lib.hid (show (x : Int) % 4294967296 = (L : Int) by omega)
  have bH : H < 4294967296 := by unfold two64 at hx; omega
  have bL : L < 4294967296 := by omega
  cases hn : nanB x
  · have hx2 : x < 18446744073709551616 := hx
    by_cases k : 2147483648 ≤ H
    · have HK := Lib.hid (key_neg hn hx (by rw [hH]; exact k))
      rw [hH, hL] at HK
      clear hH hL
      have q : decide ((2147483648 : Int) ≤ (H : Int)) = true := by simp; omega
      go_enter Try.func109, Try.ntmps109
      go_wp2_with fail
      refine (refNan_any x _ hx).mono ?_
      rintro e w1 ⟨rfl, rfl⟩
      rw [hn]
      go_upto_region 5 with fail
      rw [eH.out, eL.out]
      go_wp2_with fail
      go_ret2
      exact ⟨ret_pairC (by rw [HK.out.1]; omega) (by rw [HK.out.2]; omega), rfl⟩
    · have HK := Lib.hid (half_pos hn (by rw [hH]; exact k))
      rw [hH, hL] at HK
      clear hH hL
      have q : decide ((2147483648 : Int) ≤ (H : Int)) = false := by simp; omega
      go_enter Try.func109, Try.ntmps109
      go_wp2_with fail
      refine (refNan_any x _ hx).mono ?_
      rintro e w1 ⟨rfl, rfl⟩
      rw [hn]
      go_upto_region 5 with fail
      rw [eH.out, eL.out]
      go_wp2_with fail
      go_ret2
      exact ⟨ret_pairC (by rw [HK.out.1]; omega) (by rw [HK.out.2]), rfl⟩
  · have HK := Lib.hid (key_nan hn)
    clear hH hL bH bL
    go_enter Try.func109, Try.ntmps109
    go_wp2_with fail
    refine (refNan_any x _ hx).mono ?_
    rintro e w1 ⟨rfl, rfl⟩
    rw [hn]
    go_wp2_with fail
    go_ret2
    exact ⟨ret_pairC (by rw [HK.out.1]; rfl) (by rw [HK.out.2]; rfl), rfl⟩

set_option maxRecDepth 100000 in
theorem refCompare_any (x y : Nat) (w : World) (hx : x < two64) (hy : y < two64) :
    Calls Try.prog 93 #[.float .f64 x, .float .f64 y] w fun e w' => e = .returned (.int .i64 (cmpN (fkey x) (fkey y))) ∧ w = w' := by
  have HK := Lib.hid (key_order x y)
  obtain ⟨a, ha⟩ : ∃ a, keyH x = a := ⟨_, rfl⟩
  obtain ⟨b, hb⟩ : ∃ b, keyL x = b := ⟨_, rfl⟩
  obtain ⟨c, hc⟩ : ∃ c, keyH y = c := ⟨_, rfl⟩
  obtain ⟨d, hd⟩ : ∃ d, keyL y = d := ⟨_, rfl⟩
  have K1 := Lib.hid (fun w => refKey_any x w hx)
  have K2 := Lib.hid (fun w => refKey_any y w hy)
  rw [ha, hb] at K1 HK
  rw [hc, hd] at K2 HK
  clear ha hb hc hd
  go_enter Try.func93, Try.ntmps93
  go_wp2_with fail
  refine (K1.out _).mono ?_
  rintro e w1 ⟨rfl, rfl⟩
  go_wp2_with fail
  refine (K2.out _).mono ?_
  rintro e w1 ⟨rfl, rfl⟩
  rcases Nat.lt_trichotomy a c with h1 | h1 | h1
  · have q1 : decide ((a : Int) < (c : Int)) = true := by simp; omega
    go_wp2_with fail
    go_ret
    exact ⟨ret_int (by rw [HK.out, if_pos (by omega)]), rfl⟩
  · subst h1
    have q1 : decide ((a : Int) < (a : Int)) = false := by simp
    have q2 : ((a : Int) == (a : Int)) = true := by simp
    rcases Nat.lt_trichotomy b d with h2 | h2 | h2
    · have q3 : decide ((b : Int) < (d : Int)) = true := by simp; omega
      go_wp2_with fail
      go_ret
      exact ⟨ret_int (by rw [HK.out]; simp [h2]), rfl⟩
    · subst h2
      have q3 : decide ((b : Int) < (b : Int)) = false := by simp
      go_wp2_with fail
      go_ret
      exact ⟨ret_int (by rw [HK.out, if_neg (by omega), if_neg (by omega)]), rfl⟩
    · have q3 : decide ((b : Int) < (d : Int)) = false := by simp; omega
      have q4 : decide ((d : Int) < (b : Int)) = true := by simp; omega
      go_wp2_with fail
      go_ret
      exact ⟨ret_int (by rw [HK.out, if_neg (by omega), if_pos (by omega)]), rfl⟩
  · have q1 : decide ((a : Int) < (c : Int)) = false := by simp; omega
    have q2 : ((a : Int) == (c : Int)) = false := by simp; omega
    have q3 : decide ((c : Int) < (a : Int)) = true := by simp; omega
    go_wp2_with fail
    go_ret
    exact ⟨ret_int (by rw [HK.out, if_neg (by omega), if_pos (by omega)]), rfl⟩
theorem refSame_any (x y : Nat) (w : World) (hx : x < two64) (hy : y < two64) : Calls Try.prog 64 #[.float .f64 x, .float .f64 y] w fun e w' => e = .returned (.bool (decide (fkey x = fkey y))) ∧ w = w' := by
  have HZ := Lib.hid (cmpN_zero (fkey x) (fkey y))
  go_enter Try.func64, Try.ntmps64
  go_wp2_with fail
  refine (refCompare_any x y _ hx hy).mono ?_
  rintro e w1 ⟨rfl, rfl⟩
  go_wp2_with fail
  go_ret
  exact ⟨ret_bool HZ.out, rfl⟩
end Go.Proofs.Ytaokennbpgdngaa
end
