/- the walk of RealTexts. By an AI agent. -/
import Derived.Test.YtgdlcoicejgdkaaDoorAlive2
import Derived.Test.YtgdlcoicejgdkaaDoorRefW6
namespace Go.Proofs.YtgdlcoicejgdkaaDoor
open Go.RowKit

def getP (b : ByteArray) : Nat × Int := if b.size = 8 then getR (getN b.data.toList).toNat else (0, 4)
theorem rgetP_any (b : ByteArray) (w : World) : Calls Tryd.prog 29 #[.string b] w fun e w' => e = .returned (.tuple #[.float .f64 (getP b).1, .int .i64 (getP b).2]) ∧ w = w' := by
  unfold getP
  by_cases h : b.size = 8
  · rw [if_pos h]; exact rget_any b w h
  · rw [if_neg h]; exact rget_no b w h
theorem refGetP_any (b : ByteArray) (w : World) : Calls Tryd.prog 30 #[.string b] w fun e w' => e = .returned (.tuple #[.float .f64 (getP b).1, .int .i64 (getP b).2]) ∧ w = w' := by
  unfold getP
  by_cases h : b.size = 8
  · rw [if_pos h]; exact refGetF_any b w h
  · rw [if_neg h]; exact refGetF_no b w h
theorem getR_lt (u : Nat) (h : u < two64) : (getR u).1 < two64 := by
  unfold getR
  split
  · decide
  · split
    · decide
    · exact backW_lt h
theorem getP_lt (b : ByteArray) : (getP b).1 < two64 := by
  unfold getP
  split
  · rename_i h
    apply getR_lt
    have hb := getN_bound b.data.toList
    rw [show b.data.toList.length = 8 by simpa using h] at hb
    unfold two64
    omega
  · decide
theorem withS_lt {b : Bool} {x : Nat} (h : x < two63) : withS b x < two64 := by
  unfold withS two63 two64 at *; split <;> omega
theorem parseP_lt (l : List UInt8) : (parseP l).1 < two64 := by
  unfold parseP
  split
  · decide
  · split
    · exact withS_lt (by decide)
    · split
      · exact withS_lt (numP_lt _)
      · show (0 : Nat) < two64; decide
theorem refSame_self (x : Nat) (w : World) (hx : x < two64) : Calls Tryd.prog 33 #[.float .f64 x, .float .f64 x] w fun e w' => e = .returned (.bool true) ∧ w = w' := by
  refine (refSame_any x x w hx hx).mono ?_
  rintro e w' ⟨rfl, rfl⟩
  exact ⟨by rw [decide_eq_true rfl], rfl⟩

set_option maxHeartbeats 1600000 in
set_option maxRecDepth 100000 in
theorem realTexts_walk (b s : ByteArray) (w : World) (_hb : b.size ≤ 140737488351232) (hs : s.size ≤ 140737488351232) (hT : Tab w) :
    Calls Tryd.prog 9 #[.string b, .string s] w fun e w' => e = .returned (.bool true) ∧ Bl w w' := by
  by_cases h : 3000 < s.size
  · go_enter Tryd.func9, Tryd.ntmps9
    go_wp2_with fail
    refine (alive2_any _ hT).mono ?_
    rintro e w3 ⟨rfl, hb3⟩
    go_wp2_with fail
    go_ret
    exact ⟨rfl, hb3⟩
  · have G1 := Lib.hid (fun w => rgetP_any b w)
    have G2 := Lib.hid (fun w => refGetP_any b w)
    have P1 := Lib.hid (fun w hT => parse_any s s.data.toList w rfl hs hT)
    have P2 := Lib.hid (fun w => refParse_any s s.data.toList w rfl hs)
    have hx := getP_lt b
    have hu := parseP_lt s.data.toList
    obtain ⟨⟨x, e⟩, hp⟩ : ∃ p, getP b = p := ⟨_, rfl⟩
    obtain ⟨⟨u, g⟩, hq⟩ : ∃ p, parseP s.data.toList = p := ⟨_, rfl⟩
    rw [hp] at G1 G2 hx
    rw [hq] at P1 P2 hu
    clear hp hq
    have S1 := Lib.hid (fun w => refSame_self x w hx)
    have S2 := Lib.hid (fun w => refSame_self u w hu)
    have HB := Bl.refl w
    go_enter Tryd.func9, Tryd.ntmps9
    go_wp2_with fail
    refine (G1.out _).mono ?_
    rintro e w1 ⟨rfl, rfl⟩
    go_wp2_with fail
    refine (G2.out _).mono ?_
    rintro e w1 ⟨rfl, rfl⟩
    go_wp2_with fail
    refine (P1.out _ (hT.keep HB)).mono ?_
    rintro e w1 ⟨rfl, hb1⟩
    replace HB := HB.trans hb1
    clear hb1
    go_wp2_with fail
    refine (P2.out _).mono ?_
    rintro e w2 ⟨rfl, hb1⟩
    replace HB := HB.trans hb1
    clear hb1
    go_wp2_with fail
    refine (alive2_any _ (hT.keep HB)).mono ?_
    rintro e w3 ⟨rfl, hb1⟩
    replace HB := HB.trans hb1
    clear hb1
    go_wp2_with fail
    refine (S1.out _).mono ?_
    rintro e w1 ⟨rfl, rfl⟩
    go_wp2_with fail
    refine (S2.out _).mono ?_
    rintro e w1 ⟨rfl, rfl⟩
    go_wp2_with fail
    go_ret
    exact ⟨rfl, HB⟩
end Go.Proofs.YtgdlcoicejgdkaaDoor
