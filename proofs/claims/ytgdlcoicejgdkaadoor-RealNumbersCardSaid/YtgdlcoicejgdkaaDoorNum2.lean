/- strings.Cut at a byte; math.Ldexp of whole numbers. By an AI agent. -/
import Derived.Test.YtgdlcoicejgdkaaDoorNum1
import Derived.Test.YtgdlcoicejgdkaaDoorParse0
import Derived.Test.YtgdlcoicejgdkaaDoorScale0
namespace Go.Proofs.YtgdlcoicejgdkaaDoor
open Go.RowKit

set_option maxHeartbeats 1600000 in
set_option maxRecDepth 100000 in
theorem cutLite (s : ByteArray) (w : World) (hs : s.size ≤ 140737488351232) :
    Calls Tryd.prog 155 #[.string s, .string ⟨#[112]⟩] w fun e w' =>
      e = .returned (.tuple #[.string ⟨(Lib.cut s.data.toList [112]).1.toArray⟩, .string ⟨(Lib.cut s.data.toList [112]).2.1.toArray⟩, .bool (Lib.cut s.data.toList [112]).2.2]) ∧ Bl w w' := by
  have hone : Lib.indexB s ⟨#[112]⟩ = Lib.indexByte s.data.toList 112 := Lib.index_one _ _
  rcases Lib.indexB_cases s ⟨#[112]⟩ with hix | ⟨i, hix, hroom⟩
  · obtain ⟨e1, e2, e3⟩ := Lib.cutB_miss s ⟨#[112]⟩ hix
    rw [show (ByteArray.mk #[112]).data.toList = [112] from rfl] at e1 e2 e3
    rw [e1, e2, e3]
    rw [hone] at hix
    clear hone e1 e2 e3
    go_enter Tryd.func155, Tryd.ntmps155
    go_wp2_with fail
    refine (Tryd.stringslite_Index_one s 112 _).mono ?_
    rintro e w' ⟨rfl, rfl⟩
    rw [hix]
    go_wp2_with fail
    go_ret3
    exact ⟨rfl, Bl.refl _⟩
  · obtain ⟨e1, e2, e3⟩ := Lib.cutB_hit s ⟨#[112]⟩ i hix
    rw [show (ByteArray.mk #[112]).data.toList = [112] from rfl] at e1 e2 e3
    rw [show (ByteArray.mk #[112]).size = 1 from rfl] at e2 hroom
    rw [e1, e2, e3]
    rw [hone] at hix
    clear hone e1 e2 e3
    have c1 : (0 : Int) ≤ ↑i := by omega
    have c2 : (↑i : Int) ≤ ↑s.size := by omega
    have c3 : (0 : Int) ≤ ↑i + 1 := by omega
    have c4 : (↑i + 1 : Int) ≤ ↑s.size := by omega
    go_enter Tryd.func155, Tryd.ntmps155
    go_wp2_with fail
    refine (Tryd.stringslite_Index_one s 112 _).mono ?_
    rintro e w' ⟨rfl, rfl⟩
    rw [hix]
    go_wp2_with fail
    go_region
    go_wp2_with fail
    go_ret3
    exact ⟨rfl, (Bl.refl _).drew⟩
theorem cutP_any (s : ByteArray) (l : List UInt8) (w : World) (hl : SB s l) (hs : s.size ≤ 140737488351232) :
    Calls Tryd.prog 129 #[.string s, .string ⟨#[112]⟩] w fun e w' =>
      ∃ d p : ByteArray, e = .returned (.tuple #[.string d, .string p, .bool (isP l)]) ∧ SB d (headP l) ∧ SB p (tailP l) ∧ Bl w w' := by
  go_enter Tryd.func129, Tryd.ntmps129
  go_wp2_with fail
  refine (cutLite s _ hs).mono ?_
  rintro e w' ⟨rfl, hb⟩
  rw [hl]
  have h1 : SB ⟨(Lib.cut l [112]).1.toArray⟩ (headP l) := SB.mk _
  have h2 : SB ⟨(Lib.cut l [112]).2.1.toArray⟩ (tailP l) := SB.mk _
  have h3 : (Lib.cut l [112]).2.2 = isP l := rfl
  rw [h3]
  generalize (⟨(Lib.cut l [112]).1.toArray⟩ : ByteArray) = d at *
  generalize (⟨(Lib.cut l [112]).2.1.toArray⟩ : ByteArray) = p at *
  go_wp2_with fail
  go_ret3
  exact ⟨d, p, rfl, h1, h2, hb⟩

theorem hasMinus (s : ByteArray) (l : List UInt8) (w : World) (hs : SB s l) :
    Calls Tryd.prog 110 #[.string s, .string ⟨#[45]⟩] w fun e w' => e = .returned (.bool (signB l)) ∧ w = w' := by
  refine (Tryd.strings_HasPrefix s ⟨#[45]⟩ w).mono ?_
  rintro e w' ⟨rfl, rfl⟩
  have e1 : (ByteArray.mk #[45]).data.toList = [45] := rfl
  rw [e1, show Lib.hasPrefix s.data.toList [45] = signB l from by rw [signB, ← hs]]
  exact ⟨rfl, rfl⟩

theorem ldexp_zero (k : Int) (w : World) : Calls Tryd.prog 88 #[.float .f64 0, .int .i64 k] w fun r w' => r = .returned (.float .f64 0) ∧ w = w' := by
  have q : (FloatKind.f64.format.order 0 0 == some .eq) = true := by decide +kernel
  go_enter Tryd.func88, Tryd.ntmps88
  go_wp2
  go_ret
  exact ⟨rfl, rfl⟩
theorem ldexp_nat (n : Nat) (k : Int) (w : World) (h0 : n ≠ 0) (h : n < 2 ^ 53) (hk : -1000000 ≤ k ∧ k ≤ 1000000) :
    Calls Tryd.prog 88 #[.float .f64 (rung n 0), .int .i64 k] w fun r w' => r = .returned (.float .f64 (rung n k)) ∧ w = w' := by
  obtain ⟨e, h1, h2, hl⟩ := nat_word h0 h
  have hc := ldexp_any (n.log2 + 1023) (n * 2 ^ (52 - n.log2) - two52) k w (by omega) (by omega) (by omega) hk
  rw [← e] at hc
  have e2 : rung (two52 + (n * 2 ^ (52 - n.log2) - two52)) (k + ((n.log2 + 1023 : Nat) : Int) - 1075) = rung n k := by
    rw [show two52 + (n * 2 ^ (52 - n.log2) - two52) = n * 2 ^ (52 - n.log2) by omega, rung_shift]
    congr 1; omega
  rw [e2] at hc
  exact hc
end Go.Proofs.YtgdlcoicejgdkaaDoor
