/- the walk of RealBack. By an AI agent. -/
import Derived.Test.YtafoagllbajfnaaDoorAlive2
import Derived.Test.YtafoagllbajfnaaDoorGetR2
namespace Go.Proofs.YtafoagllbajfnaaDoor
open Go.RowKit

theorem rget_put (x : Nat) (w : World) (hx : x < two64) : Calls Tryd.prog 56 #[.string (strOfNums (putN (fkey x) 8 8))] w fun e w' => e = .returned (.tuple #[.float .f64 (canon x), .int .i64 0]) ∧ w = w' := by
  refine (rget_any _ w ?_).mono ?_
  · have := bytesN8_len (fkey x)
    unfold bytesN8 at this
    rw [← this]; rfl
  · rintro e w' ⟨rfl, rfl⟩
    have h : getN (strOfNums (putN (fkey x) 8 8)).data.toList = (fkey x : Int) := getN_put8 _ (fkey_lt hx)
    rw [h, Int.toNat_natCast, getR_back hx]
    exact ⟨rfl, rfl⟩
theorem parse_back (x : Nat) (s : ByteArray) (w : World) (hx : x < two64) (hs : SB s (textF x)) (hT : Tab w) : Calls Tryd.prog 45 #[.string s] w fun e w' => e = .returned (.tuple #[.float .f64 (canon x), .int .i64 0]) ∧ Bl w w' := by
  refine (parse_any s _ w hs (by rw [hs.size]; have := textF_len x; omega) hT).mono ?_
  rintro e w' ⟨rfl, hb⟩
  rw [parse_text hx]
  exact ⟨rfl, hb⟩
theorem canon_lt {x : Nat} (hx : x < two64) : canon x < two64 := by
  unfold canon; split
  · decide
  · exact hx

set_option maxHeartbeats 1600000 in
set_option maxRecDepth 100000 in
theorem realBack_walk (a : Nat) (w : World) (ha : a < two64) (hT : Tab w) :
    Calls Tryd.prog 18 #[.float .f64 a] w fun e w' => e = .returned (.bool true) ∧ Bl w w' := by
  have HC := Lib.hid (canon_lt ha)
  have HK := Lib.hid (decide_eq_true (canon_key a))
  have hrb := run_bits
  have qa : (FloatKind.f64.format.order a a != some .eq) = nanB a := self_nan ha
  have qc : (FloatKind.f64.format.order (canon a) (canon a) != some .eq) = nanB (canon a) := self_nan HC.out
  cases na : nanB a
  · have ec : canon a = a := by unfold canon; rw [na]; rfl
    rw [na] at qa
    clear qc
    go_enter Tryd.func18, Tryd.ntmps18
    go_wp2_with fail
    refine (rput_any a _ ha).mono ?_
    rintro e w1 ⟨rfl, hb1⟩
    have HB := hb1
    clear hb1
    go_wp2_with fail
    refine (rget_put a _ ha).mono ?_
    rintro e w1 ⟨rfl, rfl⟩
    rw [ec]
    go_wp2_with fail
    refine (rtext_any a _ ha (hT.keep HB)).mono ?_
    rintro e w1 ⟨s, rfl, hs, hb1⟩
    have HB := HB.trans hb1
    clear hb1
    have HS := Lib.hid hs
    clear hs
    go_wp2_with fail
    refine (parse_back a s _ ha HS.out (hT.keep HB)).mono ?_
    rintro e w1 ⟨rfl, hb1⟩
    rw [ec]
    have HB := HB.trans hb1
    clear hb1
    go_wp2_with (first | (refine (rsameF_any a a _ ha ha).mono ?_; rintro e w1 ⟨rfl, hb1⟩; rw [decide_eq_true rfl]; replace HB := HB.trans hb1; clear hb1) | (refine (alive2_any _ (hT.keep HB)).mono ?_; rintro e w3 ⟨rfl, hb3⟩; replace HB := HB.trans hb3; clear hb3) | fail)
    go_ret
    exact ⟨rfl, HB⟩
  · have ec : canon a = nanW := by unfold canon; rw [na]; rfl
    have hk : fkey nanW = fkey a := by rw [← ec]; exact canon_key a
    have HK2 := Lib.hid hk
    clear hk
    rw [na] at qa
    rw [ec, show nanB nanW = true from by decide +kernel] at qc
    have TN := Lib.hid (show textF a = nanL from by unfold textF; rw [na]; rfl)
    go_enter Tryd.func18, Tryd.ntmps18
    go_wp2_with fail
    refine (rput_any a _ ha).mono ?_
    rintro e w1 ⟨rfl, hb1⟩
    have HB := hb1
    clear hb1
    go_wp2_with fail
    refine (rget_put a _ ha).mono ?_
    rintro e w1 ⟨rfl, rfl⟩
    rw [ec]
    go_wp2_with fail
    refine (rtext_any a _ ha (hT.keep HB)).mono ?_
    rintro e w1 ⟨s, rfl, hs, hb1⟩
    have HB := HB.trans hb1
    clear hb1
    have HS := Lib.hid hs
    clear hs
    go_wp2_with fail
    refine (parse_back a s _ ha HS.out (hT.keep HB)).mono ?_
    rintro e w1 ⟨rfl, hb1⟩
    rw [ec]
    have HB := HB.trans hb1
    clear hb1
    go_wp2_with (first | (refine (rsameF_any nanW a _ (by decide) ha).mono ?_; rintro e w1 ⟨rfl, hb1⟩; rw [decide_eq_true HK2.out]; replace HB := HB.trans hb1; clear hb1) | (refine (alive2_any _ (hT.keep HB)).mono ?_; rintro e w3 ⟨rfl, hb3⟩; replace HB := HB.trans hb3; clear hb3) | (refine (rtext_any a _ ha (hT.keep HB)).mono ?_; rintro e w1 ⟨s2, rfl, hs2, hb1⟩; replace HB := HB.trans hb1; clear hb1; obtain rfl := str_at hs2 TN.out; clear hs2) | fail)
    go_ret
    exact ⟨rfl, HB⟩
end Go.Proofs.YtafoagllbajfnaaDoor
