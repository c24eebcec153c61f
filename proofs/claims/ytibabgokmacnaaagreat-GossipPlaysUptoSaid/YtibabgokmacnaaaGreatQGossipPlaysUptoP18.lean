import Derived.Test.YtibabgokmacnaaaGreatQGossipPlaysUptoP12
import Derived.Test.YtibabgokmacnaaaGreatQGossipPlaysUptoP17

/- gossip.Lag. By an AI agent. -/
section
namespace Go.Proofs.YtibabgokmacnaaaGreat
open Go.RowKit

def oneF : Nat := 4607182418800017408
/-- the key of 1 - t/b -/
def kOf (t b : Int) : Nat := match floatBits .quo .f64 (floatOfInt .f64 t) (floatOfInt .f64 b) with
  | none => 0
  | some q => match floatBits .sub .f64 oneF q with
    | none => 0
    | some r => fkey r
def lagK (s b : List Int) (k : Nat) : Nat := (List.range k).foldl (fun acc i => max acc (kOf (nth s i) (nth b i))) 0
theorem lagK_succ (s b : List Int) (k : Nat) : lagK s b (k + 1) = max (lagK s b k) (kOf (nth s k) (nth b k)) := by
  simp [lagK, List.range_succ]

theorem fkey_nan {x : Nat} (h : nanB x = true) : fkey x = 0 := by simp [fkey, h]
theorem sub_nan (y x : Nat) (h : nanB x = true) : floatBits .sub .f64 y x = none := by
  obtain ⟨s, f, e⟩ := read_nan' h
  show Ieee.double.sub y x = none
  unfold Ieee.Format.sub
  rw [e]
  cases Ieee.double.read y <;> rfl
theorem kOf_step {t b : Int} {q x : Nat} (hq : FRes (floatBits .quo .f64 (floatOfInt .f64 t) (floatOfInt .f64 b)) q) (hx : FRes (floatBits .sub .f64 oneF q) x) : fkey x = kOf t b := by
  unfold kOf
  rcases hq with ⟨_, ⟨r, e, rfl⟩ | ⟨e, hn⟩⟩
  · rw [e]
    rcases hx with ⟨_, ⟨r', e', rfl⟩ | ⟨e', hn⟩⟩
    · simp [e']
    · simp [e', fkey_nan hn]
  · rw [e]
    rcases hx with ⟨_, ⟨r', e', rfl⟩ | ⟨e', hn'⟩⟩
    · rw [sub_nan _ _ hn] at e'; cases e'
    · simp [fkey_nan hn']
theorem rmax_key (x y : Nat) : fkey (rmax x y) = max (fkey x) (fkey y) := by
  unfold rmax cmpN
  by_cases h : fkey x < fkey y
  · rw [if_pos h, if_pos (by decide)]; omega
  · rw [if_neg h, if_neg (by split <;> decide)]; omega
theorem rmax_lt {x y : Nat} (hx : x < two64) (hy : y < two64) : rmax x y < two64 := by
  unfold rmax; split <;> assumption

set_option maxHeartbeats 1600000 in
set_option maxRecDepth 100000 in
theorem lag_yes (B g : Nat) (rows : List (List Int)) (w : World) (hr : RG B w g rows) (hn8 : rows.length ≤ 8) (hk : 0 < rows.length) (hl : (allL min rows).length = (allL max rows).length) :
    Calls Tryz.prog 45 #[.pointer (some ⟨g, 0, none⟩)] w fun e w' => ∃ x, e = .returned (.float .f64 x) ∧ x < two64 ∧ fkey x = lagK (allL min rows) (allL max rows) (allL min rows).length ∧ Bl w w' := by
  go_enter Tryz.func45, Tryz.ntmps45
  go_wp2_with fail
  refine (nan_any _).mono ?_
  rintro e w1 ⟨x0, rfl, hx0, hb1⟩
  go_wp2_with fail
  refine (best_yes B g rows _ (hr.keep hb1) hn8 hk).mono ?_
  rintro e w2 ⟨v2, rfl, hf2, hb2⟩
  have hb2' := hb1.trans hb2
  go_wp2_with fail
  refine (stable_yes B g rows _ (hr.keep hb2') hn8 hk).mono ?_
  rintro e w3 ⟨v3, rfl, hf3, hb3⟩
  have hb3' := hb2'.trans hb3
  obtain ⟨sa, ns, cs, rfl, hs⟩ := hf3.si
  obtain ⟨ba, nb, cb, rfl, hb⟩ := hf2.si
  have hb := hb.keep hb3
  clear hf2 hf3 hb1 hb2 hb3 hb2'
  generalize hsl : allL min rows = s at *
  generalize hbl : allL max rows = b at *
  obtain rfl : ns = nb := by rw [← hs.len, ← hb.len]; exact hl
  have HS := Lib.hid hs.len
  have h0 : x0 < two64 ∧ fkey x0 = 0 := ⟨hx0.1, by
    rcases hx0.2 with ⟨_, e, _⟩ | ⟨_, hn⟩
    · cases e
    · exact fkey_nan hn⟩
  have HSL := Lib.hid hsl
  have HBL := Lib.hid hbl
  clear hx0 hsl hbl hl
  have hs1 := hs.cap
  go_wp2_with fail
  go_loopw [3, 13] (fun v i wr => ∃ (k x : Nat), k ≤ ns ∧ i = .int .i64 k ∧ v = .float .f64 x ∧ x < two64 ∧ fkey x = lagK s b k ∧ Bl w3 wr) (fun _ i _ => ns - (intOf i).toNat)
  case atStart => exact ⟨0, _, Nat.zero_le _, rfl, rfl, h0.1, h0.2, Bl.refl _⟩
  case round =>
    clear h0
    obtain ⟨k, x, hkl, rfl, rfl, hx, hkey, hbr⟩ := hrel
    have HKEY := Lib.hid hkey; clear hkey
    by_cases hlt : k < ns
    · obtain ⟨sb, so, rfl, hcs⟩ := hs.cells k hlt
      obtain ⟨bb, bo, rfl, hcb⟩ := hb.cells k hlt
      have hcs1 := hbr.cell (hcs k hlt)
      have hcb1 := hbr.cell (hcb k hlt)
      clear hcs hcb
      go_wp2_with fail
      refine (ratio_any _ _ _).mono ?_
      rintro e wq ⟨q, rfl, hq, hbq⟩
      obtain ⟨r, wr2, hr2, hrun2, hb2⟩ := run_float .sub (.inr rfl) 69 4607182418800017408 q wq
      have HK := Lib.hid (kOf_step hq hr2)
      have hr3 := hr2.1
      clear hq hr2
      go_wp2_with fail
      refine (rmax_any x r _ hx hr3).mono ?_
      rintro e wm ⟨rfl, hbm⟩
      have HM := Lib.hid (rmax_key x r)
      have hml := rmax_lt hx hr3
      generalize rmax x r = m at *
      go_wp2_with fail
      go_roundw
      case rel => exact ⟨k + 1, m, by omega, by go_num, rfl, hml, by rw [HM.out, HK.out, HKEY.out, lagK_succ], hbr.trans (hbq.trans (hb2.trans hbm))⟩
      case measure => simp [intOf]; omega
    · obtain rfl : k = ns := by omega
      go_wp2_with fail
      go_ret
      exact ⟨_, rfl, hx, by rw [HSL.out, HBL.out, HS.out]; exact HKEY.out, hb3'.trans hbr⟩
end Go.Proofs.YtibabgokmacnaaaGreat
end

/- bedrockref2.Ratio. By an AI agent. -/
section
set_option linter.unusedVariables false
namespace Go.Proofs.YtibabgokmacnaaaGreat
open Go.RowKit

theorem refRatio_any (a b : Int) (w : World) :
    Calls Tryz.prog 145 #[.int .i64 a, .int .i64 b] w fun e w' => ∃ x, e = .returned (.float .f64 x) ∧ FRes (floatBits .quo .f64 (floatOfInt .f64 a) (floatOfInt .f64 b)) x ∧ Bl w w' := by
  obtain ⟨r, w1, hr, hrun, hb⟩ := run_float .quo (.inl rfl) 69 (floatOfInt .f64 a) (floatOfInt .f64 b) w
  have HR := Lib.hid hr; clear hr
  go_enter Tryz.func145, Tryz.ntmps145
  go_wp2_with fail
  go_ret
  exact ⟨r, rfl, HR.out, hb⟩
end Go.Proofs.YtibabgokmacnaaaGreat
end
