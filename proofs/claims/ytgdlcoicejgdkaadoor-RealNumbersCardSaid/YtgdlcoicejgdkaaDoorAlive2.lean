/- the law's own first call, of chapter 2. By an AI agent. -/
import Derived.Test.YtgdlcoicejgdkaaDoorParse1
namespace Go.Proofs.YtgdlcoicejgdkaaDoor
open Go.RowKit

theorem parse_12 : parseP [49, 50, 112, 45, 51] = (4609434218613702656, 0) := by decide +kernel
theorem str_at {s : ByteArray} {l m : List UInt8} (h : SB s l) (e : l = m) : s = ⟨m.toArray⟩ := by
  subst e
  exact SB.eq h (SB.mk l)
theorem digL_one {k : Nat} (h : k < 10) : digL (k : Int) = [48 + (k : Int)] := by
  unfold digL
  rw [if_neg (by omega), Int.natAbs_natCast, decD_small h]
theorem text_15 : textF 4609434218613702656 = [51, 112, 45, 49] := by
  have e1 : oddM (4609434218613702656 % two63) = 3 := by decide +kernel
  have e2 : oddE (4609434218613702656 % two63) = -1 := by decide +kernel
  unfold textF
  rw [show nanB 4609434218613702656 = false from by decide +kernel, if_neg (by decide), if_neg (by decide +kernel), if_neg (by decide +kernel), e1, e2]
  unfold signL numL
  rw [if_neg (by decide +kernel), show wholeB 3 (-1) = false from by decide]
  have h3 : bytesD (3 : Nat) = [51] := by unfold bytesD; rw [digL_one (by decide)]; rfl
  have h1 : bytesD (-1) = [45, 49] := by
    unfold bytesD digL
    rw [if_pos (by decide), show (-1 : Int).natAbs = 1 from rfl, decD_small (by decide)]; rfl
  rw [h1]
  show [] ++ (bytesD ((3 : Nat) : Int) ++ ([112] ++ [45, 49])) = _
  rw [h3]; rfl
theorem text_8 : textF 13844065254536904704 = [45, 56] := by
  have e1 : oddM (13844065254536904704 % two63) = 1 := by decide +kernel
  have e2 : oddE (13844065254536904704 % two63) = 3 := by decide +kernel
  unfold textF
  rw [show nanB 13844065254536904704 = false from by decide +kernel, if_neg (by decide), if_neg (by decide +kernel), if_neg (by decide +kernel), e1, e2]
  unfold signL numL
  rw [if_pos (by decide +kernel), show wholeB 1 3 = true from by decide, if_pos rfl]
  have h3 : bytesD ((1 * 2 ^ (3 : Int).toNat : Nat) : Int) = [56] := by
    show bytesD ((8 : Nat) : Int) = [56]
    unfold bytesD; rw [digL_one (by decide)]; rfl
  rw [h3]; rfl
theorem scale_155 : scaleV 10 4609659398595071181 = 15 := by decide +kernel

set_option maxHeartbeats 1600000 in
set_option maxRecDepth 100000 in
theorem alive2_any (w : World) (hT : Tab w) : Calls Tryd.prog 28 #[] w fun e w' => e = .returned (.bool true) ∧ Bl w w' := by
  go_enter Tryd.func28, Tryd.ntmps28
  go_wp2_with fail
  refine (parse_any ⟨#[49, 50, 112, 45, 51]⟩ [49, 50, 112, 45, 51] _ rfl (by decide) hT).mono ?_
  rintro e w1 ⟨rfl, hb1⟩
  rw [parse_12]
  go_wp2_with fail
  refine (rtext_any 4609434218613702656 _ (by decide) (hT.keep hb1)).mono ?_
  rintro e w2 ⟨s2, rfl, hs2, hb2⟩
  obtain rfl := str_at hs2 text_15
  have HB2 := hb1.trans hb2
  clear hb2 hs2 hb1
  go_wp2_with fail
  refine (rtext_any 13844065254536904704 _ (by decide) (hT.keep HB2)).mono ?_
  rintro e w3 ⟨s3, rfl, hs3, hb3⟩
  obtain rfl := str_at hs3 text_8
  have HB3 := HB2.trans hb3
  clear HB2 hs3 hb3
  go_wp2_with fail
  refine (copysign_neg 0 _ (by decide)).mono ?_
  rintro e w4 ⟨rfl, rfl⟩
  go_wp2_with fail
  refine (rcompare_any (0 + two63) 0 _ (by decide) (by decide)).mono ?_
  rintro e w4 ⟨rfl, hb4⟩
  rw [show cmpN (fkey (0 + two63)) (fkey 0) = -1 from by decide +kernel]
  have HB4 := HB3.trans hb4
  clear HB3 hb4
  go_wp2_with fail
  refine (scale_any 10 4609659398595071181 _ (by decide) (by decide)).mono ?_
  rintro e w' ⟨rfl, rfl⟩
  rw [scale_155]
  go_wp2_with fail
  refine (rput_any 4607182418800017408 _ (by decide)).mono ?_
  rintro e w5 ⟨rfl, hb5⟩
  have HB5 := HB4.trans hb5
  clear HB4 hb5
  rw [show strOfNums (putN (fkey 4607182418800017408 : Nat) 8 8) = ⟨#[191, 240, 0, 0, 0, 0, 0, 0]⟩ from by decide +kernel]
  go_wp2_with fail
  go_ret
  exact ⟨rfl, HB5⟩
end Go.Proofs.YtgdlcoicejgdkaaDoor
