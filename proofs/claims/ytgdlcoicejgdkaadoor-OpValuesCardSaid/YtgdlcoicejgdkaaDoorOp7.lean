/- op.Text of a number, or of nothing; the law's own first call, of chapter 6. By an AI agent. -/
import Derived.Test.YtgdlcoicejgdkaaDoorOp6
import Derived.Test.YtgdlcoicejgdkaaDoorRealT2
namespace Go.Proofs.YtgdlcoicejgdkaaDoor
open Go.RowKit

set_option maxRecDepth 100000 in
theorem opText_none (key : ByteArray) (v : ValL) (w : World) (hkey : key.size ≤ 140737488351232) (h : v.there = false ∨ isKeyB key = false) :
    Calls Tryd.prog 46 #[.string key, v.v] w fun e w' => e = .returned (.string ⟨#[110, 111, 110, 101]⟩) ∧ Bl w w' := by
  obtain ⟨b, x, n, s⟩ := v
  show Calls Tryd.prog 46 #[.string key, .agg #[.bool b, .float .f64 x, .int .i64 n, .string s]] w _
  cases b
  · go_enter Tryd.func46, Tryd.ntmps46
    go_wp2_with fail
    go_ret
    exact ⟨rfl, (Bl.refl w).alloc _⟩
  · have hk : isKeyB key = false := by
      rcases h with h | h
      · cases h
      · exact h
    go_enter Tryd.func46, Tryd.ntmps46
    go_wp2_with fail
    refine (isKey_any key _ hkey).mono ?_
    rintro e w1 ⟨rfl, rfl⟩
    rw [hk]
    go_wp2_with fail
    go_ret
    exact ⟨rfl, (Bl.refl w).alloc _⟩

set_option maxRecDepth 100000 in
theorem opText_num (key : ByteArray) (v : ValL) (w : World) (hkey : key.size ≤ 140737488351232) (ov : v.Ok) (hT : Tab w) (ht : v.there = true) (hi : isKeyB key = true) (h1 : hd key ≠ 99) (h2 : hd key ≠ 116) :
    Calls Tryd.prog 46 #[.string key, v.v] w fun e w' => ∃ s : ByteArray, e = .returned (.string s) ∧ SB s (textF v.x) ∧ Bl w w' := by
  obtain ⟨b, x, n, s⟩ := v
  obtain ⟨hx, _, _⟩ := ov
  simp only at hx ht
  subst ht
  show Calls Tryd.prog 46 #[.string key, .agg #[.bool true, .float .f64 x, .int .i64 n, .string s]] w _
  have hp := key_pos hi
  have HH := hd_get hp
  have q1 : (((key[0]'hp).toNat : Int) == 99) = false := by rw [HH]; simp; omega
  have q2 : (((key[0]'hp).toNat : Int) == 116) = false := by rw [HH]; simp; omega
  have HI := Lib.hid hi
  clear HH h1 h2 hi
  go_enter Tryd.func46, Tryd.ntmps46
  go_wp2_with fail
  refine (isKey_any key _ hkey).mono ?_
  rintro e w1 ⟨rfl, rfl⟩
  rw [HI.out]
  go_wp2_with fail
  refine (rtext_any x _ hx (hT.keep ((Bl.refl w).alloc _))).mono ?_
  rintro e w2 ⟨sx, rfl, hsx, hb2⟩
  have HSX := Lib.hid hsx
  clear hsx
  go_wp2_with fail
  go_ret
  exact ⟨_, rfl, HSX.out, ((Bl.refl w).alloc _).trans hb2⟩

theorem str_at {s : ByteArray} {l m : List UInt8} (h : SB s l) (e : l = m) : s = ⟨m.toArray⟩ := by
  subst e
  exact SB.eq h (SB.mk l)
theorem digL_one {k : Nat} (h : k < 10) : digL (k : Int) = [48 + (k : Int)] := by
  unfold digL
  rw [if_neg (by omega), Int.natAbs_natCast, decD_small h]
theorem text_15 : textF 4609434218613702656 = [51, 112, 45, 49] := by
  have e1 : oddM (4609434218613702656 % two63) = 3 := by decide +kernel
  have e2 : oddE (4609434218613702656 % two63) = -1 := by decide +kernel
  unfold textF
  rw [show nanB 4609434218613702656 = false from by decide +kernel, if_neg (by decide), if_neg (by decide +kernel), if_neg (by decide +kernel), e1, e2]
  unfold signL numL
  rw [if_neg (by decide +kernel), show wholeB 3 (-1) = false from by decide]
  have h3 : bytesD (3 : Nat) = [51] := by unfold bytesD; rw [digL_one (by decide)]; rfl
  have h1 : bytesD (-1) = [45, 49] := by
    unfold bytesD digL
    rw [if_pos (by decide), show (-1 : Int).natAbs = 1 from rfl, decD_small (by decide)]; rfl
  rw [h1]
  show [] ++ (bytesD ((3 : Nat) : Int) ++ ([112] ++ [45, 49])) = _
  rw [h3]; rfl

set_option maxHeartbeats 1600000 in
set_option maxRecDepth 100000 in
theorem alive6_any (w : World) (hT : Tab w) : Calls Tryd.prog 12 #[] w fun e w' => e = .returned (.bool true) ∧ Bl w w' := by
  have hsf := store_float
  go_enter Tryd.func12, Tryd.ntmps12
  go_wp2_with fail
  refine (after_any ⟨#[99]⟩ ⟨true, 0, 5, nilS⟩ ⟨1, 0, -7, nilS⟩ _ (by decide) ⟨by decide, by decide, by decide⟩ ⟨by decide, by decide, by decide, by decide⟩).mono ?_
  rintro e w1 ⟨rfl, hb1⟩
  rw [show afterL ⟨#[99]⟩ ⟨true, 0, 5, nilS⟩ ⟨1, 0, -7, nilS⟩ = ⟨true, 0, -2, nilS⟩ from by
    rw [after_add _ (by decide +kernel) (by decide +kernel)]; simp [wrap64]]
  rw [show ValL.v ⟨true, 0, -2, nilS⟩ = .agg #[.bool true, .float .f64 0, .int .i64 (-2), .string ⟨#[]⟩] from rfl]
  go_wp2_with fail
  refine (fits_any ⟨#[114, 49]⟩ ⟨0, 4617315517961601024, 0, nilS⟩ _ (by decide) ⟨by decide, by decide, by decide, by decide⟩).mono ?_
  rintro e w2 ⟨rfl, hb2⟩
  rw [show fitsB ⟨#[114, 49]⟩ ⟨0, 4617315517961601024, 0, nilS⟩ = true from by decide +kernel]
  obtain ⟨c0, c1, c2, c3⟩ := ((AC.new w1 _ rfl [_, _, _, _] _).keep hb2).val
  have HB2 := hb1.trans (((Bl.refl w1).alloc _).trans hb2)
  clear hb1 hb2
  go_wp2_with fail
  refine (fits_any ⟨#[99, 49]⟩ ⟨0, 4617315517961601024, 0, nilS⟩ _ (by decide) ⟨by decide, by decide, by decide, by decide⟩).mono ?_
  rintro e w3 ⟨rfl, hb3⟩
  rw [show fitsB ⟨#[99, 49]⟩ ⟨0, 4617315517961601024, 0, nilS⟩ = false from by decide +kernel]
  have c0 := hb3.cell c0
  have c2 := hb3.cell c2
  have HB3 := HB2.trans hb3
  clear hb3 HB2 c1 c3
  go_wp2_with fail
  refine (opText_num ⟨#[114]⟩ ⟨true, 4609434218613702656, 0, nilS⟩ _ (by decide) ⟨by decide, by decide, by decide⟩ (hT.keep HB3) rfl (by decide +kernel) (by decide +kernel) (by decide +kernel)).mono ?_
  rintro e w4 ⟨s4, rfl, hs4, hb4⟩
  obtain rfl := str_at hs4 text_15
  have HB4 := HB3.trans hb4
  clear hb4 hs4
  go_wp2_with fail
  refine (opText_none ⟨#[114]⟩ noVal _ (by decide) (.inl rfl)).mono ?_
  rintro e w5 ⟨rfl, hb5⟩
  go_wp2_with fail
  go_ret
  exact ⟨rfl, HB4.trans hb5⟩
end Go.Proofs.YtgdlcoicejgdkaaDoor
