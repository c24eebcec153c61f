/- op.Text of every value. By an AI agent. -/
import Derived.Test.YtgdlcoicejgdkaaDoorOp7
import Derived.Test.YtgdlcoicejgdkaaDoorTexts0
import Derived.Test.YtgdlcoicejgdkaaDoorQuote1
namespace Go.Proofs.YtgdlcoicejgdkaaDoor
open Go.RowKit

set_option maxRecDepth 100000 in
theorem opText_cnt (key : ByteArray) (v : ValL) (w : World) (hkey : key.size ≤ 140737488351232) (ov : v.Ok) (ht : v.there = true) (hi : isKeyB key = true) (h1 : hd key = 99) :
    Calls Tryd.prog 46 #[.string key, v.v] w fun e w' => e = .returned (.string (strOfNums (digL v.n))) ∧ Bl w w' := by
  obtain ⟨b, x, n, s⟩ := v
  obtain ⟨_, hn, _⟩ := ov
  simp only at hn ht
  subst ht
  show Calls Tryd.prog 46 #[.string key, .agg #[.bool true, .float .f64 x, .int .i64 n, .string s]] w _
  have hp := key_pos hi
  have HH := hd_get hp
  have q1 : (((key[0]'hp).toNat : Int) == 99) = true := by rw [HH]; simp; omega
  have HI := Lib.hid hi
  have HN := Lib.hid hn
  clear HH h1 hi hn
  go_enter Tryd.func46, Tryd.ntmps46
  go_wp2_with fail
  refine (isKey_any key _ hkey).mono ?_
  rintro e w1 ⟨rfl, rfl⟩
  rw [HI.out]
  go_wp2_with fail
  refine (digits_any n _ HN.out.1 HN.out.2).mono ?_
  rintro e w2 ⟨rfl, hb2⟩
  go_wp2_with fail
  go_ret
  exact ⟨rfl, ((Bl.refl w).alloc _).trans hb2⟩
set_option maxRecDepth 100000 in
theorem opText_quo (key : ByteArray) (v : ValL) (w : World) (hkey : key.size ≤ 140737488351232) (hz : v.s.size ≤ 1000000) (ht : v.there = true) (hi : isKeyB key = true) (h1 : hd key = 116) :
    Calls Tryd.prog 46 #[.string key, v.v] w fun e w' => e = .returned (.string ⟨(quoL v.s.data.toList).toArray⟩) ∧ Bl w w' := by
  obtain ⟨b, x, n, s⟩ := v
  simp only at ht hz
  subst ht
  show Calls Tryd.prog 46 #[.string key, .agg #[.bool true, .float .f64 x, .int .i64 n, .string s]] w _
  have hp := key_pos hi
  have HH := hd_get hp
  have q1 : (((key[0]'hp).toNat : Int) == 99) = false := by rw [HH]; simp; omega
  have q2 : (((key[0]'hp).toNat : Int) == 116) = true := by rw [HH]; simp; omega
  have HI := Lib.hid hi
  clear HH h1 hi
  go_enter Tryd.func46, Tryd.ntmps46
  go_wp2_with fail
  refine (isKey_any key _ hkey).mono ?_
  rintro e w1 ⟨rfl, rfl⟩
  rw [HI.out]
  go_wp2_with fail
  refine (quote_any s _ hz).mono ?_
  rintro e w2 ⟨rfl, hb2⟩
  go_wp2_with fail
  go_ret
  exact ⟨rfl, ((Bl.refl w).alloc _).trans hb2⟩
/-- op.Text -/
theorem opText_any (key : ByteArray) (v : ValL) (w : World) (hkey : key.size ≤ 140737488351232) (ov : v.Ok) (hz : v.s.size ≤ 1000000) (hT : Tab w) :
    Calls Tryd.prog 46 #[.string key, v.v] w fun e w' => e = .returned (.string ⟨(textV key v).toArray⟩) ∧ Bl w w' := by
  cases ht : v.there
  · have e : textV key v = noneL := by unfold textV; rw [ht]; rfl
    rw [e]; exact opText_none key v w hkey (.inl ht)
  · cases hi : isKeyB key
    · have e : textV key v = noneL := by unfold textV; rw [ht, hi]; rfl
      rw [e]; exact opText_none key v w hkey (.inr hi)
    · rw [text_there v ht hi]
      by_cases h1 : hd key = 99
      · rw [if_pos h1]; exact opText_cnt key v w hkey ov ht hi h1
      · rw [if_neg h1]
        by_cases h2 : hd key = 116
        · rw [if_pos h2]; exact opText_quo key v w hkey hz ht hi h2
        · rw [if_neg h2]
          refine (opText_num key v w hkey ov hT ht hi h1 h2).mono ?_
          rintro e w' ⟨s, rfl, hs, hb⟩
          obtain rfl := str_at hs rfl
          exact ⟨rfl, hb⟩
theorem text_agg (key : ByteArray) (b : Bool) (x : Nat) (n : Int) (s t : ByteArray) (w : World) (hkey : key.size ≤ 140737488351232) (ov : Hid (ValL.Ok ⟨b, x, n, s⟩)) (hz : s.size ≤ 1000000) (hT : Tab w)
    (h : Hid (SB t (textV key ⟨b, x, n, s⟩))) :
    Calls Tryd.prog 46 #[.string key, .agg #[.bool b, .float .f64 x, .int .i64 n, .string s]] w fun e w' => e = .returned (.string t) ∧ Bl w w' := by
  obtain rfl := str_at h.out rfl
  exact opText_any key ⟨b, x, n, s⟩ w hkey ov.out hz hT
end Go.Proofs.YtgdlcoicejgdkaaDoor
