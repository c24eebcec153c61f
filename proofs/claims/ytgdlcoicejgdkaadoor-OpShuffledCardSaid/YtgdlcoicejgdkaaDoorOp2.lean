/- op.Fits. By an AI agent. -/
import Derived.Test.YtgdlcoicejgdkaaDoorOp1
namespace Go.Proofs.YtgdlcoicejgdkaaDoor
open Go.RowKit

theorem key_pos {key : ByteArray} (h : isKeyB key = true) : 0 < key.size := by
  refine pos_of fun h0 => ?_
  simp [isKeyB, h0] at h
theorem hd_lt (key : ByteArray) : hd key < 256 := UInt8.toNat_lt _

set_option maxHeartbeats 1600000 in
set_option maxRecDepth 100000 in
theorem fits_any (key : ByteArray) (a : ActL) (w : World) (hkey : key.size ≤ 140737488351232) (ok : a.Ok) : Calls Tryd.prog 39 #[.string key, a.v] w fun e w' => e = .returned (.bool (fitsB key a)) ∧ Bl w w' := by
  obtain ⟨k, x, n, s⟩ := a
  have OK := Lib.hid ok
  obtain ⟨hk, hx, hn, hs⟩ := ok
  simp only at hk hx hn hs
  show Calls Tryd.prog 39 #[.string key, .agg #[.int .i64 k, .float .f64 x, .int .i64 n, .string s]] w _
  cases hi : isKeyB key
  · have HI := Lib.hid hi
    go_enter Tryd.func39, Tryd.ntmps39
    go_wp2_with fail
    refine (isKey_any key _ hkey).mono ?_
    rintro e w1 ⟨rfl, rfl⟩
    rw [hi]
    clear hi
    go_wp2_with fail
    go_ret
    exact ⟨ret_bool (by simp [fitsB, HI.out]), (Bl.refl w).alloc _⟩
  · have HI := Lib.hid hi
    have hp := key_pos hi
    have HH := Lib.hid (hd_get hp)
    have HLT := Lib.hid (hd_lt key)
    go_enter Tryd.func39, Tryd.ntmps39
    go_wp2_with fail
    refine (isKey_any key _ hkey).mono ?_
    rintro e w1 ⟨rfl, rfl⟩
    rw [hi]
    clear hi
    go_wp2_with fail
    refine (right_any ⟨k, x, n, s⟩ _ OK.out).mono ?_
    rintro e w1 ⟨rfl, hb1⟩
    obtain ⟨c0, c1, c2, c3⟩ := ((AC.new w _ rfl [_, _, _, _] _).keep hb1).act
    have hbw := ((Bl.refl w).alloc _).trans hb1
    cases hr : rightB ⟨k, x, n, s⟩
    · have HR := Lib.hid hr; clear hr
      go_wp2_with fail
      go_ret
      exact ⟨ret_bool (by simp [fitsB, HR.out]), hbw⟩
    · have HR := Lib.hid hr; clear hr
      clear hb1
      go_wp2_with (first | (refine (nought_any _ _ hx).mono ?_; rintro e w' ⟨rfl, hb⟩; have d0 := hb.cell c0) | fail)
      all_goals (go_ret; refine ⟨ret_bool ?_, ?_⟩)
      all_goals first | exact hbw | exact hbw.trans (by assumption) | skip
      all_goals (
        have h1 := HH.out
        have h2 := HR.out
        have h3 := HI.out
        have h4 := key_head h3
        clear HH HR HI HLT OK
        unfold fitsB
        rcases h4 with h4 | h4 | h4 | h4 | h4 <;> simp_all
        all_goals first | omega | (rw [Bool.eq_iff_iff]; simp) | skip)
end Go.Proofs.YtgdlcoicejgdkaaDoor
