/- the walk of RealBytes. By an AI agent. -/
import Derived.Test.YtafoagllbajfnaaDoorAlive2
import Derived.Test.YtafoagllbajfnaaDoorRealOrder0
namespace Go.Proofs.YtafoagllbajfnaaDoor
open Go.RowKit

theorem SB.put (k : Nat) : SB (strOfNums (putN k 8 8)) (bytesN8 k) := rfl
theorem bytesN8_eq {j k : Nat} (hj : j < two64) (hk : k < two64) : decide (bytesN8 j = bytesN8 k) = decide (j = k) := by
  rw [Bool.eq_iff_iff, decide_eq_true_eq, decide_eq_true_eq]
  constructor
  · intro h
    have e1 := cmp_put8 j k hj hk
    rw [h, cmp_put8 k k hk hk] at e1
    unfold cmpN at e1
    (repeat' split at e1) <;> omega
  · rintro rfl; rfl
theorem put_same {j k : Nat} (hj : j < two64) (hk : k < two64) : ((strOfNums (putN j 8 8)).toList == (strOfNums (putN k 8 8)).toList) = decide (j = k) := by
  rw [(SB.put j).beq (SB.put k), bytesN8_eq hj hk]
theorem put_size (k : Nat) : (strOfNums (putN k 8 8)).size = 8 := by
  rw [(SB.put k).size, bytesN8_len]
theorem text_same {x y : Nat} {s t : ByteArray} (hx : x < two64) (hy : y < two64) (hs : SB s (textF x)) (ht : SB t (textF y)) : (s.toList == t.toList) = decide (fkey x = fkey y) := by
  rw [hs.beq ht, Bool.eq_iff_iff, decide_eq_true_eq, decide_eq_true_eq]
  exact ⟨textF_inj hx hy, textF_key hx hy⟩

set_option maxHeartbeats 1600000 in
set_option maxRecDepth 100000 in
theorem realBytes_walk (a b : Nat) (w : World) (ha : a < two64) (hb : b < two64) (hT : Tab w) :
    Calls Tryd.prog 11 #[.float .f64 a, .float .f64 b] w fun e w' => e = .returned (.bool true) ∧ Bl w w' := by
  have P1 := Lib.hid (put_same (fkey_lt ha) (fkey_lt hb))
  obtain ⟨q, hq⟩ : ∃ q, decide (fkey a = fkey b) = q := ⟨_, rfl⟩
  have Q := Lib.hid hq
  clear hq
  go_enter Tryd.func11, Tryd.ntmps11
  go_wp2_with fail
  refine (rsameF_any a b _ ha hb).mono ?_
  rintro e w1 ⟨rfl, hb1⟩
  have HB := hb1
  clear hb1
  rw [Q.out]
  go_wp2_with fail
  refine (alive2_any _ (hT.keep HB)).mono ?_
  rintro e w1 ⟨rfl, hb1⟩
  have HB := HB.trans hb1
  clear hb1
  go_wp2_with fail
  refine (rput_any a _ ha).mono ?_
  rintro e w1 ⟨rfl, hb1⟩
  have HB := HB.trans hb1
  clear hb1
  go_wp2_with fail
  refine (rput_any b _ hb).mono ?_
  rintro e w1 ⟨rfl, hb1⟩
  have HB := HB.trans hb1
  clear hb1
  have p1 := P1.out.trans Q.out
  generalize strOfNums (putN (fkey a) 8 8) = u at *
  generalize strOfNums (putN (fkey b) 8 8) = v at *
  go_wp2_with fail
  refine (rtext_any a _ ha (hT.keep HB)).mono ?_
  rintro e w1 ⟨s, rfl, hs, hb1⟩
  have HB := HB.trans hb1
  clear hb1
  have HS := Lib.hid hs
  clear hs
  go_wp2_with fail
  refine (rtext_any b _ hb (hT.keep HB)).mono ?_
  rintro e w1 ⟨t, rfl, ht, hb1⟩
  have HB := HB.trans hb1
  clear hb1
  have t1 := (text_same ha hb HS.out ht).trans Q.out
  clear ht
  go_wp2_with fail
  refine (rput_any a _ ha).mono ?_
  rintro e w1 ⟨rfl, hb1⟩
  have HB := HB.trans hb1
  clear hb1
  have p2 := put_size (fkey a)
  generalize strOfNums (putN (fkey a) 8 8) = u2 at *
  go_wp2_with fail
  refine (rtext_any a _ ha (hT.keep HB)).mono ?_
  rintro e w1 ⟨s2, rfl, hs2, hb1⟩
  have HB := HB.trans hb1
  clear hb1
  have t3 : s2.size ≤ 24 := by rw [hs2.size]; exact textF_len a
  have t4 : decide ((s2.size : Int) ≤ 24) = true := decide_eq_true (by omega)
  clear hs2
  go_wp2_with fail
  go_ret
  exact ⟨rfl, HB⟩
end Go.Proofs.YtafoagllbajfnaaDoor
